/- The reference's at: walk (seat Z). -/
import Derived.Test.YtkgdpmeheakdcaaGreatRef12
namespace Go.Proofs.YtkgdpmeheakdcaaGreat
open Go.RowKit
set_option linter.all false
set_option maxRecDepth 100000

/-- What lies at a place, by the first k writes. -/
def ratK (l : List RW) (a : Int) : Nat → ByteArray
  | 0 => str (zerosL 64)
  | k + 1 => match l[k]? with
    | some x => if x.pl = a then x.data else ratK l a k
    | none => ratK l a k
theorem ratK_hit {l : List RW} {a : Int} {k : Nat} {x : RW} (h : l[k]? = some x) (hx : x.pl = a) : ratK l a (k + 1) = x.data := by simp [ratK, h, hx]
theorem ratK_miss {l : List RW} {a : Int} {k : Nat} {x : RW} (h : l[k]? = some x) (hx : ¬ x.pl = a) : ratK l a (k + 1) = ratK l a k := by simp [ratK, h, hx]

set_option maxHeartbeats 2000000 in
theorem rat_any {p : Nat} {v : Value} {D : RS} {w : World} (h : RIn8 p v D w) (a : Int) (hn0 : 0 < D.l.length) (hn : D.l.length ≤ 200000) :
    Calls Tryz.prog 99 #[.pointer (some ⟨p, 0, none⟩), .int .i64 a, .bool false] w fun e w' => e = .returned (.string (ratK D.l a D.l.length)) ∧ Below w.heap.size w w' := by
  obtain ⟨g, cap, rfl⟩ := h.form hn0
  have c1 := h.blk.c1
  have HO := Lib.hid h.own
  obtain ⟨L, hL⟩ : ∃ L, L = D.l.length := ⟨_, rfl⟩
  have hLn : L ≤ 200000 := by omega
  have hL0 : 0 < L := by omega
  have hlc : L ≤ cap := by
    rcases h.own.2 with ⟨h0, _⟩ | ⟨_, _, _, h0, _, _, h3, _⟩
    · cases h0
    · injection h0 with _ _ e3
      omega
  have hmk := made64 w
  have hcv := zconv_new w 64
  have HRES : Hid (∀ k, k = L → ratK D.l a k = ratK D.l a D.l.length) := Lib.hid (fun k hk => by rw [hk, hL])
  rw [← hL] at c1
  have HL := Lib.hid hL
  clear hL hn hn0 h
  generalize ratK D.l a D.l.length = RES at *
  generalize fillRow 0 64 0 = FR at *
  go_enter Tryz.func99, Tryz.ntmps99
  go_wp2
  go_loop [7] (fun i => ∃ k : Nat, k ≤ L ∧ i = .int .i64 ((k : Int) - 1) ∧ ratK D.l a k = RES) (fun i => (intOf i + 1).toNat)
  case atStart => exact ⟨L, Nat.le_refl _, rfl, HRES.out L rfl⟩
  case round =>
    obtain ⟨k, hk, rfl, hres⟩ := hrel
    cases k with
    | zero =>
      have e0 : (((0 : Nat) : Int) - 1) = -1 := by decide
      rw [e0]
      have HR0 : Hid (str (zerosL 64) = RES) := Lib.hid hres
      clear hres
      go_wp2
      go_ret
      exact ⟨by rw [← HR0.out]; rfl, (Below.refl _ _).alloc (Nat.le_refl _) _⟩
    | succ k =>
      rw [show (((k + 1 : Nat) : Int) - 1) = (k : Int) by omega]
      have hkl : k < D.l.length := by rw [← HL.out]; omega
      have hx : D.l[k]? = some D.l[k] := List.getElem?_eq_getElem hkl
      have d1 := rrow_cell HO.out k _ hx 1 (by omega)
      have d2 := rrow_cell HO.out k _ hx 2 (by omega)
      have hkL : k < L := by omega
      simp only [RW.cells, List.getElem?_cons_zero, List.getElem?_cons_succ] at d1 d2
      by_cases hp : D.l[k].pl = a
      · have HR := Lib.hid ((ratK_hit hx hp).symm.trans hres)
        clear hres hx
        generalize D.l[k] = X at *
        obtain ⟨x1, x2, x3, x4⟩ := X
        simp only at hp d1 d2
        subst hp
        go_wp2
        go_ret
        exact ⟨by rw [← HR.out]; rfl, Below.refl _ _⟩
      · have HR := Lib.hid ((ratK_miss hx hp).symm.trans hres)
        clear hres hx
        generalize D.l[k] = X at *
        obtain ⟨x1, x2, x3, x4⟩ := X
        simp only at hp d1 d2
        have hb : (x2 == a) = false := by simpa using hp
        go_wp2
        go_round
        case rel => exact ⟨k, by omega, by go_num, HR.out⟩
        case measure => simp [intOf]

end Go.Proofs.YtkgdpmeheakdcaaGreat
