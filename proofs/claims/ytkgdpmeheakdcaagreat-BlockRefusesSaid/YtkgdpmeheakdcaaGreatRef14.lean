/- The reference's Read, in range: walk (seat Z). -/
import Derived.Test.YtkgdpmeheakdcaaGreatRef13
import Derived.Lib.AppendStr
namespace Go.Proofs.YtkgdpmeheakdcaaGreat
open Go.RowKit
set_option linter.all false
set_option maxRecDepth 100000

def rdL (l : List RW) (a : Int) : Nat → List UInt8
  | 0 => []
  | k + 1 => rdL l a k ++ (ratK l (a + k) l.length).data.toList
theorem rdL_length {l : List RW} {a : Int} (h : ∀ j, (ratK l j l.length).size = 64) : ∀ k, (rdL l a k).length = 64 * k
  | 0 => rfl
  | k + 1 => by
    rw [rdL, List.length_append, rdL_length h k]
    have h2 : (ratK l (a + k) l.length).data.toList.length = (ratK l (a + k) l.length).size := rfl
    rw [h2, h]
    omega
theorem strCells_by (s : ByteArray) : Lib.strCells s = byCells s.data.toList := by
  unfold Lib.strCells byCells byV
  rfl

set_option maxHeartbeats 2000000 in
theorem rread8_ok {p : Nat} {v : Value} {D : RS} {w : World} (h : RIn8 p v D w) (a : Int) (n : Nat) (n1 : 1 ≤ n) (n4 : n ≤ 400) (a0 : 0 ≤ a) (a1 : a ≤ D.room - n) (hrm : D.room ≤ 20000) (hn0 : 0 < D.l.length) (hn : D.l.length ≤ 200000) (h64 : ∀ j, (ratK D.l j D.l.length).size = 64) :
    Calls Tryz.prog 49 #[.pointer (some ⟨p, 0, none⟩), .int .i64 a, .int .i64 n] w fun e w' => e = .returned (.tuple #[.string (str (rdL D.l a n)), .int .i64 0]) ∧ Below w.heap.size w w' := by
  have HI := Lib.hid h
  have HAT : Hid (∀ (wx : World), RIn8 p v D wx → ∀ j : Int, Calls Tryz.prog 99 #[.pointer (some ⟨p, 0, none⟩), .int .i64 j, .bool false] wx fun e w' => e = .returned (.string (ratK D.l j D.l.length)) ∧ Below wx.heap.size wx w') := Lib.hid (fun wx hx j => rat_any hx j hn0 hn)
  have H64 := Lib.hid h64
  have HLEN := Lib.hid (fun k => rdL_length (a := a) h64 k)
  have HSU := Lib.hid (fun k => show rdL D.l a (k + 1) = rdL D.l a k ++ (ratK D.l (a + k) D.l.length).data.toList from rfl)
  have H0 : Hid (rdL D.l a 0 = []) := Lib.hid rfl
  have c0 := h.blk.c0
  have c2 := h.blk.c2
  have e1 : decide ((n : Int) < 1) = false := by simp; omega
  have e2 : decide (400 < (n : Int)) = false := by simp; omega
  have e3 : decide (a < 0) = false := by simp; omega
  have e4 : decide (D.room - (n : Int) < a) = false := by simp; omega
  have i0 : IntKind.i64.wrap (D.room - (n : Int)) = D.room - (n : Int) := IntWalk.i64_in _ (by omega)
  clear h h64
  generalize D.room = rm at *
  generalize hRD : rdL D.l a = RD at *
  go_enter Tryz.func49, Tryz.ntmps49
  go_wp2
  go_loopw [8, 9] (fun u i wr => ∃ k : Nat, k ≤ n ∧ i = .int .i64 k ∧ wr.ownsRow w.heap.size 5 1 u (RD k).length (byCells (RD k)) ∧ Below w.heap.size w wr) (fun _ i _ => n - (intOf i).toNat)
  case atStart => exact ⟨0, Nat.zero_le _, rfl, by rw [H0.out]; exact World.ownsRow_nil _ _ _ _, Below.refl _ _⟩
  case round =>
    obtain ⟨k, hk, rfl, hu, hb⟩ := hrel
    have HU := Lib.hid hu
    have HB := Lib.hid hb
    by_cases hlt : k < n
    · have HA := Lib.hid (HAT.out wr (HI.out.grow (Grow.of_below (F := fun _ => False) hb) (fun h => h) (fun _ _ h => h)) (a + k))
      have hsz := H64.out (a + k)
      have hl := HLEN.out k
      have S := Lib.hid (HSU.out k)
      have i1 : IntKind.i64.wrap (a + (k : Int)) = a + (k : Int) := IntWalk.i64_in _ (by omega)
      clear hu hb
      generalize ratK D.l (a + k) D.l.length = X at *
      go_wp2_with fail
      refine HA.out.mono ?_
      rintro e w2 ⟨rfl, hb2⟩
      have B2 := Lib.hid (HB.out.trans (hb2.mono HB.out.size))
      have U2 := Lib.hid (ownsRow_of_same HU.out (fun g hg => hb2.block g (by
        obtain ⟨_, cur, hh⟩ := ownsRow_block HU.out hg
        exact (Array.getElem?_eq_some_iff.1 hh).1)))
      obtain ⟨i0, hi, hz0, hz1, hz2⟩ := info_parts infoBy
      clear hb2
      go_wp2_with (at_builtin; refine Lib.wpList_append_own_string _ rfl (.tmp 39) (.tmp 44) 95 9 (by rfl) w.heap.size 5 i0 Tryz.underlying95 Tryz.underlying9 hi hz0 hz1 hz2 u8 (RD k).length (byCells (RD k)) (by rfl) U2.out X (by rfl) (by unfold maxLen; omega) (by omega) B2.out.size ?_)
      intro v' w3 hown hgrow hiff
      have hrel : w3.ownsRow w.heap.size 5 1 v' (RD (k + 1)).length (byCells (RD (k + 1))) ∧ Below w.heap.size w w3 := by
        refine ⟨?_, B2.out.trans ((Grow.of_grownBy (F := fun g => u8.ownBlock = some g) hgrow (fun _ h => h)).below B2.out.size (fun g hg => (ownsRow_block U2.out hg).1))⟩
        have e1 : (RD (k + 1)).length = (RD k).length + X.size := by rw [S.out, List.length_append]; rfl
        have e2 : byCells (RD (k + 1)) = byCells (RD k) ++ Lib.strCells X := by rw [S.out, strCells_by]; simp [byCells]
        rw [e1, e2]
        rw [hl, hsz]; exact hown
      have HREL := Lib.hid hrel
      clear hrel hown hgrow hiff hi hz0 hz1 hz2 S HU HB U2 B2
      go_wp2
      go_roundw
      case rel => exact ⟨k + 1, by omega, by go_num, HREL.out.1, HREL.out.2⟩
      case measure => simp [intOf]; omega
    · have hkn : k = n := by omega
      subst hkn
      have hcv := rowQ_conv (rowQ.of_owns hu)
      clear hu hb
      go_wp2
      go_ret2
      exact ⟨rfl, HB.out⟩

end Go.Proofs.YtkgdpmeheakdcaaGreat
