/- wire's reader: walks of NewReader, Err, take, Num. -/
import Derived.Test.YtkgdpmeheakdcaaGreatStamp
import Derived.Lib.ConvBytes
namespace Go.Proofs.YtkgdpmeheakdcaaGreat
open Go.RowKit
set_option linter.all false
set_option maxRecDepth 100000

/-- A reader at p, the bytes that are left, no error. -/
def RIn (p : Nat) (bs : List UInt8) (w : World) : Prop := w.heap[p]? = some (.cells #[.string (str bs), .int .i64 0] 175 (0, 0))

theorem RIn.lt {p : Nat} {bs : List UInt8} {w : World} (h : RIn p bs w) : p < w.heap.size := (Array.getElem?_eq_some_iff.1 h).1

theorem newreader_any (L : List UInt8) (hL : L.length ≤ 100000) (w : World) :
    Calls Tryz.prog 113 #[.string (str L)] w fun e w' => ∃ p, e = .returned (.pointer (some ⟨p, 0, none⟩)) ∧ RIn p L w' ∧ w.heap.size ≤ p ∧ Below w.heap.size w w' := by
  have HC := Lib.hid (sclone_any (str L) w (by rw [str_size]; omega))
  go_enter Tryz.func113, Tryz.ntmps113
  go_wp2_with fail
  refine HC.out.mono ?_
  rintro e w1 ⟨rfl, hb⟩
  have HB := Lib.hid hb
  clear hb
  go_wp2
  go_ret
  exact ⟨w1.heap.size, rfl, heap_alloc_new w1 _, HB.out.size, HB.out.alloc HB.out.size _⟩

theorem rerr_any {p : Nat} {bs : List UInt8} {w : World} (h : RIn p bs w) :
    Calls Tryz.prog 143 #[.pointer (some ⟨p, 0, none⟩)] w fun e w' => e = .returned (.int .i64 0) ∧ w = w' := by
  have c1 : w.cell? ⟨p, 1, none⟩ = some (.int .i64 0) := by unfold RIn at h; simp [World.cell?, h]
  clear h
  go_enter Tryz.func143, Tryz.ntmps143
  go_wp2
  go_ret
  exact ⟨rfl, rfl⟩

theorem take_any {p : Nat} {bs : List UInt8} {w : World} (h : RIn p bs w) (n : Nat) (hn : n ≤ bs.length) (hl : bs.length ≤ 100000) :
    Calls Tryz.prog 135 #[.pointer (some ⟨p, 0, none⟩), .int .i64 n] w fun e w' => e = .returned (.string (str (bs.take n))) ∧ w' = w.setCell ⟨p, 0, none⟩ (.string (str (bs.drop n))) := by
  have HE := Lib.hid (rerr_any h)
  have c0 : w.cell? ⟨p, 0, none⟩ = some (.string (str bs)) := by unfold RIn at h; simp [World.cell?, h]
  have f0 : w.frozen? ⟨p, 0, none⟩ = false := by unfold RIn at h; simp [World.frozen?, h]
  have s1 := fun wx => str_drop bs n wx (by omega)
  have s2 := fun wx => str_take bs n wx (by omega)
  have hsz : ((str bs).size : Int) = bs.length := by rw [str_size]
  have hlt : ¬ (bs.length : Int) < (n : Int) := by omega
  have hle : (n : Int) ≤ bs.length := by omega
  clear h
  go_enter Tryz.func135, Tryz.ntmps135
  go_wp2_with fail
  refine HE.out.mono ?_
  rintro e w1 ⟨rfl, rfl⟩
  go_wp2
  go_ret
  exact ⟨rfl, rfl⟩

theorem RIn.set0 {p : Nat} {bs cs : List UInt8} {w : World} (h : RIn p bs w) : RIn p cs (w.setCell ⟨p, 0, none⟩ (.string (str cs))) := two_set0 h

theorem or_byte (v c k : Nat) (hv : v < 256 ^ k) (hc : c < 256) (hk : k < 8) : bits BinOp.or IntKind.u64 (v : Int) (IntKind.u64.wrap ((c : Int) * 2 ^ (8 * k))) = ((v + c * 256 ^ k : Nat) : Int) := by
  have e : (256 : Nat) ^ k = 2 ^ (8 * k) := by rw [Nat.pow_mul]
  have hp : 256 ^ k ≤ 256 ^ 7 := Nat.pow_le_pow_right (by decide) (by omega)
  have h7 : (256 : Nat) ^ 7 = 72057594037927936 := by decide
  have hcp : c * 256 ^ k ≤ 255 * 72057594037927936 := Nat.mul_le_mul (by omega) (by omega)
  have e2 : ((c : Int) * 2 ^ (8 * k)) = ((c * 256 ^ k : Nat) : Int) := by rw [e]; push_cast; rfl
  rw [e2, IntKind.wrap_u64, Int.emod_eq_of_lt (by omega) (by omega), u64_or_nat v (c * 256 ^ k) (by omega) (by omega)]
  congr 1
  rw [e] at hv ⊢
  rw [Nat.or_comm, Nat.mul_comm c, ← Nat.two_pow_add_eq_or_of_lt hv, Nat.add_comm]

theorem unLe_snoc : ∀ (l : List UInt8) (c : UInt8), unLe (l ++ [c]) = unLe l + 256 ^ l.length * c.toNat
  | [], c => by simp [unLe]
  | d :: l, c => by
    rw [List.cons_append, unLe, unLe_snoc l c, unLe, List.length_cons, Nat.pow_succ, Nat.mul_add, Nat.mul_comm (256 ^ l.length) 256, Nat.mul_assoc, Nat.add_assoc]

set_option maxHeartbeats 1000000 in
theorem rnum_any {p : Nat} {bs : List UInt8} {w : World} (h : RIn p bs w) (n : Nat) (hn : n = 1 ∨ n = 4 ∨ n = 8) (hl : n ≤ bs.length) (hl2 : bs.length ≤ 100000) :
    Calls Tryz.prog 114 #[.pointer (some ⟨p, 0, none⟩), .int .i64 n] w fun e w' => e = .returned (.int .u64 (unLe (bs.take n))) ∧ RIn p (bs.drop n) w' ∧ Grow (fun k => k = p) w w' := by
  have HW := Lib.hid (wrongNum_of n 0 hn (by omega) (by rcases hn with rfl | rfl | rfl <;> decide) w)
  have HT := Lib.hid (take_any h n hl hl2)
  have HR := Lib.hid h
  have HN := Lib.hid hn
  have hn8 : n ≤ 8 := by omega
  have hlen : (bs.take n).length = n := by rw [List.length_take]; omega
  have HL := Lib.hid hlen
  clear hn h hlen
  go_enter Tryz.func114, Tryz.ntmps114
  go_wp2_with fail
  refine HW.out.mono ?_
  rintro e w1 ⟨rfl, rfl⟩
  go_wp2_with fail
  refine HT.out.mono ?_
  rintro e w1 ⟨rfl, hw1⟩
  have h1 : RIn p (bs.drop n) w1 := by rw [hw1]; exact HR.out.set0
  have g1 : Grow (fun k => k = p) w w1 := by rw [hw1]; exact Grow.setCell (F := fun k => k = p) rfl _
  have hcv := Lib.run_convert_string_bytes (P := Tryz.prog) w1 9 95 5 (str (bs.take n)) Tryz.underlying9 Tryz.underlying95 Tryz.underlying5
  have hsz : (str (bs.take n)).size = n := by rw [str_size]; exact HL.out
  rw [hsz] at hcv
  have hcell : ∀ j, j < n → (Lib.bytesWorld w1 5 (str (bs.take n))).cell? ⟨w1.heap.size, j, none⟩ = some (.int .u8 ((bs.take n).getD j 0).toNat) := fun j hj => Lib.bytesWorld_cell w1 _ _ j (by omega)
  have hR : RIn p (bs.drop n) (Lib.bytesWorld w1 5 (str (bs.take n))) := by
    unfold RIn
    rw [Lib.bytesWorld_at_old _ _ _ _ h1.lt]
    exact h1
  have hG : Grow (fun k => k = p) w (Lib.bytesWorld w1 5 (str (bs.take n))) :=
    g1.trans (F' := fun _ => False) ⟨rfl, rfl, rfl, by rw [Lib.bytesWorld_size]; omega, fun k hk _ => Lib.bytesWorld_at_old _ _ _ _ hk⟩ (fun _ h => h.elim)
  have HCE := Lib.hid hcell
  have HRR := Lib.hid hR
  have HGG := Lib.hid hG
  clear hw1 h1 g1 hsz hcell hR hG
  go_wp2_with fail
  clear hcv
  generalize Lib.bytesWorld w1 5 (str (bs.take n)) = V at *
  generalize hM : bs.take n = M at *
  have HMB := Lib.hid hM
  clear hM
  generalize w1.heap.size = B at *
  generalize grownCap w1 n 0 5 = gc at *
  go_loop [6, 21] (fun t i => ∃ k : Nat, k ≤ n ∧ i = .int .i64 k ∧ t = .int .u64 ((unLe (M.take k) : Nat) : Int)) (fun _ i => n - (intOf i).toNat)
  case atStart => exact ⟨0, by omega, rfl, by simp [unLe]⟩
  case round =>
    obtain ⟨k, hk, rfl, rfl⟩ := hrel
    by_cases hlt : k < n
    · have ck := HCE.out k hlt
      have hun := unLe_lt (M.take k)
      have hkl : (M.take k).length = k := by rw [List.length_take, HL.out]; omega
      rw [hkl] at hun
      have HS : Hid (unLe (M.take (k + 1)) = unLe (M.take k) + 256 ^ k * (M.getD k 0).toNat) := Lib.hid (by
        have hkm : k < M.length := by rw [HL.out]; exact hlt
        rw [List.take_succ_eq_append_getElem hkm, unLe_snoc, hkl, List.getD_eq_getElem?_getD, List.getElem?_eq_getElem hkm]
        rfl)
      have hc := (M.getD k 0).toNat_lt
      generalize (M.getD k 0).toNat = c at *
      generalize unLe (M.take k) = V0 at *
      clear hkl
      go_wp2
      go_round
      case rel =>
        refine ⟨k + 1, by omega, by go_num, ?_⟩
        rw [HS.out, or_byte V0 c k hun hc (by omega), Nat.mul_comm]
      case measure => simp [intOf]; omega
    · have hkn : k = n := by omega
      subst hkn
      have HM : Hid (unLe (M.take k) = unLe M) := Lib.hid (by rw [List.take_of_length_le (by rw [HL.out]; omega)])
      generalize unLe (M.take k) = V0 at *
      go_wp2
      go_ret
      exact ⟨ret_int' (a := (V0 : Int)) (by rw [HMB.out, HM.out]), HRR.out, HGG.out⟩

end Go.Proofs.YtkgdpmeheakdcaaGreat
