/- super.Get: walk, of a superblock as Put lays it. -/
import Derived.Test.YtkgdpmeheakdcaaGreatSPut
namespace Go.Proofs.YtkgdpmeheakdcaaGreat
open Go.RowKit
set_option linter.all false
set_option maxRecDepth 100000

theorem numsL_append (xs ys : List Nat) : numsL (xs ++ ys) = numsL xs ++ numsL ys := by
  unfold numsL
  rw [List.flatMap_append]
theorem Sh.bytes_ok (s : Sh) : sumOk s.bytes = true := stampL_ok (by rw [Sh.body_length]; decide)
theorem Sh.bytes_take (s : Sh) : s.bytes.take (64 - 4) = s.body ++ zerosL 32 := by
  unfold Sh.bytes
  rw [stampL_take (by rw [Sh.body_length]; decide), Sh.body_length]
theorem Sh.bytes_rest (s : Sh) : (s.bytes.take (64 - 4)).drop 8 = numsL s.nums ++ zerosL 32 := by
  rw [Sh.bytes_take, Sh.body, List.append_assoc]
  exact List.drop_left' rfl
/-- What the reader has left behind k numbers. -/
def leftL (s : Sh) (k : Nat) : List UInt8 := numsL (s.nums.drop k) ++ zerosL 32
theorem leftL_length (s : Sh) (k : Nat) (h : k ≤ 5) : (leftL s k).length = 4 * (5 - k) + 32 := by
  have : s.nums.length = 5 := rfl
  rw [leftL, List.length_append, numsL_length, zerosL_length, List.length_drop, this]
theorem leftL_step (s : Sh) (k : Nat) (h : k < 5) : leftL s k = leN 4 (s.nums.getD k 0) ++ leftL s (k + 1) := by
  have hl : k < s.nums.length := h
  unfold leftL
  rw [List.drop_eq_getElem_cons hl, List.getD_eq_getElem?_getD, List.getElem?_eq_getElem hl]
  unfold numsL
  rw [List.flatMap_cons, List.append_assoc]
  rfl
theorem leftL_take (s : Sh) (k : Nat) (h : k < 5) : (leftL s k).take 4 = leN 4 (s.nums.getD k 0) := by
  rw [leftL_step s k h]
  exact List.take_left' (leN_length 4 _)
theorem leftL_drop (s : Sh) (k : Nat) (h : k < 5) : (leftL s k).drop 4 = leftL s (k + 1) := by
  rw [leftL_step s k h]
  exact List.drop_left' (leN_length 4 _)

theorem str_ext_from (X : List UInt8) (n : Nat) : (str X).extract n (str X).size = str (X.drop n) := by
  apply ByteArray.ext
  simp [str, ByteArray.data_extract, ByteArray.size]
  exact List.take_of_length_le (by simp)

/-- The row of five numbers, k of them read. -/
def rowK (xs : List Nat) (k : Nat) : Array Value := ((xs.take k).map (fun x : Nat => Value.int .i64 (x : Int)) ++ List.replicate (5 - k) (Value.int .i64 0)).toArray
theorem rowK_at (xs : List Nat) (k : Nat) (h : k < 5) (hl : xs.length = 5 := by rfl) : (rowK xs k)[k]? = some (.int .i64 0) := by
  unfold rowK
  rw [List.getElem?_toArray, List.getElem?_append_right (by simp; omega)]
  simp [List.getElem?_replicate]
  omega
theorem rowK_set (xs : List Nat) (k : Nat) (h : k < 5) (hl : xs.length = 5 := by rfl) : (rowK xs k).setIfInBounds k (.int .i64 (xs.getD k 0 : Nat)) = rowK xs (k + 1) := by
  have hk : k < xs.length := by omega
  unfold rowK
  rw [List.setIfInBounds_toArray, List.set_append_right _ _ (by simp; omega), List.take_succ_eq_append_getElem hk, List.map_append, List.append_assoc]
  have hl2 : ((xs.take k).map (fun x : Nat => Value.int .i64 (x : Int))).length = k := by simp; omega
  rw [hl2, Nat.sub_self, show 5 - k = (5 - (k + 1)) + 1 by omega, List.replicate_succ, List.set_cons_zero, List.getD_eq_getElem?_getD, List.getElem?_eq_getElem hk]
  rfl
theorem Sh.nums_le (s : Sh) (hs : s.ok = true) (k : Nat) : s.nums.getD k 0 ≤ 4096 := by
  obtain ⟨⟨a1, a2⟩, ⟨a3, a4⟩, ⟨a5, a6⟩, ⟨a7, a8⟩, ⟨a9, a10⟩⟩ := Sh.ok_iff.1 hs
  match k with
  | 0 => show s.n.toNat ≤ 4096; omega
  | 1 => show s.b.toNat ≤ 4096; omega
  | 2 => show s.l.toNat ≤ 4096; omega
  | 3 => show s.c.toNat ≤ 4096; omega
  | 4 => show s.e.toNat ≤ 4096; omega
  | k + 5 => show (0 : Nat) ≤ 4096; omega
theorem rowK_five (s : Sh) (hs : s.ok = true) : rowK s.nums 5 = #[.int .i64 s.n, .int .i64 s.b, .int .i64 s.l, .int .i64 s.c, .int .i64 s.e] := by
  obtain ⟨⟨a1, a2⟩, ⟨a3, a4⟩, ⟨a5, a6⟩, ⟨a7, a8⟩, ⟨a9, a10⟩⟩ := Sh.ok_iff.1 hs
  unfold rowK Sh.nums
  simp
  omega
theorem five_set {w : World} {g : Nat} {z0 z1 z2 z3 z4 a b c d e : Value} {T : TypeId} {fz : Nat × Nat} (h : w.heap[g]? = some (.cells #[z0, z1, z2, z3, z4] T fz)) :
    (((((w.setCell ⟨g, 0, none⟩ a).setCell ⟨g, 1, none⟩ b).setCell ⟨g, 2, none⟩ c).setCell ⟨g, 3, none⟩ d).setCell ⟨g, 4, none⟩ e).heap[g]? = some (.cells #[a, b, c, d, e] T fz) := by
  rw [block_setCell (block_setCell (block_setCell (block_setCell (block_setCell h a) b) c) d) e]
  rfl
def getLoop (s : Sh) (p : Nat) (w2 : World) (k : Nat) (wr : World) : Prop :=
  RIn p (leftL s k) wr ∧ wr.heap[w2.heap.size]? = some (.cells (rowK s.nums k) 153 (0, 0)) ∧ Grow (fun j => j = p ∨ j = w2.heap.size) w2 wr

set_option maxHeartbeats 1000000 in
theorem sget_ok (s : Sh) (hs : s.ok = true) (w : World) : Calls Tryz.prog 79 #[.string (str s.bytes)] w fun e w' => e = .returned (.tuple #[s.val, .int .i64 0]) ∧ Below w.heap.size w w' := by
  have hsz : ((str s.bytes).size : Int) = 64 := by rw [str_size, Sh.bytes_length]; rfl
  have HR := sumread_any s.bytes (by rw [Sh.bytes_length]; decide) (by rw [Sh.bytes_length]; decide)
  rw [Sh.bytes_ok, Sh.bytes_length, if_pos rfl, if_pos rfl] at HR
  have hX : ((s.bytes.take (64 - 4))).drop 8 = leftL s 0 := Sh.bytes_rest s
  have hXl : (s.bytes.take (64 - 4)).length = 60 := by rw [List.length_take, Sh.bytes_length]; rfl
  generalize s.bytes.take (64 - 4) = X at *
  have hxs : ((str X).size : Int) = 60 := by rw [str_size, hXl]; rfl
  have HX := Lib.hid hX
  have HXL := Lib.hid hXl
  have hex : (str X).extract 8 (str X).size = str (leftL s 0) := by rw [str_ext_from, hX]
  replace HR := Lib.hid HR
  clear hX hXl
  go_enter Tryz.func79, Tryz.ntmps79
  go_wp2_with fail
  refine (HR.out _).mono ?_
  rintro e w1 ⟨rfl, hb⟩
  have HB := Lib.hid hb
  clear hb
  have HNR := Lib.hid (newreader_any (leftL s 0) (by rw [leftL_length s 0 (by omega)]; decide) w1)
  go_wp2_with fail
  refine HNR.out.mono ?_
  rintro e w2 ⟨p, rfl, hri, hp, hb2⟩
  go_wp2
  have hz2 : w2.heap[w.heap.size]? = some (.cells #[.int .i64 0, .int .i64 0, .int .i64 0, .int .i64 0, .int .i64 0] 29 (0, 0)) := by
    have h1 := HB.out.size
    rw [hb2.block _ (by simp at h1; omega), HB.out.block _ (by simp)]
    exact heap_alloc_new w _
  have hpw : w.heap.size < p ∧ p < w2.heap.size := by
    have h1 := HB.out.size
    have h2 := hri.lt
    simp at h1
    omega
  have hbw : Below w.heap.size w w2 := ((Below.refl _ _).alloc (Nat.le_refl _) _).trans ((HB.out.trans (hb2.mono HB.out.size)).mono (by simp))
  have HRI : Hid (RIn p (leftL s 0) (w2.alloc (.cells (rowK s.nums 0) 153))) := Lib.hid ((heap_alloc_old w2 _ hpw.2).trans hri)
  have HZ := Lib.hid hz2
  have HBW := Lib.hid hbw
  obtain ⟨hp1, hp2⟩ := hpw
  have hwlt : w.heap.size < w2.heap.size := by omega
  clear hri hp hb2 hz2 hbw
  go_loopw [28] (fun i wr => ∃ k : Nat, k ≤ 5 ∧ i = .int .i64 k ∧ getLoop s p w2 k wr) (fun i _ => 5 - (intOf i).toNat)
  case atStart => exact ⟨0, by omega, rfl, HRI.out, heap_alloc_new w2 _, Grow.alloc w2 _⟩
  case round =>
    obtain ⟨k, hk, rfl, hri, hrow, hgr⟩ := hrel
    by_cases hlt : k < 5
    · have hx := Sh.nums_le s hs k
      have HLD := Lib.hid (leftL_drop s k hlt)
      have hrn := rnum_any hri 4 (.inr (.inl rfl)) (by rw [leftL_length s k hk]; omega) (by rw [leftL_length s k hk]; omega)
      rw [leftL_take s k hlt, leftL_drop s k hlt, unLe_leN_lt (show s.nums.getD k 0 < 256 ^ 4 by omega)] at hrn
      have HRN := Lib.hid hrn
      have HRS := Lib.hid (rowK_set s.nums k hlt)
      have HGR := Lib.hid hgr
      have HRO := Lib.hid hrow
      have ha := rowK_at s.nums k hlt
      have HA := Lib.hid ha
      have hg2 : w2.heap.size < wr.heap.size := (Array.getElem?_eq_some_iff.1 hrow).1
      clear hri hrow hgr hrn ha
      generalize s.nums.getD k 0 = x at *
      have hki : (k : Int) < 5 := by omega
      have hk0 : (0 : Int) ≤ (k : Int) := by omega
      go_wp2_with fail
      refine HRN.out.mono ?_
      rintro e w3 ⟨rfl, hri3, hg3⟩
      have hrow3 : w3.heap[w2.heap.size]? = some (.cells (rowK s.nums k) 153 (0, 0)) := by
        rw [hg3.block _ hg2 (by omega)]
        exact HRO.out
      have ck : w3.cell? ⟨w2.heap.size, k, none⟩ = some (.int .i64 0) := by simp only [World.cell?, hrow3]; exact HA.out
      have fk : w3.frozen? ⟨w2.heap.size, k, none⟩ = false := by simp [World.frozen?, hrow3]
      have hrel : getLoop s p w2 (k + 1) (w3.setCell ⟨w2.heap.size, k, none⟩ (.int .i64 x)) := by
        refine ⟨?_, ?_, ?_⟩
        · exact (block_setCell_ne (by omega) _).trans hri3
        · rw [block_setCell hrow3, HRS.out]
        · exact (HGR.out.trans hg3 (fun j h => .inl (.inl h))).trans (Grow.setCell (F := fun j => j = p ∨ j = w2.heap.size) (.inr rfl) _) (fun j h => .inl h)
      have HREL := Lib.hid hrel
      clear hri3 hg3 hrow3 hrel
      go_wp2
      go_roundw
      case rel => exact ⟨k + 1, by omega, by go_num, HREL.out⟩
      case measure => simp [intOf]; omega
    · have hk5 : k = 5 := by omega
      subst hk5
      have hz5 : wr.heap[w.heap.size]? = some (.cells #[.int .i64 0, .int .i64 0, .int .i64 0, .int .i64 0, .int .i64 0] 29 (0, 0)) := by
        rw [hgr.block _ hwlt (by omega)]
        exact HZ.out
      have hb5 : Below w.heap.size w wr := HBW.out.trans (hgr.below (by omega) (fun j h => by omega))
      rw [rowK_five s hs] at hrow
      have hval : s.val = .agg #[.int .i64 s.n, .int .i64 s.b, .int .i64 s.l, .int .i64 s.c, .int .i64 s.e] := rfl
      have g0 := cell_of_row wr _ 0 _ _ _ hrow
      have g1 := cell_of_row wr _ 1 _ _ _ hrow
      have g2 := cell_of_row wr _ 2 _ _ _ hrow
      have g3 := cell_of_row wr _ 3 _ _ _ hrow
      have g4 := cell_of_row wr _ 4 _ _ _ hrow
      simp only [List.getElem?_toArray, List.getElem?_cons_zero, List.getElem?_cons_succ] at g0 g1 g2 g3 g4
      have hwr : w.heap.size < wr.heap.size := by have := hb5.size; have := hgr.size; omega
      have HZ5 := Lib.hid hz5
      have HB5 := Lib.hid hb5
      have HVAL := Lib.hid hval
      clear hri hrow hgr hz5 hb5 hval
      have HP := Lib.hid (sput_ok s hs (wr.alloc (.cells #[.int .i64 s.n, .int .i64 s.b, .int .i64 s.l, .int .i64 s.c, .int .i64 s.e] 29)))
      rw [HVAL.out] at HP
      go_wp2_with fail
      refine HP.out.mono ?_
      rintro e w5 ⟨rfl, hb⟩
      have t9 : w5.heap[wr.heap.size]? = some (.cells #[.int .i64 s.n, .int .i64 s.b, .int .i64 s.l, .int .i64 s.c, .int .i64 s.e] 29 (0, 0)) := by
        rw [hb.block _ (by simp)]
        exact heap_alloc_new wr _
      have t2 : w5.heap[w.heap.size]? = some (.cells #[.int .i64 0, .int .i64 0, .int .i64 0, .int .i64 0, .int .i64 0] 29 (0, 0)) := by
        rw [hb.block _ (by simp; omega), heap_alloc_old wr _ hwr]
        exact HZ5.out
      have q0 := cell_of_row w5 _ 0 _ _ _ t9
      have q1 := cell_of_row w5 _ 1 _ _ _ t9
      have q2 := cell_of_row w5 _ 2 _ _ _ t9
      have q3 := cell_of_row w5 _ 3 _ _ _ t9
      have q4 := cell_of_row w5 _ 4 _ _ _ t9
      have r0 := cell_of_row w5 _ 0 _ _ _ t2
      have r1 := cell_of_row w5 _ 1 _ _ _ t2
      have r2 := cell_of_row w5 _ 2 _ _ _ t2
      have r3 := cell_of_row w5 _ 3 _ _ _ t2
      have r4 := cell_of_row w5 _ 4 _ _ _ t2
      simp only [List.getElem?_toArray, List.getElem?_cons_zero, List.getElem?_cons_succ] at q0 q1 q2 q3 q4 r0 r1 r2 r3 r4
      have fz : ∀ i, w5.frozen? ⟨w.heap.size, i, none⟩ = false := fun i => by simp [World.frozen?, t2]
      have f0 := fz 0
      have f1 := fz 1
      have f2 := fz 2
      have f3 := fz 3
      have f4 := fz 4
      have hlt5 : w.heap.size < w5.heap.size := (Array.getElem?_eq_some_iff.1 t2).1
      have HBF := Lib.hid ((HB5.out.alloc HB5.out.size (.cells #[.int .i64 s.n, .int .i64 s.b, .int .i64 s.l, .int .i64 s.c, .int .i64 s.e] 29)).trans (hb.mono (by have := HB5.out.size; simp; omega)))
      have T2 := Lib.hid (five_set (a := .int .i64 s.n) (b := .int .i64 s.b) (c := .int .i64 s.l) (d := .int .i64 s.c) (e := .int .i64 s.e) t2)
      clear fz hb t9 t2
      go_wp2
      have t2 := T2.out
      generalize hWf : ((((w5.setCell ⟨w.heap.size, 0, none⟩ (.int .i64 s.n)).setCell ⟨w.heap.size, 1, none⟩ (.int .i64 s.b)).setCell ⟨w.heap.size, 2, none⟩ (.int .i64 s.l)).setCell ⟨w.heap.size, 3, none⟩ (.int .i64 s.c)).setCell ⟨w.heap.size, 4, none⟩ (.int .i64 s.e) = Wf at *
      have HWF : Hid (Below w.heap.size w Wf) := Lib.hid (by
        rw [← hWf]
        exact ((((HBF.out.setCell (Nat.le_refl _) _).setCell (Nat.le_refl _) _).setCell (Nat.le_refl _) _).setCell (Nat.le_refl _) _).setCell (Nat.le_refl _) _)
      clear r0 r1 r2 r3 r4 T2 hWf
      have r0 := cell_of_row Wf _ 0 _ _ _ t2
      have r1 := cell_of_row Wf _ 1 _ _ _ t2
      have r2 := cell_of_row Wf _ 2 _ _ _ t2
      have r3 := cell_of_row Wf _ 3 _ _ _ t2
      have r4 := cell_of_row Wf _ 4 _ _ _ t2
      simp only [List.getElem?_toArray, List.getElem?_cons_zero, List.getElem?_cons_succ] at r0 r1 r2 r3 r4
      exact bodyPost_ret (v := .tuple #[.agg #[.int .i64 s.n, .int .i64 s.b, .int .i64 s.l, .int .i64 s.c, .int .i64 s.e], .int .i64 0]) (by simp [results, Tryz.results79, go_sem, r0, r1, r2, r3, r4]) rfl ⟨rfl, HWF.out⟩

end Go.Proofs.YtkgdpmeheakdcaaGreat
