/- The log's Write and Sync: walks. -/
import Derived.Test.YtkgdpmeheakdcaaGreatLogE
namespace Go.Proofs.YtkgdpmeheakdcaaGreat
open Go.RowKit
set_option linter.all false
set_option maxRecDepth 100000

/-- What every log of the laws keeps. -/
structure LG (L : LS) : Prop where
  nx : L.next ≤ 1000
  f1 : 1 ≤ L.first
  fl : L.first + L.live.length = L.next
  ll : L.live.length ≤ 2
  pl : L.pl < 7
  wn : L.written + 1 ≤ L.next
  sw : L.synced ≤ L.written
  fs : L.first ≤ L.synced + 1
  en : ∀ (i : Nat) (x : En), L.live[i]? = some x → x.lsn = L.first + i ∧ x.n = 3 ∧ x.pl < 7 ∧ (x.wr = false → x.bs.size = 192) ∧ (x.wr = true ↔ x.lsn ≤ L.written)

/-- A record that is written. -/
def flushE (x : En) : En := if x.wr = true then x else { x with wr := true, bs := ⟨#[]⟩ }
theorem flushE_lsn (x : En) : (flushE x).lsn = x.lsn ∧ (flushE x).n = x.n ∧ (flushE x).pl = x.pl ∧ (flushE x).wr = true := by
  unfold flushE
  split <;> simp_all
def flushK (l : List En) (k : Nat) : List En := (l.take k).map flushE ++ l.drop k
theorem flushK_zero (l : List En) : flushK l 0 = l := by simp [flushK]
theorem flushK_all (l : List En) : flushK l l.length = l.map flushE := by simp [flushK]
theorem flushK_length (l : List En) (k : Nat) : (flushK l k).length = l.length := by simp [flushK]; omega
theorem flushK_succ {l : List En} {k : Nat} {x : En} (h : l[k]? = some x) : flushK l (k + 1) = (flushK l k).set k (flushE x) := by
  obtain ⟨hk, rfl⟩ := List.getElem?_eq_some_iff.1 h
  unfold flushK
  rw [List.set_append_right _ _ (by simp; omega)]
  have h1 : k - ((l.take k).map flushE).length = 0 := by simp; omega
  rw [h1, List.take_succ_eq_append_getElem hk, List.map_append, List.drop_eq_getElem_cons hk, List.set_cons_zero]
  simp
theorem flushK_at {l : List En} {k : Nat} {x : En} (h : l[k]? = some x) : (flushK l k)[k]? = some x := by
  obtain ⟨hk, rfl⟩ := List.getElem?_eq_some_iff.1 h
  unfold flushK
  rw [List.getElem?_append_right (by simp; omega)]
  simp only [List.length_map, List.length_take]
  rw [List.getElem?_drop, show k + (k - min k l.length) = k by omega, List.getElem?_eq_getElem hk]
theorem flushK_same {l : List En} {k : Nat} {x : En} (h : l[k]? = some x) (hw : x.wr = true) : flushK l (k + 1) = flushK l k := by
  have hf : flushE x = x := by unfold flushE; rw [if_pos hw]
  rw [flushK_succ h, hf]
  have h2 := flushK_at h
  obtain ⟨hk, he⟩ := List.getElem?_eq_some_iff.1 h2
  rw [← he, List.set_getElem_self]
/-- The last record written, behind the first k. -/
def wrK (L : LS) : Nat → Nat
  | 0 => L.written
  | k + 1 => match L.live[k]? with | some x => if x.wr = true then wrK L k else x.lsn | none => wrK L k
theorem wrK_succ {L : LS} {k : Nat} {x : En} (h : L.live[k]? = some x) : wrK L (k + 1) = if x.wr = true then wrK L k else x.lsn := by simp [wrK, h]
def flushS (L : LS) (k : Nat) : LS := { L with live := flushK L.live k, written := wrK L k }
def flushL (L : LS) : LS := { L with live := L.live.map flushE, written := L.next - 1 }
theorem wrK_all {L : LS} (h : LG L) : ∀ k, k ≤ L.live.length → wrK L k = max L.written (L.first + k - 1) ∨ (wrK L k = L.written ∧ L.first + k ≤ L.written + 1)
  | 0, _ => .inr ⟨rfl, by have := h.fs; have := h.sw; omega⟩
  | k + 1, hk => by
    have hx : L.live[k]? = some L.live[k] := List.getElem?_eq_getElem (by omega)
    obtain ⟨h1, _, _, _, h5⟩ := h.en k _ hx
    rw [wrK_succ hx]
    by_cases hw : L.live[k].wr = true
    · rw [if_pos hw]
      have h6 := h5.1 hw
      rcases wrK_all h k (by omega) with h7 | h7
      · have := h.f1
        left
        rw [h7]
        omega
      · right
        exact ⟨h7.1, by omega⟩
    · rw [if_neg hw]
      have h6 : ¬ L.live[k].lsn ≤ L.written := fun e => hw (h5.2 e)
      left
      have := h.f1
      omega
theorem flushS_all {L : LS} (h : LG L) : flushS L L.live.length = flushL L := by
  have h1 : wrK L L.live.length = L.next - 1 := by
    have := h.fl; have := h.wn; have := h.f1
    rcases wrK_all h L.live.length (Nat.le_refl _) with h2 | h2
    · rw [h2]; omega
    · rw [h2.1]; omega
  unfold flushS flushL
  rw [flushK_all, h1]
theorem flush_good {L : LS} (h : LG L) : LG (flushL L) := by
  refine ⟨h.nx, h.f1, ?_, ?_, h.pl, ?_, ?_, h.fs, ?_⟩
  · show L.first + (L.live.map flushE).length = L.next
    rw [List.length_map]; exact h.fl
  · show (L.live.map flushE).length ≤ 2
    rw [List.length_map]; exact h.ll
  · show L.next - 1 + 1 ≤ L.next
    have := h.wn; omega
  · show L.synced ≤ L.next - 1
    have := h.wn; have := h.sw; omega
  · intro i x hx
    have hx' : (L.live.map flushE)[i]? = some x := hx
    rw [List.getElem?_map] at hx'
    cases hy : L.live[i]? with
    | none => rw [hy] at hx'; cases hx'
    | some y =>
      rw [hy] at hx'
      have hxy : flushE y = x := by simpa using hx'
      obtain ⟨q1, q2, q3, q4⟩ := flushE_lsn y
      obtain ⟨h1, h2, h3, h4, h5⟩ := h.en i y hy
      have hi := (List.getElem?_eq_some_iff.1 hy).1
      rw [← hxy]
      refine ⟨by rw [q1]; exact h1, by rw [q2]; exact h2, by rw [q3]; exact h3, fun e => (by rw [q4] at e; cases e), ⟨fun _ => ?_, fun _ => q4⟩⟩
      show (flushE y).lsn ≤ L.next - 1
      rw [q1, h1]
      have := h.fl
      omega
def syncL (L : LS) : LS := { flushL L with synced := L.next - 1 }
theorem sync_good {L : LS} (h : LG L) : LG (syncL L) := by
  have h1 := flush_good h
  refine ⟨h1.nx, h1.f1, h1.fl, h1.ll, h1.pl, h1.wn, Nat.le_refl _, ?_, h1.en⟩
  show L.first ≤ L.next - 1 + 1
  have := h.fl
  omega

section
variable {R : Nat → Prop} {g r b n : Nat} {L : LS} {w w' : World}

/-- Write's answer. -/
def WriteTo (R : Nat → Prop) (g r b : Nat) (L : LS) (n : Nat) (w : World) (e : Ending) (w' : World) : Prop := ∃ c : Int, AnsL R g r b L n w (.tuple #[.int .i64 c, .int .i64 0]) e w'

set_option maxHeartbeats 4000000 in
theorem lwrite_any (h : LP R g r b L n w) (hg : LG L) (hR : ∀ k, w.heap.size ≤ k → R k) (hn : n ≤ 600000) :
    Calls Tryz.prog 26 #[.pointer (some ⟨g, 0, none⟩)] w (WriteTo R g r b (flushL L) (n + 96) w) := by
  have HM := Lib.hid (may_log h)
  have c14 := h.c14
  have HL := Lib.hid (list_any h (by have := hg.ll; omega))
  have H0 := Lib.hid h
  have HG := Lib.hid hg
  have HR := Lib.hid hR
  have hl2 := hg.ll
  clear h hg hR
  go_enter Tryz.func26, Tryz.ntmps26
  go_wp2_with fail
  refine HM.out.mono ?_
  rintro e w1 ⟨rfl, rfl⟩
  go_wp2_with fail
  refine HL.out.mono ?_
  rintro e w2 ⟨u, rfl, hown, hgr⟩
  have hb2 : Below w.heap.size w w2 := (Grow.of_grownBy (F := fun _ => False) hgr (fun _ h => by cases h)).below (Nat.le_refl _) (fun _ h => h.elim)
  have hz2 := hb2.size
  have L2 := Lib.hid ((H0.out.mono (R' := fun k => R k ∧ k < w.heap.size ∨ w2.heap.size ≤ k) (fun k hk hz => .inl ⟨hk, hz⟩)).below hb2)
  have G2 : Hid (Grow R w w2) := Lib.hid (Grow.of_below hb2)
  obtain ⟨uo, ucap, hu, hncap, hcapm, huno⟩ := ownsRow_shape hown
  subst hu
  have HO := Lib.hid hown
  obtain ⟨len, hlen⟩ : ∃ len, len = L.live.length := ⟨_, rfl⟩
  rw [← hlen] at hl2 HO hncap ⊢
  have HLN := Lib.hid hlen
  clear hown hgr hb2 huno hlen
  go_wp2
  go_loopw [5, 20] (fun c i wr => ∃ (k : Nat) (m : Int), k ≤ len ∧ i = .int .i64 k ∧ c = .int .i64 m ∧ 0 ≤ m ∧ m ≤ k ∧ LP (fun k => R k ∧ k < w.heap.size ∨ w2.heap.size ≤ k) g r b (flushS L k) (n + 48 * k) wr ∧ Grow (fun k => R k ∧ k < w.heap.size ∨ w2.heap.size ≤ k) w2 wr)
    (fun _ i _ => len - (intOf i).toNat)
  case atStart => exact ⟨0, 0, Nat.zero_le _, rfl, rfl, Int.le_refl _, Int.le_refl _, by unfold flushS; rw [flushK_zero]; exact L2.out, Grow.refl _ _⟩
  case round =>
    obtain ⟨k, m, hk, rfl, rfl, hm0, hm1, hl, hgw⟩ := hrel
    have HLP := Lib.hid hl
    have HGW := Lib.hid hgw
    have hzr := hgw.size
    by_cases hlt : k < len
    · obtain ⟨x, hx⟩ : ∃ x, L.live[k]? = some x := ⟨_, List.getElem?_eq_getElem (show k < L.live.length by rw [← HLN.out]; exact hlt)⟩
      obtain ⟨q, rfl⟩ : ∃ q, uo = some ⟨q, 0, none⟩ := by
        rcases HO.out.2 with ⟨-, h0⟩ | ⟨q, cap', cur, he, -⟩
        · omega
        · simp at he
          exact ⟨q, he.1⟩
      have ho := HO.out
      obtain ⟨hqb, cur, hqh⟩ := ownsRow_block ho (g := q) rfl
      have hqlt := (Array.getElem?_eq_some_iff.1 hqh).1
      have hqn : ¬ (R q ∧ q < w.heap.size ∨ w2.heap.size ≤ q) := fun hh => by omega
      rw [HLN.out] at ho
      have hcc : ∀ m, wr.cell? ⟨q, m, none⟩ = w2.cell? ⟨q, m, none⟩ := fun m => World.cell?_of_block (hgw.block q hqlt hqn)
      have e0 := (hcc _).trans (en_cell ho k x hx 0 (by omega))
      have e1 := (hcc _).trans (en_cell ho k x hx 1 (by omega))
      have e2 := (hcc _).trans (en_cell ho k x hx 2 (by omega))
      have e3 := (hcc _).trans (en_cell ho k x hx 3 (by omega))
      have e4 := (hcc _).trans (en_cell ho k x hx 4 (by omega))
      simp only [En.cells, List.getElem?_cons_zero, List.getElem?_cons_succ, Nat.add_zero] at e0 e1 e2 e3 e4
      have hkc : k < ucap := by omega
      obtain ⟨q1, q2, q3, q4, q5⟩ := HG.out.en k x hx
      have HX := Lib.hid hx
      obtain ⟨x0, x1, x2, x3, x4⟩ := x
      dsimp only at e0 e1 e2 e3 e4 q1 q2 q3 q4 q5
      subst q2
      have ha : Below wr.heap.size wr (wr.alloc (.cells #[.int .u64 x0, .int .i64 x1, .int .i64 (3 : Nat), .string x3, .bool x4] 89)) := (Below.refl _ _).alloc (Nat.le_refl _) _
      clear hcc ho hqh hqn hx
      cases x4 with
      | true =>
        have hs : flushS L (k + 1) = flushS L k := by
          unfold flushS
          rw [flushK_same HX.out rfl, wrK_succ HX.out, if_pos rfl]
        have HREL : Hid (LP (fun k => R k ∧ k < w.heap.size ∨ w2.heap.size ≤ k) g r b (flushS L (k + 1)) (n + 48 * (k + 1)) (wr.alloc (.cells #[.int .u64 x0, .int .i64 x1, .int .i64 (3 : Nat), .string x3, .bool true] 89)) ∧ Grow (fun k => R k ∧ k < w.heap.size ∨ w2.heap.size ≤ k) w2 (wr.alloc (.cells #[.int .u64 x0, .int .i64 x1, .int .i64 (3 : Nat), .string x3, .bool true] 89))) := Lib.hid ⟨by
          rw [hs]
          exact (hl.below ha).more (by omega), hgw.trans (Grow.of_below (F := fun _ => False) ha) (fun _ h => h.elim)⟩
        clear hl hgw ha hs q1 q3 q4 q5
        go_wp2
        go_roundw
        case rel => exact ⟨k + 1, m, by omega, by go_num, rfl, hm0, by omega, HREL.out⟩
        case measure => simp [intOf]; omega
      | false =>
        have hbs := q4 rfl
        have L3 := Lib.hid ((hl.mono (R' := fun k => (R k ∧ k < w.heap.size ∨ w2.heap.size ≤ k) ∧ k ≠ wr.heap.size) (fun k hk hz => ⟨hk, by omega⟩)).below ha)
        have X3 : Hid ((wr.alloc (.cells #[.int .u64 x0, .int .i64 x1, .int .i64 (3 : Nat), .string x3, .bool false] 89)).heap[wr.heap.size]? = some (.cells #[.int .u64 x0, .int .i64 x1, .int .i64 (3 : Nat), .string x3, .bool false] 89 (0, 0))) := Lib.hid (heap_alloc_new wr _)
        have hz3 : (wr.alloc (.cells #[.int .u64 x0, .int .i64 x1, .int .i64 (3 : Nat), .string x3, .bool false] 89)).heap.size = wr.heap.size + 1 := by simp
        have G3 : Hid (Grow (fun k => R k ∧ k < w.heap.size ∨ w2.heap.size ≤ k) w2 (wr.alloc (.cells #[.int .u64 x0, .int .i64 x1, .int .i64 (3 : Nat), .string x3, .bool false] 89))) := Lib.hid (hgw.trans (Grow.of_below (F := fun _ => False) ha) (fun _ h => h.elim))
        have HP := Lib.hid (lput_any L3.out (fun q hq => ⟨.inr (by omega), by omega⟩) (by omega) x0 x1 x3 false q3 hbs)
        have HZ3 := Lib.hid hz3
        clear hl hgw ha q1 q3 q4 q5 hbs hz3
        go_wp2_with fail
        refine HP.out.mono ?_
        rintro e w4 ⟨rfl, hl, hgw⟩
        have hb4 : w4.heap[wr.heap.size]? = some (.cells #[.int .u64 x0, .int .i64 x1, .int .i64 (3 : Nat), .string x3, .bool false] 89 (0, 0)) := (hgw.block _ (by have := HZ3.out; omega) (fun h => h.2 rfl)).trans X3.out
        have k3 : w4.cell? ⟨wr.heap.size, 3, none⟩ = some (.string x3) := by simp [World.cell?, hb4]
        have k4 : w4.cell? ⟨wr.heap.size, 4, none⟩ = some (.bool false) := by simp [World.cell?, hb4]
        have f3 : w4.frozen? ⟨wr.heap.size, 3, none⟩ = false := by simp [World.frozen?, hb4]
        have f4 : w4.frozen? ⟨wr.heap.size, 4, none⟩ = false := by simp [World.frozen?, hb4]
        have hb5 : ((w4.setCell ⟨wr.heap.size, 4, none⟩ (.bool true)).setCell ⟨wr.heap.size, 3, none⟩ (.string ⟨#[]⟩)).heap[wr.heap.size]? = some (.cells #[.int .u64 x0, .int .i64 x1, .int .i64 (3 : Nat), .string ⟨#[]⟩, .bool true] 89 (0, 0)) := by
          rw [block_setCell (block_setCell hb4 _) _]
          rfl
        have hg5 : Grow (fun k => k = wr.heap.size) w4 ((w4.setCell ⟨wr.heap.size, 4, none⟩ (.bool true)).setCell ⟨wr.heap.size, 3, none⟩ (.string ⟨#[]⟩)) := (Grow.setCell (F := fun k => k = wr.heap.size) rfl _).trans (Grow.setCell (F := fun k => k = wr.heap.size) rfl _) (fun _ h => .inl h)
        have hz4 := hgw.size
        have L5 := Lib.hid (hl.grow hg5 (fun k hk _ e => hk.2 e))
        have G5 := Lib.hid (((G3.out.trans hgw (fun _ h => .inl h.1)).trans hg5 (fun k hk => .inl (.inr (by omega))) : Grow (fun k => R k ∧ k < w.heap.size ∨ w2.heap.size ≤ k) w2 _))
        have X5 := Lib.hid hb5
        have Z5 : Hid (wr.heap.size < ((w4.setCell ⟨wr.heap.size, 4, none⟩ (.bool true)).setCell ⟨wr.heap.size, 3, none⟩ (.string ⟨#[]⟩)).heap.size) := Lib.hid (Array.getElem?_eq_some_iff.1 hb5).1
        clear hl hgw hb4 hb5 hg5 L3 X3 G3
        go_upto_region 13 with fail
        generalize (w4.setCell ⟨wr.heap.size, 4, none⟩ (.bool true)).setCell ⟨wr.heap.size, 3, none⟩ (.string ⟨#[]⟩) = w5 at *
        have c14 := L5.out.drew.c14
        have hx5 : w5.drew.heap[wr.heap.size]? = _ := X5.out
        have b0 : w5.drew.cell? ⟨wr.heap.size, 0, none⟩ = some (.int .u64 x0) := by simp only [World.cell?, hx5]; rfl
        have b1 : w5.drew.cell? ⟨wr.heap.size, 1, none⟩ = some (.int .i64 x1) := by simp only [World.cell?, hx5]; rfl
        have b2 : w5.drew.cell? ⟨wr.heap.size, 2, none⟩ = some (.int .i64 3) := by simp only [World.cell?, hx5]; rfl
        have b3 : w5.drew.cell? ⟨wr.heap.size, 3, none⟩ = some (.string ⟨#[]⟩) := by simp only [World.cell?, hx5]; rfl
        have b4 : w5.drew.cell? ⟨wr.heap.size, 4, none⟩ = some (.bool true) := by simp only [World.cell?, hx5]; rfl
        have hfl : (flushS L k).live.length = len := by rw [HLN.out]; exact flushK_length _ _
        have HS : Hid (Calls Tryz.prog 69 #[.pointer (some ⟨r, 0, none⟩), .int .i64 k, .agg #[.int .u64 x0, .int .i64 x1, .int .i64 3, .string ⟨#[]⟩, .bool true]] w5.drew (AnsL (fun k => (R k ∧ k < w.heap.size ∨ w2.heap.size ≤ k) ∧ k ≠ wr.heap.size) g r b { flushS L k with live := (flushS L k).live.set k ⟨x0, x1, 3, ⟨#[]⟩, true⟩ } (n + 48 * k + 48) w5.drew (.bool true))) := Lib.hid (rset_any L5.out.drew (by omega) k (by rw [hfl]; exact hlt) ⟨x0, x1, 3, ⟨#[]⟩, true⟩)
        clear hx5 k3 k4 f3 f4 e0 e1 e2 e3 e4 hfl
        refine region_tail 6 (by kernel_rfl) (by kernel_rfl) ?_
        simp only [List.take_succ_cons, List.take_zero, List.drop_succ_cons, List.drop_zero]
        iterate 6 still_step
        refine wpStill_nil ?_
        go_wp2_with fail
        refine HS.out.mono ?_
        rintro e w6 ⟨rfl, hl, hgw⟩
        have hb6 : w6.heap[wr.heap.size]? = some (.cells #[.int .u64 x0, .int .i64 x1, .int .i64 (3 : Nat), .string ⟨#[]⟩, .bool true] 89 (0, 0)) := (hgw.block _ Z5.out (fun h => h.2 rfl)).trans X5.out
        have d0 : w6.cell? ⟨wr.heap.size, 0, none⟩ = some (.int .u64 x0) := by simp [World.cell?, hb6]
        have c12 := hl.c12
        have fz12 := hl.fz 12
        have hstep : ({ flushS L k with live := (flushS L k).live.set k ⟨x0, x1, 3, ⟨#[]⟩, true⟩, written := x0 } : LS) = flushS L (k + 1) := by
          unfold flushS
          rw [flushK_succ HX.out, wrK_succ HX.out, if_neg (fun h => by cases h)]
          rfl
        have hlf := hl.store (L' := flushS L (k + 1)) (i := 12) (x := .int .u64 x0) (by rw [← hstep]; rfl) (by rw [← hstep])
        have HREL : Hid (LP (fun k => R k ∧ k < w.heap.size ∨ w2.heap.size ≤ k) g r b (flushS L (k + 1)) (n + 48 * (k + 1)) (w6.setCell ⟨g, 12, none⟩ (.int .u64 x0)) ∧ Grow (fun k => R k ∧ k < w.heap.size ∨ w2.heap.size ≤ k) w2 (w6.setCell ⟨g, 12, none⟩ (.int .u64 x0))) := Lib.hid ⟨(hlf.mono (fun k hk _ => hk.1)).more (by omega),
          ((G5.out.trans (Grow.drew w5) (F' := fun _ => False) (fun _ h => h.elim)).trans hgw (fun _ h => .inl h.1)).trans (Grow.setCell (F := fun k => k = g) rfl _) (fun k hk => .inl (by rw [hk]; exact hl.gR.1))⟩
        clear hl hgw hb6 hstep hlf b0 b1 b2 b3 b4 c14
        have i1 : IntKind.i64.wrap (m + 1) = m + 1 := IntWalk.i64_in _ (by omega)
        go_wp2
        go_roundw
        case rel => exact ⟨k + 1, m + 1, by omega, by go_num, by go_num, by omega, by omega, HREL.out⟩
        case measure => simp [intOf]; omega
    · have hkn : k = len := by omega
      subst hkn
      have hfin : WriteTo R g r b (flushL L) (n + 96) w (.returned (.tuple #[.int .i64 m, .int .i64 0])) wr := by
        refine ⟨m, rfl, ?_, G2.out.trans hgw (fun k hk => ?_)⟩
        · rw [← flushS_all HG.out, ← HLN.out]
          exact (hl.mono (fun k hk _ => hk.elim (fun h => h.1) (fun h => HR.out k (by omega)))).more (by omega)
        · rcases hk with h | h
          · exact .inl h.1
          · exact .inr (by omega)
      have HF := Lib.hid hfin
      clear hl hgw hfin
      go_wp2
      go_ret2
      exact HF.out

set_option maxHeartbeats 2000000 in
theorem sync_any (h : LP R g r b L n w) (hg : LG L) (hR : ∀ k, w.heap.size ≤ k → R k) (hn : n ≤ 600000) :
    Calls Tryz.prog 24 #[.pointer (some ⟨g, 0, none⟩)] w (AnsL R g r b (syncL L) (n + 96) w (.int .i64 0)) := by
  have HW := Lib.hid (lwrite_any h hg hR hn)
  have HG := Lib.hid hg
  have HR := Lib.hid hR
  have hnx := hg.nx
  have hwn := hg.wn
  have hsw := hg.sw
  clear h hg hR
  go_enter Tryz.func24, Tryz.ntmps24
  go_wp2_with fail
  refine HW.out.mono ?_
  rintro e w2 ⟨c, rfl, hl, hgw⟩
  have L2 := Lib.hid hl
  have G2 := Lib.hid hgw
  have Z2 : Hid (w.heap.size ≤ w2.heap.size) := Lib.hid hgw.size
  have c12 : w2.drew.cell? ⟨g, 12, none⟩ = some (.int .u64 ((L.next - 1 : Nat) : Int)) := hl.c12
  have c13 : w2.drew.cell? ⟨g, 13, none⟩ = some (.int .u64 L.synced) := hl.c13
  clear hl hgw
  obtain ⟨N, hN⟩ : ∃ N, N = L.next - 1 := ⟨_, rfl⟩
  rw [← hN] at c12
  by_cases hgt : L.synced < N
  · have g1 : (L.synced : Int) < (N : Int) := by omega
    go_upto_region 4 with fail
    go_region
    have c0 := L2.out.drew.drew.c0
    have c6 := L2.out.drew.drew.c6
    have c7 := L2.out.drew.drew.c7
    have HB := Lib.hid (L2.out.drew.drew.barrier (fun k hk => HR.out k (Nat.le_trans Z2.out hk)) (by omega))
    go_upto_region 5 with fail
    refine region_tail 12 (by kernel_rfl) (by kernel_rfl) ?_
    simp only [List.take_succ_cons, List.take_zero, List.drop_succ_cons, List.drop_zero]
    iterate 12 still_step
    refine wpStill_nil ?_
    go_wp2_with fail
    refine HB.out.mono ?_
    rintro e w3 ⟨rfl, hl, hgw⟩
    have d12 : w3.cell? ⟨g, 12, none⟩ = some (.int .u64 N) := by rw [hN]; exact hl.c12
    have d13 := hl.c13
    have f13 := hl.fz 13
    have hlf := hl.store (L' := syncL L) (i := 13) (x := .int .u64 N) (by rw [hN]; rfl) rfl
    have HF : Hid (AnsL R g r b (syncL L) (n + 96) w (.int .i64 0) (.returned (.int .i64 0)) (w3.setCell ⟨g, 13, none⟩ (.int .u64 N))) := Lib.hid ⟨rfl, hlf, (((G2.out.trans (Grow.drew w2) (F' := fun _ => False) (fun _ h => h.elim)).trans (Grow.drew _) (F' := fun _ => False) (fun _ h => h.elim)).trans hgw (fun _ h => .inl h)).trans (Grow.setCell (F := fun k => k = g) rfl _) (fun k hk => .inl (by rw [hk]; exact hl.gR))⟩
    clear hl hgw hlf c0 c6 c7 c12 c13 hN
    go_wp2
    go_ret
    exact HF.out
  · have g1 : ¬ (L.synced : Int) < (N : Int) := by omega
    have hs : syncL L = flushL L := by
      unfold syncL flushL
      have : L.next - 1 = L.synced := by omega
      rw [this]
    have HF : Hid (AnsL R g r b (syncL L) (n + 96) w (.int .i64 0) (.returned (.int .i64 0)) w2.drew) := Lib.hid ⟨rfl, by rw [hs]; exact L2.out.drew, G2.out.trans (Grow.drew w2) (F' := fun _ => False) (fun _ h => h.elim)⟩
    clear hN hs
    go_upto_region 4 with fail
    go_region
    go_wp2
    go_ret
    exact HF.out
end

end Go.Proofs.YtkgdpmeheakdcaaGreat
