import Derived.Test.YtkgdpmeheakdcaaGreatRecC
import Derived.Maps.AppendAt
/- The log as plain data, in memory beside its disk. -/
namespace Go.Proofs.YtkgdpmeheakdcaaGreat
open Go.RowKit
set_option linter.all false
set_option maxRecDepth 100000

/-- A record that is not free. -/
structure En where
  lsn : Nat
  pl : Nat
  n : Nat
  bs : ByteArray
  wr : Bool
def En.cells (x : En) : List Value := [.int .u64 x.lsn, .int .i64 x.pl, .int .i64 x.n, .string x.bs, .bool x.wr]
def enCells (l : List En) : List Value := l.flatMap En.cells
theorem enCells_length (l : List En) : (enCells l).length = l.length * 5 := by
  induction l with
  | nil => rfl
  | cons x l ih =>
    have : enCells (x :: l) = x.cells ++ enCells l := rfl
    rw [this, List.length_append, ih]
    simp [En.cells]
    omega
theorem enCells_get (l : List En) (k j : Nat) (hk : k < l.length) (hj : j < 5) : (enCells l)[k * 5 + j]? = l[k].cells[j]? := by
  induction l generalizing k with
  | nil => simp at hk
  | cons x l ih =>
    have e : enCells (x :: l) = x.cells ++ enCells l := rfl
    have hx : x.cells.length = 5 := rfl
    rw [e]
    cases k with
    | zero =>
      rw [Nat.zero_mul, Nat.zero_add, List.getElem?_append_left (by rw [hx]; exact hj)]
      rfl
    | succ k =>
      rw [List.getElem?_append_right (by rw [hx]; omega), hx, show (k + 1) * 5 + j - 5 = k * 5 + j by omega, ih k (by simpa using hk)]
      rfl
theorem enCells_one (l : List En) : ∀ u ∈ enCells l, u.oneCell' = true := by
  intro u hu
  obtain ⟨x, hx, hux⟩ := List.mem_flatMap.1 hu
  simp only [En.cells, List.mem_cons, List.not_mem_nil, or_false] at hux
  rcases hux with rfl | rfl | rfl | rfl | rfl <;> rfl
theorem enCells_append (l m : List En) : enCells (l ++ m) = enCells l ++ enCells m := by simp [enCells]
theorem enCells_drop (l : List En) (k : Nat) : (enCells l).drop (k * 5) = enCells (l.drop k) := by
  induction l generalizing k with
  | nil => simp [enCells]
  | cons x l ih =>
    have e : enCells (x :: l) = x.cells ++ enCells l := rfl
    have hx : x.cells.length = 5 := rfl
    cases k with
    | zero => simp
    | succ k =>
      rw [e, List.drop_append, hx, List.drop_of_length_le (by rw [hx]; omega), List.nil_append, show (k + 1) * 5 - 5 = k * 5 by omega, ih k]
      rfl
theorem en_cell {w : World} {g cap : Nat} {l : List En} {base : Nat} (h : w.ownsRow base 89 5 (.slice (some ⟨g, 0, none⟩) l.length cap) l.length (enCells l)) (k : Nat) (x : En) (hx : l[k]? = some x) (j : Nat) (hj : j < 5) :
    w.cell? ⟨g, k * 5 + j, none⟩ = x.cells[j]? := by
  obtain ⟨hk, rfl⟩ := List.getElem?_eq_some_iff.1 hx
  have hl : k * 5 + j < (enCells l).length := by rw [enCells_length]; omega
  have hc := h.cells (g := g) rfl (k * 5 + j) ((enCells l)[k * 5 + j]) (List.getElem?_eq_getElem hl)
  rw [Addr.add_lit, Nat.zero_add] at hc
  rw [hc, ← enCells_get l k j hk hj, List.getElem?_eq_getElem hl]

/-- What a log is. -/
structure LS where
  next : Nat
  first : Nat
  pl : Nat
  written : Nat
  synced : Nat
  live : List En
def LS.cells (L : LS) (b r : Nat) : Array Value :=
  #[.pointer (some ⟨b, 0, none⟩), .int .i64 2, .int .i64 10, .int .i64 8, .int .i64 4, .int .i64 32, .int .i64 1, .int .u64 9, .int .i64 1, .int .u64 L.next, .int .u64 L.first, .int .i64 L.pl, .int .u64 L.written, .int .u64 L.synced, .pointer (some ⟨r, 0, none⟩), .bool false]

/-- The disk that the laws' log writes. -/
structure DI (n : Nat) (D : DS) : Prop where
  lv : Lv 1 D
  good : Good n D
  sec : D.sectors = 37
  tab : D.table.getD 1 0 = 9
theorem DI.more {n m : Nat} {D : DS} (h : DI n D) (hm : n ≤ m) : DI m D := ⟨h.lv, h.good.more hm, h.sec, h.tab⟩
theorem DI.write {n : Nat} {D : DS} (h : DI n D) (a : Int) (data : ByteArray) (q : Nat) (hs : data.size = 64 * q) (q1 : 1 ≤ q) (q2 : q ≤ 16) (ha : 0 ≤ a) (hb : a + q ≤ 37) : ∃ D', writeR D 1 9 a data = (0, D') ∧ DI (n + 16) D' := by
  refine ⟨_, writeR_way q h.lv.on (goesD_off h.lv.armed).2 (by decide) (by decide) (by decide) h.tab hs q1 q2 ha (by rw [h.sec]; exact hb), ?_⟩
  rw [(goesD_off h.lv.armed).1]
  exact ⟨h.lv.wrN a data q, (h.good.wrN 1 a data q (by omega)).more (by omega), by rw [wrN_sectors, h.sec], by rw [wrN_table, h.tab]⟩
theorem DI.barrier {n : Nat} {D : DS} (h : DI n D) : ∃ D', barrierR D 1 9 = (0, D') ∧ DI n D' := by
  refine ⟨_, barrierR_way h.lv.on (goesD_off h.lv.armed).2 (by decide) (by decide) (by decide) h.tab, ?_⟩
  rw [(goesD_off h.lv.armed).1]
  exact ⟨h.lv.settle, h.good.settle 1, h.sec, h.tab⟩
theorem di9 : DI 49 dk9 := ⟨dk9_lv 1, good_dk9, dk9_sectors, by rw [dk9_table]; rfl⟩

/-- The log at g with its ring at r, on the disk at b. -/
structure LogSt (R F : Nat → Prop) (g r b : Nat) (v : Value) (D : DS) (L : LS) (n : Nat) (w : World) : Prop where
  disk : DiskAt F b D w
  di : DI n D
  blk : w.heap[g]? = some (.cells (L.cells b r) 61 (0, 0))
  ring : w.heap[r]? = some (.cells #[v, .int .i64 100000] 143 (0, 0))
  own : w.ownsRow 0 89 5 v L.live.length (enCells L.live)
  fR : ∀ k, F k → R k
  gR : R g
  rR : R r
  vR : ∀ k, v.ownBlock = some k → R k
  gF : ¬ F g
  rF : ¬ F r
  vF : ∀ k, v.ownBlock = some k → ¬ F k
def LP (R : Nat → Prop) (g r b : Nat) (L : LS) (n : Nat) (w : World) : Prop := ∃ F v D, LogSt R F g r b v D L n w
/-- What a call of a log's method leaves. -/
def AnsL (R : Nat → Prop) (g r b : Nat) (L : LS) (n : Nat) (w : World) (v : Value) (e : Ending) (w' : World) : Prop := e = .returned v ∧ LP R g r b L n w' ∧ Grow R w w'

section
variable {R F : Nat → Prop} {g r b n : Nat} {v : Value} {D : DS} {L : LS} {w w' : World}
theorem DiskAt.flt (h : DiskAt F b D w) : ∀ k, F k → k < w.heap.size := by
  obtain ⟨nb, lb, wv, sv, hd⟩ := h
  exact hd.flt
theorem LogSt.glt (h : LogSt R F g r b v D L n w) : g < w.heap.size := (Array.getElem?_eq_some_iff.1 h.blk).1
theorem LogSt.rlt (h : LogSt R F g r b v D L n w) : r < w.heap.size := (Array.getElem?_eq_some_iff.1 h.ring).1
theorem LogSt.vlt (h : LogSt R F g r b v D L n w) {k : Nat} (hk : v.ownBlock = some k) : k < w.heap.size := by
  obtain ⟨_, cur, hh⟩ := ownsRow_block h.own hk
  exact (Array.getElem?_eq_some_iff.1 hh).1
theorem LogSt.gr (h : LogSt R F g r b v D L n w) : g ≠ r := by
  rintro rfl
  have := h.blk.symm.trans h.ring
  simp at this
theorem LogSt.gv (h : LogSt R F g r b v D L n w) : v.ownBlock ≠ some g := fun e => by
  obtain ⟨_, cur, hh⟩ := ownsRow_block h.own e
  rw [h.blk] at hh
  simp at hh
theorem LogSt.rv (h : LogSt R F g r b v D L n w) : v.ownBlock ≠ some r := fun e => by
  obtain ⟨_, cur, hh⟩ := ownsRow_block h.own e
  rw [h.ring] at hh
  simp at hh
/-- Blocks that agree. -/
theorem LogSt.agree (h : LogSt R F g r b v D L n w) (hs : ∀ k, R k → k < w.heap.size → w'.heap[k]? = w.heap[k]?) (hz : w.heap.size ≤ w'.heap.size) : LogSt R F g r b v D L n w' := by
  have hd := h.disk
  obtain ⟨nb, lb, wv, sv, hi⟩ := hd
  exact ⟨⟨nb, lb, wv, sv, hi.of_agree (fun k hk => hs k (h.fR k hk) (hi.flt k hk)) hz⟩, h.di, (hs g h.gR h.glt).trans h.blk, (hs r h.rR h.rlt).trans h.ring,
    ownsRow_of_same h.own (fun k hk => hs k (h.vR k hk) (h.vlt hk)), h.fR, h.gR, h.rR, h.vR, h.gF, h.rF, h.vF⟩
theorem LP.below (h : LP R g r b L n w) (hb : Below w.heap.size w w') : LP R g r b L n w' := by
  obtain ⟨F, v, D, h⟩ := h
  exact ⟨F, v, D, h.agree (fun k _ hk => hb.block k hk) hb.size⟩
theorem LP.grow {G : Nat → Prop} (h : LP R g r b L n w) (hg : Grow G w w') (hG : ∀ k, R k → k < w.heap.size → ¬ G k) : LP R g r b L n w' := by
  obtain ⟨F, v, D, h⟩ := h
  exact ⟨F, v, D, h.agree (fun k hR hk => hg.block k hk (hG k hR hk)) hg.size⟩
theorem LP.mono {R' : Nat → Prop} (h : LP R g r b L n w) (hR : ∀ k, R k → k < w.heap.size → R' k) : LP R' g r b L n w := by
  obtain ⟨F, v, D, h⟩ := h
  exact ⟨F, v, D, h.disk, h.di, h.blk, h.ring, h.own, fun k hk => hR k (h.fR k hk) (h.disk.flt k hk), hR g h.gR h.glt, hR r h.rR h.rlt, fun k hk => hR k (h.vR k hk) (h.vlt hk), h.gF, h.rF, h.vF⟩
theorem LP.more {m : Nat} (h : LP R g r b L n w) (hm : n ≤ m) : LP R g r b L m w := by
  obtain ⟨F, v, D, h⟩ := h
  exact ⟨F, v, D, h.disk, h.di.more hm, h.blk, h.ring, h.own, h.fR, h.gR, h.rR, h.vR, h.gF, h.rF, h.vF⟩
theorem LP.blk (h : LP R g r b L n w) : w.heap[g]? = some (.cells (L.cells b r) 61 (0, 0)) := by
  obtain ⟨F, v, D, h⟩ := h
  exact h.blk
theorem LP.lt (h : LP R g r b L n w) : g < w.heap.size := by
  obtain ⟨F, v, D, h⟩ := h
  exact h.glt
theorem LP.gR (h : LP R g r b L n w) : R g := by
  obtain ⟨F, v, D, h⟩ := h
  exact h.gR
theorem LP.cell (h : LP R g r b L n w) (i : Nat) : w.cell? ⟨g, i, none⟩ = (L.cells b r)[i]? := by simp [World.cell?, h.blk]
theorem LP.fz (h : LP R g r b L n w) (i : Nat) : w.frozen? ⟨g, i, none⟩ = false := by simp [World.frozen?, h.blk]
theorem LP.c0 (h : LP R g r b L n w) : w.cell? ⟨g, 0, none⟩ = some (.pointer (some ⟨b, 0, none⟩)) := h.cell 0
theorem LP.c3 (h : LP R g r b L n w) : w.cell? ⟨g, 3, none⟩ = some (.int .i64 8) := h.cell 3
theorem LP.c6 (h : LP R g r b L n w) : w.cell? ⟨g, 6, none⟩ = some (.int .i64 1) := h.cell 6
theorem LP.c7 (h : LP R g r b L n w) : w.cell? ⟨g, 7, none⟩ = some (.int .u64 9) := h.cell 7
theorem LP.c8 (h : LP R g r b L n w) : w.cell? ⟨g, 8, none⟩ = some (.int .i64 1) := h.cell 8
theorem LP.c9 (h : LP R g r b L n w) : w.cell? ⟨g, 9, none⟩ = some (.int .u64 L.next) := h.cell 9
theorem LP.c10 (h : LP R g r b L n w) : w.cell? ⟨g, 10, none⟩ = some (.int .u64 L.first) := h.cell 10
theorem LP.c11 (h : LP R g r b L n w) : w.cell? ⟨g, 11, none⟩ = some (.int .i64 L.pl) := h.cell 11
theorem LP.c12 (h : LP R g r b L n w) : w.cell? ⟨g, 12, none⟩ = some (.int .u64 L.written) := h.cell 12
theorem LP.c13 (h : LP R g r b L n w) : w.cell? ⟨g, 13, none⟩ = some (.int .u64 L.synced) := h.cell 13
theorem LP.c14 (h : LP R g r b L n w) : w.cell? ⟨g, 14, none⟩ = some (.pointer (some ⟨r, 0, none⟩)) := h.cell 14
theorem LP.c15 (h : LP R g r b L n w) : w.cell? ⟨g, 15, none⟩ = some (.bool false) := h.cell 15

/-- A store into the log's own block. -/
theorem LP.store {L' : LS} {i : Nat} {x : Value} (h : LP R g r b L n w) (he : (L.cells b r).setIfInBounds i x = L'.cells b r) (hl : L'.live = L.live) : LP R g r b L' n (w.setCell ⟨g, i, none⟩ x) := by
  obtain ⟨F, v, D, h⟩ := h
  obtain ⟨nb, lb, wv, sv, hd⟩ := h.disk
  have hg : Grow (fun k => k = g) w (w.setCell ⟨g, i, none⟩ x) := Grow.setCell (F := fun k => k = g) rfl x
  refine ⟨F, v, D, ⟨nb, lb, wv, sv, hd.grow hg (fun k hk e => h.gF (e ▸ hk))⟩, h.di, ?_, ?_, ?_, h.fR, h.gR, h.rR, h.vR, h.gF, h.rF, h.vF⟩
  · rw [block_setCell h.blk, he]
  · rw [block_setCell_ne h.gr.symm]; exact h.ring
  · rw [hl]
    exact ownsRow_of_same h.own (fun k hk => block_setCell_ne (fun e => h.gv (by rw [hk, e])) _)

/-- The disk writes. -/
theorem LP.write (h : LP R g r b L n w) (hR : ∀ k, w.heap.size ≤ k → R k) (hn : n ≤ 800000) (a : Int) (data : ByteArray) (q : Nat) (hs : data.size = 64 * q) (q1 : 1 ≤ q) (q2 : q ≤ 16) (ha : 0 ≤ a) (hb : a + q ≤ 37) :
    Calls Tryz.prog 44 #[.pointer (some ⟨b, 0, none⟩), .int .i64 1, .int .u64 9, .int .i64 a, .string data] w (AnsL R g r b L (n + 16) w (.int .i64 0)) := by
  obtain ⟨F, v, D, h⟩ := h
  obtain ⟨D', hw, hdi⟩ := h.di.write a data q hs q1 q2 ha hb
  have hdp : DiskP (fun k => F k ∨ w.heap.size ≤ k) b D w := ⟨F, h.disk, fun k hk => .inl hk⟩
  have H := stepP_write hdp h.di.good (by omega) (fun k hk => .inr hk) 1 9 a data (by omega)
  rw [hw] at H
  refine H.mono ?_
  rintro e w' ⟨rfl, ⟨F', hd, hF'⟩, hg⟩
  have ag : ∀ k, ¬ F k → k < w.heap.size → w'.heap[k]? = w.heap[k]? := fun k hk hz => hg.block k hz (fun hh => hh.elim hk (fun h => by omega))
  have nf : ∀ k, ¬ F k → k < w.heap.size → ¬ F' k := fun k hk hz hf => (hF' k hf).elim hk (fun h => by omega)
  refine ⟨rfl, ⟨F', v, D', hd, hdi, (ag g h.gF h.glt).trans h.blk, (ag r h.rF h.rlt).trans h.ring, ownsRow_of_same h.own (fun k hk => ag k (h.vF k hk) (h.vlt hk)), fun k hk => (hF' k hk).elim (h.fR k) (hR k), h.gR, h.rR, h.vR, nf g h.gF h.glt, nf r h.rF h.rlt, fun k hk => nf k (h.vF k hk) (h.vlt hk)⟩, hg.mono (fun k hk => hk.elim (h.fR k) (hR k))⟩
theorem LP.barrier (h : LP R g r b L n w) (hR : ∀ k, w.heap.size ≤ k → R k) (hn : n ≤ 800000) :
    Calls Tryz.prog 64 #[.pointer (some ⟨b, 0, none⟩), .int .i64 1, .int .u64 9] w (AnsL R g r b L n w (.int .i64 0)) := by
  obtain ⟨F, v, D, h⟩ := h
  obtain ⟨D', hw, hdi⟩ := h.di.barrier
  have hdp : DiskP (fun k => F k ∨ w.heap.size ≤ k) b D w := ⟨F, h.disk, fun k hk => .inl hk⟩
  have H := stepP_barrier hdp h.di.good (by omega) (fun k hk => .inr hk) 1 9
  rw [hw] at H
  refine H.mono ?_
  rintro e w' ⟨rfl, ⟨F', hd, hF'⟩, hg⟩
  have ag : ∀ k, ¬ F k → k < w.heap.size → w'.heap[k]? = w.heap[k]? := fun k hk hz => hg.block k hz (fun hh => hh.elim hk (fun h => by omega))
  have nf : ∀ k, ¬ F k → k < w.heap.size → ¬ F' k := fun k hk hz hf => (hF' k hf).elim hk (fun h => by omega)
  refine ⟨rfl, ⟨F', v, D', hd, hdi, (ag g h.gF h.glt).trans h.blk, (ag r h.rF h.rlt).trans h.ring, ownsRow_of_same h.own (fun k hk => ag k (h.vF k hk) (h.vlt hk)), fun k hk => (hF' k hk).elim (h.fR k) (hR k), h.gR, h.rR, h.vR, nf g h.gF h.glt, nf r h.rF h.rlt, fun k hk => nf k (h.vF k hk) (h.vlt hk)⟩, hg.mono (fun k hk => hk.elim (h.fR k) (hR k))⟩

/-! The small methods. -/
theorem none_any (h : LP R g r b L n w) : Calls Tryz.prog 61 #[.pointer (some ⟨g, 0, none⟩)] w fun e w' => e = .returned (.bool false) ∧ w = w' := by
  have c0 := h.c0
  clear h
  go_enter Tryz.func61, Tryz.ntmps61
  go_wp2
  go_ret
  exact ⟨rfl, rfl⟩
theorem size_log (h : LP R g r b L n w) : Calls Tryz.prog 60 #[.pointer (some ⟨g, 0, none⟩)] w fun e w' => e = .returned (.int .i64 7) ∧ w = w' := by
  have c3 := h.c3
  clear h
  go_enter Tryz.func60, Tryz.ntmps60
  go_wp2
  go_ret
  exact ⟨rfl, rfl⟩
theorem may_log (h : LP R g r b L n w) : Calls Tryz.prog 55 #[.pointer (some ⟨g, 0, none⟩)] w fun e w' => e = .returned (.int .i64 0) ∧ w = w' := by
  have c15 := h.c15
  have HN := Lib.hid (none_any h)
  clear h
  go_enter Tryz.func55, Tryz.ntmps55
  go_wp2_with fail
  refine HN.out.mono ?_
  rintro e w1 ⟨rfl, rfl⟩
  go_wp2
  go_ret
  exact ⟨rfl, rfl⟩
theorem next_any (h : LP R g r b L n w) : Calls Tryz.prog 18 #[.pointer (some ⟨g, 0, none⟩)] w fun e w' => e = .returned (.int .u64 L.next) ∧ w = w' := by
  have c9 := h.c9
  have HN := Lib.hid (none_any h)
  clear h
  go_enter Tryz.func18, Tryz.ntmps18
  go_wp2_with fail
  refine HN.out.mono ?_
  rintro e w1 ⟨rfl, rfl⟩
  go_wp2
  go_ret
  exact ⟨rfl, rfl⟩
theorem synced_any (h : LP R g r b L n w) : Calls Tryz.prog 28 #[.pointer (some ⟨g, 0, none⟩)] w fun e w' => e = .returned (.int .u64 L.synced) ∧ w = w' := by
  have c13 := h.c13
  have HN := Lib.hid (none_any h)
  clear h
  go_enter Tryz.func28, Tryz.ntmps28
  go_wp2_with fail
  refine HN.out.mono ?_
  rintro e w1 ⟨rfl, rfl⟩
  go_wp2
  go_ret
  exact ⟨rfl, rfl⟩
theorem broken_any (h : LP R g r b L n w) : Calls Tryz.prog 21 #[.pointer (some ⟨g, 0, none⟩)] w fun e w' => e = .returned (.bool false) ∧ w = w' := by
  have c15 := h.c15
  have HN := Lib.hid (none_any h)
  clear h
  go_enter Tryz.func21, Tryz.ntmps21
  go_wp2_with fail
  refine HN.out.mono ?_
  rintro e w1 ⟨rfl, rfl⟩
  go_wp2
  go_ret
  exact ⟨rfl, rfl⟩
end

end Go.Proofs.YtkgdpmeheakdcaaGreat

/- The ring of a log: List, Len, Room, Used, Pending, Fits: walks. -/
namespace Go.Proofs.YtkgdpmeheakdcaaGreat
open Go.RowKit
set_option linter.all false
set_option maxRecDepth 100000

theorem infoEn : (Tryz.prog.info? 89).map (fun i => (i.zero, i.size, i.bytes)) = some (some (.agg #[.int .u64 0, .int .i64 0, .int .i64 0, .string ByteArray.empty, .bool false]), 5, 48) := by kernel_rfl

section
variable {R F : Nat → Prop} {g r b n : Nat} {v : Value} {D : DS} {L : LS} {w w' : World}

theorem rcell0 (h : LogSt R F g r b v D L n w) : w.cell? ⟨r, 0, none⟩ = some v := by simp [World.cell?, h.ring]
theorem rcell1 (h : LogSt R F g r b v D L n w) : w.cell? ⟨r, 1, none⟩ = some (.int .i64 100000) := by simp [World.cell?, h.ring]
theorem LogSt.nilEmpty (h : LogSt R F g r b v D L n w) (hv : v = .slice none 0 0) : L.live = [] := by
  subst hv
  rcases h.own.2 with ⟨_, h0⟩ | ⟨_, _, _, h0, _⟩
  · exact List.eq_nil_of_length_eq_zero h0
  · cases h0

theorem list_any (h : LP R g r b L n w) (hl : L.live.length ≤ 1000) : Calls Tryz.prog 62 #[.pointer (some ⟨r, 0, none⟩)] w (RetOwn w 89 5 L.live.length (enCells L.live)) := by
  obtain ⟨F, v, D, h⟩ := h
  have c0 := rcell0 h
  obtain ⟨ao, cap, hv, hncap, hcapm, hno⟩ := ownsRow_shape h.own
  cases ao with
  | none =>
    obtain ⟨h1, h2⟩ := hno rfl
    have he : L.live = [] := List.eq_nil_of_length_eq_zero h1
    have hvn : v = .slice none 0 0 := by rw [hv, h1, h2]
    rw [he]
    subst hvn
    clear h hv he h1 h2 hncap hcapm hno
    go_enter Tryz.func62, Tryz.ntmps62
    go_wp2
    go_ret
    exact ⟨_, rfl, World.ownsRow_nil _ _ _ _, World.grownBy.refl _ _⟩
  | some a =>
    subst hv
    have HC : Hid (∀ j u, (enCells L.live)[j]? = some u → w.cell? (a.add j) = some u) := Lib.hid (fun j u hj => by
      rcases h.own.2 with ⟨h0, _⟩ | ⟨gg, cap', cur, h0, _⟩
      · cases h0
      · have e : a = ⟨gg, 0, none⟩ := by
          simp at h0
          exact h0.1
        subst e
        exact h.own.cells rfl j u hj)
    have HL : Hid ((enCells L.live).length = L.live.length * 5) := Lib.hid (enCells_length _)
    have H1 := Lib.hid (enCells_one L.live)
    obtain ⟨i0, hi, hz0, hz1, hz2⟩ := info_parts infoEn
    have hmx : 1000 ≤ maxLen := by decide
    clear h hno
    generalize enCells L.live = XS at *
    generalize L.live.length = len at *
    go_enter Tryz.func62, Tryz.ntmps62
    go_wp2_with (at_builtin; refine wpList_append_own_at _ rfl _ _ 96 rfl w.heap.size 89 i0 _ 5 48 Tryz.underlying96 hi hz0 hz1 hz2 rfl (by decide) (.slice none 0 0) 0 [] rfl (World.ownsRow_nil _ _ _ _) a len cap XS rfl HL.out HC.out H1.out (by omega) (by omega) (Nat.le_refl _) ?_; intro v' w' hown' hgrow' hnil' hloc')
    go_ret
    exact ⟨_, rfl, by simpa using hown', hgrow'⟩

theorem len_any (h : LP R g r b L n w) (hl : L.live.length ≤ 1000) : Calls Tryz.prog 67 #[.pointer (some ⟨r, 0, none⟩)] w fun e w' => e = .returned (.int .i64 L.live.length) ∧ w = w' := by
  obtain ⟨F, v, D, h⟩ := h
  have c0 := rcell0 h
  obtain ⟨ao, cap, hv, hncap, hcapm, hno⟩ := ownsRow_shape h.own
  subst hv
  clear h hno
  generalize L.live.length = len at *
  go_enter Tryz.func67, Tryz.ntmps67
  go_wp2
  go_ret
  exact ⟨rfl, rfl⟩

theorem room_any (h : LP R g r b L n w) (hl : L.live.length ≤ 1000) : Calls Tryz.prog 108 #[.pointer (some ⟨r, 0, none⟩)] w fun e w' => e = .returned (.int .i64 (100000 - (L.live.length : Int))) ∧ Grow (fun _ => False) w w' := by
  obtain ⟨F, v, D, h⟩ := h
  have c0 := rcell0 h
  have c1 := rcell1 h
  obtain ⟨ao, cap, hv, hncap, hcapm, hno⟩ := ownsRow_shape h.own
  subst hv
  clear h hno
  generalize L.live.length = len at *
  have i1 : IntKind.i64.wrap (100000 - (len : Int)) = 100000 - (len : Int) := IntWalk.i64_in _ (by omega)
  go_enter Tryz.func108, Tryz.ntmps108
  go_wp2
  go_region
  go_wp2
  go_ret
  exact ⟨rfl, Grow.drew _⟩

/-- The sectors of the records that are not free. -/
def usedN (l : List En) : Nat → Nat
  | 0 => 0
  | k + 1 => usedN l k + (match l[k]? with | some x => x.n | none => 0)
theorem usedN_succ {l : List En} {k : Nat} {x : En} (h : l[k]? = some x) : usedN l (k + 1) = usedN l k + x.n := by simp [usedN, h]
theorem usedN_le {l : List En} (h : ∀ x ∈ l, x.n ≤ 1000) : ∀ k, usedN l k ≤ 1000 * k
  | 0 => Nat.le_refl _
  | k + 1 => by
    have := usedN_le h k
    cases hk : l[k]? with
    | none => simp only [usedN, hk]; omega
    | some x => have := h x (List.mem_of_getElem? hk); simp only [usedN, hk]; omega

set_option maxHeartbeats 1000000 in
theorem used_any (h : LP R g r b L n w) (hl : L.live.length ≤ 1000) (hn : ∀ x ∈ L.live, x.n ≤ 1000) :
    Calls Tryz.prog 19 #[.pointer (some ⟨g, 0, none⟩)] w fun e w' => e = .returned (.int .i64 (usedN L.live L.live.length)) ∧ Below w.heap.size w w' := by
  have c14 := h.c14
  have HN := Lib.hid (none_any h)
  have HL := Lib.hid (list_any h hl)
  have HU := Lib.hid (usedN_le hn)
  obtain ⟨l, hll⟩ : ∃ l, l = L.live := ⟨_, rfl⟩
  rw [← hll] at HL HU hl ⊢
  clear h hn hll
  go_enter Tryz.func19, Tryz.ntmps19
  go_wp2_with fail
  refine HN.out.mono ?_
  rintro e w1 ⟨rfl, rfl⟩
  go_wp2_with fail
  refine HL.out.mono ?_
  rintro e w2 ⟨u, rfl, hown, hgr⟩
  have hb2 : Below w.heap.size w w2 := (Grow.of_grownBy (F := fun _ => False) hgr (fun _ h => by cases h)).below (Nat.le_refl _) (fun _ h => h.elim)
  have B2 := Lib.hid hb2
  obtain ⟨uo, ucap, hu, hncap, hcapm, huno⟩ := ownsRow_shape hown
  subst hu
  have HO := Lib.hid hown
  obtain ⟨len, hlen⟩ : ∃ len, len = l.length := ⟨_, rfl⟩
  rw [← hlen] at hl HO hncap ⊢
  have HLN := Lib.hid hlen
  clear hown hgr hb2 huno hlen
  go_wp2
  go_loopw [3, 14] (fun c i wr => ∃ k : Nat, k ≤ len ∧ i = .int .i64 k ∧ c = .int .i64 (usedN l k) ∧ Below w.heap.size w wr ∧ Below w2.heap.size w2 wr) (fun _ i _ => len - (intOf i).toNat)
  case atStart => exact ⟨0, Nat.zero_le _, rfl, rfl, B2.out, Below.refl _ _⟩
  case round =>
    obtain ⟨k, hk, rfl, rfl, hb, hb2⟩ := hrel
    have HB := Lib.hid hb
    have HB2 := Lib.hid hb2
    by_cases hlt : k < len
    · obtain ⟨x, hx⟩ : ∃ x, l[k]? = some x := ⟨_, List.getElem?_eq_getElem (show k < l.length by rw [← HLN.out]; exact hlt)⟩
      obtain ⟨q, rfl⟩ : ∃ q, uo = some ⟨q, 0, none⟩ := by
        rcases HO.out.2 with ⟨-, h0⟩ | ⟨q, cap', cur, he, -⟩
        · omega
        · simp at he
          exact ⟨q, he.1⟩
      have ho := HO.out
      have hq := ownsRow_block ho (g := q) rfl
      obtain ⟨_, cur, hqh⟩ := hq
      have hqlt := (Array.getElem?_eq_some_iff.1 hqh).1
      rw [HLN.out] at ho
      have hcc : ∀ m, wr.cell? ⟨q, m, none⟩ = w2.cell? ⟨q, m, none⟩ := fun m => World.cell?_of_block (hb2.block q hqlt)
      have e0 := (hcc _).trans (en_cell ho k x hx 0 (by omega))
      have e1 := (hcc _).trans (en_cell ho k x hx 1 (by omega))
      have e2 := (hcc _).trans (en_cell ho k x hx 2 (by omega))
      have e3 := (hcc _).trans (en_cell ho k x hx 3 (by omega))
      have e4 := (hcc _).trans (en_cell ho k x hx 4 (by omega))
      simp only [En.cells, List.getElem?_cons_zero, List.getElem?_cons_succ, Nat.add_zero] at e0 e1 e2 e3 e4
      have hsn := usedN_succ hx
      have hu1 := HU.out k
      have hu2 := HU.out (k + 1)
      have hkc : k < ucap := by omega
      obtain ⟨x0, x1, x2, x3, x4⟩ := x
      dsimp only at e0 e1 e2 e3 e4 hsn
      have HSN : Hid (((usedN l (k + 1) : Nat) : Int) = (usedN l k : Int) + (x2 : Int)) := Lib.hid (by rw [hsn]; omega)
      rw [hsn] at hu2
      clear hb hb2 ho hqh hcc hx hsn
      generalize usedN l k = U at *
      have i1 : IntKind.i64.wrap ((U : Int) + (x2 : Int)) = (U : Int) + (x2 : Int) := IntWalk.i64_in _ (by omega)
      go_wp2
      go_roundw
      case rel => exact ⟨k + 1, by omega, by go_num, by rw [HSN.out], HB.out.alloc HB.out.size _, HB2.out.alloc HB2.out.size _⟩
      case measure => simp [intOf]; omega
    · have hkn : k = len := by omega
      subst hkn
      clear hb hb2
      go_wp2
      go_ret
      exact ⟨by rw [← HLN.out]; rfl, HB.out⟩

/-- How many records are not written. -/
def pendN (l : List En) : Nat → Nat
  | 0 => 0
  | k + 1 => pendN l k + (match l[k]? with | some x => if x.wr = true then 0 else 1 | none => 0)
theorem pendN_succ {l : List En} {k : Nat} {x : En} (h : l[k]? = some x) : pendN l (k + 1) = pendN l k + (if x.wr = true then 0 else 1) := by simp [pendN, h]
theorem pendN_le (l : List En) : ∀ k, pendN l k ≤ k
  | 0 => Nat.le_refl _
  | k + 1 => by
    have := pendN_le l k
    cases hk : l[k]? with
    | none => simp only [pendN, hk]; omega
    | some x => simp only [pendN, hk]; split <;> omega

set_option maxHeartbeats 1000000 in
theorem pending_any (h : LP R g r b L n w) (hl : L.live.length ≤ 1000) :
    Calls Tryz.prog 20 #[.pointer (some ⟨g, 0, none⟩)] w fun e w' => e = .returned (.int .i64 (pendN L.live L.live.length)) ∧ Below w.heap.size w w' := by
  have c14 := h.c14
  have HN := Lib.hid (none_any h)
  have HL := Lib.hid (list_any h hl)
  obtain ⟨l, hll⟩ : ∃ l, l = L.live := ⟨_, rfl⟩
  rw [← hll] at HL hl ⊢
  clear h hll
  go_enter Tryz.func20, Tryz.ntmps20
  go_wp2_with fail
  refine HN.out.mono ?_
  rintro e w1 ⟨rfl, rfl⟩
  go_wp2_with fail
  refine HL.out.mono ?_
  rintro e w2 ⟨u, rfl, hown, hgr⟩
  have hb2 : Below w.heap.size w w2 := (Grow.of_grownBy (F := fun _ => False) hgr (fun _ h => by cases h)).below (Nat.le_refl _) (fun _ h => h.elim)
  have B2 := Lib.hid hb2
  obtain ⟨uo, ucap, hu, hncap, hcapm, huno⟩ := ownsRow_shape hown
  subst hu
  have HO := Lib.hid hown
  obtain ⟨len, hlen⟩ : ∃ len, len = l.length := ⟨_, rfl⟩
  rw [← hlen] at hl HO hncap ⊢
  have HLN := Lib.hid hlen
  clear hown hgr hb2 huno hlen
  go_wp2
  go_loopw [3, 14] (fun c i wr => ∃ k : Nat, k ≤ len ∧ i = .int .i64 k ∧ c = .int .i64 (pendN l k) ∧ Below w.heap.size w wr ∧ Below w2.heap.size w2 wr) (fun _ i _ => len - (intOf i).toNat)
  case atStart => exact ⟨0, Nat.zero_le _, rfl, rfl, B2.out, Below.refl _ _⟩
  case round =>
    obtain ⟨k, hk, rfl, rfl, hb, hb2⟩ := hrel
    have HB := Lib.hid hb
    have HB2 := Lib.hid hb2
    by_cases hlt : k < len
    · obtain ⟨x, hx⟩ : ∃ x, l[k]? = some x := ⟨_, List.getElem?_eq_getElem (show k < l.length by rw [← HLN.out]; exact hlt)⟩
      obtain ⟨q, rfl⟩ : ∃ q, uo = some ⟨q, 0, none⟩ := by
        rcases HO.out.2 with ⟨-, h0⟩ | ⟨q, cap', cur, he, -⟩
        · omega
        · simp at he
          exact ⟨q, he.1⟩
      have ho := HO.out
      have hq := ownsRow_block ho (g := q) rfl
      obtain ⟨_, cur, hqh⟩ := hq
      have hqlt := (Array.getElem?_eq_some_iff.1 hqh).1
      rw [HLN.out] at ho
      have hcc : ∀ m, wr.cell? ⟨q, m, none⟩ = w2.cell? ⟨q, m, none⟩ := fun m => World.cell?_of_block (hb2.block q hqlt)
      have e0 := (hcc _).trans (en_cell ho k x hx 0 (by omega))
      have e1 := (hcc _).trans (en_cell ho k x hx 1 (by omega))
      have e2 := (hcc _).trans (en_cell ho k x hx 2 (by omega))
      have e3 := (hcc _).trans (en_cell ho k x hx 3 (by omega))
      have e4 := (hcc _).trans (en_cell ho k x hx 4 (by omega))
      simp only [En.cells, List.getElem?_cons_zero, List.getElem?_cons_succ, Nat.add_zero] at e0 e1 e2 e3 e4
      have hsn := pendN_succ hx
      have hu1 := pendN_le l k
      have hkc : k < ucap := by omega
      obtain ⟨x0, x1, x2, x3, x4⟩ := x
      dsimp only at e0 e1 e2 e3 e4 hsn
      clear hb hb2 ho hqh hcc hx
      generalize pendN l k = U at *
      have i1 : IntKind.i64.wrap ((U : Int) + 1) = (U : Int) + 1 := IntWalk.i64_in _ (by omega)
      cases x4 with
      | true =>
        have HSN : Hid (((pendN l (k + 1) : Nat) : Int) = (U : Int)) := Lib.hid (by rw [hsn, if_pos rfl]; omega)
        clear hsn
        go_wp2
        go_roundw
        case rel => exact ⟨k + 1, by omega, by go_num, by rw [HSN.out], HB.out.alloc HB.out.size _, HB2.out.alloc HB2.out.size _⟩
        case measure => simp [intOf]; omega
      | false =>
        have HSN : Hid (((pendN l (k + 1) : Nat) : Int) = (U : Int) + 1) := Lib.hid (by rw [hsn, if_neg (by decide)]; omega)
        clear hsn
        go_wp2
        go_roundw
        case rel => exact ⟨k + 1, by omega, by go_num, by rw [HSN.out], HB.out.alloc HB.out.size _, HB2.out.alloc HB2.out.size _⟩
        case measure => simp [intOf]; omega
    · have hkn : k = len := by omega
      subst hkn
      clear hb hb2
      go_wp2
      go_ret
      exact ⟨by rw [← HLN.out]; rfl, HB.out⟩

/-- Fits, of one image. -/
theorem fits_one (h : LP R g r b L n w) (hl : L.live.length ≤ 1000) (hn : ∀ x ∈ L.live, x.n ≤ 1000) :
    Calls Tryz.prog 23 #[.pointer (some ⟨g, 0, none⟩), .int .i64 1] w fun e w' => e = .returned (.bool (decide (3 ≤ 7 - (usedN L.live L.live.length : Int)))) ∧ Below w.heap.size w w' := by
  have c3 := h.c3
  have HM := Lib.hid (may_log h)
  have HZ := Lib.hid (size_log h)
  have HU := Lib.hid (used_any h hl hn)
  have HS : Hid (∀ w, Calls Tryz.prog 58 #[.int .i64 1] w fun e w' => e = .returned (.int .i64 3) ∧ w = w') := Lib.hid (fun w => sectors_rec 1 (by decide) w)
  have HT := Lib.hid (fun w => most8 w)
  have hu := usedN_le hn L.live.length
  clear h hn
  generalize usedN L.live L.live.length = U at *
  have i1 : IntKind.i64.wrap (7 - (U : Int)) = 7 - (U : Int) := IntWalk.i64_in _ (by omega)
  go_enter Tryz.func23, Tryz.ntmps23
  go_wp2_with fail
  refine HM.out.mono ?_
  rintro e w1 ⟨rfl, rfl⟩
  go_wp2_with fail
  refine (HT.out w).mono ?_
  rintro e w1 ⟨rfl, rfl⟩
  go_wp2_with fail
  refine (HS.out w).mono ?_
  rintro e w1 ⟨rfl, rfl⟩
  go_wp2_with fail
  refine HZ.out.mono ?_
  rintro e w1 ⟨rfl, rfl⟩
  go_wp2_with fail
  refine HU.out.mono ?_
  rintro e w1 ⟨rfl, hb⟩
  have HB := Lib.hid hb
  clear hb
  go_wp2
  go_ret
  exact ⟨rfl, HB.out⟩
end

end Go.Proofs.YtkgdpmeheakdcaaGreat
