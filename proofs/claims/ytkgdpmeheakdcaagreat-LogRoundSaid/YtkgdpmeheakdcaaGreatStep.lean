/- A disk in a call's own memory: each method in one form. -/
import Derived.Test.YtkgdpmeheakdcaaGreatFill

namespace Go.Proofs.YtkgdpmeheakdcaaGreat
open Go.RowKit
set_option linter.all false
set_option maxRecDepth 100000

/-- The disk at b lies in memory from base on. -/
def DiskS (base b : Nat) (D : DS) (w : World) : Prop := ∃ F, DiskAt F b D w ∧ ∀ k, F k → base ≤ k

theorem DiskTo.diskS {F : Nat → Prop} {base b : Nat} {D : DS} {w w' : World} (h : DiskTo F b D w w') (hF : ∀ k, F k → base ≤ k) (hB : base ≤ w.heap.size) : DiskS base b D w' ∧ Below base w w' := by
  obtain ⟨F', hd, hg, hF'⟩ := h
  exact ⟨⟨F', hd, fun k hk => (hF' k hk).elim (hF k) (fun h => Nat.le_trans hB h)⟩, hg.below hB hF⟩

theorem DiskS.below {base b : Nat} {D : DS} {w w' : World} (h : DiskS base b D w) (hg : Below w.heap.size w w') : DiskS base b D w' := by
  obtain ⟨F, ⟨nb, lb, wv, sv, hd⟩, hF⟩ := h
  exact ⟨F, ⟨nb, lb, wv, sv, hd.grow (Grow.of_below (F := fun _ => False) hg) (fun _ _ h => h)⟩, hF⟩
theorem DiskS.grow {base b : Nat} {D : DS} {w w' : World} (h : DiskS base b D w) (hg : Grow (fun _ => False) w w') : DiskS base b D w' := by
  obtain ⟨F, ⟨nb, lb, wv, sv, hd⟩, hF⟩ := h
  exact ⟨F, ⟨nb, lb, wv, sv, hd.grow hg (fun _ _ h => h)⟩, hF⟩

/-- The bounds that every disk of a law keeps; N: how many were written. -/
structure Good (N : Nat) (D : DS) : Prop where
  s0 : 1 ≤ D.sectors
  s1 : D.sectors ≤ 20000
  q0 : 0 ≤ D.seq
  q1 : D.seq ≤ N
  l0 : -9223372036854775808 ≤ D.left
  l1 : D.left ≤ 9223372036854775807
  wn : D.waits.length ≤ N
  sn : D.stays.length ≤ 1000000
  tl : D.table.length = 17
  wl : D.words.length = 17
  zn : ∀ k s, D.now k = some s → s.size = 64
  zl : ∀ k x, D.lasts k = some x → x.data.size = 64
  zw : ∀ x ∈ D.waits, x.data.size = 64

theorem Good.ok {N : Nat} {D : DS} (h : Good N D) (hN : N ≤ 900000) : D.Ok :=
  ⟨h.s0, h.s1, h.q0, by have := h.q1; omega, h.l0, h.l1, by have := h.wn; omega, by have := h.sn; omega, h.tl, h.wl⟩
theorem Good.more {N M : Nat} {D : DS} (h : Good N D) (hN : N ≤ M) : Good M D :=
  { h with q1 := by have := h.q1; omega, wn := Nat.le_trans h.wn hN }

theorem good_new (s : Int) (h1 : 1 ≤ s) (h2 : s ≤ 20000) : Good 0 (newDS s) :=
  ⟨h1, h2, Int.le_refl 0, Int.le_refl 0, by show (-9223372036854775808 : Int) ≤ 0; decide, by show (0 : Int) ≤ 9223372036854775807; decide, Nat.le_refl 0, by show 0 ≤ 1000000; decide, rfl, rfl, fun _ _ h => (by cases h), fun _ _ h => (by cases h), fun _ h => (by cases h)⟩

theorem keepW_size {L : Int → Option Wr} {x : Wr} (hL : ∀ k y, L k = some y → y.data.size = 64) (hx : x.data.size = 64) : ∀ k y, keepW L x k = some y → y.data.size = 64 := by
  intro k y
  unfold keepW
  split
  · intro h
    by_cases hk : k = x.pl
    · simp only [hk, if_true, Option.some.injEq] at h
      rw [← h]
      exact hx
    · simp only [if_neg hk] at h
      exact hL k y h
  · exact hL k y
theorem settleL_size (node : Int) : ∀ (l : List Wr) (L : Int → Option Wr), (∀ x ∈ l, x.data.size = 64) → (∀ k y, L k = some y → y.data.size = 64) → ∀ k y, settleL node L l k = some y → y.data.size = 64
  | [], _, _, hL => hL
  | x :: l, L, hl, hL => settleL_size node l _ (fun y hy => hl y (List.mem_cons_of_mem _ hy)) (by
      split
      · exact keepW_size hL (hl x (List.mem_cons_self ..))
      · exact hL)
theorem cutL_size (zs : List Int) : ∀ (l : List Wr) (i : Nat) (L : Int → Option Wr), (∀ x ∈ l, x.data.size = 64) → (∀ k y, L k = some y → y.data.size = 64) → ∀ k y, cutL zs i L l k = some y → y.data.size = 64
  | [], _, _, _, hL => hL
  | x :: l, i, L, hl, hL => cutL_size zs l _ _ (fun y hy => hl y (List.mem_cons_of_mem _ hy)) (by
      split
      · exact keepW_size hL (hl x (List.mem_cons_self ..))
      · exact hL)

theorem Good.settle {N : Nat} {D : DS} (h : Good N D) (node : Int) : Good N (settle D node) :=
  { h with wn := Nat.le_trans (List.length_filter_le _ _) h.wn, zl := settleL_size node D.waits D.lasts h.zw h.zl, zw := fun x hx => h.zw x (List.mem_filter.1 hx).1 }
theorem Good.cutOn {N : Nat} {D : DS} (h : Good N D) (zs : List Int) : Good N (cutOn D zs) :=
  { h with l0 := by show (-9223372036854775808 : Int) ≤ -1; decide, l1 := by show (-1 : Int) ≤ 9223372036854775807; decide, wn := Nat.zero_le _, sn := Nat.zero_le _,
           zn := fun k s hs => by
             have hs' : (cutL zs 0 D.lasts D.waits k).map (·.data) = some s := hs
             cases hc : cutL zs 0 D.lasts D.waits k with
             | none => rw [hc] at hs'; cases hs'
             | some y => rw [hc] at hs'; cases hs'; exact cutL_size zs _ _ _ h.zw h.zl k y hc
           zl := cutL_size zs _ _ _ h.zw h.zl, zw := fun _ hx => by cases hx }
theorem Good.cutOff {N : Nat} {D : DS} (h : Good N D) : Good N (cutOff D) :=
  { h with l0 := by show (-9223372036854775808 : Int) ≤ -1; decide, l1 := by show (-1 : Int) ≤ 9223372036854775807; decide, sn := Nat.zero_le _ }
theorem Good.goes {N : Nat} {D : DS} (h : Good N D) : Good N (goesD D) := by
  unfold goesD
  split
  · split
    · exact { h with l0 := by have := h.l0; show _ ≤ D.left - 1; omega, l1 := by have := h.l1; show D.left - 1 ≤ _; omega }
    · exact h.cutOn _
  · exact h
theorem Good.admitted {N : Nat} {D : DS} (h : Good N D) (node epoch : Int) : Good N (admitR D node epoch).2 := by
  unfold admitR
  split
  · exact h
  split
  · exact h
  split
  · exact h.goes
  · exact { h.goes with tl := (List.length_set ..).trans h.tl }
theorem Good.barrier {N : Nat} {D : DS} (h : Good N D) (node epoch : Int) : Good N (barrierR D node epoch).2 := by
  unfold barrierR
  split
  · exact h
  split
  · exact h
  split
  · exact h.goes
  · exact h.goes.settle node
theorem Good.fence {N : Nat} {D : DS} (h : Good N D) (node : Int) : Good N (fenceR D node).2 := by
  unfold fenceR
  split
  · exact h
  split
  · exact h.goes
  · exact { h.goes.settle node with tl := (List.length_set ..).trans h.tl }
theorem Good.put {N : Nat} {D : DS} (h : Good N D) (node word : Int) : Good N (putR D node word).2 := by
  unfold putR
  split
  · exact h
  split
  · exact h.goes
  · exact { h.goes with wl := (List.length_set ..).trans h.wl }
theorem Good.wr1 {N : Nat} {D : DS} (h : Good N D) (x : Wr) (hq : x.seq = D.seq + 1) (hx : x.data.size = 64) : Good (N + 1) (wr1 D x) :=
  { h with q0 := by have := h.q0; show 0 ≤ x.seq; omega, q1 := by have := h.q1; show x.seq ≤ _; omega, wn := by have := h.wn; show (D.waits ++ [x]).length ≤ _; simp; omega,
           zn := fun k s hs => by
             have hs' : (if k = x.pl then some x.data else D.now k) = some s := hs
             split at hs'
             · cases hs'; exact hx
             · exact h.zn k s hs'
           zw := fun y hy => by
             have hy' : y ∈ D.waits ++ [x] := hy
             rcases List.mem_append.1 hy' with h1 | h1
             · exact h.zw y h1
             · rw [List.mem_singleton.1 h1]; exact hx }
theorem extract_size (data : ByteArray) (i : Nat) (h : 64 * i + 64 ≤ data.size) : (data.extract (64 * i) (64 * i + 64)).size = 64 := by
  rw [ByteArray.size_extract]
  omega
theorem Good.wrN {N : Nat} {D : DS} (h : Good N D) (node a : Int) (data : ByteArray) : ∀ k, 64 * k ≤ data.size → Good (N + k) (wrN D node a data k)
  | 0, _ => h
  | k + 1, hk => (Good.wrN h node a data k (by omega)).wr1 _ rfl (extract_size data k (by omega))
theorem Good.write {N : Nat} {D : DS} (h : Good N D) (node epoch a : Int) (data : ByteArray) : Good (N + 16) (writeR D node epoch a data).2 := by
  unfold writeR
  split
  · exact h.more (by omega)
  split
  · exact h.more (by omega)
  rename_i hg
  split
  · exact h.more (by omega)
  split
  · exact h.more (by omega)
  split
  · exact h.goes.more (by omega)
  · have hg' : 1 ≤ data.size / 64 ∧ data.size / 64 ≤ 16 ∧ data.size % 64 = 0 := by simpa [goodB] using hg
    exact (h.goes.wrN node a data (data.size / 64) (by omega)).more (by omega)
def restD (D : DS) : DS := { D with on := true }
def armD (D : DS) (n : Int) (zs : List Int) : DS := { D with armed := decide (0 ≤ n), left := n, stays := zs, nilS := false }
theorem Good.restore {N : Nat} {D : DS} (h : Good N D) : Good N (restD D) := { h with }
theorem Good.arm {N : Nat} {D : DS} (h : Good N D) (n : Int) (hn : -9223372036854775808 ≤ n ∧ n ≤ 9223372036854775807) (zs : List Int) (hz : zs.length ≤ 1000000) : Good N (armD D n zs) :=
  { h with l0 := hn.1, l1 := hn.2, sn := hz }

/-- What a call of a disk's method leaves. -/
def Ans (base b : Nat) (D : DS) (w : World) (v : Value) (e : Ending) (w' : World) : Prop := e = .returned v ∧ DiskS base b D w' ∧ Below base w w'

section
variable {base b N : Nat} {D : DS} {w : World}

theorem step_new (s : Int) (h1 : 1 ≤ s) (h2 : s ≤ 20000) (w : World) :
    Calls Tryz.prog 32 #[.int .i64 s] w fun e w' => ∃ b, e = .returned (.pointer (some ⟨b, 0, none⟩)) ∧ DiskS w.heap.size b (newDS s) w' ∧ Below w.heap.size w w' := by
  refine (new_any s h1 h2 w).mono ?_
  rintro e w' ⟨b, F, rfl, hd, hg, hF⟩
  exact ⟨b, rfl, ⟨F, hd, hF⟩, hg.below (Nat.le_refl _) (fun _ h => h.elim)⟩
theorem step_admit (h : DiskS base b D w) (g : Good N D) (hN : N ≤ 900000) (hB : base ≤ w.heap.size) (node epoch : Int) :
    Calls Tryz.prog 36 #[.pointer (some ⟨b, 0, none⟩), .int .i64 node, .int .u64 epoch] w (Ans base b (admitR D node epoch).2 w (.int .i64 (admitR D node epoch).1)) := by
  obtain ⟨F, ⟨nb, lb, wv, sv, hd⟩, hF⟩ := h
  refine (admit_any hd (g.ok hN) node epoch).mono ?_
  rintro e w' ⟨rfl, ht⟩
  exact ⟨rfl, ht.diskS hF hB⟩
theorem step_barrier (h : DiskS base b D w) (g : Good N D) (hN : N ≤ 900000) (hB : base ≤ w.heap.size) (node epoch : Int) :
    Calls Tryz.prog 64 #[.pointer (some ⟨b, 0, none⟩), .int .i64 node, .int .u64 epoch] w (Ans base b (barrierR D node epoch).2 w (.int .i64 (barrierR D node epoch).1)) := by
  obtain ⟨F, ⟨nb, lb, wv, sv, hd⟩, hF⟩ := h
  refine (barrier_any hd (g.ok hN) node epoch).mono ?_
  rintro e w' ⟨rfl, ht⟩
  exact ⟨rfl, ht.diskS hF hB⟩
theorem step_fence (h : DiskS base b D w) (g : Good N D) (hN : N ≤ 900000) (hB : base ≤ w.heap.size) (node : Int) :
    Calls Tryz.prog 75 #[.pointer (some ⟨b, 0, none⟩), .int .i64 node] w (Ans base b (fenceR D node).2 w (.int .i64 (fenceR D node).1)) := by
  obtain ⟨F, ⟨nb, lb, wv, sv, hd⟩, hF⟩ := h
  refine (fence_any hd (g.ok hN) node).mono ?_
  rintro e w' ⟨rfl, ht⟩
  exact ⟨rfl, ht.diskS hF hB⟩
theorem step_put (h : DiskS base b D w) (g : Good N D) (hN : N ≤ 900000) (hB : base ≤ w.heap.size) (node word : Int) :
    Calls Tryz.prog 76 #[.pointer (some ⟨b, 0, none⟩), .int .i64 node, .int .u64 word] w (Ans base b (putR D node word).2 w (.int .i64 (putR D node word).1)) := by
  obtain ⟨F, ⟨nb, lb, wv, sv, hd⟩, hF⟩ := h
  refine (put_any hd (g.ok hN) node word).mono ?_
  rintro e w' ⟨rfl, ht⟩
  exact ⟨rfl, ht.diskS hF hB⟩
theorem step_write (h : DiskS base b D w) (g : Good N D) (hN : N ≤ 900000) (hB : base ≤ w.heap.size) (node epoch a : Int) (data : ByteArray) (hds : data.size ≤ 100000) :
    Calls Tryz.prog 44 #[.pointer (some ⟨b, 0, none⟩), .int .i64 node, .int .u64 epoch, .int .i64 a, .string data] w (Ans base b (writeR D node epoch a data).2 w (.int .i64 (writeR D node epoch a data).1)) := by
  obtain ⟨F, ⟨nb, lb, wv, sv, hd⟩, hF⟩ := h
  refine (write_any hd (g.ok hN) node epoch a data hds).mono ?_
  rintro e w' ⟨rfl, ht⟩
  exact ⟨rfl, ht.diskS hF hB⟩
theorem step_read (h : DiskS base b D w) (g : Good N D) (hN : N ≤ 900000) (hB : base ≤ w.heap.size) (a n : Int) :
    Calls Tryz.prog 47 #[.pointer (some ⟨b, 0, none⟩), .int .i64 a, .int .i64 n] w (Ans base b D w (.tuple #[.string (readR D a n).1, .int .i64 (readR D a n).2])) := by
  obtain ⟨F, ⟨nb, lb, wv, sv, hd⟩, hF⟩ := h
  refine (read_any hd (g.ok hN) g.zn a n).mono ?_
  rintro e w' ⟨rfl, hg⟩
  exact ⟨rfl, ⟨F, ⟨nb, lb, wv, sv, hd.grow hg (fun _ _ h => h)⟩, hF⟩, hg.below hB (fun _ h => h.elim)⟩
theorem step_cut (h : DiskS base b D w) (g : Good N D) (hN : N ≤ 900000) (hB : base ≤ w.heap.size) (hon : D.on = true) (ao : Option Addr) (len cap : Nat) (zs : List Int) (hk : Keep w ao len zs) (hkb : ∀ a, ao = some a → 0 < len → a.block ≠ b) :
    Calls Tryz.prog 115 #[.pointer (some ⟨b, 0, none⟩), .slice ao len cap] w (Ans base b (cutOn D zs) w (.int .i64 D.waits.length)) := by
  obtain ⟨F, ⟨nb, lb, wv, sv, hd⟩, hF⟩ := h
  refine (cut_on hd hon ao len cap zs hk hkb (by have := g.wn; omega)).mono ?_
  rintro e w' ⟨rfl, ht⟩
  exact ⟨rfl, ht.diskS hF hB⟩
theorem step_last (h : DiskS base b D w) : Calls Tryz.prog 77 #[.pointer (some ⟨b, 0, none⟩)] w fun e w' => e = .returned (.int .u64 D.last) ∧ w = w' := by
  obtain ⟨F, ⟨nb, lb, wv, sv, hd⟩, hF⟩ := h
  exact last_any hd.blk
theorem step_on (h : DiskS base b D w) : Calls Tryz.prog 94 #[.pointer (some ⟨b, 0, none⟩)] w fun e w' => e = .returned (.bool D.on) ∧ w = w' := by
  obtain ⟨F, ⟨nb, lb, wv, sv, hd⟩, hF⟩ := h
  exact on_any hd.blk
theorem step_arm (h : DiskS base b D w) (hB : base ≤ w.heap.size) (n : Int) (ao : Option Addr) (len cap : Nat) (zs : List Int) (hk : Keep w ao len zs) :
    Calls Tryz.prog 136 #[.pointer (some ⟨b, 0, none⟩), .int .i64 n, .slice ao len cap] w (Ans base b (armD D n zs) w (.tuple #[])) := by
  obtain ⟨F, ⟨nb, lb, wv, sv, hd⟩, hF⟩ := h
  refine (arm_any hd n ao len cap zs hk).mono ?_
  rintro e w' ⟨rfl, ht⟩
  exact ⟨rfl, (ht.disk hd.fb).diskS hF hB⟩
end

theorem DiskS.lt {base b : Nat} {D : DS} {w : World} (h : DiskS base b D w) : b < w.heap.size := by
  obtain ⟨F, ⟨nb, lb, wv, sv, hd⟩, hF⟩ := h
  exact hd.flt b hd.fb
theorem DiskS.le {base b : Nat} {D : DS} {w : World} (h : DiskS base b D w) : base ≤ b := by
  obtain ⟨F, ⟨nb, lb, wv, sv, hd⟩, hF⟩ := h
  exact hF b hd.fb
/-- A slice of ints that came in. -/
def RowOf (k : IntKind) (w : World) (a : Option Addr) (len cap : Nat) (zs : List Int) : Prop :=
  (a = none ∧ len = 0 ∧ cap = 0 ∧ zs = []) ∨
  ∃ x, a = some x ∧ len ≤ cap ∧ cap ≤ maxLen ∧ zs.length = cap ∧ (∀ i, i < zs.length → w.cell? (x.add i) = some (.int k (zs.getD i 0))) ∧ ∀ n ∈ zs, (Lit.int k n).wf = true
theorem RowOf.keep {w : World} {a : Option Addr} {len cap : Nat} {zs : List Int} (h : RowOf .i64 w a len cap zs) (hl : len ≤ 1000000) : Keep w a len (zs.take len) := by
  rcases h with ⟨rfl, rfl, rfl, rfl⟩ | ⟨x, rfl, h1, h2, h3, h4, h5⟩
  · exact Keep.nil w
  · refine ⟨by rw [List.length_take]; omega, fun h => (by cases h), ?_, by omega⟩
    intro a ha j u hu
    cases ha
    obtain ⟨hj, rfl⟩ := List.getElem?_eq_some_iff.1 hu
    have hj' : j < zs.length := by
      simp [intCells] at hj
      omega
    rw [h4 j hj']
    simp [intCells, List.getD_eq_getElem?_getD, List.getElem?_eq_getElem hj']
theorem Keep.below {w w' : World} {ao : Option Addr} {len : Nat} {zs : List Int} (h : Keep w ao len zs) (hb : Below w.heap.size w w') : Keep w' ao len zs :=
  ⟨h.hlen, h.hnil, fun a ha j u hu => by
    have hc := h.cells a ha j u hu
    rw [World.cell?_of_block (hb.block _ (cell_lt hc))]
    exact hc, h.small⟩
theorem Keep.ne {w : World} {ao : Option Addr} {len b : Nat} {zs : List Int} (h : Keep w ao len zs) (hb : w.heap.size ≤ b) : ∀ a, ao = some a → 0 < len → a.block ≠ b := by
  intro a ha hl e
  have h0 : 0 < zs.length := by rw [h.hlen]; exact hl
  have hc := cell_lt (h.cells a ha 0 (.int .i64 zs[0]) (by simp [intCells, List.getElem?_eq_getElem h0]))
  have : (a.add 0).block = a.block := by simp [Addr.add]
  omega
theorem below_new {a y x : World} (h : Below a.heap.size a y) (k : Below y.heap.size y x) : Below a.heap.size a x := h.trans (k.mono h.size)
theorem below_alloc {a y : World} (h : Below a.heap.size a y) (o : Obj) : Below a.heap.size a (y.alloc o) := h.alloc h.size o
end Go.Proofs.YtkgdpmeheakdcaaGreat
