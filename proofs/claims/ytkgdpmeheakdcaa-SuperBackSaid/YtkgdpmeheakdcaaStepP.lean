/- A disk whose blocks are among R: each method in one form; a block outside R stays as it was. -/
import Derived.Test.YtkgdpmeheakdcaaFmt
namespace Go.Proofs.Ytkgdpmeheakdcaa
open Go.RowKit
set_option linter.all false
set_option maxRecDepth 100000

/-- The disk at b lies in blocks of R. -/
def DiskP (R : Nat → Prop) (b : Nat) (D : DS) (w : World) : Prop := ∃ F, DiskAt F b D w ∧ ∀ k, F k → R k
/-- What a call of a disk's method leaves. -/
def AnsP (R : Nat → Prop) (b : Nat) (D : DS) (w : World) (v : Value) (e : Ending) (w' : World) : Prop := e = .returned v ∧ DiskP R b D w' ∧ Grow R w w'

section
variable {R : Nat → Prop} {b N : Nat} {D : DS} {w : World}

theorem DiskTo.diskP {F : Nat → Prop} {w' : World} (h : DiskTo F b D w w') (hF : ∀ k, F k → R k) (hR : ∀ k, w.heap.size ≤ k → R k) : DiskP R b D w' ∧ Grow R w w' := by
  obtain ⟨F', hd, hg, hF'⟩ := h
  exact ⟨⟨F', hd, fun k hk => (hF' k hk).elim (hF k) (hR k)⟩, hg.mono hF⟩
theorem DiskP.lt (h : DiskP R b D w) : b < w.heap.size := by
  obtain ⟨F, ⟨nb, lb, wv, sv, hd⟩, hF⟩ := h
  exact hd.flt b hd.fb
theorem DiskP.in (h : DiskP R b D w) : R b := by
  obtain ⟨F, ⟨nb, lb, wv, sv, hd⟩, hF⟩ := h
  exact hF b hd.fb
theorem DiskP.mono {R' : Nat → Prop} (h : DiskP R b D w) (hR : ∀ k, R k → R' k) : DiskP R' b D w := by
  obtain ⟨F, hd, hF⟩ := h
  exact ⟨F, hd, fun k hk => hR k (hF k hk)⟩
/-- Its blocks are there. -/
theorem DiskP.cap (h : DiskP R b D w) : DiskP (fun k => R k ∧ k < w.heap.size) b D w := by
  obtain ⟨F, ⟨nb, lb, wv, sv, hd⟩, hF⟩ := h
  exact ⟨F, ⟨nb, lb, wv, sv, hd⟩, fun k hk => ⟨hF k hk, hd.flt k hk⟩⟩
/-- Where the other blocks change, the disk stays. -/
theorem DiskP.grow {G : Nat → Prop} {w' : World} (h : DiskP R b D w) (hg : Grow G w w') (hG : ∀ k, G k → ¬ R k) : DiskP R b D w' := by
  obtain ⟨F, ⟨nb, lb, wv, sv, hd⟩, hF⟩ := h
  exact ⟨F, ⟨nb, lb, wv, sv, hd.grow hg (fun k hf hk => hG k hk (hF k hf))⟩, hF⟩
theorem DiskP.below {w' : World} (h : DiskP R b D w) (hg : Below w.heap.size w w') : DiskP R b D w' := h.grow (Grow.of_below (F := fun _ => False) hg) (fun _ h => h.elim)
theorem DiskP.alloc (h : DiskP R b D w) (o : Obj) : DiskP (fun k => R k ∧ k ≠ w.heap.size) b D (w.alloc o) := by
  have h1 := (h.cap.grow (Grow.alloc (F := fun _ => False) w o) (fun _ h => h.elim)).mono (R' := fun k => R k ∧ k ≠ w.heap.size) (fun k hk => ⟨hk.1, by have := hk.2; omega⟩)
  exact h1
theorem DiskP.of_S {base : Nat} (h : DiskS base b D w) : DiskP (fun k => base ≤ k) b D w := h
theorem DiskP.to_S {base : Nat} (h : DiskP R b D w) (hR : ∀ k, R k → base ≤ k) : DiskS base b D w := h.mono hR

theorem stepP_admit (h : DiskP R b D w) (g : Good N D) (hN : N ≤ 900000) (hR : ∀ k, w.heap.size ≤ k → R k) (node epoch : Int) :
    Calls Try.prog 19 #[.pointer (some ⟨b, 0, none⟩), .int .i64 node, .int .u64 epoch] w (AnsP R b (admitR D node epoch).2 w (.int .i64 (admitR D node epoch).1)) := by
  obtain ⟨F, ⟨nb, lb, wv, sv, hd⟩, hF⟩ := h
  refine (admit_any hd (g.ok hN) node epoch).mono ?_
  rintro e w' ⟨rfl, ht⟩
  exact ⟨rfl, ht.diskP hF hR⟩
theorem stepP_barrier (h : DiskP R b D w) (g : Good N D) (hN : N ≤ 900000) (hR : ∀ k, w.heap.size ≤ k → R k) (node epoch : Int) :
    Calls Try.prog 29 #[.pointer (some ⟨b, 0, none⟩), .int .i64 node, .int .u64 epoch] w (AnsP R b (barrierR D node epoch).2 w (.int .i64 (barrierR D node epoch).1)) := by
  obtain ⟨F, ⟨nb, lb, wv, sv, hd⟩, hF⟩ := h
  refine (barrier_any hd (g.ok hN) node epoch).mono ?_
  rintro e w' ⟨rfl, ht⟩
  exact ⟨rfl, ht.diskP hF hR⟩
theorem stepP_fence (h : DiskP R b D w) (g : Good N D) (hN : N ≤ 900000) (hR : ∀ k, w.heap.size ≤ k → R k) (node : Int) :
    Calls Try.prog 33 #[.pointer (some ⟨b, 0, none⟩), .int .i64 node] w (AnsP R b (fenceR D node).2 w (.int .i64 (fenceR D node).1)) := by
  obtain ⟨F, ⟨nb, lb, wv, sv, hd⟩, hF⟩ := h
  refine (fence_any hd (g.ok hN) node).mono ?_
  rintro e w' ⟨rfl, ht⟩
  exact ⟨rfl, ht.diskP hF hR⟩
theorem stepP_put (h : DiskP R b D w) (g : Good N D) (hN : N ≤ 900000) (hR : ∀ k, w.heap.size ≤ k → R k) (node word : Int) :
    Calls Try.prog 23 #[.pointer (some ⟨b, 0, none⟩), .int .i64 node, .int .u64 word] w (AnsP R b (putR D node word).2 w (.int .i64 (putR D node word).1)) := by
  obtain ⟨F, ⟨nb, lb, wv, sv, hd⟩, hF⟩ := h
  refine (put_any hd (g.ok hN) node word).mono ?_
  rintro e w' ⟨rfl, ht⟩
  exact ⟨rfl, ht.diskP hF hR⟩
theorem stepP_write (h : DiskP R b D w) (g : Good N D) (hN : N ≤ 900000) (hR : ∀ k, w.heap.size ≤ k → R k) (node epoch a : Int) (data : ByteArray) (hds : data.size ≤ 100000) :
    Calls Try.prog 20 #[.pointer (some ⟨b, 0, none⟩), .int .i64 node, .int .u64 epoch, .int .i64 a, .string data] w (AnsP R b (writeR D node epoch a data).2 w (.int .i64 (writeR D node epoch a data).1)) := by
  obtain ⟨F, ⟨nb, lb, wv, sv, hd⟩, hF⟩ := h
  refine (write_any hd (g.ok hN) node epoch a data hds).mono ?_
  rintro e w' ⟨rfl, ht⟩
  exact ⟨rfl, ht.diskP hF hR⟩
theorem stepP_read (h : DiskP R b D w) (g : Good N D) (hN : N ≤ 900000) (a n : Int) :
    Calls Try.prog 22 #[.pointer (some ⟨b, 0, none⟩), .int .i64 a, .int .i64 n] w fun e w' => e = .returned (.tuple #[.string (readR D a n).1, .int .i64 (readR D a n).2]) ∧ DiskP R b D w' ∧ Below w.heap.size w w' := by
  obtain ⟨F, ⟨nb, lb, wv, sv, hd⟩, hF⟩ := h
  refine (read_any hd (g.ok hN) g.zn a n).mono ?_
  rintro e w' ⟨rfl, hg⟩
  exact ⟨rfl, ⟨F, ⟨nb, lb, wv, sv, hd.grow hg (fun _ _ h => h)⟩, hF⟩, hg.below (Nat.le_refl _) (fun _ h => h.elim)⟩
theorem stepP_waiting (h : DiskP R b D w) (g : Good N D) (hN : N ≤ 900000) (node : Int) :
    Calls Try.prog 34 #[.pointer (some ⟨b, 0, none⟩), .int .i64 node] w fun e w' => e = .returned (.int .i64 (waiting D node)) ∧ DiskP R b D w' ∧ Below w.heap.size w w' := by
  obtain ⟨F, ⟨nb, lb, wv, sv, hd⟩, hF⟩ := h
  refine (waiting_any hd node (by have := g.wn; omega)).mono ?_
  rintro e w' ⟨rfl, hg⟩
  exact ⟨rfl, ⟨F, ⟨nb, lb, wv, sv, hd.grow hg (fun _ _ h => h)⟩, hF⟩, hg.below (Nat.le_refl _) (fun _ h => h.elim)⟩
theorem stepP_cut (h : DiskP R b D w) (g : Good N D) (hN : N ≤ 900000) (hR : ∀ k, w.heap.size ≤ k → R k) (hon : D.on = true) (ao : Option Addr) (len cap : Nat) (zs : List Int) (hk : Keep w ao len zs) (hkb : ∀ a, ao = some a → 0 < len → a.block ≠ b) :
    Calls Try.prog 24 #[.pointer (some ⟨b, 0, none⟩), .slice ao len cap] w (AnsP R b (cutOn D zs) w (.int .i64 D.waits.length)) := by
  obtain ⟨F, ⟨nb, lb, wv, sv, hd⟩, hF⟩ := h
  refine (cut_on hd hon ao len cap zs hk hkb (by have := g.wn; omega)).mono ?_
  rintro e w' ⟨rfl, ht⟩
  exact ⟨rfl, ht.diskP hF hR⟩
theorem stepP_restore (h : DiskP R b D w) (g : Good N D) :
    Calls Try.prog 25 #[.pointer (some ⟨b, 0, none⟩)] w (AnsP R b (restD D) w (.tuple #[])) := by
  obtain ⟨F, ⟨nb, lb, wv, sv, hd⟩, hF⟩ := h
  refine (restore_any hd.blk (by have := g.s0; omega)).mono ?_
  rintro e w' ⟨rfl, rfl⟩
  have hs := hd.store (D' := restD D) (hd.blk.set1 true) rfl rfl rfl rfl
  exact ⟨rfl, ⟨F, ⟨nb, lb, wv, sv, hs⟩, hF⟩, Grow.setCell (hF b hd.fb) _⟩
theorem stepP_last (h : DiskP R b D w) : Calls Try.prog 28 #[.pointer (some ⟨b, 0, none⟩)] w fun e w' => e = .returned (.int .u64 D.last) ∧ w = w' := by
  obtain ⟨F, ⟨nb, lb, wv, sv, hd⟩, hF⟩ := h
  exact last_any hd.blk
theorem stepP_sectors (h : DiskP R b D w) : Calls Try.prog 37 #[.pointer (some ⟨b, 0, none⟩)] w fun e w' => e = .returned (.int .i64 D.sectors) ∧ w = w' := by
  obtain ⟨F, ⟨nb, lb, wv, sv, hd⟩, hF⟩ := h
  exact sectors_any hd.blk
theorem stepP_new (s : Int) (h1 : 1 ≤ s) (h2 : s ≤ 20000) (w : World) :
    Calls Try.prog 18 #[.int .i64 s] w fun e w' => ∃ b, e = .returned (.pointer (some ⟨b, 0, none⟩)) ∧ DiskP (fun k => w.heap.size ≤ k) b (newDS s) w' ∧ Below w.heap.size w w' := step_new s h1 h2 w
end

end Go.Proofs.Ytkgdpmeheakdcaa
