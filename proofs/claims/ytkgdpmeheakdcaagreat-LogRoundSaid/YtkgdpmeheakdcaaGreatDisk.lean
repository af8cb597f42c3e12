/- A disk in memory, with the set of blocks that are its own; what a call leaves. -/
import Derived.Test.YtkgdpmeheakdcaaGreatClone
import Derived.Test.YtkgdpmeheakdcaaGreatSmall
import Derived.Test.YtkgdpmeheakdcaaGreatShelf
namespace Go.Proofs.YtkgdpmeheakdcaaGreat
open Go.RowKit
set_option linter.all false

/-- w' is w with new blocks, and with writes to blocks of F alone. -/
structure Grow (F : Nat → Prop) (w w' : World) : Prop where
  os : w'.os = w.os
  tape : w'.tape = w.tape
  output : w'.output = w.output
  size : w.heap.size ≤ w'.heap.size
  block : ∀ k, k < w.heap.size → ¬ F k → w'.heap[k]? = w.heap[k]?

theorem Grow.refl (F : Nat → Prop) (w : World) : Grow F w w := ⟨rfl, rfl, rfl, Nat.le_refl _, fun _ _ _ => rfl⟩
theorem Grow.trans {F : Nat → Prop} {F' : Nat → Prop} {a b c : World} (h : Grow F a b) (k : Grow F' b c) (hF : ∀ x, F' x → F x ∨ a.heap.size ≤ x) : Grow F a c :=
  ⟨k.os.trans h.os, k.tape.trans h.tape, k.output.trans h.output, Nat.le_trans h.size k.size, fun x hx hn =>
    (k.block x (Nat.lt_of_lt_of_le hx h.size) (fun hf => by rcases hF x hf with h1 | h1; exact hn h1; omega)).trans (h.block x hx hn)⟩
theorem Grow.of_grownBy {F : Nat → Prop} {w w' : World} {row : Option Nat} (h : w.grownBy w' row) (hr : ∀ g, row = some g → F g) : Grow F w w' :=
  ⟨h.os, h.tape, h.output, h.size, fun k hk hn => h.block k hk (fun e => hn (hr k e.symm))⟩
theorem Grow.of_below {F : Nat → Prop} {w w' : World} (h : Below w.heap.size w w') : Grow F w w' := ⟨h.os, h.tape, h.output, h.size, fun k hk _ => h.block k hk⟩
theorem Grow.setCell {F : Nat → Prop} {w : World} {b i : Nat} (hb : F b) (v : Value) : Grow F w (w.setCell ⟨b, i, none⟩ v) :=
  ⟨rfl, rfl, rfl, Nat.le_of_eq (size_setCell v).symm, fun k _ hn => block_setCell_ne (fun e => by subst e; exact hn hb) v⟩
theorem Grow.alloc {F : Nat → Prop} (w : World) (o : Obj) : Grow F w (w.alloc o) := ⟨rfl, rfl, rfl, by simp, fun k hk _ => heap_alloc_old w o hk⟩
theorem Grow.drew {F : Nat → Prop} (w : World) : Grow F w w.drew := ⟨rfl, rfl, rfl, Nat.le_refl _, fun _ _ _ => rfl⟩
theorem Grow.below {F : Nat → Prop} {w w' : World} {B : Nat} (h : Grow F w w') (hB : B ≤ w.heap.size) (hF : ∀ k, F k → B ≤ k) : Below B w w' :=
  ⟨h.os, h.tape, h.output, h.size, fun k hk => h.block k (by omega) (fun hf => by have := hF k hf; omega)⟩

def nowV (f : Int → Option ByteArray) : Int → Option Value := fun k => (f k).map Value.string
def lastV (f : Int → Option Wr) : Int → Option Value := fun k => (f k).map fun x => .agg x.cells.toArray
def wrCells (l : List Wr) : List Value := l.flatMap Wr.cells
def intCells (l : List Int) : List Value := l.map (Value.int .i64)

/-- The disk at block b; its own blocks are in F. -/
structure DiskIn (F : Nat → Prop) (b : Nat) (D : DS) (nb lb : Nat) (wv sv : Value) (w : World) : Prop where
  blk : BlkAt b D (some nb) (some lb) wv sv w
  now : MapAt w nb (nowV D.now)
  lasts : MapAt w lb (lastV D.lasts)
  waits : w.ownsRow 0 125 4 wv D.waits.length (wrCells D.waits)
  stays : w.ownsRow 0 3 1 sv D.stays.length (intCells D.stays)
  ne : nb ≠ lb
  fb : F b
  fnb : F nb
  flb : F lb
  fwv : ∀ g, wv.ownBlock = some g → F g
  fsv : ∀ g, sv.ownBlock = some g → F g
  flt : ∀ k, F k → k < w.heap.size
  sn : D.nilS = true → sv = .slice none 0 0

def DiskAt (F : Nat → Prop) (b : Nat) (D : DS) (w : World) : Prop := ∃ nb lb wv sv, DiskIn F b D nb lb wv sv w

/-- What a call leaves of the disk. -/
def DiskTo (F : Nat → Prop) (b : Nat) (D : DS) (w w' : World) : Prop := ∃ F' : Nat → Prop, DiskAt F' b D w' ∧ Grow F w w' ∧ ∀ k, F' k → F k ∨ w.heap.size ≤ k

theorem ownsRow_of_same {w w' : World} {base e size n : Nat} {v : Value} {xs : List Value} (h : w.ownsRow base e size v n xs) (hs : ∀ g, v.ownBlock = some g → w'.heap[g]? = w.heap[g]?) : w'.ownsRow base e size v n xs := by
  refine ⟨h.1, ?_⟩
  rcases h.2 with hn | ⟨g, cap, cur, rfl, hb, hg, rest⟩
  · exact .inl hn
  · exact .inr ⟨g, cap, cur, rfl, hb, by rw [hs g rfl]; exact hg, rest⟩
theorem ownsRow_base {w : World} {base e size n : Nat} {v : Value} {xs : List Value} (h : w.ownsRow base e size v n xs) (base' : Nat) (hb : ∀ g, v.ownBlock = some g → base' ≤ g) : w.ownsRow base' e size v n xs := by
  refine ⟨h.1, ?_⟩
  rcases h.2 with hn | ⟨g, cap, cur, rfl, _, hg, rest⟩
  · exact .inl hn
  · exact .inr ⟨g, cap, cur, rfl, hb g rfl, hg, rest⟩
theorem ownsRow_shape {w : World} {base e size n : Nat} {v : Value} {xs : List Value} (h : w.ownsRow base e size v n xs) : ∃ ao cap, v = .slice ao n cap ∧ n ≤ cap ∧ cap ≤ maxLen ∧ (ao = none → n = 0 ∧ cap = 0) := by
  rcases h.2 with ⟨rfl, rfl⟩ | ⟨g, cap, cur, rfl, _, _, h1, h2, _⟩
  · exact ⟨none, 0, rfl, Nat.le_refl _, Nat.zero_le _, fun _ => ⟨rfl, rfl⟩⟩
  · exact ⟨_, cap, rfl, h1, h2, fun h => by cases h⟩
theorem ownsRow_block {w : World} {base e size n : Nat} {v : Value} {xs : List Value} (h : w.ownsRow base e size v n xs) {g : Nat} (hg : v.ownBlock = some g) : base ≤ g ∧ ∃ cur, w.heap[g]? = some (.cells cur e (0, 0)) := by
  rcases h.2 with ⟨rfl, rfl⟩ | ⟨g', cap, cur, rfl, hb, hh, _⟩
  · cases hg
  · cases hg
    exact ⟨hb, cur, hh⟩

namespace DiskIn
variable {F : Nat → Prop} {b : Nat} {D : DS} {nb lb : Nat} {wv sv : Value} {w : World}
theorem of_agree (h : DiskIn F b D nb lb wv sv w) {w' : World} (hs : ∀ k, F k → w'.heap[k]? = w.heap[k]?) (hz : w.heap.size ≤ w'.heap.size) : DiskIn F b D nb lb wv sv w' :=
  ⟨h.blk.of_same (hs b h.fb), h.now.of_same (hs nb h.fnb), h.lasts.of_same (hs lb h.flb), ownsRow_of_same h.waits (fun g hg => hs g (h.fwv g hg)), ownsRow_of_same h.stays (fun g hg => hs g (h.fsv g hg)),
    h.ne, h.fb, h.fnb, h.flb, h.fwv, h.fsv, fun k hk => Nat.lt_of_lt_of_le (h.flt k hk) hz, h.sn⟩
theorem grow (h : DiskIn F b D nb lb wv sv w) {w' : World} {G : Nat → Prop} (hg : Grow G w w') (hd : ∀ k, F k → ¬ G k) : DiskIn F b D nb lb wv sv w' :=
  h.of_agree (fun k hk => hg.block k (h.flt k hk) (hd k hk)) hg.size
theorem b_ne_nb (h : DiskIn F b D nb lb wv sv w) : nb ≠ b := by
  rintro rfl
  obtain ⟨es, c, hb, _⟩ := h.now
  rw [h.blk.blk] at hb
  cases hb
theorem b_ne_lb (h : DiskIn F b D nb lb wv sv w) : lb ≠ b := by
  rintro rfl
  obtain ⟨es, c, hb, _⟩ := h.lasts
  rw [h.blk.blk] at hb
  cases hb
theorem b_ne_wv (h : DiskIn F b D nb lb wv sv w) {g : Nat} (hg : wv.ownBlock = some g) : g ≠ b := by
  rintro rfl
  obtain ⟨_, cur, hb⟩ := ownsRow_block h.waits hg
  rw [h.blk.blk] at hb
  simp at hb
theorem b_ne_sv (h : DiskIn F b D nb lb wv sv w) {g : Nat} (hg : sv.ownBlock = some g) : g ≠ b := by
  rintro rfl
  obtain ⟨_, cur, hb⟩ := ownsRow_block h.stays hg
  rw [h.blk.blk] at hb
  simp at hb
theorem wv_ne_nb (h : DiskIn F b D nb lb wv sv w) {g : Nat} (hg : wv.ownBlock = some g) : g ≠ nb := by
  rintro rfl
  obtain ⟨_, cur, hb⟩ := ownsRow_block h.waits hg
  obtain ⟨es, c, hb', _⟩ := h.now
  rw [hb'] at hb
  cases hb
theorem wv_ne_lb (h : DiskIn F b D nb lb wv sv w) {g : Nat} (hg : wv.ownBlock = some g) : g ≠ lb := by
  rintro rfl
  obtain ⟨_, cur, hb⟩ := ownsRow_block h.waits hg
  obtain ⟨es, c, hb', _⟩ := h.lasts
  rw [hb'] at hb
  cases hb
theorem sv_ne_nb (h : DiskIn F b D nb lb wv sv w) {g : Nat} (hg : sv.ownBlock = some g) : g ≠ nb := by
  rintro rfl
  obtain ⟨_, cur, hb⟩ := ownsRow_block h.stays hg
  obtain ⟨es, c, hb', _⟩ := h.now
  rw [hb'] at hb
  cases hb
theorem sv_ne_lb (h : DiskIn F b D nb lb wv sv w) {g : Nat} (hg : sv.ownBlock = some g) : g ≠ lb := by
  rintro rfl
  obtain ⟨_, cur, hb⟩ := ownsRow_block h.stays hg
  obtain ⟨es, c, hb', _⟩ := h.lasts
  rw [hb'] at hb
  cases hb
theorem wv_ne_sv (h : DiskIn F b D nb lb wv sv w) {g : Nat} (hg : wv.ownBlock = some g) : sv.ownBlock ≠ some g := by
  intro hg'
  obtain ⟨_, cur, hb⟩ := ownsRow_block h.waits hg
  obtain ⟨_, cur', hb'⟩ := ownsRow_block h.stays hg'
  rw [hb'] at hb
  simp at hb

/-- A store into the disk's own block. -/
theorem store (h : DiskIn F b D nb lb wv sv w) {D' : DS} {i : Nat} {v : Value} (hb : BlkAt b D' (some nb) (some lb) wv sv (w.setCell ⟨b, i, none⟩ v))
    (hn : D'.now = D.now) (hl : D'.lasts = D.lasts) (hw : D'.waits = D.waits) (hs : D'.stays = D.stays) (hq : D'.nilS = D.nilS := by rfl) : DiskIn F b D' nb lb wv sv (w.setCell ⟨b, i, none⟩ v) :=
  ⟨hb, by rw [hn]; exact h.now.of_same (block_setCell_ne h.b_ne_nb v), by rw [hl]; exact h.lasts.of_same (block_setCell_ne h.b_ne_lb v),
    by rw [hw]; exact ownsRow_of_same h.waits (fun g hg => block_setCell_ne (h.b_ne_wv hg) v), by rw [hs]; exact ownsRow_of_same h.stays (fun g hg => block_setCell_ne (h.b_ne_sv hg) v),
    h.ne, h.fb, h.fnb, h.flb, h.fwv, h.fsv, (fun k hk => by rw [size_setCell]; exact h.flt k hk), by rw [hq]; exact h.sn⟩
/-- A new list of what stays. -/
theorem storeStays (h : DiskIn F b D nb lb wv sv w) {zs : List Int} {v : Value} (ho : w.ownsRow 0 3 1 v zs.length (intCells zs)) (hf : ∀ g, v.ownBlock = some g → F g) :
    DiskIn F b { D with stays := zs, nilS := false } nb lb wv v (w.setCell ⟨b, 43, none⟩ v) := by
  have hne : ∀ g, v.ownBlock = some g → g ≠ b := by
    rintro g hg rfl
    obtain ⟨_, cur, hb⟩ := ownsRow_block ho hg
    rw [h.blk.blk] at hb
    simp at hb
  have hb := h.blk.set43 v
  exact ⟨⟨hb.blk, hb.lt, hb.lw⟩, h.now.of_same (block_setCell_ne h.b_ne_nb v), h.lasts.of_same (block_setCell_ne h.b_ne_lb v),
    ownsRow_of_same h.waits (fun g hg => block_setCell_ne (h.b_ne_wv hg) v), ownsRow_of_same ho (fun g hg => block_setCell_ne (hne g hg) v),
    h.ne, h.fb, h.fnb, h.flb, h.fwv, hf, (fun k hk => by rw [size_setCell]; exact h.flt k hk), fun hq => by cases hq⟩
/-- A new list of what waits. -/
theorem storeWaits (h : DiskIn F b D nb lb wv sv w) {l : List Wr} {v : Value} (ho : w.ownsRow 0 125 4 v l.length (wrCells l)) (hf : ∀ g, v.ownBlock = some g → F g) :
    DiskIn F b { D with waits := l } nb lb v sv (w.setCell ⟨b, 5, none⟩ v) := by
  have hne : ∀ g, v.ownBlock = some g → g ≠ b := by
    rintro g hg rfl
    obtain ⟨_, cur, hb⟩ := ownsRow_block ho hg
    rw [h.blk.blk] at hb
    simp at hb
  have hb := h.blk.set5 v
  exact ⟨⟨hb.blk, hb.lt, hb.lw⟩, h.now.of_same (block_setCell_ne h.b_ne_nb v), h.lasts.of_same (block_setCell_ne h.b_ne_lb v),
    ownsRow_of_same ho (fun g hg => block_setCell_ne (hne g hg) v), ownsRow_of_same h.stays (fun g hg => block_setCell_ne (h.b_ne_sv hg) v),
    h.ne, h.fb, h.fnb, h.flb, hf, h.fsv, (fun k hk => by rw [size_setCell]; exact h.flt k hk), h.sn⟩
/-- More blocks may be the disk's own. -/
theorem widen (h : DiskIn F b D nb lb wv sv w) {G : Nat → Prop} (hG : ∀ k, F k → G k) (hlt : ∀ k, G k → k < w.heap.size) : DiskIn G b D nb lb wv sv w :=
  ⟨h.blk, h.now, h.lasts, h.waits, h.stays, h.ne, hG _ h.fb, hG _ h.fnb, hG _ h.flb, fun g hg => hG g (h.fwv g hg), fun g hg => hG g (h.fsv g hg), hlt, h.sn⟩
/-- The blocks of F and all that are new: from block number B on. -/
theorem wide (h : DiskIn F b D nb lb wv sv w) (B : Nat) : DiskIn (fun k => F k ∨ (B ≤ k ∧ k < w.heap.size)) b D nb lb wv sv w :=
  h.widen (fun k hk => .inl hk) (fun k hk => by rcases hk with hk | hk; exact h.flt k hk; exact hk.2)
end DiskIn

theorem DiskTo.same {F : Nat → Prop} {b : Nat} {D : DS} {nb lb : Nat} {wv sv : Value} {w : World} (h : DiskIn F b D nb lb wv sv w) : DiskTo F b D w w := ⟨F, ⟨nb, lb, wv, sv, h⟩, Grow.refl _ _, fun k hk => .inl hk⟩
theorem DiskTo.mk' {F F' : Nat → Prop} {b : Nat} {D : DS} {nb lb : Nat} {wv sv : Value} {w w' : World} (h : DiskIn F' b D nb lb wv sv w') (hg : Grow F w w') (hF : ∀ k, F' k → F k ∨ w.heap.size ≤ k) : DiskTo F b D w w' := ⟨F', ⟨nb, lb, wv, sv, h⟩, hg, hF⟩
theorem DiskTo.trans {F F' : Nat → Prop} {b : Nat} {D' : DS} {w w1 w' : World} (hg : Grow F w w1) (hF : ∀ k, F' k → F k ∨ w.heap.size ≤ k) (h : DiskTo F' b D' w1 w') : DiskTo F b D' w w' := by
  obtain ⟨F2, hd, hg2, h2⟩ := h
  refine ⟨F2, hd, hg.trans hg2 hF, fun k hk => ?_⟩
  rcases h2 k hk with h3 | h3
  · exact hF k h3
  · exact .inr (Nat.le_trans hg.size h3)

end Go.Proofs.YtkgdpmeheakdcaaGreat
