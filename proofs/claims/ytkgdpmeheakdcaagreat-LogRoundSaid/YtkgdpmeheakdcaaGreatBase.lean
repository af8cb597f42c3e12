/- The abstract disk, and how it lies in memory: plain lemmas, no walk. -/
import Derived.Test.YtkgdpmeheakdcaaGreatProg
import Derived.WalkKit
import Derived.WalkLawsBesides
import Derived.WalkSpells
import Derived.Lib.Hide
namespace Go.Proofs.YtkgdpmeheakdcaaGreat
open Go.RowKit

/-- A sector that waits, or the one that lasts. -/
structure Wr where
  node : Int
  pl : Int
  seq : Int
  data : ByteArray

def Wr.cells (x : Wr) : List Value := [.int .i64 x.node, .int .i64 x.pl, .int .i64 x.seq, .string x.data]

/-- What a disk is, as plain data. -/
structure DS where
  sectors : Int
  on : Bool
  seq : Int
  now : Int → Option ByteArray
  lasts : Int → Option Wr
  waits : List Wr
  table : List Int
  words : List Int
  last : Int
  armed : Bool
  left : Int
  stays : List Int
  nilS : Bool

def ints64 (l : List Int) : List Value := l.map (Value.int .u64)

/-- The 44 cells of a disk's block. -/
def DS.cells (D : DS) (nb lb : Option Nat) (wv sv : Value) : Array Value :=
  (.int .i64 D.sectors :: .bool D.on :: .int .i64 D.seq :: .map nb :: .map lb :: wv :: (ints64 D.table ++ (ints64 D.words ++ [.int .u64 D.last, .bool D.armed, .int .i64 D.left, sv]))).toArray

theorem ints64_length (l : List Int) : (ints64 l).length = l.length := by simp [ints64]

/-- The block of a disk. -/
structure BlkAt (b : Nat) (D : DS) (nb lb : Option Nat) (wv sv : Value) (w : World) : Prop where
  blk : w.heap[b]? = some (.cells (D.cells nb lb wv sv) 106 (0, 0))
  lt : D.table.length = 17
  lw : D.words.length = 17

namespace BlkAt
variable {b : Nat} {D : DS} {nb lb : Option Nat} {wv sv : Value} {w : World}
theorem cell (h : BlkAt b D nb lb wv sv w) (i : Nat) : w.cell? ⟨b, i, none⟩ = (D.cells nb lb wv sv)[i]? := by
  simp [World.cell?, h.blk]
theorem c0 (h : BlkAt b D nb lb wv sv w) : w.cell? ⟨b, 0, none⟩ = some (.int .i64 D.sectors) := by rw [h.cell]; rfl
theorem c1 (h : BlkAt b D nb lb wv sv w) : w.cell? ⟨b, 1, none⟩ = some (.bool D.on) := by rw [h.cell]; rfl
theorem c2 (h : BlkAt b D nb lb wv sv w) : w.cell? ⟨b, 2, none⟩ = some (.int .i64 D.seq) := by rw [h.cell]; rfl
theorem c3 (h : BlkAt b D nb lb wv sv w) : w.cell? ⟨b, 3, none⟩ = some (.map nb) := by rw [h.cell]; rfl
theorem c4 (h : BlkAt b D nb lb wv sv w) : w.cell? ⟨b, 4, none⟩ = some (.map lb) := by rw [h.cell]; rfl
theorem c5 (h : BlkAt b D nb lb wv sv w) : w.cell? ⟨b, 5, none⟩ = some wv := by rw [h.cell]; rfl
theorem tab (h : BlkAt b D nb lb wv sv w) (i : Nat) (hi : i < 17) : w.cell? ⟨b, 6 + i, none⟩ = some (.int .u64 (D.table.getD i 0)) := by
  have hl := h.lt
  rw [h.cell]
  simp only [DS.cells, List.getElem?_toArray, show 6 + i = i + 6 from by omega, List.getElem?_cons_succ]
  rw [List.getElem?_append_left (by rw [ints64_length]; omega)]
  simp [ints64, List.getElem?_eq_getElem (show i < D.table.length by omega)]
theorem wrd (h : BlkAt b D nb lb wv sv w) (i : Nat) (hi : i < 17) : w.cell? ⟨b, 23 + i, none⟩ = some (.int .u64 (D.words.getD i 0)) := by
  have hl := h.lt
  have hw := h.lw
  rw [h.cell]
  simp only [DS.cells, List.getElem?_toArray, show 23 + i = (17 + i) + 6 from by omega, List.getElem?_cons_succ]
  rw [List.getElem?_append_right (by rw [ints64_length]; omega), ints64_length, hl, show 17 + i - 17 = i by omega,
    List.getElem?_append_left (by rw [ints64_length]; omega)]
  simp [ints64, List.getElem?_eq_getElem (show i < D.words.length by omega)]
theorem tail (h : BlkAt b D nb lb wv sv w) (i : Nat) : w.cell? ⟨b, 40 + i, none⟩ = [Value.int .u64 D.last, .bool D.armed, .int .i64 D.left, sv][i]? := by
  have hl := h.lt
  have hw := h.lw
  rw [h.cell]
  simp only [DS.cells, List.getElem?_toArray, show 40 + i = (34 + i) + 6 from by omega, List.getElem?_cons_succ]
  rw [List.getElem?_append_right (by rw [ints64_length]; omega), ints64_length, hl, show 34 + i - 17 = 17 + i by omega,
    List.getElem?_append_right (by rw [ints64_length]; omega), ints64_length, hw, show 17 + i - 17 = i by omega]
theorem c40 (h : BlkAt b D nb lb wv sv w) : w.cell? ⟨b, 40, none⟩ = some (.int .u64 D.last) := h.tail 0
theorem c41 (h : BlkAt b D nb lb wv sv w) : w.cell? ⟨b, 41, none⟩ = some (.bool D.armed) := h.tail 1
theorem c42 (h : BlkAt b D nb lb wv sv w) : w.cell? ⟨b, 42, none⟩ = some (.int .i64 D.left) := h.tail 2
theorem c43 (h : BlkAt b D nb lb wv sv w) : w.cell? ⟨b, 43, none⟩ = some sv := h.tail 3
theorem fz (h : BlkAt b D nb lb wv sv w) (i : Nat) : w.frozen? ⟨b, i, none⟩ = false := by
  simp [World.frozen?, h.blk]
end BlkAt

/-! ### A store into a block -/
theorem block_setCell {w : World} {b i : Nat} {cs : Array Value} {T : TypeId} {fz : Nat × Nat} (h : w.heap[b]? = some (.cells cs T fz)) (v : Value) :
    (w.setCell ⟨b, i, none⟩ v).heap[b]? = some (.cells (cs.setIfInBounds i v) T fz) := by
  simp [World.setCell, Array.getElem?_modify, h]
theorem block_setCell_ne {w : World} {b b' i : Nat} (h : b' ≠ b) (v : Value) : (w.setCell ⟨b, i, none⟩ v).heap[b']? = w.heap[b']? := by
  simp [World.setCell, Array.getElem?_modify, Ne.symm h]
theorem size_setCell {w : World} {a : Addr} (v : Value) : (w.setCell a v).heap.size = w.heap.size := by
  simp [World.setCell]

namespace BlkAt
variable {b : Nat} {D : DS} {nb lb : Option Nat} {wv sv : Value} {w : World}
theorem set1 (h : BlkAt b D nb lb wv sv w) (x : Bool) : BlkAt b { D with on := x } nb lb wv sv (w.setCell ⟨b, 1, none⟩ (.bool x)) :=
  ⟨by rw [block_setCell h.blk]; rfl, h.lt, h.lw⟩
theorem set2 (h : BlkAt b D nb lb wv sv w) (x : Int) : BlkAt b { D with seq := x } nb lb wv sv (w.setCell ⟨b, 2, none⟩ (.int .i64 x)) :=
  ⟨by rw [block_setCell h.blk]; rfl, h.lt, h.lw⟩
theorem set3 (h : BlkAt b D nb lb wv sv w) (x : Option Nat) : BlkAt b D x lb wv sv (w.setCell ⟨b, 3, none⟩ (.map x)) :=
  ⟨by rw [block_setCell h.blk]; rfl, h.lt, h.lw⟩
theorem set5 (h : BlkAt b D nb lb wv sv w) (x : Value) : BlkAt b D nb lb x sv (w.setCell ⟨b, 5, none⟩ x) :=
  ⟨by rw [block_setCell h.blk]; rfl, h.lt, h.lw⟩
theorem setTab (h : BlkAt b D nb lb wv sv w) (i : Nat) (hi : i < 17) (x : Int) : BlkAt b { D with table := D.table.set i x } nb lb wv sv (w.setCell ⟨b, 6 + i, none⟩ (.int .u64 x)) := by
  refine ⟨?_, by simp [h.lt], h.lw⟩
  have hl := h.lt
  rw [block_setCell h.blk]
  simp only [DS.cells, List.setIfInBounds_toArray, show 6 + i = i + 6 from by omega, List.set_cons_succ]
  rw [List.set_append_left _ _ (by rw [ints64_length]; omega)]
  simp [ints64, List.map_set]
theorem setWrd (h : BlkAt b D nb lb wv sv w) (i : Nat) (hi : i < 17) (x : Int) : BlkAt b { D with words := D.words.set i x } nb lb wv sv (w.setCell ⟨b, 23 + i, none⟩ (.int .u64 x)) := by
  refine ⟨?_, h.lt, by simp [h.lw]⟩
  have hl := h.lt
  have hw := h.lw
  rw [block_setCell h.blk]
  simp only [DS.cells, List.setIfInBounds_toArray, show 23 + i = (17 + i) + 6 from by omega, List.set_cons_succ]
  rw [List.set_append_right _ _ (by rw [ints64_length]; omega), ints64_length, hl, show 17 + i - 17 = i by omega, List.set_append_left _ _ (by rw [ints64_length]; omega)]
  simp [ints64, List.map_set]
theorem setTail (h : BlkAt b D nb lb wv sv w) (i : Nat) (x : Value) {L : Int} {A : Bool} {E : Int} {sv' : Value}
    (he : [Value.int .u64 D.last, .bool D.armed, .int .i64 D.left, sv].set i x = [Value.int .u64 L, .bool A, .int .i64 E, sv']) :
    BlkAt b { D with last := L, armed := A, left := E } nb lb wv sv' (w.setCell ⟨b, 40 + i, none⟩ x) := by
  refine ⟨?_, h.lt, h.lw⟩
  have hl := h.lt
  have hw := h.lw
  rw [block_setCell h.blk]
  simp only [DS.cells, List.setIfInBounds_toArray, show 40 + i = (34 + i) + 6 from by omega, List.set_cons_succ]
  rw [List.set_append_right _ _ (by rw [ints64_length]; omega), ints64_length, hl, show 34 + i - 17 = 17 + i by omega,
    List.set_append_right _ _ (by rw [ints64_length]; omega), ints64_length, hw, show 17 + i - 17 = i by omega, he]
theorem set40 (h : BlkAt b D nb lb wv sv w) (x : Int) : BlkAt b { D with last := x } nb lb wv sv (w.setCell ⟨b, 40, none⟩ (.int .u64 x)) := h.setTail 0 _ rfl
theorem set41 (h : BlkAt b D nb lb wv sv w) (x : Bool) : BlkAt b { D with armed := x } nb lb wv sv (w.setCell ⟨b, 41, none⟩ (.bool x)) := h.setTail 1 _ rfl
theorem set42 (h : BlkAt b D nb lb wv sv w) (x : Int) : BlkAt b { D with left := x } nb lb wv sv (w.setCell ⟨b, 42, none⟩ (.int .i64 x)) := h.setTail 2 _ rfl
theorem set43 (h : BlkAt b D nb lb wv sv w) (x : Value) : BlkAt b D nb lb wv x (w.setCell ⟨b, 43, none⟩ x) := h.setTail 3 _ rfl
theorem of_same (h : BlkAt b D nb lb wv sv w) {w' : World} (hs : w'.heap[b]? = w.heap[b]?) : BlkAt b D nb lb wv sv w' := ⟨by rw [hs]; exact h.blk, h.lt, h.lw⟩
end BlkAt

end Go.Proofs.YtkgdpmeheakdcaaGreat
