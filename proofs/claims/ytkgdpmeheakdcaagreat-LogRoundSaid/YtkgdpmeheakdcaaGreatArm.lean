/- Arm; the disk's small stores. -/
import Derived.Test.YtkgdpmeheakdcaaGreatDisk
namespace Go.Proofs.YtkgdpmeheakdcaaGreat
open Go.RowKit
set_option linter.all false

/-- A slice of ints that a call is handed: its cells read as zs. -/
structure Keep (w : World) (ao : Option Addr) (len : Nat) (zs : List Int) : Prop where
  hlen : zs.length = len
  hnil : ao = none → len = 0
  cells : ∀ a, ao = some a → ∀ j u, (intCells zs)[j]? = some u → w.cell? (a.add j) = some u
  small : len ≤ 1000000000

theorem intCells_one (zs : List Int) : ∀ u ∈ intCells zs, u.oneCell' = true := by
  intro u hu
  obtain ⟨_, _, rfl⟩ := List.mem_map.1 hu
  rfl

theorem arm_nil (n : Int) (v : Value) (w : World) : Calls Tryz.prog 136 #[.pointer none, .int .i64 n, v] w fun e w' => e = .returned (.tuple #[]) ∧ w = w' := by
  go_enter Tryz.func136, Tryz.ntmps136
  go_wp2
  go_end0
  exact ⟨rfl, rfl⟩

/-- What Arm leaves. -/
def ArmTo (F : Nat → Prop) (b : Nat) (D : DS) (nb lb : Nat) (wv : Value) (w w' : World) : Prop :=
  ∃ (F' : Nat → Prop) (v : Value), DiskIn F' b D nb lb wv v w' ∧ Grow (fun k => k = b) w w' ∧ ∀ k, F' k → F k ∨ w.heap.size ≤ k

theorem arm_any {F : Nat → Prop} {b : Nat} {D : DS} {nb lb : Nat} {wv sv : Value} {w : World} (h : DiskIn F b D nb lb wv sv w) (n : Int) (ao : Option Addr) (len cap : Nat) (zs : List Int) (hk : Keep w ao len zs) :
    Calls Tryz.prog 136 #[.pointer (some ⟨b, 0, none⟩), .int .i64 n, .slice ao len cap] w fun e w' => e = .returned (.tuple #[]) ∧ ArmTo F b { D with armed := decide (0 ≤ n), left := n, stays := zs, nilS := false } nb lb wv w w' := by
  have HC := Lib.hid (clone_int ao len cap (intCells zs) w (by simp [intCells, hk.hlen]) hk.hnil hk.cells (intCells_one zs) (by have := hk.small; omega))
  have HD := Lib.hid h
  have HK := Lib.hid hk
  clear h hk
  go_enter Tryz.func136, Tryz.ntmps136
  go_wp2_with fail
  refine HC.out.mono ?_
  rintro e w1 ⟨v, rfl, hown, hg⟩
  obtain ⟨ao', cap', rfl, -, -, -⟩ := ownsRow_shape hown
  have D1 := HD.out.grow (G := fun _ => False) (Grow.of_grownBy (F := fun _ => False) hg (fun g h => by cases h)) (fun k _ h => h)
  have D1w := D1.wide w.heap.size
  have s41 := D1w.store (D1w.blk.set41 (decide (0 ≤ n))) rfl rfl rfl rfl
  have s42 := s41.store (s41.blk.set42 n) rfl rfl rfl rfl
  have hown' : ((w1.setCell ⟨b, 41, none⟩ (.bool (decide (0 ≤ n)))).setCell ⟨b, 42, none⟩ (.int .i64 n)).ownsRow 0 3 1 (.slice ao' len cap') zs.length (intCells zs) := by
    rw [HK.out.hlen]
    refine ownsRow_base (ownsRow_of_same hown (fun g hg' => ?_)) 0 (fun _ _ => Nat.zero_le _)
    have hge := (ownsRow_block hown hg').1
    have hb : b < w.heap.size := HD.out.flt b HD.out.fb
    rw [block_setCell_ne (by omega), block_setCell_ne (by omega)]
  have s43 := s42.storeStays hown' (fun g hg' => .inr ⟨(ownsRow_block hown hg').1, by
    obtain ⟨_, cur, hb⟩ := ownsRow_block hown hg'
    exact (Array.getElem?_eq_some_iff.1 hb).1⟩)
  have hfin : ArmTo F b { D with armed := decide (0 ≤ n), left := n, stays := zs, nilS := false } nb lb wv w (((w1.setCell ⟨b, 41, none⟩ (.bool (decide (0 ≤ n)))).setCell ⟨b, 42, none⟩ (.int .i64 n)).setCell ⟨b, 43, none⟩ (.slice ao' len cap')) := by
    refine ⟨_, _, s43, (((((Grow.of_grownBy (F := fun k => k = b) hg (fun g h => by cases h))).trans (Grow.setCell (F := fun k => k = b) rfl _) (fun x hx => .inl hx)).trans (Grow.setCell (F := fun k => k = b) rfl _) (fun x hx => .inl hx)).trans (Grow.setCell (F := fun k => k = b) rfl _) (fun x hx => .inl hx)), fun k hk => ?_⟩
    rcases hk with hk | hk
    · exact .inl hk
    · exact .inr hk.1
  have HF := Lib.hid hfin
  have c41 := D1.blk.c41
  have c42 := D1.blk.c42
  have c43 := D1.blk.c43
  have f41 := D1.blk.fz 41
  have f42 := D1.blk.fz 42
  have f43 := D1.blk.fz 43
  clear hown hg D1 D1w s41 s42 s43 hown' hfin HC HD HK
  go_wp2
  go_end0
  exact ⟨rfl, HF.out⟩

theorem Keep.nil (w : World) : Keep w none 0 [] := ⟨rfl, fun _ => rfl, (fun a h => by cases h), by omega⟩

/-- Arm(-1): the disk is armed no more. -/
theorem arm_off {F : Nat → Prop} {b : Nat} {D : DS} {nb lb : Nat} {wv sv : Value} {w : World} (h : DiskIn F b D nb lb wv sv w) :
    Calls Tryz.prog 136 #[.pointer (some ⟨b, 0, none⟩), .int .i64 (-1), .slice none 0 0] w fun e w' => e = .returned (.tuple #[]) ∧ ArmTo F b { D with armed := false, left := -1, stays := [], nilS := false } nb lb wv w w' :=
  arm_any h (-1) none 0 0 [] (Keep.nil w)

theorem ArmTo.disk {F : Nat → Prop} {b : Nat} {D : DS} {nb lb : Nat} {wv : Value} {w w' : World} (h : ArmTo F b D nb lb wv w w') (hb : F b) : DiskTo F b D w w' := by
  obtain ⟨F', v, hd, hg, hF⟩ := h
  exact ⟨F', ⟨_, _, _, _, hd⟩, ⟨hg.os, hg.tape, hg.output, hg.size, fun k hk hn => hg.block k hk (fun e => by subst e; exact hn hb)⟩, hF⟩

end Go.Proofs.YtkgdpmeheakdcaaGreat
