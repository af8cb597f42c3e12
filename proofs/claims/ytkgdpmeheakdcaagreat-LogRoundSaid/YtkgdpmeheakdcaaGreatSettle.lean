/- settle: all that a node wrote lasts. -/
import Derived.Test.YtkgdpmeheakdcaaGreatKeep
import Derived.LoopTactic
namespace Go.Proofs.YtkgdpmeheakdcaaGreat
open Go.RowKit
set_option linter.all false
set_option maxRecDepth 100000

def settleL (node : Int) (L : Int → Option Wr) : List Wr → Int → Option Wr
  | [] => L
  | x :: l => settleL node (if x.node = node then keepW L x else L) l
def settle (D : DS) (node : Int) : DS := { D with lasts := settleL node D.lasts D.waits, waits := D.waits.filter (fun x => !(x.node == node)) }

theorem settleL_snoc (node : Int) (l : List Wr) (x : Wr) : ∀ L, settleL node L (l ++ [x]) = if x.node = node then keepW (settleL node L l) x else settleL node L l := by
  induction l with
  | nil => intro L; rfl
  | cons y l ih => intro L; exact ih _

theorem take_succ' {α : Type} (l : List α) (k : Nat) (h : k < l.length) : l.take (k + 1) = l.take k ++ [l[k]] := by
  rw [List.take_succ_eq_append_getElem h]

theorem wrCells_length (l : List Wr) : (wrCells l).length = l.length * 4 := by
  induction l with
  | nil => rfl
  | cons x l ih =>
    have : wrCells (x :: l) = x.cells ++ wrCells l := rfl
    rw [this, List.length_append, ih]
    simp [Wr.cells]
    omega

theorem wrCells_get (l : List Wr) (k j : Nat) (hk : k < l.length) (hj : j < 4) : (wrCells l)[k * 4 + j]? = l[k].cells[j]? := by
  induction l generalizing k with
  | nil => simp at hk
  | cons x l ih =>
    have e : wrCells (x :: l) = x.cells ++ wrCells l := rfl
    have hx : x.cells.length = 4 := rfl
    rw [e]
    cases k with
    | zero =>
      rw [Nat.zero_mul, Nat.zero_add, List.getElem?_append_left (by rw [hx]; exact hj)]
      rfl
    | succ k =>
      rw [List.getElem?_append_right (by rw [hx]; omega), hx, show (k + 1) * 4 + j - 4 = k * 4 + j by omega, ih k (by simpa using hk)]
      rfl

/-- The cells of one that waits. -/
theorem waits_cell {w : World} {g cap : Nat} {l : List Wr} (h : w.ownsRow 0 125 4 (.slice (some ⟨g, 0, none⟩) l.length cap) l.length (wrCells l)) (k : Nat) (x : Wr) (hx : l[k]? = some x) (j : Nat) (hj : j < 4) :
    w.cell? ⟨g, k * 4 + j, none⟩ = x.cells[j]? := by
  obtain ⟨hk, rfl⟩ := List.getElem?_eq_some_iff.1 hx
  have hl : k * 4 + j < (wrCells l).length := by rw [wrCells_length]; omega
  have hc := h.cells (g := g) rfl (k * 4 + j) ((wrCells l)[k * 4 + j]) (List.getElem?_eq_getElem hl)
  rw [Addr.add_lit, Nat.zero_add] at hc
  rw [hc, ← wrCells_get l k j hk hj, List.getElem?_eq_getElem hl]

/-- What holds at the head of settle's round k. -/
structure SettleRel (F : Nat → Prop) (b : Nat) (D : DS) (nb lb : Nat) (wv sv : Value) (w : World) (node : Int) (k : Nat) (v : Value) (wr : World) : Prop where
  disk : DiskIn F b { D with lasts := settleL node D.lasts (D.waits.take k) } nb lb wv sv wr
  left : wr.ownsRow w.heap.size 125 4 v ((D.waits.take k).filter (fun x => !(x.node == node))).length (wrCells ((D.waits.take k).filter (fun x => !(x.node == node))))
  grow : Grow F w wr

theorem SettleRel.keep {F : Nat → Prop} {b : Nat} {D : DS} {nb lb : Nat} {wv sv : Value} {w : World} {node : Int} {k : Nat} {v : Value} {wr w' : World} {o : Obj} {x : Wr} (h : SettleRel F b D nb lb wv sv w node k v wr) (hF : ∀ k, F k → k < w.heap.size)
    (hx : D.waits[k]? = some x) (hn : x.node = node) (hd : DiskIn F b { D with lasts := keepW (settleL node D.lasts (D.waits.take k)) x } nb lb wv sv w') (hg : Grow (fun k => k = lb) (wr.alloc o) w') :
    SettleRel F b D nb lb wv sv w node (k + 1) v w' := by
  obtain ⟨hk, rfl⟩ := List.getElem?_eq_some_iff.1 hx
  have hlb := hF lb h.disk.flb
  refine ⟨?_, ?_, ?_⟩
  · rw [take_succ' _ _ hk, settleL_snoc, if_pos hn]
    exact hd
  · rw [take_succ' _ _ hk, List.filter_append]
    simp only [List.filter_cons, hn, beq_self_eq_true, Bool.not_true, Bool.false_eq_true, if_false, List.filter_nil, List.append_nil]
    refine ownsRow_of_same (h.left.alloc o) (fun g hg' => ?_)
    have hb := (ownsRow_block (h.left.alloc o) hg')
    exact hg.block g (by obtain ⟨_, cur, hh⟩ := hb; exact (Array.getElem?_eq_some_iff.1 hh).1) (by omega)
  · exact (h.grow.trans (Grow.alloc (F := F) wr o) (fun x hx => .inl hx)).trans (hg.mono (fun k hk => by subst hk; exact h.disk.flb)) (fun x hx => .inl hx)

theorem wrCells_snoc (l : List Wr) (x : Wr) : wrCells (l ++ [x]) = wrCells l ++ x.cells := by simp [wrCells]

theorem SettleRel.app {F : Nat → Prop} {b : Nat} {D : DS} {nb lb : Nat} {wv sv : Value} {w : World} {node : Int} {k : Nat} {v v' : Value} {wr w' : World} {o o' : Obj} {x : Wr} (h : SettleRel F b D nb lb wv sv w node k v wr) (hF : ∀ k, F k → k < w.heap.size)
    (hx : D.waits[k]? = some x) (hn : ¬ x.node = node) {l : Nat} (hl : l = ((D.waits.take k).filter (fun x => !(x.node == node))).length) (ho : w'.ownsRow w.heap.size 125 4 v' (l + 1) (wrCells ((D.waits.take k).filter (fun x => !(x.node == node))) ++ x.cells))
    (hg : ((wr.alloc o).alloc o').grownBy w' v.ownBlock) :
    SettleRel F b D nb lb wv sv w node (k + 1) v' w' := by
  obtain ⟨hk, rfl⟩ := List.getElem?_eq_some_iff.1 hx
  have hnb : (D.waits[k].node == node) = false := by simpa using hn
  have hfl : (D.waits.take (k + 1)).filter (fun x => !(x.node == node)) = (D.waits.take k).filter (fun x => !(x.node == node)) ++ [D.waits[k]] := by
    rw [take_succ' _ _ hk, List.filter_append]
    simp [List.filter_cons, hn]
  have hgr : Grow (fun g => v.ownBlock = some g) wr w' := ((Grow.alloc wr o).trans (F' := fun g => v.ownBlock = some g) (Grow.alloc _ o') (fun _ h => .inl h)).trans (Grow.of_grownBy hg (fun g h => h)) (fun _ h => .inl h)
  have hv : ∀ g, v.ownBlock = some g → w.heap.size ≤ g := fun g hg' => (ownsRow_block h.left hg').1
  refine ⟨?_, ?_, ?_⟩
  · rw [take_succ' _ _ hk, settleL_snoc, if_neg hn]
    exact h.disk.grow hgr (fun k hk hv' => by have := hv k hv'; have := hF k hk; omega)
  · rw [hfl, wrCells_snoc, List.length_append, ← hl]
    exact ho
  · exact h.grow.trans hgr (fun x hx => .inr (hv x hx))

theorem SettleRel.fin {F : Nat → Prop} {b : Nat} {D : DS} {nb lb : Nat} {wv sv : Value} {w : World} {node : Int} {k : Nat} {v : Value} {wr : World} (h : SettleRel F b D nb lb wv sv w node k v wr) (hk : D.waits.length ≤ k) :
    DiskTo F b (settle D node) w (wr.setCell ⟨b, 5, none⟩ v) := by
  obtain ⟨hd, hl, hg⟩ := h
  rw [List.take_of_length_le hk] at hd hl
  have hw := (hd.wide w.heap.size).storeWaits (ownsRow_base hl 0 (fun _ _ => Nat.zero_le _)) (fun g hg' => .inr ⟨(ownsRow_block hl hg').1, by
    obtain ⟨_, cur, hh⟩ := ownsRow_block hl hg'
    exact (Array.getElem?_eq_some_iff.1 hh).1⟩)
  refine .mk' hw (hg.trans (Grow.setCell hd.fb v) (fun x hx => .inl hx)) (fun k hk => ?_)
  rcases hk with hk | hk
  · exact .inl hk
  · exact .inr hk.1

theorem new_cells (w : World) (o : Obj) (x : Wr) : ∀ j u, x.cells[j]? = some u → ((w.alloc o).alloc (.cells #[.int .i64 x.node, .int .i64 x.pl, .int .i64 x.seq, .string x.data] 125)).cell? ((⟨w.heap.size + 1, 0, none⟩ : Addr).add j) = some u := by
  intro j u hu
  have hb : ((w.alloc o).alloc (.cells #[.int .i64 x.node, .int .i64 x.pl, .int .i64 x.seq, .string x.data] 125)).heap[w.heap.size + 1]? = some (.cells #[.int .i64 x.node, .int .i64 x.pl, .int .i64 x.seq, .string x.data] 125) := by
    have h := heap_alloc_new (w.alloc o) (.cells #[.int .i64 x.node, .int .i64 x.pl, .int .i64 x.seq, .string x.data] 125)
    rwa [show (w.alloc o).heap.size = w.heap.size + 1 by simp] at h
  rw [Addr.add_lit, cell_of_row _ _ _ _ _ _ hb, Nat.zero_add, List.getElem?_toArray]
  exact hu
theorem wr_one (x : Wr) : ∀ u ∈ x.cells, u.oneCell' = true := by
  intro u hu
  simp [Wr.cells] at hu
  rcases hu with rfl | rfl | rfl | rfl <;> rfl

set_option maxHeartbeats 1000000 in
theorem settle_any {F : Nat → Prop} {b : Nat} {D : DS} {nb lb : Nat} {wv sv : Value} {w : World} (h : DiskIn F b D nb lb wv sv w) (node : Int) (hn : D.waits.length ≤ 1000000) :
    Calls Tryz.prog 109 #[.pointer (some ⟨b, 0, none⟩), .int .i64 node] w fun e w' => e = .returned (.tuple #[]) ∧ DiskTo F b (settle D node) w w' := by
  have c5 := h.blk.c5
  rcases h.waits.2 with ⟨rfl, h0⟩ | ⟨g, cap, cur, rfl, hb, hg, hcap, rest⟩
  · have hwn : D.waits = [] := List.eq_nil_of_length_eq_zero h0
    have R0 : SettleRel F b D nb lb (.slice none 0 0) sv w node 0 (.slice none 0 0) w := ⟨h, World.ownsRow_nil _ _ _ _, Grow.refl _ _⟩
    have df := h.blk.fz 5
    have HFin := Lib.hid (R0.fin (by rw [hwn]; exact Nat.le_refl _))
    clear h R0 h0 hwn
    go_enter Tryz.func109, Tryz.ntmps109
    go_wp2
    refine wp_loop_rounds 1 ?_
    rw [rounds_succ]
    go_wp2
    go_end0
    exact ⟨rfl, HFin.out⟩
  · have R0 : SettleRel F b D nb lb (.slice (some ⟨g, 0, none⟩) D.waits.length cap) sv w node 0 (.slice none 0 0) w := ⟨h, World.ownsRow_nil _ _ _ _, Grow.refl _ _⟩
    have HF := Lib.hid h.flt
    obtain ⟨i0, hi, hz0, hz1, hz2⟩ := info_parts infoWr
    clear h rest hg hb
    obtain ⟨n, hnn⟩ : ∃ n, n = D.waits.length := ⟨_, rfl⟩
    rw [← hnn] at c5 hn R0 hcap
    have HN := Lib.hid hnn
    have HR0 := Lib.hid R0
    clear hnn R0
    go_enter Tryz.func109, Tryz.ntmps109
    go_wp2
    go_loopw [4, 12] (fun v i wr => ∃ k : Nat, k ≤ n ∧ i = .int .i64 k ∧ SettleRel F b D nb lb (.slice (some ⟨g, 0, none⟩) n cap) sv w node k v wr)
      (fun _ i _ => n - (intOf i).toNat)
    case atStart => exact ⟨0, Nat.zero_le _, rfl, HR0.out⟩
    case round =>
      obtain ⟨k, hk, rfl, hR⟩ := hrel
      have HR := Lib.hid hR
      clear hR HR0 c5
      by_cases hlt : k < n
      · obtain ⟨x, hx⟩ : ∃ x, D.waits[k]? = some x := ⟨_, List.getElem?_eq_getElem (show k < D.waits.length by rw [← HN.out]; exact hlt)⟩
        have hwt := HR.out.disk.waits
        rw [show ({ D with lasts := settleL node D.lasts (D.waits.take k) } : DS).waits = D.waits from rfl, HN.out] at hwt
        have e0 := waits_cell hwt k x hx 0 (by omega)
        have e1 := waits_cell hwt k x hx 1 (by omega)
        have e2 := waits_cell hwt k x hx 2 (by omega)
        have e3 := waits_cell hwt k x hx 3 (by omega)
        simp only [Wr.cells, List.getElem?_cons_zero, List.getElem?_cons_succ, Nat.add_zero] at e0 e1 e2 e3
        have HX := Lib.hid hx
        have hkc : k < cap := by omega
        clear hx hwt
        by_cases hnode : x.node = node
        · have hnb : (x.node == node) = true := by simpa using hnode
          replace hnode := Lib.hid hnode
          go_wp2_with fail
          refine (keep_any (HR.out.disk.grow (G := fun _ => False) (Grow.alloc wr _) (fun _ _ h => h)) x).mono ?_
          rintro e w1 ⟨rfl, hd1, hg1⟩
          have HR1 := Lib.hid (HR.out.keep HF.out HX.out hnode.out hd1 hg1)
          clear hd1 hg1
          go_wp2
          go_roundw
          case rel => exact ⟨k + 1, by omega, by go_num, HR1.out⟩
          case measure => simp [intOf]; omega
        · have hnb : (x.node == node) = false := by simpa using hnode
          obtain ⟨l, hl⟩ : ∃ l, l = ((D.waits.take k).filter (fun x => !(x.node == node))).length := ⟨_, rfl⟩
          have hll : l ≤ 1000000 := by
            have h1 := List.length_filter_le (fun x : Wr => !(x.node == node)) (D.waits.take k)
            have h2 := List.length_take_le k D.waits
            omega
          have hown := (HR.out.left.alloc (.cells #[.int .i64 x.node, .int .i64 x.pl, .int .i64 x.seq, .string x.data] 125)).alloc (.cells #[.int .i64 x.node, .int .i64 x.pl, .int .i64 x.seq, .string x.data] 125)
          rw [← hl] at hown
          have HL := Lib.hid hl
          have hsz := HR.out.grow.size
          clear hl
          go_wp2_with (first
            | (at_builtin; refine wpList_append_own_at _ rfl _ _ 104 rfl w.heap.size 125 i0 (.agg #[.int .i64 0, .int .i64 0, .int .i64 0, .string ByteArray.empty]) 4 40 Tryz.underlying104 hi hz0 hz1 hz2 rfl (by decide) _ l _ rfl hown ⟨wr.heap.size + 1, 0, none⟩ 1 1 x.cells rfl rfl (new_cells _ _ _) (wr_one x) (by unfold maxLen; omega) (by omega) (by simp; omega) ?_; intro v' w1 hown1 hgrow1 hnil1 hloc1))
          have HR1 := Lib.hid (HR.out.app HF.out HX.out hnode HL.out hown1 hgrow1)
          clear hown1 hgrow1 hnil1 hloc1 hown
          go_wp2
          go_roundw
          case rel => exact ⟨k + 1, by omega, by go_num, HR1.out⟩
          case measure => simp [intOf]; omega
      · have hkn : k = n := by omega
        subst hkn
        obtain ⟨ao, cap', rfl, -, -, -⟩ := ownsRow_shape HR.out.left
        have d5 := HR.out.disk.blk.c5
        have df := HR.out.disk.blk.fz 5
        have HFin := Lib.hid (HR.out.fin (Nat.le_of_eq HN.out.symm))
        clear HR
        go_wp2
        go_end0
        exact ⟨rfl, HFin.out⟩

end Go.Proofs.YtkgdpmeheakdcaaGreat
