/- The disk's Twin: walk. -/
import Derived.Test.YtkgdpmeheakdcaaMapsClone
import Derived.Laws.Rows
import Derived.Laws.Tables
import Derived.Deep.RegionHeld3
namespace Go.Proofs.Ytkgdpmeheakdcaa
open Go.RowKit
set_option linter.all false
set_option maxRecDepth 100000

theorem BlkAt.set4 {b : Nat} {D : DS} {nb lb : Option Nat} {wv sv : Value} {w : World} (h : BlkAt b D nb lb wv sv w) (x : Option Nat) : BlkAt b D nb x wv sv (w.setCell ⟨b, 4, none⟩ (.map x)) :=
  ⟨by rw [block_setCell h.blk]; rfl, h.lt, h.lw⟩

theorem cells_size (D : DS) (nb lb : Option Nat) (wv sv : Value) (h1 : D.table.length = 17) (h2 : D.words.length = 17) : (D.cells nb lb wv sv).size = 44 := by
  simp [DS.cells, ints64, h1, h2]
theorem cells_one (D : DS) (nb lb : Option Nat) (ao so : Option Addr) (n1 n2 c1 c2 : Nat) : (D.cells nb lb (.slice ao n1 c1) (.slice so n2 c2)).all (·.oneCell') = true := by
  simp [DS.cells, ints64, Value.oneCell']
theorem wrCells_one (l : List Wr) : ∀ u ∈ wrCells l, u.oneCell' = true := by
  intro u hu
  unfold wrCells at hu
  obtain ⟨x, hx, hux⟩ := List.mem_flatMap.1 hu
  exact wr_one x u hux

/-- What Twin hands back: a disk that is the same, in new memory. -/
def TwinTo (D : DS) (w : World) (e : Ending) (w' : World) : Prop := ∃ t F, e = .returned (.pointer (some ⟨t, 0, none⟩)) ∧ DiskAt F t D w' ∧ (∀ k, F k → w.heap.size ≤ k) ∧ Grow (fun _ => False) w w'

/-- Behind the three clones. -/
structure TwMid (D : DS) (W wx : World) (m1 m2 : Nat) (v : Value) : Prop where
  now : MapAt wx m1 (nowV D.now)
  lasts : MapAt wx m2 (lastV D.lasts)
  waits : wx.ownsRow 0 93 4 v D.waits.length (wrCells D.waits)
  g1 : W.heap.size ≤ m1
  g2 : W.heap.size ≤ m2
  gv : ∀ k, v.ownBlock = some k → W.heap.size ≤ k
  ne : m1 ≠ m2

def zDS : DS := { newDS 0 with on := false }
theorem twAlloc (ρ : Operand → Value) (w : World) (d : Option Tmp) (t : TypeId) (p : String) (af : Array Edge) (g : Option (Nat × Bool)) :
    (execOp ρ ⟨d, .alloc 59, t, p, af, g⟩).run Try.prog w = .ok (.value (.pointer (some ⟨w.heap.size, 0, none⟩))) (w.alloc (.cells (zDS.cells none none (.slice none 0 0) (.slice none 0 0)) 59)) := by kernel_rfl

set_option maxHeartbeats 4000000 in
theorem twin_any {F : Nat → Prop} {b : Nat} {D : DS} {nb lb : Nat} {wv sv : Value} {w : World} (h : DiskIn F b D nb lb wv sv w) (hn : D.nilS = true) (hw : D.waits.length ≤ 1000000) :
    Calls Try.prog 36 #[.pointer (some ⟨b, 0, none⟩)] w (TwinTo D w) := by
  obtain rfl := h.sn hn
  obtain ⟨ao, cap, hwv, hncap, hcapm, hwno⟩ := ownsRow_shape h.waits
  subst hwv
  have HI := Lib.hid h
  have hsz := cells_size D (some nb) (some lb) (.slice ao D.waits.length cap) (.slice none 0 0) h.blk.lt h.blk.lw
  have hone := cells_one D (some nb) (some lb) ao none D.waits.length 0 cap 0
  have hblk := h.blk.blk
  have hinfo : (Try.prog.info? 59).map (·.size) = some (D.cells (some nb) (some lb) (.slice ao D.waits.length cap) (.slice none 0 0)).size := by
    rw [hsz]
    kernel_rfl
  obtain ⟨n, hnn⟩ : ∃ n, n = D.waits.length := ⟨_, rfl⟩
  have hn2 : n ≤ 1000000 := by omega
  obtain ⟨CS, hCS⟩ : ∃ CS, CS = D.cells (some nb) (some lb) (.slice ao D.waits.length cap) (.slice none 0 0) := ⟨_, rfl⟩
  rw [← hCS] at hsz hone hblk hinfo
  have HCS := Lib.hid hCS
  have H1 : Hid (∀ wx : World, wx.heap[nb]? = w.heap[nb]? → Calls Try.prog 68 #[.map (some nb)] wx fun e w' => e = .returned (.map (some wx.heap.size)) ∧ MapAt w' wx.heap.size (nowV D.now) ∧ Below wx.heap.size wx w' ∧ w'.heap.size = wx.heap.size + 1) := Lib.hid (by
    intro wx hx
    obtain ⟨es, clock, hb, hm, -⟩ := (h.now.of_same hx).cloned
    refine (mclone_s nb es clock wx hb).mono ?_
    rintro e w' ⟨rfl, rfl⟩
    exact ⟨rfl, hm, (Below.refl _ _).alloc (Nat.le_refl _) _, by simp⟩)
  have H2 : Hid (∀ wx : World, wx.heap[lb]? = w.heap[lb]? → Calls Try.prog 69 #[.map (some lb)] wx fun e w' => e = .returned (.map (some wx.heap.size)) ∧ MapAt w' wx.heap.size (lastV D.lasts) ∧ Below wx.heap.size wx w' ∧ w'.heap.size = wx.heap.size + 1) := Lib.hid (by
    intro wx hx
    obtain ⟨es, clock, hb, hm, -⟩ := (h.lasts.of_same hx).cloned
    refine (mclone_w lb es clock wx hb).mono ?_
    rintro e w' ⟨rfl, rfl⟩
    exact ⟨rfl, hm, (Below.refl _ _).alloc (Nat.le_refl _) _, by simp⟩)
  have H3 : Hid (∀ wx : World, (∀ g, (Value.slice ao D.waits.length cap).ownBlock = some g → wx.heap[g]? = w.heap[g]?) → Calls Try.prog 70 #[.slice ao D.waits.length cap] wx fun e w' => ∃ v, e = .returned v ∧ w'.ownsRow wx.heap.size 93 4 v D.waits.length (wrCells D.waits) ∧ Below wx.heap.size wx w') := Lib.hid (by
    intro wx hx
    have ho := ownsRow_of_same h.waits hx
    refine (clone_wr ao D.waits.length cap (wrCells D.waits) wx (by rw [wrCells_length]) (fun e => (hwno e).1) (fun a ha j u hu => ?_) (wrCells_one _) (by omega)).mono ?_
    · subst ha
      rcases ho.2 with ⟨h0, _⟩ | ⟨g, cap', cur, h0, _⟩
      · cases h0
      · have e : a = ⟨g, 0, none⟩ := by
          simp at h0
          exact h0.1
        subst e
        exact ho.cells rfl j u hu
    · rintro e w' ⟨v, rfl, h1, h2⟩
      exact ⟨v, rfl, h1, (Grow.of_grownBy (F := fun _ => False) h2 (fun _ h => by cases h)).below (Nat.le_refl _) (fun _ h => h.elim)⟩)
  rw [← hnn] at H3
  have HN := Lib.hid hnn
  have FB : Hid (b < w.heap.size ∧ nb < w.heap.size ∧ lb < w.heap.size ∧ ∀ g, (Value.slice ao n cap).ownBlock = some g → g < w.heap.size) := Lib.hid ⟨h.flt _ h.fb, h.flt _ h.fnb, h.flt _ h.flb, fun g hg => h.flt _ (h.fwv g (by rw [← hnn]; exact hg))⟩
  have k3 := h.blk.c3
  have k4 := h.blk.c4
  have k5 := h.blk.c5
  rw [← hnn] at k5
  have KK := Lib.hid (And.intro k3 (And.intro k4 k5))
  have hbl := h.flt _ h.fb
  clear h hCS hnn hn hw hwno hncap k3 k4 k5
  go_enter Try.func36, Try.ntmps36
  go_upto_region 3 with fail
  refine wp_region_list ?_
  refine wpList_exec rfl (.pointer (some ⟨b, 0, none⟩)) w (by simp [execOp, Act.eval]) ?_
  refine wpList_exec rfl (.pointer (some ⟨b, 0, none⟩)) w (by simp [execOp, Act.eval, Act.put]) ?_
  refine wpList_load_row rfl 59 (.tmp 7) rfl b (by rfl) 59 CS (0, 0) _ hblk Try.underlying59 rfl hinfo ?_
  refine wpList_exec rfl (.pointer (some ⟨w.heap.size, 0, none⟩)) (w.alloc (.cells (zDS.cells none none (.slice none 0 0) (.slice none 0 0)) 59)) (twAlloc _ w _ _ _ _ _) ?_
  refine wpList_store_row rfl 59 (.tmp 3) (.tmp 8) rfl w.heap.size CS (by rfl) (by rfl) 59 _ (heap_alloc_new w _) hinfo (by rw [hsz]; rfl) hone ?_
  simp only [Act.put, List.setIfInBounds_toArray, List.set_cons_succ, List.set_cons_zero]
  have hB0 : ((w.alloc (.cells (zDS.cells none none (.slice none 0 0) (.slice none 0 0)) 59)).setRow w.heap.size CS).heap[w.heap.size]? = some (.cells CS 59 (0, 0)) := setRow_heap _ _ _ _ _ _ (heap_alloc_new w _)
  have hG0 : Grow (fun _ => False) w ((w.alloc (.cells (zDS.cells none none (.slice none 0 0) (.slice none 0 0)) 59)).setRow w.heap.size CS) :=
    ⟨rfl, rfl, rfl, by simp, fun k hk _ => (setRow_other _ _ _ _ (by omega)).trans (heap_alloc_old w _ hk)⟩
  have hZ0 : ((w.alloc (.cells (zDS.cells none none (.slice none 0 0) (.slice none 0 0)) 59)).setRow w.heap.size CS).heap.size = w.heap.size + 1 := by simp
  generalize (w.alloc (.cells (zDS.cells none none (.slice none 0 0) (.slice none 0 0)) 59)).setRow w.heap.size CS = W at *
  obtain ⟨g, hg⟩ : ∃ g, g = w.heap.size := ⟨_, rfl⟩
  rw [← hg] at hB0 hbl ⊢
  have B0 := Lib.hid hB0
  have G0 := Lib.hid hG0
  have Z0 := Lib.hid hZ0
  have GE := Lib.hid hg
  have hne : ¬ b = g := by omega
  have hne2 : ¬ g = b := by omega
  have k3 : W.drew.cell? ⟨b, 3, none⟩ = some (.map (some nb)) := (World.cell?_of_block (G0.out.block b FB.out.1 (fun h => h))).trans KK.out.1
  have k4 : W.drew.cell? ⟨b, 4, none⟩ = some (.map (some lb)) := (World.cell?_of_block (G0.out.block b FB.out.1 (fun h => h))).trans KK.out.2.1
  have k5 : W.drew.cell? ⟨b, 5, none⟩ = some (.slice ao n cap) := (World.cell?_of_block (G0.out.block b FB.out.1 (fun h => h))).trans KK.out.2.2
  have BK : Hid (BlkAt g D (some nb) (some lb) (.slice ao n cap) (.slice none 0 0) W) := Lib.hid ⟨by rw [B0.out, HCS.out, ← HN.out], HI.out.blk.lt, HI.out.blk.lw⟩
  clear hB0 hG0 hZ0 hg hbl hsz hone hblk hinfo
  go_upto_region 4 with fail
  go_cut [] from 9 to 26 (fun wx => ∃ m1 m2 v, TwMid D W wx m1 m2 v ∧ wx.heap[g]? = some (.cells (((CS.setIfInBounds 3 (.map (some m1))).setIfInBounds 4 (.map (some m2))).setIfInBounds 5 v) 59 (0, 0)) ∧ Grow (fun k => k = g) W wx)
  case first =>
    have hgs : g < W.heap.size := by have := Z0.out; have := GE.out; omega
    have hbs : b < W.heap.size := by have := Z0.out; have := FB.out.1; omega
    have hf : ∀ i, W.drew.frozen? ⟨g, i, none⟩ = false := fun i => by
      have h : W.drew.heap[g]? = _ := B0.out
      simp [World.frozen?, h]
    have f3 := hf 3
    have f4 := hf 4
    have f5 := hf 5
    have g3 : W.drew.cell? ⟨g, 3, none⟩ = some (.map (some nb)) := BK.out.c3
    have g4 : W.drew.cell? ⟨g, 4, none⟩ = some (.map (some lb)) := BK.out.c4
    have g5 : W.drew.cell? ⟨g, 5, none⟩ = some (.slice ao n cap) := BK.out.c5
    clear hf
    go_region_held3 (fun w' => w'.cell? ⟨b, 3, none⟩ = some (.map (some nb)) ∧ w'.cell? ⟨b, 4, none⟩ = some (.map (some lb)) ∧ w'.cell? ⟨b, 5, none⟩ = some (.slice ao n cap))
      (first | exact ⟨k3, k4, k5⟩ | exact ⟨z13, z14, z15⟩ | exact ⟨z23, z24, z25⟩ | exact ⟨z33, z34, z35⟩ | go_keep)
      (first
        | (go_at_call 68
           refine (H1.out _ ?_).mono ?_
           · exact G0.out.block nb FB.out.2.1 (fun h => h)
           rintro e x1 ⟨rfl, p1, b1, s1⟩
           have z13 := (b1.cell (p := ⟨b, 3, none⟩) hbs).trans k3
           have z14 := (b1.cell (p := ⟨b, 4, none⟩) hbs).trans k4
           have z15 := (b1.cell (p := ⟨b, 5, none⟩) hbs).trans k5)
        | (go_at_call 69
           refine (H2.out _ ?_).mono ?_
           · exact (b1.block lb (by have := Z0.out; have := FB.out.2.2.1; show lb < W.heap.size; omega)).trans (G0.out.block lb FB.out.2.2.1 (fun h => h))
           rintro e x2 ⟨rfl, p2, b2, s2⟩
           have z23 := (b2.cell (p := ⟨b, 3, none⟩) (Nat.lt_of_lt_of_le hbs b1.size)).trans z13
           have z24 := (b2.cell (p := ⟨b, 4, none⟩) (Nat.lt_of_lt_of_le hbs b1.size)).trans z14
           have z25 := (b2.cell (p := ⟨b, 5, none⟩) (Nat.lt_of_lt_of_le hbs b1.size)).trans z15)
        | (go_at_call 70
           refine (H3.out _ ?_).mono ?_
           · intro q hq
             have hq2 := FB.out.2.2.2 q hq
             exact (b2.block q (by have := Z0.out; have h3 : W.heap.size ≤ x1.heap.size := b1.size; omega)).trans ((b1.block q (by have := Z0.out; show q < W.heap.size; omega)).trans (G0.out.block q hq2 (fun h => h)))
           rintro e x3 ⟨v, rfl, p3, b3⟩
           obtain ⟨vo, vc, rfl, _, _, _⟩ := ownsRow_shape p3
           have z33 := (b3.cell (p := ⟨b, 3, none⟩) (Nat.lt_of_lt_of_le hbs (Nat.le_trans b1.size b2.size))).trans z23
           have z34 := (b3.cell (p := ⟨b, 4, none⟩) (Nat.lt_of_lt_of_le hbs (Nat.le_trans b1.size b2.size))).trans z24
           have z35 := (b3.cell (p := ⟨b, 5, none⟩) (Nat.lt_of_lt_of_le hbs (Nat.le_trans b1.size b2.size))).trans z25
           have bb := (Below.trans b1 (b2.mono b1.size)).trans (b3.mono (Nat.le_trans b1.size b2.size))
           have u3 := (bb.cell (p := ⟨g, 3, none⟩) hgs).trans g3
           have u4 := (bb.cell (p := ⟨g, 4, none⟩) hgs).trans g4
           have u5 := (bb.cell (p := ⟨g, 5, none⟩) hgs).trans g5
           have y3 := (bb.frozen (p := ⟨g, 3, none⟩) hgs).trans f3
           have y4 := (bb.frozen (p := ⟨g, 4, none⟩) hgs).trans f4
           have y5 := (bb.frozen (p := ⟨g, 5, none⟩) hgs).trans f5))
    go_wp2_with fail
    go_meet
    have hd : W.drew.heap.size = W.heap.size := rfl
    have hgx : g < x3.heap.size := Nat.lt_of_lt_of_le hgs bb.size
    have q1 := p1.lt
    have q2 := p2.lt
    have r1 : MapAt x3 W.heap.size (nowV D.now) := p1.of_same ((b3.block _ (Nat.lt_of_lt_of_le q1 b2.size)).trans (b2.block _ q1))
    have r2 : MapAt x3 (W.heap.size + 1) (lastV D.lasts) := by
      have h := p2.of_same (b3.block _ q2)
      rw [show x1.heap.size = W.heap.size + 1 from s1] at h
      exact h
    have hx2 : g < x2.heap.size := Nat.lt_of_lt_of_le hgs (Nat.le_trans b1.size b2.size)
    have ss : ∀ (u : World) (j : Nat) (x : Value) (k : Nat), k ≠ g → (u.setCell ⟨g, j, none⟩ x).heap[k]? = u.heap[k]? := fun u j x k hk => block_setCell_ne hk x
    refine ⟨W.heap.size, W.heap.size + 1, .slice vo n vc, ⟨(((r1.of_same (ss _ _ _ _ (by omega))).of_same (ss _ _ _ _ (by omega))).of_same (ss _ _ _ _ (by omega))), (((r2.of_same (ss _ _ _ _ (by omega))).of_same (ss _ _ _ _ (by omega))).of_same (ss _ _ _ _ (by omega))), ?_, Nat.le_refl _, Nat.le_succ _, ?_, by omega⟩, ?_, ?_⟩
    · rw [← HN.out]
      have hq : ∀ q, (Value.slice vo n vc).ownBlock = some q → q ≠ g := fun q hq e => by
        have := (ownsRow_block p3 hq).1
        omega
      have o3 := ownsRow_base p3 0 (fun _ _ => Nat.zero_le _)
      exact ownsRow_of_same (ownsRow_of_same (ownsRow_of_same o3 (fun q h => ss _ _ _ _ (hq q h))) (fun q h => ss _ _ _ _ (hq q h))) (fun q h => ss _ _ _ _ (hq q h))
    · intro q hq
      have h := (ownsRow_block p3 hq).1
      have h2 : W.heap.size ≤ x1.heap.size := b1.size
      have h3 := b2.size
      omega
    · exact block_setCell (block_setCell (block_setCell ((bb.block g hgs).trans B0.out) _) _) _
    · have g0 : Grow (fun k => k = g) W x3 := (Grow.drew W).trans (F' := fun _ => False) (Grow.of_below bb) (fun _ h => h.elim)
      have gs : ∀ (v : World) (j : Nat) (x : Value), Grow (fun k => k = g) v (v.setCell ⟨g, j, none⟩ x) := fun v j x => Grow.setCell (F := fun k => k = g) rfl x
      exact ((g0.trans (gs _ _ _) (fun _ h => .inl h)).trans (gs _ _ _) (fun _ h => .inl h)).trans (gs _ _ _) (fun _ h => .inl h)
  case rest =>
    obtain ⟨m1, m2, v, hm, hb, hgr⟩ := hcut
    have hfin : TwinTo D w (.returned (.pointer (some ⟨g, 0, none⟩))) wc := by
      have h1 := Z0.out
      have h2 := GE.out
      have hm1 := hm.now.lt
      have hm2 := hm.lasts.lt
      have g1 := hm.g1
      have g2 := hm.g2
      have hgc : g < wc.heap.size := by have := hgr.size; omega
      refine ⟨g, fun k => k < wc.heap.size ∧ w.heap.size ≤ k, rfl, ⟨m1, m2, v, .slice none 0 0, ⟨?_, HI.out.blk.lt, HI.out.blk.lw⟩, hm.now, hm.lasts, hm.waits, ownsRow_of_same HI.out.stays (fun g hg => by cases hg), hm.ne, by omega, by omega, by omega, ?_, (fun g hg => by cases hg), (fun k hk => hk.1), fun _ => rfl⟩, (fun k hk => hk.2), ?_⟩
      · rw [hb, HCS.out]
        rfl
      · intro q hq
        obtain ⟨_, cur, hc⟩ := ownsRow_block hm.waits hq
        have := (Array.getElem?_eq_some_iff.1 hc).1
        have := hm.gv q hq
        omega
      · exact (G0.out.trans hgr (fun k hk => .inr (by omega)))
    have HF := Lib.hid hfin
    clear hm hb hgr hfin k3 k4 k5
    go_wp2
    go_ret
    exact HF.out

end Go.Proofs.Ytkgdpmeheakdcaa
