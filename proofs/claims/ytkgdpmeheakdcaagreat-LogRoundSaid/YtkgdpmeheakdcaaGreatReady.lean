/- law10.Ready: walk. -/
import Derived.Test.YtkgdpmeheakdcaaGreatRefB
import Derived.Test.YtkgdpmeheakdcaaGreatBLS
namespace Go.Proofs.YtkgdpmeheakdcaaGreat
open Go.RowKit
set_option linter.all false
set_option maxRecDepth 100000

/-- The reference's disk at p, all of it in blocks from m on. -/
def RP (m p : Nat) (D : RS) (w : World) : Prop := ∃ v, RIn8 p v D w ∧ m ≤ p ∧ ∀ k, v.ownBlock = some k → m ≤ k
section
variable {m p : Nat} {D : RS} {w w' : World}
theorem RP.lt (h : RP m p D w) : p < w.heap.size := by
  obtain ⟨v, h1, _⟩ := h
  exact h1.blk.plt
theorem RP.ge (h : RP m p D w) : m ≤ p := by
  obtain ⟨v, _, h2, _⟩ := h
  exact h2
theorem RP.to {D' : RS} (h : RP m p D w) (hto : ∀ v, RIn8 p v D w → RTo8 p v D' w w') : RP m p D' w' ∧ Grow (fun k => m ≤ k) w w' := by
  obtain ⟨v, h1, h2, h3⟩ := h
  obtain ⟨v', g1, g2, g3⟩ := hto v h1
  have := h1.blk.plt
  refine ⟨⟨v', g1, h2, fun k hk => ?_⟩, g2.mono (fun k hk => ?_)⟩
  · rcases g3 k hk with h | h
    · exact h3 k h
    · omega
  · rcases hk with rfl | hk
    · exact h2
    · exact h3 k hk
theorem RP.below (h : RP m p D w) (hb : Below w.heap.size w w') : RP m p D w' := by
  obtain ⟨v, h1, h2, h3⟩ := h
  exact ⟨v, h1.grow (Grow.of_below (F := fun _ => False) hb) (fun h => h) (fun _ _ h => h), h2, h3⟩
theorem RP.grow {G : Nat → Prop} (h : RP m p D w) (hg : Grow G w w') (hG : ∀ k, m ≤ k → ¬ G k) : RP m p D w' := by
  obtain ⟨v, h1, h2, h3⟩ := h
  exact ⟨v, h1.grow hg (hG p h2) (fun k hk => hG k (h3 k hk)), h2, h3⟩

def AnsRP (m p : Nat) (D : RS) (w : World) (v : Value) (e : Ending) (w' : World) : Prop := e = .returned v ∧ RP m p D w' ∧ Grow (fun k => m ≤ k) w w'
theorem rp_admit (h : RP m p D w) (n : Nat) (hn : n < 17) (epoch : Int) (he : D.last < epoch) : Calls Tryz.prog 38 #[.pointer (some ⟨p, 0, none⟩), .int .i64 n, .int .u64 epoch] w (AnsRP m p { D with table := D.table.set n epoch, last := epoch } w (.int .i64 0)) := by
  obtain ⟨v, h1, h2, h3⟩ := h
  refine (radmit_ok h1.blk n hn epoch he).mono ?_
  rintro e w' ⟨rfl, g1, g2⟩
  have hg : Grow (fun k => m ≤ k) w w' := g2.mono (fun k hk => hk ▸ h2)
  refine ⟨rfl, ⟨v, ⟨⟨g1.blk, g1.lt, g1.lw⟩, ?_, h1.ne⟩, h2, h3⟩, hg⟩
  exact ownsRow_of_same h1.own (fun g hg' => g2.block g (h1.olt hg') (fun e => h1.ne (by rw [hg', e])))
theorem rp_write (h : RP m p D w) (n : Nat) (hn : n < 17) (epoch a : Int) (data : ByteArray) (q : Nat) (hm1 : 1 ≤ q) (hm2 : q ≤ 16) (hsz : data.size = q * 64)
    (hmay : rmayE D n epoch = 0) (ha0 : 0 ≤ a) (ha1 : a + q ≤ D.room) (hrm : D.room ≤ 20000) (hll : D.l.length ≤ 100000) :
    Calls Tryz.prog 39 #[.pointer (some ⟨p, 0, none⟩), .int .i64 n, .int .u64 epoch, .int .i64 a, .string data] w (AnsRP m p (rwN D n a data q) w (.int .i64 0)) := by
  obtain ⟨v, h1, h2, h3⟩ := h
  refine (rwrite_ok h1 n hn epoch a data q hm1 hm2 hsz hmay ha0 ha1 hrm hll).mono ?_
  rintro e w' ⟨rfl, g⟩
  have := RP.to (D' := rwN D n a data q) (w' := w') ⟨v, h1, h2, h3⟩
  obtain ⟨v', g1, g2, g3⟩ := g
  have hlt := h1.blk.plt
  refine ⟨rfl, ⟨v', g1, h2, fun k hk => ?_⟩, g2.mono (fun k hk => ?_)⟩
  · rcases g3 k hk with h | h
    · exact h3 k h
    · omega
  · rcases hk with rfl | hk
    · exact h2
    · exact h3 k hk
theorem rp_of {D' : RS} {v : Value} (h1 : RIn8 p v D w) (h2 : m ≤ p) (h3 : ∀ k, v.ownBlock = some k → m ≤ k) (g : RTo8 p v D' w w') : RP m p D' w' ∧ Grow (fun k => m ≤ k) w w' := by
  obtain ⟨v', g1, g2, g3⟩ := g
  have hlt := h1.blk.plt
  refine ⟨⟨v', g1, h2, fun k hk => ?_⟩, g2.mono (fun k hk => ?_)⟩
  · rcases g3 k hk with h | h
    · exact h3 k h
    · omega
  · rcases hk with rfl | hk
    · exact h2
    · exact h3 k hk
theorem rp_barrier (h : RP m p D w) (n epoch : Int) (hmay : rmayE D n epoch = 0) (hn0 : 0 < D.l.length) (hn : D.l.length ≤ 200000) :
    Calls Tryz.prog 40 #[.pointer (some ⟨p, 0, none⟩), .int .i64 n, .int .u64 epoch] w (AnsRP m p { D with l := D.l.map (keepR n) } w (.int .i64 0)) := by
  obtain ⟨v, h1, h2, h3⟩ := h
  refine (rbarrier_ok h1 n epoch hmay hn0 hn).mono ?_
  rintro e w' ⟨rfl, g⟩
  exact ⟨rfl, rp_of h1 h2 h3 g⟩
theorem rp_fence (h : RP m p D w) (n : Nat) (hn17 : n < 17) (hn0 : 0 < D.l.length) (hn : D.l.length ≤ 200000) :
    Calls Tryz.prog 41 #[.pointer (some ⟨p, 0, none⟩), .int .i64 n] w (AnsRP m p { D with l := D.l.map (keepR n), table := D.table.set n 0 } w (.int .i64 0)) := by
  obtain ⟨v, h1, h2, h3⟩ := h
  refine (rfence_ok h1 n hn17 hn0 hn).mono ?_
  rintro e w' ⟨rfl, g⟩
  exact ⟨rfl, rp_of h1 h2 h3 g⟩
end

/-! The states. -/
def rd0 : RS := ⟨37, [], List.replicate 17 0, List.replicate 17 0, 0⟩
def rd1 : RS := ⟨37, [], (List.replicate 17 0).set 0 1, List.replicate 17 0, 1⟩
def rd2 : RS := ⟨37, [⟨0, 0, sb0, false⟩], (List.replicate 17 0).set 0 1, List.replicate 17 0, 1⟩
def rd3 : RS := ⟨37, [⟨0, 0, sb0, true⟩], (List.replicate 17 0).set 0 1, List.replicate 17 0, 1⟩
def rd4 : RS := ⟨37, [⟨0, 0, sb0, true⟩], List.replicate 17 0, List.replicate 17 0, 1⟩
def rd5 : RS := ⟨37, [⟨0, 0, sb0, true⟩], (List.replicate 17 0).set 1 9, List.replicate 17 0, 9⟩
theorem sb0_part : sb0.extract 0 64 = sb0 := by
  have := sb0_size
  rw [← this]
  exact ByteArray.extract_zero_size
theorem rd2_eq : rwN rd1 (0 : Nat) 0 sb0 1 = rd2 := by
  have h : rwN rd1 (0 : Nat) 0 sb0 1 = { rd1 with l := rd1.l ++ [⟨0, 0, sb0.extract 0 64, false⟩] } := rfl
  rw [h, sb0_part]
  rfl
def adm9 (D : DS) : DS := { D with table := (List.replicate 17 (0 : Int)).set 1 9, last := 9 }
def dk9 : DS := adm9 (fm8 37 sb0)
theorem admit_lv {nd : Int} {D : DS} (h : Lv nd D) (k : Nat) (hk : k ≤ 16) (epoch : Int) (he : D.last < epoch) : admitR D k epoch = (0, { D with table := D.table.set k epoch, last := epoch }) := by
  have h1 : mayE D.on k = 0 := by rw [h.on]; exact mayE_in k (by omega) (by omega)
  unfold admitR
  rw [h1, (goesD_off h.armed).2, (goesD_off h.armed).1, if_neg (by decide), if_neg (by omega), if_neg (by decide), Int.toNat_natCast]
theorem dk9_eq : admitR (fm8 37 sb0) 1 9 = (0, dk9) := by
  rw [show (1 : Int) = ((1 : Nat) : Int) from rfl, admit_lv (fm8_lv 37 sb0) 1 (by decide) 9 (by rw [fm8_last]; decide), fm8_table]
  rfl
theorem good_dk9 : Good 49 dk9 := by
  have h := (good_fm8 37 (by decide) (by decide) sb0 sb0_size).admitted 1 9
  rw [dk9_eq] at h
  exact h

/-- What Ready leaves. -/
def RdyTo (w : World) (e : Ending) (w' : World) : Prop :=
  ∃ b p m, e = .returned (.tuple #[.pointer (some ⟨b, 0, none⟩), .pointer (some ⟨p, 0, none⟩), .agg #[.int .i64 2, .int .i64 10, .int .i64 8, .int .i64 4, .int .i64 32], .bool true]) ∧
    DiskP (fun k => w.heap.size ≤ k ∧ k < m) b dk9 w' ∧ RP m p rd5 w' ∧ Below w.heap.size w w' ∧ w.heap.size ≤ m

theorem shBlk.below {w w' : World} {q : Nat} (h : shBlk w q) (hb : Below w.heap.size w w') : shBlk w' q := (hb.block q (Array.getElem?_eq_some_iff.1 h).1).trans h
theorem shBlk.grow {G : Nat → Prop} {w w' : World} {q : Nat} (h : shBlk w q) (hb : Grow G w w') (hG : ¬ G q) : shBlk w' q := (hb.block q (Array.getElem?_eq_some_iff.1 h).1 hG).trans h
theorem zBlk.grow {G : Nat → Prop} {T : TypeId} {w w' : World} {q : Nat} (h : zBlk T w q) (hb : Grow G w w') (hG : ¬ G q) : zBlk T w' q := (hb.block q h.lt hG).trans h

/-- The boxes of Ready. -/
structure Bxs (q2 q4 : Nat) (w0 w : World) : Prop where
  z : zBlk 31 w q2
  s : shBlk w q4
  bel : Below w0.heap.size w0 w
  q2e : q2 = w0.heap.size
  q4g : q2 < q4
theorem Bxs.below {q2 q4 : Nat} {w0 w w' : World} (h : Bxs q2 q4 w0 w) (hb : Below w.heap.size w w') : Bxs q2 q4 w0 w' := ⟨h.z.below hb, h.s.below hb, h.bel.trans (hb.mono h.bel.size), h.q2e, h.q4g⟩
theorem Bxs.grow {G : Nat → Prop} {q2 q4 : Nat} {w0 w w' : World} (h : Bxs q2 q4 w0 w) (hb : Grow G w w') (hG : ∀ k, G k → q4 < k) : Bxs q2 q4 w0 w' :=
  have h2 := h.q2e
  have h4 := h.q4g
  ⟨h.z.grow hb (fun e => by have := hG _ e; omega), h.s.grow hb (fun e => by have := hG _ e; omega), h.bel.trans (hb.below h.bel.size (fun k hk => by have := hG k hk; omega)), h.q2e, h.q4g⟩

set_option maxHeartbeats 4000000 in
theorem ready_any (w : World) : Calls Tryz.prog 8 #[] w (RdyTo w) := by
  have H0 := Lib.hid (shape0 (w.alloc (.cells #[.int .i64 0, .int .i64 0, .int .i64 0, .int .i64 0, .int .i64 0] 31)))
  go_enter Tryz.func8, Tryz.ntmps8
  go_wp2_with fail
  refine H0.out.mono ?_
  rintro e w1 ⟨rfl, hb⟩
  have hB2 : Bxs w.heap.size w1.heap.size w (w1.alloc (.cells #[.int .i64 2, .int .i64 10, .int .i64 8, .int .i64 4, .int .i64 32] 29)) := by
    have hz : zBlk 31 (w.alloc (.cells #[.int .i64 0, .int .i64 0, .int .i64 0, .int .i64 0, .int .i64 0] 31)) w.heap.size := heap_alloc_new w _
    have hz1 := hz.below hb
    have hb1 : Below w.heap.size w w1 := ((Below.refl w.heap.size w).alloc (Nat.le_refl _) _).trans (hb.mono (by simp))
    have hlt := hz1.lt
    exact ⟨(heap_alloc_old w1 _ hlt).trans hz1, heap_alloc_new w1 _, hb1.alloc hb1.size _, rfl, hlt⟩
  have B2 := Lib.hid hB2
  obtain ⟨c0, c1, c2, c3, c4⟩ := five_cells hB2.s
  clear hB2 hb H0
  have H2 := Lib.hid (rsize0 (w1.alloc (.cells #[.int .i64 2, .int .i64 10, .int .i64 8, .int .i64 4, .int .i64 32] 29)))
  go_wp2_with fail
  refine H2.out.mono ?_
  rintro e W3 ⟨rfl, hb⟩
  have B3 := Lib.hid (B2.out.below hb)
  have H3 := Lib.hid (stepP_new 37 (by decide) (by decide) W3)
  clear hb H2 B2 c0 c1 c2 c3 c4
  generalize w1.heap.size = q4 at *
  go_wp2_with fail
  refine H3.out.mono ?_
  rintro e W4 ⟨b, rfl, hd, hb⟩
  have B4 := Lib.hid (B3.out.below hb)
  have hq4 : q4 < W3.heap.size := (Array.getElem?_eq_some_iff.1 B3.out.s).1
  have D4 := Lib.hid (hd.mono (R' := fun k => q4 < k) (fun k hk => by omega))
  obtain ⟨c0, c1, c2, c3, c4⟩ := five_cells B4.out.s
  have h44 : q4 < W4.heap.size := (Array.getElem?_eq_some_iff.1 B4.out.s).1
  have H4 := Lib.hid (format_any (by decide) (by decide) D4.out (fun k hk => by omega))
  clear hb hd hq4 h44 H3 B3
  go_wp2_with fail
  refine H4.out.mono ?_
  rintro e W5 ⟨rfl, hd, hg⟩
  have D5 := Lib.hid hd
  have B5 := Lib.hid (B4.out.grow hg (fun k hk => hk))
  have H5 := Lib.hid (load_any D5.out (good_fm8 37 (by decide) (by decide) sb0 sb0_size) (by decide) (read_fm8 37 (by decide) sb0 sb0_size) (by rw [fm8_sectors]; decide))
  clear hd hg H4 D4 B4 c0 c1 c2 c3 c4
  go_wp2_with fail
  refine H5.out.mono ?_
  rintro e W6 ⟨rfl, hd, hb⟩
  have B6 := Lib.hid (B5.out.below hb)
  have hD7 := hd.alloc (.cells #[.int .i64 2, .int .i64 10, .int .i64 8, .int .i64 4, .int .i64 32] 31)
  have hL7 : lyBlk (W6.alloc (.cells #[.int .i64 2, .int .i64 10, .int .i64 8, .int .i64 4, .int .i64 32] 31)) W6.heap.size := heap_alloc_new W6 _
  have B7 := Lib.hid (B6.out.below ((Below.refl _ _).alloc (Nat.le_refl _) (.cells #[.int .i64 2, .int .i64 10, .int .i64 8, .int .i64 4, .int .i64 32] 31)))
  have D7 := Lib.hid hD7
  have L7 := Lib.hid hL7
  have hq7 : q4 < W6.heap.size := (Array.getElem?_eq_some_iff.1 B6.out.s).1
  have H7 : Hid (Calls Tryz.prog 36 #[.pointer (some ⟨b, 0, none⟩), .int .i64 1, .int .u64 9] (W6.alloc (.cells #[.int .i64 2, .int .i64 10, .int .i64 8, .int .i64 4, .int .i64 32] 31)) (AnsP (fun k => q4 < k ∧ k ≠ W6.heap.size) b dk9 (W6.alloc (.cells #[.int .i64 2, .int .i64 10, .int .i64 8, .int .i64 4, .int .i64 32] 31)) (.int .i64 0))) := by
    have h := stepP_admit D7.out (good_fm8 37 (by decide) (by decide) sb0 sb0_size) (by decide) (fun k hk => by simp at hk; omega) 1 9
    rw [dk9_eq] at h
    exact Lib.hid h
  clear hd hb hD7 hL7 H5 D5 B5 B6
  go_wp2_with fail
  refine H7.out.mono ?_
  rintro e W8 ⟨rfl, hd, hg⟩
  generalize W6.alloc (.cells #[.int .i64 2, .int .i64 10, .int .i64 8, .int .i64 4, .int .i64 32] 31) = W7 at *
  generalize W6.heap.size = q7 at *
  have B8 := Lib.hid (B7.out.grow hg (fun k hk => hk.1))
  have L8 := Lib.hid (L7.out.grow hg (fun h => h.2 rfl))
  obtain ⟨m, hm⟩ : ∃ m, m = W8.heap.size := ⟨_, rfl⟩
  have hd8 : DiskP (fun k => w.heap.size < k ∧ k < m) b dk9 W8 := hd.cap.mono (fun k hk => by
    have h1 := B8.out.q2e
    have h2 := B8.out.q4g
    obtain ⟨⟨h3, _⟩, h4⟩ := hk
    omega)
  have D8 := Lib.hid hd8
  obtain ⟨c0, c1, c2, c3, c4⟩ := five_cells B8.out.s
  have H8 := Lib.hid (rsize0 W8)
  have hq7m : q7 < m := by rw [hm]; exact L8.out.lt
  have hq4m : q4 < m := by rw [hm]; exact (Array.getElem?_eq_some_iff.1 B8.out.s).1
  have HM := Lib.hid hm
  clear hd hg hd8 H7 B7 D7 L7 hq7 hm
  go_wp2_with fail
  refine H8.out.mono ?_
  rintro e W9 ⟨rfl, hb⟩
  have B9 := Lib.hid (B8.out.below hb)
  have L9 := Lib.hid (L8.out.below hb)
  have D9 := Lib.hid (D8.out.below hb)
  have hm9 : m ≤ W9.heap.size := by rw [HM.out]; exact hb.size
  have M9 := Lib.hid hm9
  clear hb H8 B8 L8 D8 c0 c1 c2 c3 c4 HM hm9
  go_upto_region 8 with fail
  have hRA : RP m W9.heap.size rd0 (W9.alloc (.cells (rd0.cells (.slice none 0 0)) 77)) :=
    ⟨.slice none 0 0, ⟨⟨heap_alloc_new W9 _, rfl, rfl⟩, World.ownsRow_nil _ _ _ _, by simp [Value.ownBlock]⟩, M9.out, fun k hk => by cases hk⟩
  have ha : Below W9.heap.size W9 (W9.alloc (.cells (rd0.cells (.slice none 0 0)) 77)) := (Below.refl _ _).alloc (Nat.le_refl _) _
  have BA := Lib.hid (B9.out.below ha)
  have LA := Lib.hid (L9.out.below ha)
  have DA := Lib.hid (D9.out.below ha)
  have RA := Lib.hid hRA
  have hgen : ∃ W, W = W9.alloc (.cells (rd0.cells (.slice none 0 0)) 77) := ⟨_, rfl⟩
  obtain ⟨WA, hWA⟩ := hgen
  rw [← hWA] at BA LA DA RA
  have hWA2 : WA = W9.alloc (.cells #[.int .i64 37, .slice none 0 0, .bool false, .int .u64 0, .int .u64 0, .int .u64 0, .int .u64 0, .int .u64 0, .int .u64 0, .int .u64 0, .int .u64 0, .int .u64 0, .int .u64 0, .int .u64 0, .int .u64 0, .int .u64 0, .int .u64 0, .int .u64 0, .int .u64 0, .int .u64 0, .int .u64 0, .int .u64 0, .int .u64 0, .int .u64 0, .int .u64 0, .int .u64 0, .int .u64 0, .int .u64 0, .int .u64 0, .int .u64 0, .int .u64 0, .int .u64 0, .int .u64 0, .int .u64 0, .int .u64 0, .int .u64 0, .int .u64 0, .int .u64 0, .bool false, .int .i64 0, .slice none 0 0] 77) := hWA
  rw [← hWA2]
  generalize W9.heap.size = p at *
  clear hRA ha hWA hWA2 B9 L9 D9 M9
  obtain ⟨c0, c1, c2, c3, c4⟩ := five_cells BA.out.s
  have HP := Lib.hid (rputshape0 WA)
  go_wp2_with fail
  refine HP.out.mono ?_
  rintro e WB ⟨rfl, hb⟩
  have BB := Lib.hid (BA.out.below hb)
  have LB := Lib.hid (LA.out.below hb)
  have DB := Lib.hid (DA.out.below hb)
  have RB := Lib.hid (RA.out.below hb)
  have H1 : Hid (Calls Tryz.prog 38 #[.pointer (some ⟨p, 0, none⟩), .int .i64 0, .int .u64 1] WB (AnsRP m p rd1 WB (.int .i64 0))) := Lib.hid (rp_admit RB.out 0 (by decide) 1 (by decide))
  clear hb HP BA LA DA RA c0 c1 c2 c3 c4
  go_wp2_with fail
  refine H1.out.mono ?_
  rintro e WC ⟨rfl, hr, hg⟩
  have BC := Lib.hid (BB.out.grow hg (fun k hk => by omega))
  have LC := Lib.hid (LB.out.grow hg (fun h => by omega))
  have DC := Lib.hid (DB.out.grow hg (fun k hk h => by omega))
  have H2 : Hid (Calls Tryz.prog 39 #[.pointer (some ⟨p, 0, none⟩), .int .i64 0, .int .u64 1, .int .i64 0, .string sb0] WC (AnsRP m p rd2 WC (.int .i64 0))) := by
    have h := rp_write hr 0 (by decide) 1 0 sb0 1 (by decide) (by decide) (by rw [sb0_size]) (by decide) (by decide) (by decide) (by decide) (by decide)
    rw [rd2_eq] at h
    exact Lib.hid h
  clear hr hg H1 BB LB DB RB
  go_wp2_with fail
  refine H2.out.mono ?_
  rintro e WD ⟨rfl, hr, hg⟩
  have BD := Lib.hid (BC.out.grow hg (fun k hk => by omega))
  have LD := Lib.hid (LC.out.grow hg (fun h => by omega))
  have DD := Lib.hid (DC.out.grow hg (fun k hk h => by omega))
  have H3 : Hid (Calls Tryz.prog 40 #[.pointer (some ⟨p, 0, none⟩), .int .i64 0, .int .u64 1] WD (AnsRP m p rd3 WD (.int .i64 0))) := Lib.hid (rp_barrier hr 0 1 (by decide) (by decide) (by decide))
  clear hr hg H2 BC LC DC
  go_wp2_with fail
  refine H3.out.mono ?_
  rintro e WE ⟨rfl, hr, hg⟩
  have BE := Lib.hid (BD.out.grow hg (fun k hk => by omega))
  have LE := Lib.hid (LD.out.grow hg (fun h => by omega))
  have DE := Lib.hid (DD.out.grow hg (fun k hk h => by omega))
  have H4 : Hid (Calls Tryz.prog 41 #[.pointer (some ⟨p, 0, none⟩), .int .i64 0] WE (AnsRP m p rd4 WE (.int .i64 0))) := Lib.hid (rp_fence hr 0 (by decide) (by decide) (by decide))
  clear hr hg H3 BD LD DD
  go_wp2_with fail
  refine H4.out.mono ?_
  rintro e WF ⟨rfl, hr, hg⟩
  have BF := Lib.hid (BE.out.grow hg (fun k hk => by omega))
  have LF := Lib.hid (LE.out.grow hg (fun h => by omega))
  have DF := Lib.hid (DE.out.grow hg (fun k hk h => by omega))
  have H5 : Hid (Calls Tryz.prog 38 #[.pointer (some ⟨p, 0, none⟩), .int .i64 1, .int .u64 9] WF (AnsRP m p rd5 WF (.int .i64 0))) := Lib.hid (rp_admit hr 1 (by decide) 9 (by decide))
  clear hr hg H4 BE LE DE
  go_wp2_with fail
  refine H5.out.mono ?_
  rintro e WG ⟨rfl, hr, hg⟩
  have BG := Lib.hid (BF.out.grow hg (fun k hk => by omega))
  have LG := Lib.hid (LF.out.grow hg (fun h => by omega))
  have DG := Lib.hid (DF.out.grow hg (fun k hk h => by omega))
  have RG := Lib.hid hr
  clear hr hg H5 BF LF DF
  obtain ⟨c0, c1, c2, c3, c4⟩ := five_cells LG.out
  obtain ⟨r0, r1, r2, r3, r4⟩ := five_cells BG.out.z
  have fz : ∀ i, WG.frozen? ⟨w.heap.size, i, none⟩ = false := fun i => by have hz := BG.out.z; unfold zBlk at hz; simp [World.frozen?, hz]
  have f0 := fz 0
  have f1 := fz 1
  have f2 := fz 2
  have f3 := fz 3
  have f4 := fz 4
  clear fz
  go_upto_region 14 with fail
  go_region
  have t2 := five_set (a := .int .i64 2) (b := .int .i64 10) (c := .int .i64 8) (d := .int .i64 4) (e := .int .i64 32) BG.out.z
  generalize hWf : ((((WG.setCell ⟨w.heap.size, 0, none⟩ (.int .i64 2)).setCell ⟨w.heap.size, 1, none⟩ (.int .i64 10)).setCell ⟨w.heap.size, 2, none⟩ (.int .i64 8)).setCell ⟨w.heap.size, 3, none⟩ (.int .i64 4)).setCell ⟨w.heap.size, 4, none⟩ (.int .i64 32) = Wf at *
  have hgf : Grow (fun k => k = w.heap.size) WG Wf := by
    rw [← hWf]
    have gs : ∀ (v : World) (j : Nat) (x : Value), Grow (fun k => k = w.heap.size) v (v.setCell ⟨w.heap.size, j, none⟩ x) := fun v j x => Grow.setCell (F := fun k => k = w.heap.size) rfl x
    exact ((((gs _ _ _).trans (gs _ _ _) (fun _ h => .inl h)).trans (gs _ _ _) (fun _ h => .inl h)).trans (gs _ _ _) (fun _ h => .inl h)).trans (gs _ _ _) (fun _ h => .inl h)
  have hgd : Grow (fun k => k = w.heap.size) WG Wf.drew := hgf.trans (Grow.drew (F := fun _ => False) Wf) (fun _ h => h.elim)
  have hdf : DiskP (fun k => w.heap.size ≤ k ∧ k < m) b dk9 Wf.drew := (DG.out.grow hgd (fun k hk h => by omega)).mono (fun k hk => ⟨by omega, hk.2⟩)
  have hrf : RP m p rd5 Wf.drew := RG.out.grow hgd (fun k hk h => by have := BG.out.q4g; omega)
  have hbf : Below w.heap.size w Wf.drew := BG.out.bel.trans (hgd.below BG.out.bel.size (fun k hk => Nat.le_of_eq hk.symm))
  have HDF := Lib.hid hdf
  have HRF := Lib.hid hrf
  have HBF := Lib.hid hbf
  have hwm : w.heap.size ≤ m := by have := BG.out.q4g; omega
  clear r0 r1 r2 r3 r4 hWf hgf hgd hdf hrf hbf f0 f1 f2 f3 f4 c0 c1 c2 c3 c4
  have t3 : Wf.drew.heap[w.heap.size]? = _ := t2
  obtain ⟨r0, r1, r2, r3, r4⟩ := five_cells t3
  go_wp2
  exact bodyPost_ret (v := .tuple #[.pointer (some ⟨b, 0, none⟩), .pointer (some ⟨p, 0, none⟩), .agg #[.int .i64 2, .int .i64 10, .int .i64 8, .int .i64 4, .int .i64 32], .bool true]) (by simp [results, Tryz.results8, go_sem, r0, r1, r2, r3, r4]) rfl ⟨b, p, m, rfl, HDF.out, HRF.out, HBF.out, hwm⟩

end Go.Proofs.YtkgdpmeheakdcaaGreat
