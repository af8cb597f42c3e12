/- keep: a write lasts, if it is the latest one. -/
import Derived.Test.YtkgdpmeheakdcaaGreatArm
import Derived.StillTailTactics
import Derived.BigQuiet
import Derived.Deep.QuietTactic
namespace Go.Proofs.YtkgdpmeheakdcaaGreat
open Go.RowKit
set_option linter.all false

def seqAt (L : Int → Option Wr) (k : Int) : Int := match L k with | none => 0 | some y => y.seq
def keepW (L : Int → Option Wr) (x : Wr) : Int → Option Wr := if seqAt L x.pl < x.seq then fun j => if j = x.pl then some x else L j else L

theorem zeroWr (w : World) : (zeroValue 125).run Tryz.prog w = .ok (.agg #[.int .i64 0, .int .i64 0, .int .i64 0, .string ByteArray.empty]) w := by kernel_rfl

theorem fieldSeq (n1 n2 n3 : Int) (s : ByteArray) (w : World) : (Instr.field 125 (.agg #[.int .i64 n1, .int .i64 n2, .int .i64 n3, .string s]) 2).run Tryz.prog w = .ok (.int .i64 n3) w := by kernel_rfl

theorem cell_of_heap {W V : World} (h : W.heap = V.heap) (a : Addr) : W.cell? a = V.cell? a := by simp [World.cell?, h]
theorem region_tail {P : Program} {id : Nat} {Q : Exit → Act → World → Prop} {a : Act} {w : World} {l : List Oper} (n : Nat) (hm : P.follows .mixedOrders = true) (hB : Region.lexTailB .any l.toArray n = true)
    (h : wpStill P l.toArray w.drew (fun a' => wpList P l.toArray Q (l.drop n) a' w.drew) (l.take n) a) : (Code.region id l.toArray true).wp P Q a w := wp_region_still_tail n hm hB h

theorem lastV_upd (L : Int → Option Wr) (x : Wr) : lastV (fun j => if j = x.pl then some x else L j) = fun j => if j = x.pl then some (.agg #[.int .i64 x.node, .int .i64 x.pl, .int .i64 x.seq, .string x.data]) else lastV L j := by
  funext j
  unfold lastV
  by_cases h : j = x.pl
  · simp [h, Wr.cells]
  · simp [h]

theorem lastV_seq (L : Int → Option Wr) (k : Int) : ∃ n1 n2 s, (lastV L k).getD (.agg #[.int .i64 0, .int .i64 0, .int .i64 0, .string ByteArray.empty]) = .agg #[.int .i64 n1, .int .i64 n2, .int .i64 (seqAt L k), .string s] := by
  unfold lastV seqAt
  cases L k with
  | none => exact ⟨0, 0, ByteArray.empty, rfl⟩
  | some y => exact ⟨y.node, y.pl, y.data, rfl⟩

/-- The lasting map alone is written. -/
theorem DiskIn.setLasts {F : Nat → Prop} {b : Nat} {D : DS} {nb lb : Nat} {wv sv : Value} {w : World} (h : DiskIn F b D nb lb wv sv w) {w' : World} {L : Int → Option Wr} (hm : MapAt w' lb (lastV L)) (hg : Grow (fun k => k = lb) w w') :
    DiskIn F b { D with lasts := L } nb lb wv sv w' := by
  have hb := h.blk.of_same (hg.block b (h.flt b h.fb) (fun e => h.b_ne_lb e.symm))
  exact ⟨⟨hb.blk, hb.lt, hb.lw⟩, h.now.of_same (hg.block nb (h.flt nb h.fnb) h.ne), hm, ownsRow_of_same h.waits (fun g hg' => hg.block g (h.flt g (h.fwv g hg')) (h.wv_ne_lb hg')), ownsRow_of_same h.stays (fun g hg' => hg.block g (h.flt g (h.fsv g hg')) (h.sv_ne_lb hg')),
    h.ne, h.fb, h.fnb, h.flb, h.fwv, h.fsv, fun k hk => Nat.lt_of_lt_of_le (h.flt k hk) hg.size, h.sn⟩
theorem DiskIn.setNow {F : Nat → Prop} {b : Nat} {D : DS} {nb lb : Nat} {wv sv : Value} {w : World} (h : DiskIn F b D nb lb wv sv w) {w' : World} {f : Int → Option ByteArray} (hm : MapAt w' nb (nowV f)) (hg : Grow (fun k => k = nb) w w') :
    DiskIn F b { D with now := f } nb lb wv sv w' := by
  have hb := h.blk.of_same (hg.block b (h.flt b h.fb) (fun e => h.b_ne_nb e.symm))
  exact ⟨⟨hb.blk, hb.lt, hb.lw⟩, hm, h.lasts.of_same (hg.block lb (h.flt lb h.flb) (fun e => h.ne e.symm)), ownsRow_of_same h.waits (fun g hg' => hg.block g (h.flt g (h.fwv g hg')) (h.wv_ne_nb hg')), ownsRow_of_same h.stays (fun g hg' => hg.block g (h.flt g (h.fsv g hg')) (h.sv_ne_nb hg')),
    h.ne, h.fb, h.fnb, h.flb, h.fwv, h.fsv, fun k hk => Nat.lt_of_lt_of_le (h.flt k hk) hg.size, h.sn⟩
theorem Grow.mono {F G : Nat → Prop} {w w' : World} (h : Grow F w w') (hF : ∀ k, F k → G k) : Grow G w w' := ⟨h.os, h.tape, h.output, h.size, fun k hk hn => h.block k hk (fun hf => hn (hF k hf))⟩
theorem Grow.of_heap {F : Nat → Prop} {w w' : World} (h : w'.heap = w.heap) (h1 : w'.os = w.os) (h2 : w'.tape = w.tape) (h3 : w'.output = w.output) : Grow F w w' := ⟨h1, h2, h3, by rw [h]; exact Nat.le_refl _, fun k _ _ => by rw [h]⟩

set_option maxRecDepth 100000 in
theorem keep_any {F : Nat → Prop} {b : Nat} {D : DS} {nb lb : Nat} {wv sv : Value} {w : World} (h : DiskIn F b D nb lb wv sv w) (x : Wr) :
    Calls Tryz.prog 132 #[.pointer (some ⟨b, 0, none⟩), .agg #[.int .i64 x.node, .int .i64 x.pl, .int .i64 x.seq, .string x.data]] w fun e w' => e = .returned (.tuple #[]) ∧ DiskIn F b { D with lasts := keepW D.lasts x } nb lb wv sv w' ∧ Grow (fun k => k = lb) w w' := by
  obtain ⟨n1, n2, s, hz⟩ := lastV_seq D.lasts x.pl
  have hlook : ∀ wx : World, wx.heap[lb]? = w.heap[lb]? → (Instr.lookup 103 (.map (some lb)) (.int .i64 x.pl) false).run Tryz.prog wx = .ok (.agg #[.int .i64 n1, .int .i64 n2, .int .i64 (seqAt D.lasts x.pl), .string s]) wx := by
    intro wx hx
    rw [(h.lasts.of_same hx).lookup Tryz.underlying103 Tryz.underlying3 (zeroWr wx) x.pl false]
    simp only [lookV, hz]
    rfl
  have hfld := fieldSeq
  have c4 := h.blk.c4
  have hlt := h.flt lb h.flb
  have hl2 : ∀ (o : Obj) (n : Nat), (Instr.lookup 103 (.map (some lb)) (.int .i64 x.pl) false).run Tryz.prog ((w.alloc o).drewN n) = .ok (.agg #[.int .i64 n1, .int .i64 n2, .int .i64 (seqAt D.lasts x.pl), .string s]) ((w.alloc o).drewN n) :=
    fun o n => hlook _ (heap_alloc_old w o hlt)
  have hc4 : ∀ o : Obj, (w.alloc o).cell? ⟨b, 4, none⟩ = some (.map (some lb)) := fun o => (World.cell?_of_block (heap_alloc_old w o (h.flt b h.fb))).trans c4
  have HD := Lib.hid h
  have hkw : keepW D.lasts x = if seqAt D.lasts x.pl < x.seq then fun j => if j = x.pl then some x else D.lasts j else D.lasts := rfl
  have HKW := Lib.hid hkw
  clear h hlook hlt hz hkw
  generalize keepW D.lasts x = KW at HKW ⊢
  generalize seqAt D.lasts x.pl = q at hl2 HKW
  by_cases h0 : q < x.seq
  · go_enter Tryz.func132, Tryz.ntmps132
    go_wp2
    go_quiet (fail)
    go_wp2
    generalize hW : World.drewN _ nq = W
    have hh : W.heap = (w.alloc (.cells #[.int .i64 x.node, .int .i64 x.pl, .int .i64 x.seq, .string x.data] 125)).heap := by rw [← hW]; rfl
    have k4 : W.cell? ⟨b, 4, none⟩ = some (.map (some lb)) := (cell_of_heap hh _).trans (hc4 _)
    have hbx : W.heap[w.heap.size]? = some (.cells #[.int .i64 x.node, .int .i64 x.pl, .int .i64 x.seq, .string x.data] 125) := by rw [hh]; exact heap_alloc_new w _
    have b0 := cell_of_row W _ 0 _ _ _ hbx
    have b1 := cell_of_row W _ 1 _ _ _ hbx
    have b2 := cell_of_row W _ 2 _ _ _ hbx
    have b3 := cell_of_row W _ 3 _ _ _ hbx
    simp only [List.getElem?_toArray, List.getElem?_cons_zero, List.getElem?_cons_succ] at b0 b1 b2 b3
    have hgW : Grow (fun _ => False) w W := by rw [← hW]; exact (Grow.alloc w _).trans (F' := fun _ => False) (Grow.of_heap rfl rfl rfl rfl) (fun _ h => .inl h)
    have D1 := HD.out.grow hgW (fun _ _ h => h)
    have D1d : DiskIn F b D nb lb wv sv W.drew := D1.of_agree (fun _ _ => rfl) (Nat.le_refl _)
    have HD1 := Lib.hid D1d
    have HG := Lib.hid hgW
    clear hW hh hbx hl2 hc4 hfld c4 D1 D1d hgW
    refine region_tail 7 (by kernel_rfl) (by kernel_rfl) ?_
    simp only [List.take_succ_cons, List.take_zero, List.drop_succ_cons, List.drop_zero]
    iterate 7 still_step
    refine wpStill_nil ?_
    refine wpList_mapUpdate_f rfl _ _ _ 103 rfl 3 125 Tryz.underlying103 Tryz.underlying3 lb (lastV D.lasts) x.pl _ rfl rfl rfl HD1.out.lasts ?_
    intro w' hm hg hz
    have hfin : DiskIn F b { D with lasts := KW } nb lb wv sv w' := by
      refine HD1.out.setLasts ?_ (Grow.of_grownBy hg (fun g h => by cases h; rfl))
      rw [HKW.out, if_pos h0, lastV_upd]
      exact hm
    have hgr : Grow (fun k => k = lb) w w' := ((HG.out.mono (fun _ h => h.elim)).trans (F' := fun _ => False) (Grow.drew W) (fun _ h => h.elim)).trans (Grow.of_grownBy (F := fun k => k = lb) hg (fun g h => by cases h; rfl)) (fun _ h => .inl h)
    have HF := Lib.hid hfin
    have HR := Lib.hid hgr
    clear hm hg hz hfin hgr HD1 HG
    go_wp2
    go_end0
    exact ⟨rfl, HF.out, HR.out⟩
  · go_enter Tryz.func132, Tryz.ntmps132
    go_wp2
    go_quiet (fail)
    go_wp2
    go_end0
    generalize hW : World.drewN _ nq = W
    have hgW : ∀ G, Grow G w W := fun G => by rw [← hW]; exact (Grow.alloc w _).trans (F' := fun _ => False) (Grow.of_heap rfl rfl rfl rfl) (fun _ h => h.elim)
    refine ⟨rfl, ?_, hgW _⟩
    rw [HKW.out, if_neg (by omega)]
    exact HD.out.grow (hgW (fun _ => False)) (fun _ _ h => h)

end Go.Proofs.YtkgdpmeheakdcaaGreat
