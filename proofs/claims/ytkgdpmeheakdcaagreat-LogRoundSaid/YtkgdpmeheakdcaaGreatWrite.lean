/- Write. -/
import Derived.Test.YtkgdpmeheakdcaaGreatNew
import Derived.Test.YtkgdpmeheakdcaaGreatRegion
import Derived.Deep.RegionHeld3
import Derived.Deep.AppendLies
import Derived.Deep.DeepCutAuto
import Derived.Deep.CutRange
namespace Go.Proofs.YtkgdpmeheakdcaaGreat
open Go.RowKit
set_option linter.all false
set_option maxRecDepth 100000

theorem sclone_any (s : ByteArray) (w : World) (h : s.size ≤ 281474976710656) : Calls Tryz.prog 93 #[.string s] w fun e w' => e = .returned (.string s) ∧ Below w.heap.size w w' := by
  have HC := Lib.hid (Tryz.stringslite_Clone s w h)
  go_enter Tryz.func93, Tryz.ntmps93
  go_wp2_with fail
  refine HC.out.mono ?_
  rintro e w1 ⟨rfl, hb⟩
  have HB := Lib.hid hb
  clear hb
  go_wp2
  go_ret
  exact ⟨rfl, HB.out⟩

def wrX (D : DS) (node a : Int) (data : ByteArray) (i : Nat) : Wr := ⟨node, a + i, D.seq + 1, data.extract (64 * i) (64 * i + 64)⟩
def wr1 (D : DS) (x : Wr) : DS := { D with seq := x.seq, now := fun j => if j = x.pl then some x.data else D.now j, waits := D.waits ++ [x] }
def wrN (D : DS) (node a : Int) (data : ByteArray) : Nat → DS
  | 0 => D
  | k + 1 => wr1 (wrN D node a data k) (wrX (wrN D node a data k) node a data k)

theorem wrN_seq (D : DS) (node a : Int) (data : ByteArray) (k : Nat) : (wrN D node a data k).seq = D.seq + k := by
  induction k with
  | zero => simp [wrN]
  | succ k ih => show (wrN D node a data k).seq + 1 = _; rw [ih]; push_cast; omega
theorem wrN_waits (D : DS) (node a : Int) (data : ByteArray) (k : Nat) : (wrN D node a data k).waits.length = D.waits.length + k := by
  induction k with
  | zero => simp [wrN]
  | succ k ih => show ((wrN D node a data k).waits ++ [_]).length = _; simp [ih]; omega

def writeLoop (F : Nat → Prop) (b : Nat) (D : DS) (w : World) (node a : Int) (data : ByteArray) (k : Nat) (wr : World) : Prop := DiskTo F b (wrN D node a data k) w wr

theorem alloc_keep {w : World} {a : Addr} {v : Value} {o : Obj} (h : w.cell? a = some v) : (w.alloc o).cell? a = some v := by
  rw [World.cell?_of_block (heap_alloc_old w o (cell_lt h))]
  exact h

theorem mkWr (n1 n2 n3 : Int) (s : ByteArray) (w : World) : (Instr.buildSlice 104 1 #[(0, .agg #[.int .i64 n1, .int .i64 n2, .int .i64 n3, .string s])]).run Tryz.prog w = .ok (.slice (some ⟨w.heap.size, 0, none⟩) 1 1) (w.alloc (.cells #[.int .i64 n1, .int .i64 n2, .int .i64 n3, .string s] 125)) := by kernel_rfl

theorem four_set {w : World} {g : Nat} {z0 z1 z2 z3 a b c d : Value} {T : TypeId} {fz : Nat × Nat} (h : w.heap[g]? = some (.cells #[z0, z1, z2, z3] T fz)) :
    ((((w.setCell ⟨g, 0, none⟩ a).setCell ⟨g, 1, none⟩ b).setCell ⟨g, 2, none⟩ c).setCell ⟨g, 3, none⟩ d).heap[g]? = some (.cells #[a, b, c, d] T fz) := by
  rw [block_setCell (block_setCell (block_setCell (block_setCell h a) b) c) d]
  rfl

/-- What an append to what waits leaves. -/
theorem DiskIn.appWaits {F : Nat → Prop} {b : Nat} {D : DS} {nb lb : Nat} {wv sv : Value} {V V' w6 : World} {x : Wr} {v : Value} (h : DiskIn F b D nb lb wv sv V) (hV : Grow (fun _ => False) V V') (hg : V'.grownBy w6 wv.ownBlock)
    (ho : w6.ownsRow 0 125 4 v (D.waits.length + 1) (wrCells D.waits ++ x.cells)) (hv : ∀ k, v.ownBlock = some k → wv.ownBlock = some k ∨ V.heap.size ≤ k) :
    DiskIn (fun k => F k ∨ (V.heap.size ≤ k ∧ k < w6.heap.size)) b { D with waits := D.waits ++ [x] } nb lb v sv (w6.setCell ⟨b, 5, none⟩ v) ∧ Grow F V (w6.setCell ⟨b, 5, none⟩ v) := by
  have hG : Grow (fun k => wv.ownBlock = some k) V w6 := (hV.mono (fun _ h => h.elim)).trans (Grow.of_grownBy hg (fun g h => h)) (fun _ h => .inl h)
  have ag : ∀ k, F k → wv.ownBlock ≠ some k → w6.heap[k]? = V.heap[k]? := fun k hk hn => hG.block k (h.flt k hk) hn
  have hb := h.blk.of_same (ag b h.fb (fun e => h.b_ne_wv e rfl))
  have hlt : ∀ k, v.ownBlock = some k → k < w6.heap.size := fun k hk => by
    obtain ⟨_, cur, hh⟩ := ownsRow_block ho hk
    exact (Array.getElem?_eq_some_iff.1 hh).1
  have hfv : ∀ k, v.ownBlock = some k → F k ∨ (V.heap.size ≤ k ∧ k < w6.heap.size) := fun k hk => by
    rcases hv k hk with h1 | h1
    · exact .inl (h.fwv k h1)
    · exact .inr ⟨h1, hlt k hk⟩
  have hvb : ∀ k, v.ownBlock = some k → k ≠ b := fun k hk e => by
    subst e
    obtain ⟨_, cur, hh⟩ := ownsRow_block ho hk
    rw [hb.blk] at hh
    simp at hh
  have hb5 := hb.set5 v
  refine ⟨⟨⟨hb5.blk, hb5.lt, hb5.lw⟩, ?_, ?_, ?_, ?_, h.ne, .inl h.fb, .inl h.fnb, .inl h.flb, hfv, fun g hg' => .inl (h.fsv g hg'), fun k hk => ?_, h.sn⟩, ?_⟩
  · exact h.now.of_same ((block_setCell_ne h.b_ne_nb v).trans (ag nb h.fnb (fun e => h.wv_ne_nb e rfl)))
  · exact h.lasts.of_same ((block_setCell_ne h.b_ne_lb v).trans (ag lb h.flb (fun e => h.wv_ne_lb e rfl)))
  · have : ({ D with waits := D.waits ++ [x] } : DS).waits = D.waits ++ [x] := rfl
    rw [this, List.length_append, wrCells_snoc]
    exact ownsRow_of_same ho (fun g hg' => block_setCell_ne (hvb g hg') v)
  · exact ownsRow_of_same h.stays (fun g hg' => (block_setCell_ne (h.b_ne_sv hg') v).trans (ag g (h.fsv g hg') (fun e => h.wv_ne_sv e hg')))
  · rw [size_setCell]
    rcases hk with hk | hk
    · exact Nat.lt_of_lt_of_le (h.flt k hk) hG.size
    · exact hk.2
  · exact (hG.mono (fun k hk => h.fwv k hk)).trans (Grow.setCell h.fb v) (fun x hx => .inl hx)

set_option maxHeartbeats 2000000 in
theorem write_ok {F : Nat → Prop} {b : Nat} {D : DS} {nb lb : Nat} {wv sv : Value} {w : World} (h : DiskIn F b D nb lb wv sv w) (ok : D.Ok) (n : Nat) (hn : n < 17) (epoch a : Int) (data : ByteArray) (m : Nat) (hm1 : 1 ≤ m) (hm2 : m ≤ 16) (hsz : data.size = m * 64)
    (hon : D.on = true) (ha : admE (D.table.getD n 0) epoch = 0) (ht : thereB D.sectors a m = true) (hg : goesB D = false) :
    Calls Tryz.prog 44 #[.pointer (some ⟨b, 0, none⟩), .int .i64 n, .int .u64 epoch, .int .i64 a, .string data] w fun e w' => e = .returned (.int .i64 0) ∧ DiskTo F b (wrN (goesD D) n a data m) w w' := by
  have HM := Lib.hid (may_any h.blk n)
  have HA := Lib.hid (admits_any h.blk n hn epoch)
  have HT := Lib.hid (there_any h.blk (by have := ok.s0; omega) ok.s1 a m)
  have HG := Lib.hid (goes_any h hon ok)
  have hmay : mayE D.on n = 0 := by unfold mayE; rw [hon]; simp; omega
  rw [hmay] at HM
  rw [ha] at HA
  rw [ht] at HT
  rw [hg] at HG
  have hq1 : (goesD D).seq ≤ 1000000000 := by rw [(goesD_keeps hg).2.2.2.2.2.2.2.2.2]; exact ok.q1
  have hq0 : 0 ≤ (goesD D).seq := by rw [(goesD_keeps hg).2.2.2.2.2.2.2.2.2]; exact ok.q0
  have hw1 : (goesD D).waits.length ≤ 900000 := by rw [(goesD_keeps hg).1]; exact ok.wn
  have ha1 : 0 ≤ a ∧ a ≤ 20000 := by
    unfold thereB at ht
    simp at ht
    have := ok.s1
    omega
  obtain ⟨ha1, ha2⟩ := ha1
  clear hmay h ok ha ht hg hon
  generalize goesD D = E at *
  have HSZ := Lib.hid hsz
  have hs1 : ((data.size : Int)).tdiv 64 = m := by rw [hsz, Int.tdiv_eq_ediv_of_nonneg (by omega)]; omega
  have hs2 : ((data.size : Int)).tmod 64 = 0 := by rw [hsz, Int.tmod_eq_emod_of_nonneg (by omega)]; omega
  have hs3 : data.size ≤ 1024 := by omega
  clear hsz
  go_enter Tryz.func44, Tryz.ntmps44
  go_wp2_with fail
  refine HM.out.mono ?_
  rintro e w1 ⟨rfl, rfl⟩
  go_wp2_with fail
  refine HA.out.mono ?_
  rintro e w1 ⟨rfl, rfl⟩
  go_wp2_with fail
  refine HT.out.mono ?_
  rintro e w1 ⟨rfl, rfl⟩
  go_wp2_with fail
  refine HG.out.mono ?_
  rintro e w1 ⟨rfl, hd⟩
  have HD := Lib.hid hd
  clear hd
  go_wp2
  go_loopw [52] (fun i wr => ∃ k : Nat, k ≤ m ∧ i = .int .i64 k ∧ writeLoop F b E w n a data k wr)
      (fun i _ => m - (intOf i).toNat)
  case atStart => exact ⟨0, Nat.zero_le _, rfl, HD.out⟩
  case round =>
    obtain ⟨k, hk, rfl, F', ⟨nb', lb', wv', sv', hd⟩, hgr, hF⟩ := hrel
    have HGR := Lib.hid hgr
    have HF := Lib.hid hF
    have HD' := Lib.hid hd
    have c2 := hd.blk.c2
    have f2 := hd.blk.fz 2
    have hsq := wrN_seq E n a data k
    have hwl := wrN_waits E n a data k
    clear hgr hF hd HD
    by_cases hlt : k < m
    · generalize hE' : wrN E n a data k = E' at *
      have hsq0 : 0 ≤ E'.seq := by omega
      have hsq1 : E'.seq ≤ 1000000017 := by omega
      have hwl1 : E'.waits.length ≤ 900017 := by omega
      have HE' := Lib.hid hE'
      clear hE' hsq hwl
      go_wp2_with fail
      have hst2 := HD'.out.store (HD'.out.blk.set2 (E'.seq + 1)) rfl rfl rfl rfl
      have HST := Lib.hid hst2
      have hgst : Grow F' wr (wr.setCell ⟨b, 2, none⟩ (.int .i64 (E'.seq + 1))) := Grow.setCell HD'.out.fb _
      have HGS := Lib.hid hgst
      have q2 := hst2.blk.c2
      have hbW := hst2.flt b hst2.fb
      clear hst2 hgst c2 f2
      generalize wr.setCell ⟨b, 2, none⟩ (.int .i64 (E'.seq + 1)) = W at *
      replace q2 : W.cell? ⟨b, 2, none⟩ = some (.int .i64 (E'.seq + 1)) := q2
      have i1 : IntKind.i64.wrap ((k : Int) + 1) = (k : Int) + 1 := IntWalk.i64_in _ (by omega)
      have i2 : IntKind.i64.wrap ((k : Int) * 64) = (k : Int) * 64 := IntWalk.i64_in _ (by omega)
      have i3 : IntKind.i64.wrap (((k : Int) + 1) * 64) = ((k : Int) + 1) * 64 := IntWalk.i64_in _ (by omega)
      have i4 : (0 : Int) ≤ (k : Int) * 64 := by omega
      have i5 : (k : Int) * 64 ≤ ((k : Int) + 1) * 64 := by omega
      have i6 : ((k : Int) + 1) * 64 ≤ (data.size : Int) := by have := HSZ.out; omega
      have i7 : (0 : Int) ≤ ((k : Int) + 1) * 64 := by omega
      have i8 : ((k : Int) * 64).toNat = k * 64 := by omega
      have i9 : (((k : Int) + 1) * 64).toNat = k * 64 + 64 := by omega
      have hsl : ∀ wx : World, (Instr.slice 9 (.string data) (some (.int .i64 ((k : Int) * 64))) (some (.int .i64 (((k : Int) + 1) * 64))) none).run Tryz.prog wx = .ok (.string (data.extract (64 * k) (64 * k + 64))) wx := by
        intro wx
        rw [run_slice_string wx 9 data .i64 .i64 _ _ Tryz.underlying9 i4 i5 i6, i8, i9, Nat.mul_comm k 64]
      have i10 : IntKind.i64.wrap (a + (k : Int)) = a + (k : Int) := IntWalk.i64_in _ (by omega)
      clear i4 i5 i6 i7 i8 i9
      go_cut [15] from 53 to 97 (fun s15 wx => ∃ g : Nat, s15 = .pointer (some ⟨g, 0, none⟩) ∧ wx.heap[g]? = some (.cells #[.int .i64 (n : Int), .int .i64 (a + k), .int .i64 (E'.seq + 1), .string (data.extract (64 * k) (64 * k + 64))] 125 (0, 0)) ∧ Grow (fun _ => False) W wx ∧ W.heap.size ≤ g)
      case first =>
        have q2d : W.drew.cell? ⟨b, 2, none⟩ = some (.int .i64 (E'.seq + 1)) := q2
        have q2ad : ∀ o : Obj, (W.alloc o).drew.cell? ⟨b, 2, none⟩ = some (.int .i64 (E'.seq + 1)) := fun o => alloc_keep q2
        have hne1 : ¬ b = W.heap.size := by omega
        have hne2 : ¬ W.heap.size = b := by omega
        go_region_held3 (fun w' => w'.cell? ⟨b, 2, none⟩ = some (.int .i64 (E'.seq + 1)))
          (first | assumption | (with_reducible exact q2ad _) | (with_reducible exact alloc_keep hs) | go_keep)
          (first
            | (go_at_call 93; refine (sclone_any _ _ (by rw [ByteArray.size_extract]; omega)).mono ?_; rintro e w' ⟨rfl, hbel⟩; have hs := hbel.cell (p := ⟨b, 2, none⟩) (by simp <;> omega); simp only [q2d, q2ad] at hs; have z0 := fun (j : Nat) => hbel.cell (p := ⟨W.heap.size, j, none⟩); have z1 := fun (j : Nat) => hbel.frozen (p := ⟨W.heap.size, j, none⟩)))
        all_goals (go_wp2_with fail)
        · go_meet
          exact ⟨_, rfl, heap_alloc_new w' _, ((Grow.drew W).trans (F' := fun _ => False) (Grow.of_below hbel) (fun _ h => h.elim)).trans (F' := fun _ => False) (Grow.alloc w' _) (fun _ h => h.elim), hbel.size⟩
        · go_meet
          have hz := (hbel.block W.heap.size (by simp)).trans (heap_alloc_new W _)
          have hsz := hbel.size
          refine ⟨_, rfl, four_set hz, ?_, Nat.le_refl _⟩
          have g0 : Grow (fun _ => False) W w' := ((Grow.alloc (F := fun _ => False) W _).trans (F' := fun _ => False) (Grow.drew _) (fun _ h => h.elim)).trans (F' := fun _ => False) (Grow.of_below hbel) (fun _ h => h.elim)
          have gs : ∀ (v : World) (j : Nat) (x : Value), Grow (fun k => k = W.heap.size) v (v.setCell ⟨W.heap.size, j, none⟩ x) := fun v j x => Grow.setCell (F := fun k => k = W.heap.size) rfl x
          exact g0.trans ((((gs _ _ _).trans (gs _ _ _) (fun _ h => .inl h)).trans (gs _ _ _) (fun _ h => .inl h)).trans (gs _ _ _) (fun _ h => .inl h)) (fun x hx => .inr (Nat.le_of_eq hx.symm))
      case rest =>
        obtain ⟨g, rfl, hbx, hgx, hge⟩ := hcut
        have b1 := cell_of_row wc _ 1 _ _ _ hbx
        have b3 := cell_of_row wc _ 3 _ _ _ hbx
        simp only [List.getElem?_toArray, List.getElem?_cons_zero, List.getElem?_cons_succ] at b1 b3
        have D4 := HST.out.grow hgx (fun _ _ h => h)
        have D4d : DiskIn F' b { E' with seq := E'.seq + 1 } nb' lb' wv' sv' wc.drew := D4.of_agree (fun _ _ => rfl) (Nat.le_refl _)
        have k3 := D4.blk.c3
        have HD4 := Lib.hid D4d
        have HBX := Lib.hid hbx
        have HGX := Lib.hid hgx
        clear D4 D4d hbx hgx q2 hsl i1 i2 i3 i10
        go_wp2_with fail
        refine region_tail 8 (by kernel_rfl) (by kernel_rfl) ?_
        simp only [List.take_succ_cons, List.take_zero, List.drop_succ_cons, List.drop_zero]
        iterate 8 still_step
        refine wpStill_nil ?_
        refine wpList_mapUpdate_f rfl _ _ _ 102 rfl 3 9 Tryz.underlying102 Tryz.underlying3 nb' (nowV E'.now) (a + k) (.string (data.extract (64 * k) (64 * k + 64))) rfl rfl rfl HD4.out.now ?_
        intro w5 hm5 hg5 hz5
        have hX : nowV (fun j => if j = a + k then some (data.extract (64 * k) (64 * k + 64)) else E'.now j) = fun j => if j = a + (k : Int) then some (.string (data.extract (64 * k) (64 * k + 64))) else nowV E'.now j := by
          funext j
          unfold nowV
          by_cases hj : j = a + k <;> simp [hj]
        have D5 : DiskIn F' b { E' with seq := E'.seq + 1, now := fun j => if j = a + k then some (data.extract (64 * k) (64 * k + 64)) else E'.now j } nb' lb' wv' sv' w5 :=
          HD4.out.setNow (by rw [hX]; exact hm5) (Grow.of_grownBy hg5 (fun g h => by cases h; rfl))
        have hbx5 : w5.heap[g]? = some (.cells #[.int .i64 (n : Int), .int .i64 (a + k), .int .i64 (E'.seq + 1), .string (data.extract (64 * k) (64 * k + 64))] 125 (0, 0)) := by
          rw [hg5.block g (Array.getElem?_eq_some_iff.1 HBX.out).1 (fun e => by
            have hh := HD4.out.flt nb' HD4.out.fnb
            have h2 : g = nb' := by cases e; rfl
            have := HST.out.flt nb' HST.out.fnb
            omega)]
          exact HBX.out
        have G5 : Grow F' W w5 := ((HGX.out.mono (fun _ h => h.elim)).trans (F' := fun _ => False) (Grow.drew wc) (fun _ h => h.elim)).trans (Grow.of_grownBy hg5 (fun g h => by cases h; exact HST.out.fnb)) (fun _ h => .inl h)
        have HD5 := Lib.hid D5
        have HG5 := Lib.hid G5
        have k5 := D5.blk.c5
        have f5 := D5.blk.fz 5
        have x0 := cell_of_row w5 _ 0 _ _ _ hbx5
        have x1 := cell_of_row w5 _ 1 _ _ _ hbx5
        have x2 := cell_of_row w5 _ 2 _ _ _ hbx5
        have x3 := cell_of_row w5 _ 3 _ _ _ hbx5
        simp only [List.getElem?_toArray, List.getElem?_cons_zero, List.getElem?_cons_succ] at x0 x1 x2 x3
        clear hm5 hg5 hz5 hX D5 hbx5 G5 b1 b3 k3
        simp only [Act.put]
        go_wp2_with fail
        obtain ⟨i0, hi, hz0, hz1, hz2⟩ := info_parts infoWr
        have hown := HD5.out.waits
        rw [show ({ E' with seq := E'.seq + 1, now := fun j => if j = a + k then some (data.extract (64 * k) (64 * k + 64)) else E'.now j } : DS).waits = E'.waits from rfl] at hown
        have ag : wv'.ownBlock ≠ some b := fun e => HD5.out.b_ne_wv e rfl
        have hwlt : ∀ q, wv'.ownBlock = some q → q < W.heap.size := fun q hq => HST.out.flt q (HST.out.fwv q hq)
        have ag2 : wv'.ownBlock ≠ some g := fun e => by have := hwlt g e; omega
        have hb5 : b < w5.heap.size := HD5.out.flt b HD5.out.fb
        have hg5 : g < w5.heap.size := cell_lt x0
        have HWL := Lib.hid hwlt
        clear hwlt
        have hS0 : w5.drew.cell? ⟨b, 5, none⟩ = some wv' ∧ w5.drew.cell? ⟨g, 0, none⟩ = some (.int .i64 (n : Int)) ∧ w5.drew.cell? ⟨g, 1, none⟩ = some (.int .i64 (a + k)) ∧ w5.drew.cell? ⟨g, 2, none⟩ = some (.int .i64 (E'.seq + 1)) ∧ w5.drew.cell? ⟨g, 3, none⟩ = some (.string (data.extract (64 * k) (64 * k + 64))) := ⟨k5, x0, x1, x2, x3⟩
        refine wp_region_T (fun w' => w'.cell? ⟨b, 5, none⟩ = some wv' ∧ w'.cell? ⟨g, 0, none⟩ = some (.int .i64 (n : Int)) ∧ w'.cell? ⟨g, 1, none⟩ = some (.int .i64 (a + k)) ∧ w'.cell? ⟨g, 2, none⟩ = some (.int .i64 (E'.seq + 1)) ∧ w'.cell? ⟨g, 3, none⟩ = some (.string (data.extract (64 * k) (64 * k + 64)))) 10 (by kernel_rfl) ?_
        refine wpAnyT_take (i := 0) (.pointer (some ⟨b, 0, none⟩)) rfl (by kernel_rfl) (by kernel_rfl) (by kernel_rfl) (fun _ _ _ h => h) (by kernel_rfl) rfl (by intro wq hS; obtain ⟨h5, h0, h1, h2, h3⟩ := hS; go_simp) hS0 ?_
        refine wpAnyT_take (i := 1) (.pointer (some ⟨b, 0, none⟩)) rfl (by kernel_rfl) (by kernel_rfl) (by kernel_rfl) (fun _ _ _ h => h) (by kernel_rfl) rfl (by intro wq hS; obtain ⟨h5, h0, h1, h2, h3⟩ := hS; go_simp) hS0 ?_
        refine wpAnyT_take (i := 2) (.pointer (some ⟨b, 0, none⟩)) rfl (by kernel_rfl) (by kernel_rfl) (by kernel_rfl) (fun _ _ _ h => h) (by kernel_rfl) rfl (by intro wq hS; obtain ⟨h5, h0, h1, h2, h3⟩ := hS; go_simp) hS0 ?_
        refine wpAnyT_take (i := 3) (.pointer (some ⟨b, 5, none⟩)) rfl (by kernel_rfl) (by kernel_rfl) (by kernel_rfl) (fun _ _ _ h => h) (by kernel_rfl) rfl (by intro wq hS; obtain ⟨h5, h0, h1, h2, h3⟩ := hS; go_simp) hS0 ?_
        refine wpAnyT_take (i := 4) (wv') rfl (by kernel_rfl) (by kernel_rfl) (by kernel_rfl) (fun _ _ _ h => h) (by kernel_rfl) rfl (by intro wq hS; obtain ⟨h5, h0, h1, h2, h3⟩ := hS; go_simp) hS0 ?_
        refine wpAnyT_take (i := 5) (.agg #[.int .i64 (n : Int), .int .i64 (a + k), .int .i64 (E'.seq + 1), .string (data.extract (64 * k) (64 * k + 64))]) rfl (by kernel_rfl) (by kernel_rfl) (by kernel_rfl) (fun _ _ _ h => h) (by kernel_rfl) rfl (by intro wq hS; obtain ⟨h5, h0, h1, h2, h3⟩ := hS; go_simp) hS0 ?_
        have hS1 := (⟨alloc_keep hS0.1, alloc_keep hS0.2.1, alloc_keep hS0.2.2.1, alloc_keep hS0.2.2.2.1, alloc_keep hS0.2.2.2.2⟩ : (fun w' : World => w'.cell? ⟨b, 5, none⟩ = some wv' ∧ w'.cell? ⟨g, 0, none⟩ = some (.int .i64 (n : Int)) ∧ w'.cell? ⟨g, 1, none⟩ = some (.int .i64 (a + k)) ∧ w'.cell? ⟨g, 2, none⟩ = some (.int .i64 (E'.seq + 1)) ∧ w'.cell? ⟨g, 3, none⟩ = some (.string (data.extract (64 * k) (64 * k + 64)))) (w5.drew.alloc (.cells #[.int .i64 (n : Int), .int .i64 (a + k), .int .i64 (E'.seq + 1), .string (data.extract (64 * k) (64 * k + 64))] 125)))
        refine wpAnyT_exec (i := 6) (oi := ⟨some 93, .buildSlice 104 1 #[(0, .tmp 92)], _, _, _, _⟩) (.slice (some ⟨w5.heap.size, 0, none⟩) 1 1) _ (by kernel_rfl) rfl rfl (exec_buildSlice (ps := #[(0, .agg #[.int .i64 (n : Int), .int .i64 (a + k), .int .i64 (E'.seq + 1), .string (data.extract (64 * k) (64 * k + 64))])]) (by go_simp) (mkWr (n : Int) (a + k) (E'.seq + 1) (data.extract (64 * k) (64 * k + 64)) w5.drew)) (.inr hS1) ?_
        simp only [Act.put, List.setIfInBounds_toArray, List.set_cons_succ, List.set_cons_zero]
        refine wpAnyT_only (i := 7) (oi := ⟨some 94, .call { callee := .builtin .append, args := #[.tmp 91, .tmp 93], argTypes := #[104, 104] }, _, _, _, _⟩) (by kernel_rfl) rfl rfl (wp_append_lies _ _ _ 104 rfl 0 125 i0 _ 4 40 Tryz.underlying104 hi hz0 hz1 hz2 rfl (by omega) wv' E'.waits.length (wrCells E'.waits) (by simp [Act.eval]) (World.ownsRow.alloc (w := w5.drew) hown _) ⟨w5.heap.size, 0, none⟩ 1 1 [.int .i64 (n : Int), .int .i64 (a + k), .int .i64 (E'.seq + 1), .string (data.extract (64 * k) (64 * k + 64))] (by simp [Act.eval]) rfl (World.news_of_block (cs := #[.int .i64 (n : Int), .int .i64 (a + k), .int .i64 (E'.seq + 1), .string (data.extract (64 * k) (64 * k + 64))]) (t := 125) (fr := (0, 0)) (heap_alloc_new w5.drew _)) (by simp [Value.oneCell']) (by omega) (by unfold maxLen; omega) (by omega) (by simp) (w5.heap.size + 1) (by simp) ?_)
        intro gg cap w6 hown6 hgrow hat hlt6
        have far : ∀ (q j : Nat) (u : Value), wv'.ownBlock ≠ some q → (w5.drew.alloc (.cells #[.int .i64 (n : Int), .int .i64 (a + k), .int .i64 (E'.seq + 1), .string (data.extract (64 * k) (64 * k + 64))] 125)).cell? ⟨q, j, none⟩ = some u → w6.cell? ⟨q, j, none⟩ = some u := fun q j u hq hu => by
          rw [hgrow.cell_far ⟨q, j, none⟩ (cell_lt hu) (fun e => hq e.symm)]
          exact hu
        have hS2 := (⟨far _ _ _ ag hS1.1, far _ _ _ ag2 hS1.2.1, far _ _ _ ag2 hS1.2.2.1, far _ _ _ ag2 hS1.2.2.2.1, far _ _ _ ag2 hS1.2.2.2.2⟩ : (fun w' : World => w'.cell? ⟨b, 5, none⟩ = some wv' ∧ w'.cell? ⟨g, 0, none⟩ = some (.int .i64 (n : Int)) ∧ w'.cell? ⟨g, 1, none⟩ = some (.int .i64 (a + k)) ∧ w'.cell? ⟨g, 2, none⟩ = some (.int .i64 (E'.seq + 1)) ∧ w'.cell? ⟨g, 3, none⟩ = some (.string (data.extract (64 * k) (64 * k + 64)))) w6)
        refine ⟨.inr hS2, ?_⟩
        have k6 := hS2.1
        have f6 : w6.frozen? ⟨b, 5, none⟩ = false := by
          rw [hgrow.frozen_far ⟨b, 5, none⟩ (cell_lt hS1.1) (fun e => ag e.symm)]
          exact (World.frozen?_of_block (heap_alloc_old w5.drew _ hb5)).trans f5
        replace hown6 := Lib.hid hown6
        replace hgrow := Lib.hid hgrow
        replace hat := Lib.hid hat
        replace hS2 := Lib.hid hS2
        clear far hS1 hS0 hown
        simp only [Act.put, List.setIfInBounds_toArray, List.set_cons_succ, List.set_cons_zero]
        refine wpAnyT_exec (i := 8) (oi := ⟨some 95, .nilCheck (.tmp 87), _, _, _, _⟩) (.pointer (some ⟨b, 0, none⟩)) w6 (by kernel_rfl) rfl rfl (by go_simp) (.inr hS2.out) ?_
        simp only [Act.put, List.setIfInBounds_toArray, List.set_cons_succ, List.set_cons_zero]
        refine wpAnyT_exec (i := 9) (oi := ⟨some 96, .fieldAddr 106 (.tmp 95) 5, _, _, _, _⟩) (.pointer (some ⟨b, 5, none⟩)) w6 (by kernel_rfl) rfl rfl (by go_simp) (.inr hS2.out) ?_
        simp only [Act.put, List.setIfInBounds_toArray, List.set_cons_succ, List.set_cons_zero]
        refine wpAnyT_skip (i := 10) (oi := ⟨none, .store 104 (.tmp 96) (.tmp 94), _, _, _, _⟩) (w6.setCell ⟨b, 5, none⟩ (.slice (some ⟨gg, 0, none⟩) (E'.waits.length + 1) cap)) (by kernel_rfl) rfl rfl (by go_simp) (.inl rfl) ?_
        refine wpAnyT_done (by kernel_rfl) ?_
        simp only [Act.put, List.setIfInBounds_toArray, List.set_cons_succ, List.set_cons_zero]
        have hfin := HD5.out.appWaits (x := ⟨n, a + k, E'.seq + 1, data.extract (64 * k) (64 * k + 64)⟩) ((Grow.drew (F := fun _ => False) w5).trans (F' := fun _ => False) (Grow.alloc _ _) (fun _ h => h.elim)) hgrow.out hown6.out (fun q hq => by
          cases hq
          rcases hat.out with h1 | h1
          · exact .inl h1
          · right
            have h2 : gg = w5.heap.size + 1 := h1
            show w5.heap.size ≤ gg
            omega)
        have hrel : writeLoop F b E w n a data (k + 1) (w6.setCell ⟨b, 5, none⟩ (.slice (some ⟨gg, 0, none⟩) (E'.waits.length + 1) cap)) := by
          have hgo : Grow F w w5 := (HGR.out.trans HGS.out HF.out).trans HG5.out HF.out
          have hx : wrN E n a data (k + 1) = { ({ E' with seq := E'.seq + 1, now := fun j => if j = a + k then some (data.extract (64 * k) (64 * k + 64)) else E'.now j } : DS) with waits := E'.waits ++ [⟨n, a + k, E'.seq + 1, data.extract (64 * k) (64 * k + 64)⟩] } := by
            show wr1 (wrN E n a data k) (wrX (wrN E n a data k) n a data k) = _
            rw [HE'.out]
            rfl
          unfold writeLoop
          rw [hx]
          refine ⟨_, ⟨_, _, _, _, hfin.1⟩, hgo.trans hfin.2 HF.out, fun q hq => ?_⟩
          rcases hq with hq | hq
          · exact HF.out q hq
          · right
            have := hgo.size
            omega
        have HREL := Lib.hid hrel
        clear hfin hrel hS2 hown6 hgrow hat hlt6 k6 f6 x0 x1 x2 x3 k5 f5 ag ag2 hi hz0 hz1 hz2
        go_wp2
        go_roundw
        case rel => exact ⟨k + 1, by omega, by go_num, HREL.out⟩
        case measure => simp [intOf]; omega
    · have hkm : k = m := by omega
      subst hkm
      clear c2 f2 hsq hwl
      have hfin : DiskTo F b (wrN E n a data k) w wr := ⟨F', ⟨_, _, _, _, HD'.out⟩, HGR.out, HF.out⟩
      have HFIN := Lib.hid hfin
      clear hfin
      go_wp2
      go_ret
      exact ⟨rfl, HFIN.out⟩

end Go.Proofs.YtkgdpmeheakdcaaGreat
