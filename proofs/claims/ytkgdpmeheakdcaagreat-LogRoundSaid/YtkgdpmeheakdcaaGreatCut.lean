/- Cut: the power goes. -/
import Derived.Test.YtkgdpmeheakdcaaGreatRange
namespace Go.Proofs.YtkgdpmeheakdcaaGreat
open Go.RowKit Go.MapKept
set_option linter.all false
set_option maxRecDepth 100000

/-- Does the k-th of those that wait stay? -/
def stayB (zs : List Int) (k : Nat) : Bool := decide (k < zs.length) && decide (zs.getD k 0 % 2 = 1)
def cutL (zs : List Int) : Nat → (Int → Option Wr) → List Wr → Int → Option Wr
  | _, L, [] => L
  | k, L, x :: l => cutL zs (k + 1) (if stayB zs k then keepW L x else L) l
def cutOff (D : DS) : DS := { D with armed := false, left := -1, stays := [], nilS := false }
def cutOn (D : DS) (zs : List Int) : DS :=
  { D with armed := false, left := -1, stays := [], nilS := false, on := false, lasts := cutL zs 0 D.lasts D.waits, now := fun j => (cutL zs 0 D.lasts D.waits j).map (·.data), waits := [] }

theorem cutL_snoc (zs : List Int) (l : List Wr) (x : Wr) : ∀ k L, cutL zs k L (l ++ [x]) = if stayB zs (k + l.length) then keepW (cutL zs k L l) x else cutL zs k L l := by
  induction l with
  | nil => intro k L; rfl
  | cons y l ih =>
    intro k L
    have := ih (k + 1) (if stayB zs k then keepW L y else L)
    rw [show k + 1 + l.length = k + (y :: l).length by simp; omega] at this
    exact this

theorem i64_and1 (n : Int) : bits .and .i64 n 1 = n % 2 := by
  have h1 : (BitVec.ofInt 64 1).toNat = 2 ^ 1 - 1 := by decide
  have key : (BitVec.ofInt 64 n &&& BitVec.ofInt 64 1).toNat = (n % ((2 ^ 64 : Nat) : Int)).toNat % 2 ^ 1 := by
    rw [BitVec.toNat_and, BitVec.toNat_ofInt, h1, Nat.and_two_pow_sub_one_eq_mod]
  show IntKind.i64.wrap ((BitVec.ofInt 64 n &&& BitVec.ofInt 64 1).toNat : Nat) = n % 2
  rw [key, IntKind.wrap_i64]
  omega

/-- The disk has no power: nothing happens but that it is armed no more. -/
theorem cut_off {F : Nat → Prop} {b : Nat} {D : DS} {nb lb : Nat} {wv sv : Value} {w : World} (h : DiskIn F b D nb lb wv sv w) (hon : D.on = false) (v : Value) :
    Calls Tryz.prog 115 #[.pointer (some ⟨b, 0, none⟩), v] w fun e w' => e = .returned (.int .i64 0) ∧ DiskTo F b (cutOff D) w w' := by
  have HA := Lib.hid (arm_off h)
  have HB := Lib.hid h.fb
  have HO := Lib.hid hon
  clear h hon
  go_enter Tryz.func115, Tryz.ntmps115
  go_wp2_with fail
  refine HA.out.mono ?_
  rintro e w1 ⟨rfl, F', v', hd, hg, hF⟩
  have hon := on_any hd.blk
  rw [show ({ D with armed := false, left := -1, stays := [], nilS := false } : DS).on = false from HO.out] at hon
  have HON := Lib.hid hon
  have hfin : DiskTo F b (cutOff D) w w1 := ArmTo.disk ⟨F', v', hd, hg, hF⟩ HB.out
  have HF := Lib.hid hfin
  clear hd hg hF hon hfin
  go_wp2_with fail
  refine HON.out.mono ?_
  rintro e w2 ⟨rfl, rfl⟩
  go_wp2
  go_ret
  exact ⟨rfl, HF.out⟩

theorem cut_nil (v : Value) (w : World) : Calls Tryz.prog 115 #[.pointer none, v] w fun e w' => e = .returned (.int .i64 0) ∧ w = w' := by
  go_enter Tryz.func115, Tryz.ntmps115
  go_wp2_with fail
  refine (arm_nil _ _ _).mono ?_
  rintro e w1 ⟨rfl, rfl⟩
  go_wp2_with fail
  refine on_nil.mono ?_
  rintro e w2 ⟨rfl, rfl⟩
  go_wp2
  go_ret
  exact ⟨rfl, rfl⟩

theorem Keep.at {w : World} {ao : Option Addr} {len : Nat} {zs : List Int} (h : Keep w ao len zs) (j : Nat) (hj : j < len) : ∃ kb ko z, ao = some ⟨kb, ko, none⟩ ∧ zs.getD j 0 = z ∧ w.cell? ⟨kb, ko + j, none⟩ = some (.int .i64 z) := by
  have hjl : j < zs.length := by rw [h.hlen]; exact hj
  cases ao with
  | none => have := h.hnil rfl; omega
  | some a =>
    have hc := h.cells a rfl j (.int .i64 (zs.getD j 0)) (by simp [intCells, List.getElem?_eq_getElem hjl])
    obtain ⟨kb, ko, spot⟩ := a
    have hs : spot = none := by
      have hc0 := h.cells ⟨kb, ko, spot⟩ rfl 0 (.int .i64 (zs.getD 0 0)) (by simp [intCells, List.getElem?_eq_getElem (show 0 < zs.length by omega)])
      simpa [Addr.add] using World.cell?_spot hc0
    subst hs
    exact ⟨kb, ko, _, rfl, rfl, by simpa [Addr.add_lit] using hc⟩

/-- What holds at the head of the first loop's round k. -/
structure CutRel (F : Nat → Prop) (b : Nat) (D : DS) (nb lb : Nat) (wv sv : Value) (w : World) (zs : List Int) (k : Nat) (wr : World) : Prop where
  disk : DiskIn F b { D with lasts := cutL zs 0 D.lasts (D.waits.take k) } nb lb wv sv wr
  grow : Grow (fun g => g = lb) w wr

theorem CutRel.keep {F : Nat → Prop} {b : Nat} {D : DS} {nb lb : Nat} {wv sv : Value} {w : World} {zs : List Int} {k : Nat} {wr w' : World} {o : Obj} {x : Wr} (h : CutRel F b D nb lb wv sv w zs k wr)
    (hx : D.waits[k]? = some x) (hs : stayB zs k = true) (hd : DiskIn F b { D with lasts := keepW (cutL zs 0 D.lasts (D.waits.take k)) x } nb lb wv sv w') (hg : Grow (fun k => k = lb) (wr.alloc o) w') :
    CutRel F b D nb lb wv sv w zs (k + 1) w' := by
  obtain ⟨hk, rfl⟩ := List.getElem?_eq_some_iff.1 hx
  refine ⟨?_, (h.grow.trans (Grow.alloc (F := fun g => g = lb) wr o) (fun x hx => .inl hx)).trans hg (fun x hx => .inl hx)⟩
  rw [take_succ' _ _ hk, cutL_snoc, List.length_take_of_le (by omega), Nat.zero_add, if_pos hs]
  exact hd

theorem CutRel.skip {F : Nat → Prop} {b : Nat} {D : DS} {nb lb : Nat} {wv sv : Value} {w : World} {zs : List Int} {k : Nat} {wr : World} (o : Obj) {x : Wr} (h : CutRel F b D nb lb wv sv w zs k wr)
    (hx : D.waits[k]? = some x) (hs : stayB zs k = false) : CutRel F b D nb lb wv sv w zs (k + 1) (wr.alloc o) := by
  obtain ⟨hk, rfl⟩ := List.getElem?_eq_some_iff.1 hx
  refine ⟨?_, h.grow.trans (Grow.alloc (F := fun g => g = lb) wr o) (fun x hx => .inl hx)⟩
  rw [take_succ' _ _ hk, cutL_snoc, List.length_take_of_le (by omega), Nat.zero_add, hs]
  exact h.disk.grow (G := fun _ => False) (Grow.alloc wr o) (fun _ _ h => h)

/-- What holds at the head of the second loop's rounds. -/
structure CutRel2 (b : Nat) (L : Int → Option Wr) (nb2 lb : Nat) (w : World) (es : Array MapEntry) (clock r : Nat) (seen : Array Nat) (wr : World) : Prop where
  lst : wr.heap[lb]? = some (.map es clock)
  it : wr.heap[r]? = some (.mapIter (some lb) clock seen clock)
  now : MapAt wr nb2 (nowV (partNow L es seen))
  c3 : wr.cell? ⟨b, 3, none⟩ = some (.map (some nb2))
  grow : Grow (fun g => g = nb2 ∨ g = r) w wr
  brow : ∃ cs T, w.heap[b]? = some (.cells cs T (0, 0))
  lt : lb < w.heap.size ∧ r < w.heap.size ∧ nb2 < w.heap.size
  ne : lb ≠ nb2

theorem cell_ne_map {w : World} {b i m : Nat} {v : Value} {es : Array MapEntry} {c : Nat} (h : w.cell? ⟨b, i, none⟩ = some v) (hm : w.heap[m]? = some (.map es c)) : b ≠ m := by
  rintro rfl
  simp [World.cell?, hm] at h

/-- The world behind the stores ahead of the second loop. -/
def cutW (w : World) (b : Nat) : World := ((w.alloc (.map #[] 0)).setCell ⟨b, 1, none⟩ (.bool false)).setCell ⟨b, 3, none⟩ (.map (some w.heap.size))

theorem cutW_disk {F : Nat → Prop} {b : Nat} {D : DS} {nb lb : Nat} {wv sv : Value} {w : World} (h : DiskIn F b D nb lb wv sv w) :
    DiskIn (fun k => F k ∨ (w.heap.size ≤ k ∧ k < w.heap.size + 1)) b { D with on := false, now := fun _ => none } w.heap.size lb wv sv (cutW w b) ∧ Grow F w (cutW w b) ∧ (cutW w b).heap.size = w.heap.size + 1 := by
  have hlt := fun k hk => h.flt k hk
  have hs : (cutW w b).heap.size = w.heap.size + 1 := by simp [cutW, size_setCell]
  have hal : DiskIn F b D nb lb wv sv (w.alloc (.map #[] 0)) := h.grow (G := fun _ => False) (Grow.alloc w _) (fun _ _ h => h)
  have h1 := hal.blk.set1 false
  have h3 := h1.set3 (some w.heap.size)
  have hnb : ∀ k, k ≠ b → (cutW w b).heap[k]? = (w.alloc (.map #[] 0)).heap[k]? := fun k hk => by
    unfold cutW
    rw [block_setCell_ne hk, block_setCell_ne hk]
  have hbl := hlt b h.fb
  refine ⟨⟨⟨h3.blk, h3.lt, h3.lw⟩, ?_, hal.lasts.of_same (hnb lb hal.b_ne_lb), ownsRow_of_same hal.waits (fun g hg => hnb g (hal.b_ne_wv hg)), ownsRow_of_same hal.stays (fun g hg => hnb g (hal.b_ne_sv hg)),
    fun e => by have := hlt lb h.flb; omega, .inl h.fb, .inr ⟨Nat.le_refl _, by omega⟩, .inl h.flb, fun g hg => .inl (h.fwv g hg), fun g hg => .inl (h.fsv g hg), fun k hk => ?_, h.sn⟩, ?_, hs⟩
  · have := MapAt.made w (cutW w b) (m := w.heap.size) (by rw [hnb _ (by omega)]; exact heap_alloc_new w _)
    exact this
  · rw [hs]
    rcases hk with hk | hk
    · have := hlt k hk; omega
    · exact hk.2
  · exact ((Grow.alloc (F := F) w _).trans (Grow.setCell h.fb _) (fun x hx => .inl hx)).trans (Grow.setCell h.fb _) (fun x hx => .inl hx)

theorem CutRel2.step {b : Nat} {L : Int → Option Wr} {nb2 lb : Nat} {w : World} {es : Array MapEntry} {clock r : Nat} {seen : Array Nat} {wr w1 w2 w3 : World} {o : Obj} {e : MapEntry} {k : Int} {y : Wr} (h : CutRel2 b L nb2 lb w es clock r seen wr) (hst : Stamped es clock)
    (he : e ∈ es.toList) (hk : e.key = .int .i64 k) (hL : L k = some y) (hr : w1.heap[r]? = some (.mapIter (some lb) clock (seen.push e.born) clock)) (hg1 : wr.grownBy w1 (some r)) (hz1 : w1.heap.size = wr.heap.size)
    (hw2 : w2.heap = (w1.alloc o).heap ∧ w2.os = w1.os ∧ w2.tape = w1.tape ∧ w2.output = w1.output) (hm : MapAt w3 nb2 (fun j => if j = k then some (.string y.data) else nowV (partNow L es seen) j)) (hg3 : w2.grownBy w3 (some nb2)) :
    CutRel2 b L nb2 lb w es clock r (seen.push e.born) w3 := by
  obtain ⟨cs, T, hbc⟩ := h.brow
  obtain ⟨l1, l2, l3⟩ := h.lt
  have hsz := h.grow.size
  have hne1 : lb ≠ r := by
    rintro rfl
    have := h.lst
    rw [h.it] at this
    cases this
  have hne2 : nb2 ≠ r := by
    rintro rfl
    obtain ⟨es', c, hb, _⟩ := h.now
    rw [h.it] at hb
    cases hb
  have hbb : b < w.heap.size := (Array.getElem?_eq_some_iff.1 hbc).1
  have hb1 : b ≠ r := by
    rintro rfl
    have := h.c3
    simp [World.cell?, h.it] at this
  have hb2 : b ≠ nb2 := by
    obtain ⟨es', c, hb, _⟩ := h.now
    exact cell_ne_map h.c3 hb
  have hz2 : w2.heap.size = wr.heap.size + 1 := by rw [hw2.1]; simp [hz1]
  have g2 : Grow (fun g => g = nb2 ∨ g = r) wr w2 := by
    refine (Grow.of_grownBy (F := fun g => g = nb2 ∨ g = r) hg1 (fun g h => by cases h; exact .inr rfl)).trans (F' := fun _ => False) (b := w1) ?_ (fun _ h => h.elim)
    refine ⟨hw2.2.1, hw2.2.2.1, hw2.2.2.2, by rw [hz2, hz1]; omega, fun x hx _ => ?_⟩
    rw [hw2.1]
    exact heap_alloc_old w1 o hx
  have g3 : Grow (fun g => g = nb2 ∨ g = r) wr w3 := g2.trans (Grow.of_grownBy (F := fun g => g = nb2 ∨ g = r) hg3 (fun g h => by cases h; exact .inl rfl)) (fun x hx => .inl hx)
  have at3 : ∀ x, x < wr.heap.size → x ≠ nb2 → w3.heap[x]? = w1.heap[x]? := fun x hx hn => by
    rw [hg3.block x (by omega) (fun e => hn (by cases e; rfl)), hw2.1, heap_alloc_old w1 o (by omega)]
  refine ⟨?_, ?_, ?_, ?_, h.grow.trans g3 (fun x hx => .inl hx), h.brow, h.lt, h.ne⟩
  · rw [g3.block lb (by omega) (fun hh => by rcases hh with hh | hh; exact h.ne hh; exact hne1 hh)]
    exact h.lst
  · rw [at3 r (by omega) (Ne.symm hne2)]
    exact hr
  · rw [partNow_step hst he hk hL]
    have e : nowV (fun j => if j = k then some y.data else partNow L es seen j) = fun j => if j = k then some (.string y.data) else nowV (partNow L es seen) j := by
      funext j
      unfold nowV
      by_cases hj : j = k
      · simp [hj]
      · simp [hj]
    rw [e]
    exact hm
  · rw [World.cell?_of_block (g3.block b (by omega) (fun hh => by rcases hh with hh | hh; exact hb2 hh; exact hb1 hh))]
    exact h.c3

theorem DiskIn.setNow' {F G : Nat → Prop} {b : Nat} {D : DS} {nb lb : Nat} {wv sv : Value} {w : World} (h : DiskIn F b D nb lb wv sv w) {w' : World} {f : Int → Option ByteArray} (hm : MapAt w' nb (nowV f)) (hg : Grow G w w') (hG : ∀ k, F k → G k → k = nb) :
    DiskIn F b { D with now := f } nb lb wv sv w' := by
  have ag : ∀ k, F k → k ≠ nb → w'.heap[k]? = w.heap[k]? := fun k hk hn => hg.block k (h.flt k hk) (fun hh => hn (hG k hk hh))
  have hb := h.blk.of_same (ag b h.fb (fun e => h.b_ne_nb e.symm))
  exact ⟨⟨hb.blk, hb.lt, hb.lw⟩, hm, h.lasts.of_same (ag lb h.flb (fun e => h.ne e.symm)), ownsRow_of_same h.waits (fun g hg' => ag g (h.fwv g hg') (h.wv_ne_nb hg')), ownsRow_of_same h.stays (fun g hg' => ag g (h.fsv g hg') (h.sv_ne_nb hg')),
    h.ne, h.fb, h.fnb, h.flb, h.fwv, h.fsv, fun k hk => Nat.lt_of_lt_of_le (h.flt k hk) hg.size, h.sn⟩

theorem lastV_inv {L : Int → Option Wr} {k : Int} {v : Value} (h : lastV L k = some v) : ∃ y, L k = some y ∧ v = .agg #[.int .i64 y.node, .int .i64 y.pl, .int .i64 y.seq, .string y.data] := by
  unfold lastV at h
  cases hL : L k with
  | none => rw [hL] at h; cases h
  | some y => rw [hL] at h; exact ⟨y, rfl, by cases h; rfl⟩

set_option maxHeartbeats 1000000 in
theorem cut_on {F : Nat → Prop} {b : Nat} {D : DS} {nb lb : Nat} {wv sv : Value} {w : World} (h : DiskIn F b D nb lb wv sv w) (hon : D.on = true) (ao : Option Addr) (len cap : Nat) (zs : List Int) (hk : Keep w ao len zs) (hkb : ∀ a, ao = some a → 0 < len → a.block ≠ b)
    (hn : D.waits.length ≤ 1000000) :
    Calls Tryz.prog 115 #[.pointer (some ⟨b, 0, none⟩), .slice ao len cap] w fun e w' => e = .returned (.int .i64 D.waits.length) ∧ DiskTo F b (cutOn D zs) w w' := by
  have HA := Lib.hid (arm_off h)
  have HB := Lib.hid h.fb
  have HO := Lib.hid hon
  have HK := Lib.hid hk
  have HKB := Lib.hid hkb
  have HLB := Lib.hid h.lasts
  have HLF := Lib.hid h.flb
  obtain ⟨n, hnn⟩ : ∃ n, n = D.waits.length := ⟨_, rfl⟩
  rw [← hnn] at hn ⊢
  have HN := Lib.hid hnn
  clear h hon hk hkb hnn
  go_enter Tryz.func115, Tryz.ntmps115
  go_wp2_with fail
  refine HA.out.mono ?_
  rintro e w1 ⟨rfl, F1, v1, hd, hg, hF⟩
  have hon := on_any hd.blk
  rw [show ({ D with armed := false, left := -1, stays := [], nilS := false } : DS).on = true from HO.out] at hon
  have HON := Lib.hid hon
  have R0 : CutRel F1 b { D with armed := false, left := -1, stays := [], nilS := false } nb lb wv v1 w1 zs 0 w1 := ⟨hd, Grow.refl _ _⟩
  have c5 := hd.blk.c5
  have HR0 := Lib.hid R0
  have HG := Lib.hid hg
  have HF := Lib.hid hF
  have hsh := ownsRow_shape hd.waits
  rw [show ({ D with armed := false, left := -1, stays := [], nilS := false } : DS).waits = D.waits from rfl] at hsh
  rw [← HN.out] at hsh
  obtain ⟨wo, wcap, hwv, hncap, hcapm, hwno⟩ := hsh
  subst hwv
  have HWN := Lib.hid hwno
  clear hd hg hF hon R0 hwno
  go_wp2_with fail
  refine HON.out.mono ?_
  rintro e w2 ⟨rfl, rfl⟩
  go_wp2

  go_loopw [21] (fun i wr => ∃ k : Nat, k ≤ n ∧ i = .int .i64 k ∧ CutRel F1 b { D with armed := false, left := -1, stays := [], nilS := false } nb lb (.slice wo n wcap) v1 w1 zs k wr)
      (fun i _ => n - (intOf i).toNat)
  case atStart => exact ⟨0, Nat.zero_le _, rfl, HR0.out⟩
  case round =>
    obtain ⟨k, hk, rfl, hR⟩ := hrel
    have HR := Lib.hid hR
    clear hR HR0 c5
    by_cases hlt : k < n
    · obtain ⟨x, hx⟩ : ∃ x, D.waits[k]? = some x := ⟨_, List.getElem?_eq_getElem (show k < D.waits.length by rw [← HN.out]; exact hlt)⟩
      have hwt := HR.out.disk.waits
      rw [show ({ D with armed := false, left := -1, stays := [], nilS := false, lasts := cutL zs 0 D.lasts (D.waits.take k) } : DS).waits = D.waits from rfl, ← HN.out] at hwt
      obtain ⟨g, rfl⟩ : ∃ g, wo = some ⟨g, 0, none⟩ := by
        rcases hwt.2 with ⟨-, h0⟩ | ⟨g, cap', cur, he, -⟩
        · omega
        · simp at he
          exact ⟨g, he.1⟩
      rw [HN.out] at hwt
      have e0 := waits_cell hwt k x hx 0 (by omega)
      have e1 := waits_cell hwt k x hx 1 (by omega)
      have e2 := waits_cell hwt k x hx 2 (by omega)
      have e3 := waits_cell hwt k x hx 3 (by omega)
      simp only [Wr.cells, List.getElem?_cons_zero, List.getElem?_cons_succ, Nat.add_zero] at e0 e1 e2 e3
      have HX := Lib.hid hx
      have hkc : k < wcap := by omega
      clear hx hwt
      by_cases hkl : k < len
      · obtain ⟨kb, ko, z, rfl, hz, hc⟩ := HK.out.at k hkl
        have hkc2 : ∀ o : Obj, (wr.alloc o).cell? ⟨kb, ko + k, none⟩ = some (.int .i64 z) := by
          intro o
          have hne1 : kb ≠ b := HKB.out _ rfl (by omega)
          have hne2 : kb ≠ lb := by
            rintro rfl
            obtain ⟨es, c, hb, _⟩ := HLB.out
            simp [World.cell?, hb] at hc
          have hlt' := cell_lt hc
          rw [World.cell?_of_block (heap_alloc_old wr o (Nat.lt_of_lt_of_le hlt' (Nat.le_trans HG.out.size HR.out.grow.size))),
            World.cell?_of_block (HR.out.grow.block _ (Nat.lt_of_lt_of_le hlt' HG.out.size) hne2), World.cell?_of_block (HG.out.block _ hlt' hne1)]
          exact hc
        have HZ := Lib.hid hz
        clear hc hz
        by_cases hb1 : z % 2 = 1
        · have hst : stayB zs k = true := by
            unfold stayB
            rw [HZ.out, decide_eq_true (by rw [HK.out.hlen]; exact hkl), decide_eq_true hb1]
            rfl
          have HST := Lib.hid hst
          have hbit : (bits .and .i64 z 1 == 1) = true := by rw [i64_and1, hb1]; rfl
          clear hb1 hst
          go_wp2_with fail
          refine (keep_any (HR.out.disk.grow (G := fun _ => False) (Grow.alloc wr _) (fun _ _ h => h)) x).mono ?_
          rintro e w3 ⟨rfl, hd3, hg3⟩
          have HR3 := Lib.hid (HR.out.keep HX.out HST.out hd3 hg3)
          clear hd3 hg3
          go_wp2
          go_roundw
          case rel => exact ⟨k + 1, by omega, by go_num, HR3.out⟩
          case measure => simp [intOf]; omega
        · have hst : stayB zs k = false := by
            unfold stayB
            rw [HZ.out, decide_eq_false hb1, Bool.and_false]
          have HST := Lib.hid hst
          have hbit : (bits .and .i64 z 1 == 1) = false := by rw [i64_and1]; simpa using hb1
          clear hb1 hst
          go_wp2
          go_roundw
          case rel => exact ⟨k + 1, by omega, by go_num, HR.out.skip _ HX.out HST.out⟩
          case measure => simp [intOf]; omega
      · have hkd : decide (k < len) = false := by simpa using hkl
        have hst : stayB zs k = false := by
          unfold stayB
          rw [decide_eq_false (by rw [HK.out.hlen]; exact hkl), Bool.false_and]
        have HST := Lib.hid hst
        clear hst
        go_wp2
        go_roundw
        case rel => exact ⟨k + 1, by omega, by go_num, HR.out.skip _ HX.out HST.out⟩
        case measure => simp [intOf]; omega
    · have hkn : k = n := by omega
      subst hkn
      have hD := HR.out.disk
      rw [show D.waits.take k = D.waits from List.take_of_length_le (Nat.le_of_eq HN.out.symm)] at hD
      obtain ⟨hD2, hg2, hs2⟩ := cutW_disk hD
      obtain ⟨L, hL⟩ : ∃ L, L = cutL zs 0 D.lasts D.waits := ⟨_, rfl⟩
      have hD2' := hD2
      obtain ⟨es, clock, hes, hst, hks, hvw⟩ := hD2'.lasts
      have hvw' : ∀ k v, lastV L k = some v ↔ ∃ x ∈ es.toList, x.key = .int .i64 k ∧ x.val = v := by rw [hL]; exact hvw
      have d1 : ∀ o : Obj, (wr.alloc o).cell? ⟨b, 1, none⟩ = some (.bool true) := fun o => by
        rw [World.cell?_of_block (heap_alloc_old wr o (hD.flt b hD.fb)), hD.blk.c1]
        exact congrArg (fun x => some (Value.bool x)) HO.out
      have d3 : ∀ o : Obj, (wr.alloc o).cell? ⟨b, 3, none⟩ = some (.map (some nb)) := fun o => by
        rw [World.cell?_of_block (heap_alloc_old wr o (hD.flt b hD.fb)), hD.blk.c3]
      have f1 : ∀ o : Obj, (wr.alloc o).frozen? ⟨b, 1, none⟩ = false := fun o => by
        rw [World.frozen?_of_block (heap_alloc_old wr o (hD.flt b hD.fb)), hD.blk.fz 1]
      have f3 : ∀ o : Obj, (wr.alloc o).frozen? ⟨b, 3, none⟩ = false := fun o => by
        rw [World.frozen?_of_block (heap_alloc_old wr o (hD.flt b hD.fb)), hD.blk.fz 3]
      have hc4 : (cutW wr b).cell? ⟨b, 4, none⟩ = some (.map (some lb)) := hD2.blk.c4
      have hc3 : (cutW wr b).cell? ⟨b, 3, none⟩ = some (.map (some wr.heap.size)) := hD2.blk.c3
      have R2 : CutRel2 b L wr.heap.size lb ((cutW wr b).alloc (.mapIter (some lb) clock #[] clock)) es clock (wr.heap.size + 1) #[] ((cutW wr b).alloc (.mapIter (some lb) clock #[] clock)) :=
        ⟨by rw [heap_alloc_old _ _ (hD2.flt lb hD2.flb)]; exact hes, by rw [← hs2]; exact heap_alloc_new _ _, by rw [partNow_nil]; exact hD2.now.of_same (heap_alloc_old _ _ (hD2.flt _ hD2.fnb)),
          by rw [World.cell?_of_block (heap_alloc_old _ _ (hD2.flt b hD2.fb))]; exact hc3, Grow.refl _ _, ⟨_, _, by rw [heap_alloc_old _ _ (hD2.flt b hD2.fb)]; exact hD2.blk.blk⟩,
          by have := hD2.flt lb hD2.flb; have := hD2.flt _ hD2.fnb; simp; omega, fun e => hD2.ne e.symm⟩
      have HR2 := Lib.hid R2
      have HD2 := Lib.hid hD2
      have HG2 := Lib.hid hg2
      have HL := Lib.hid hL
      have HES := Lib.hid hes
      have HST := Lib.hid hst
      have HKS := Lib.hid hks
      have HVW := Lib.hid hvw'
      have HS2 := Lib.hid hs2
      have hmm := @run_makeMap Tryz.prog
      unfold cutW at hc4
      clear hD hD2 hg2 hs2 hD2' hes hst hks hvw hvw' hc3 R2 hL
      go_wp2_with (at_range; refine wpList_range_f rfl _ 103 rfl 3 125 Tryz.underlying103 lb es clock rfl HES.out ?_)
      generalize hW3 : World.alloc _ _ = W3
      have HR3 : Hid (CutRel2 b L wr.heap.size lb W3 es clock (wr.heap.size + 1) #[] W3) := by
        rw [← hW3]
        exact HR2.out
      have HW3 := Lib.hid hW3
      obtain ⟨nb2, hnb2⟩ : ∃ nb2, nb2 = wr.heap.size := ⟨_, rfl⟩
      rw [← hnb2] at HR3 ⊢
      have HNB := Lib.hid hnb2
      clear hW3 hc4 d1 d3 f1 f3 hmm hnb2
      obtain ⟨wo9, hwo9⟩ : ∃ wo9, wo9 = wr := ⟨_, rfl⟩
      rw [← hwo9] at HR HD2 HG2 HS2 HNB HW3
      clear HR2 HES hwo9
      go_loopw [8] (fun t8 wx => ∃ seen, CutRel2 b L nb2 lb W3 es clock (nb2 + 1) seen wx) (fun _ wx => wx.rangeLeft lb (nb2 + 1))
      case atStart => exact ⟨_, HR3.out⟩
      case round =>
        obtain ⟨seen, hR⟩ := hrel
        have HQ := Lib.hid hR
        clear hR
        go_wp2_with (at_next; refine wpList_next_f rfl _ rfl (nb2 + 1) lb es clock seen rfl HQ.out.it HQ.out.lst HST.out ?_ ?_)
        · intro h0
          have hD9 : DiskIn (fun k => F1 k ∨ (wo9.heap.size ≤ k ∧ k < wo9.heap.size + 1)) b { D with armed := false, left := -1, stays := [], nilS := false, lasts := cutL zs 0 D.lasts D.waits, on := false, now := partNow L es seen } nb2 lb (.slice wo k wcap) v1 wr := by
            rw [HNB.out]
            have hV : DiskIn (fun k => F1 k ∨ (wo9.heap.size ≤ k ∧ k < wo9.heap.size + 1)) b { D with armed := false, left := -1, stays := [], nilS := false, lasts := cutL zs 0 D.lasts D.waits, on := false, now := fun _ => none } wo9.heap.size lb (.slice wo k wcap) v1 W3 := by
              rw [← HW3.out]
              exact HD2.out.grow (G := fun _ => False) (Grow.alloc _ _) (fun _ _ h => h)
            refine hV.setNow' (by rw [← HNB.out]; exact HQ.out.now) HQ.out.grow (fun j hj hh => ?_)
            rcases hh with hh | hh
            · rw [hh, HNB.out]
            · have := HD2.out.flt j hj
              have := HS2.out
              have := HNB.out
              omega
          have hD10 := hD9.storeWaits (l := []) (v := .slice none 0 0) (World.ownsRow_nil _ _ _ _) (fun g h => by cases h)
          have hcut : ({ D with armed := false, left := -1, stays := [], nilS := false, lasts := cutL zs 0 D.lasts D.waits, on := false, now := partNow L es seen, waits := [] } : DS) = cutOn D zs := by
            rw [partNow_end HVW.out (by rw [h0]; rfl), HL.out]
            rfl
          have hfin : DiskTo F b (cutOn D zs) w (wr.setCell ⟨b, 5, none⟩ (.slice none 0 0)) := by
            rw [← hcut]
            have s1 := HG.out.size
            have s2 := HR.out.grow.size
            have ga : Grow F w w1 := HG.out.mono (fun k hk => by subst hk; exact HB.out)
            have gb : Grow F w wo9 := ga.trans HR.out.grow (fun x hx => by subst hx; exact .inl HLF.out)
            have gc : Grow F w (cutW wo9 b) := gb.trans HG2.out (fun x hx => HF.out x hx)
            have gd : Grow F w W3 := by rw [← HW3.out]; exact gc.trans (F' := fun _ => False) (Grow.alloc _ _) (fun _ h => h.elim)
            have ge : Grow F w wr := gd.trans HQ.out.grow (fun x hx => by
              have := HNB.out
              rcases hx with hx | hx
              · right; omega
              · right; omega)
            refine .mk' hD10 (ge.trans (Grow.setCell (F := F) HB.out _) (fun x hx => .inl hx)) (fun j hj => ?_)
            rcases hj with hj | hj
            · exact HF.out j hj
            · right; omega
          have HFIN := Lib.hid hfin
          have k5 := hD9.blk.c5
          have kf := hD9.blk.fz 5
          clear h0 hD9 hD10 hcut hfin HQ
          go_wp2
          go_ret
          exact ⟨rfl, HFIN.out⟩
        · intro e w3 he hr3 hg3 hz3 hen
          have he' : e ∈ es.toList := by
            simp [leftOf] at he ⊢
            exact he.1
          obtain ⟨kk, hkk⟩ := isKey_inv (HKS.out e he')
          obtain ⟨y, hLy, hval⟩ := lastV_inv ((HVW.out kk e.val).2 ⟨e, he', hkk, rfl⟩)
          rw [hkk, hval] at hen ⊢
          have hb1 : b ≠ nb2 + 1 := by
            intro hbb
            have h3 := HQ.out.c3
            have h4 := HQ.out.it
            rw [← hbb] at h4
            simp [World.cell?, h4] at h3
          have hq3 : ∀ o : Obj, (w3.alloc o).cell? ⟨b, 3, none⟩ = some (.map (some nb2)) := fun o => by
            have h3 := HQ.out.c3
            have hlt3 := cell_lt h3
            rw [World.cell?_of_block (heap_alloc_old w3 o (by rw [hz3]; exact hlt3)), World.cell?_of_block (hg3.block b hlt3 (fun hh => hb1 (by cases hh; rfl)))]
            exact h3
          have HSTEP : Hid (∀ (w2 w4 : World), (w2.heap = (w3.alloc (.cells #[.int .i64 y.node, .int .i64 y.pl, .int .i64 y.seq, .string y.data] 125)).heap ∧ w2.os = w3.os ∧ w2.tape = w3.tape ∧ w2.output = w3.output) → MapAt w4 nb2 (fun j => if j = kk then some (.string y.data) else nowV (partNow L es seen) j) → w2.grownBy w4 (some nb2) →
              CutRel2 b L nb2 lb W3 es clock (nb2 + 1) (seen.push e.born) w4) := fun w2 w4 h2 hm hg => HQ.out.step HST.out he' hkk hLy hr3 hg3 hz3 h2 hm hg
          have hmeas : (leftOf es (seen.push e.born)).size < (leftOf es seen).size := leftOf_push (Array.mem_toList_iff.2 he)
          have HM := Lib.hid hmeas
          have hnow3 : MapAt w3 nb2 (nowV (partNow L es seen)) := HQ.out.now.of_same (hg3.block nb2 HQ.out.now.lt (fun hh => by simp at hh))
          have HN3 := Lib.hid hnow3
          clear he hr3 hg3 hz3 he' hkk hLy hval hb1 hmeas hnow3
          go_wp2
          generalize hW : World.alloc _ _ = W
          have hh : W.heap = (w3.alloc (.cells #[.int .i64 y.node, .int .i64 y.pl, .int .i64 y.seq, .string y.data] 125)).heap ∧ W.os = w3.os ∧ W.tape = w3.tape ∧ W.output = w3.output := by rw [← hW]; exact ⟨rfl, rfl, rfl, rfl⟩
          have hbx : W.heap[w3.heap.size]? = some (.cells #[.int .i64 y.node, .int .i64 y.pl, .int .i64 y.seq, .string y.data] 125) := by rw [hh.1]; exact heap_alloc_new w3 _
          have b3 := cell_of_row W _ 3 _ _ _ hbx
          simp only [List.getElem?_toArray, List.getElem?_cons_zero, List.getElem?_cons_succ] at b3
          have k3 : W.cell? ⟨b, 3, none⟩ = some (.map (some nb2)) := by rw [← hW]; exact hq3 _
          have hnW : MapAt W.drew nb2 (nowV (partNow L es seen)) := HN3.out.of_same (by
            show W.heap[nb2]? = _
            rw [hh.1]
            exact heap_alloc_old w3 _ HN3.out.lt)
          have HNW := Lib.hid hnW
          have HH := Lib.hid hh
          clear hW hh hbx hnW hq3 hen HN3
          refine region_tail 7 (by kernel_rfl) (by kernel_rfl) ?_
          simp only [List.take_succ_cons, List.take_zero, List.drop_succ_cons, List.drop_zero]
          iterate 7 still_step
          refine wpStill_nil ?_
          refine wpList_mapUpdate_f rfl _ _ _ 102 rfl 3 9 Tryz.underlying102 Tryz.underlying3 nb2 (nowV (partNow L es seen)) kk (.string y.data) rfl rfl rfl HNW.out ?_
          intro w4 hm4 hg4 hz4
          have HQ4 := Lib.hid (HSTEP.out W.drew w4 HH.out hm4 hg4)
          clear hm4 hg4 hz4 b3 k3
          simp only [Act.put]
          go_wp2
          go_roundw
          case rel => exact ⟨_, HQ4.out⟩
          case measure =>
            simp only [World.rangeLeft, HQ4.out.lst, HQ4.out.it, HQ.out.lst, HQ.out.it]
            exact HM.out

end Go.Proofs.YtkgdpmeheakdcaaGreat
