/- The log's Add: walk. -/
import Derived.Test.YtkgdpmeheakdcaaGreatLogF
namespace Go.Proofs.YtkgdpmeheakdcaaGreat
open Go.RowKit
set_option linter.all false
set_option maxRecDepth 100000

def addL (L : LS) (s : ByteArray) : LS := { L with live := L.live ++ [⟨L.next, L.pl, 3, s, false⟩], pl := (L.pl + 3) % 7, next := L.next + 1 }
theorem add_good {L : LS} (h : LG L) (hl : L.live.length ≤ 1) (s : ByteArray) (hs : s.size = 192) (hn : L.next ≤ 900) : LG (addL L s) := by
  have hfl := h.fl
  refine ⟨by show L.next + 1 ≤ 1000; omega, h.f1, ?_, ?_, Nat.mod_lt _ (by decide), ?_, h.sw, h.fs, ?_⟩
  · show L.first + (L.live ++ [(⟨L.next, L.pl, 3, s, false⟩ : En)]).length = L.next + 1
    rw [List.length_append]
    show L.first + (L.live.length + 1) = L.next + 1
    omega
  · show (L.live ++ [(⟨L.next, L.pl, 3, s, false⟩ : En)]).length ≤ 2
    rw [List.length_append]
    show L.live.length + 1 ≤ 2
    omega
  · show L.written + 1 ≤ L.next + 1
    have := h.wn
    omega
  · intro i x hx
    have hx' : (L.live ++ [(⟨L.next, L.pl, 3, s, false⟩ : En)])[i]? = some x := hx
    by_cases hi : i < L.live.length
    · rw [List.getElem?_append_left hi] at hx'
      exact h.en i x hx'
    · rw [List.getElem?_append_right (by omega)] at hx'
      have h0 : i - L.live.length = 0 := by
        cases hq : i - L.live.length with
        | zero => rfl
        | succ m => rw [hq] at hx'; simp at hx'
      rw [h0] at hx'
      have hxe : (⟨L.next, L.pl, 3, s, false⟩ : En) = x := by simpa using hx'
      rw [← hxe]
      refine ⟨by show L.next = L.first + i; omega, rfl, h.pl, fun _ => hs, ⟨fun e => (by cases e), fun e => ?_⟩⟩
      have e' : L.next ≤ L.written := e
      have := h.wn
      omega
theorem used3 {L : LS} (h : LG L) : ∀ k, k ≤ L.live.length → usedN L.live k = 3 * k
  | 0, _ => rfl
  | k + 1, hk => by
    have hx : L.live[k]? = some L.live[k] := List.getElem?_eq_getElem (by omega)
    rw [usedN_succ hx, used3 h k (by omega), (h.en k _ hx).2.1]
    omega
theorem LG.n3 {L : LS} (h : LG L) : ∀ x ∈ L.live, x.n ≤ 1000 := fun x hx => by
  obtain ⟨i, hi⟩ := List.mem_iff_getElem?.1 hx
  rw [(h.en i x hi).2.1]
  decide
theorem mkEn (a b c : Int) (s : ByteArray) (t : Bool) (w : World) : (Instr.buildSlice 96 1 #[(0, .agg #[.int .u64 a, .int .i64 b, .int .i64 c, .string s, .bool t])]).run Tryz.prog w = .ok (.slice (some ⟨w.heap.size, 0, none⟩) 1 1) (w.alloc (.cells #[.int .u64 a, .int .i64 b, .int .i64 c, .string s, .bool t] 89)) := by kernel_rfl
theorem enset5 {w : World} {q : Nat} {T : TypeId} {fz : Nat × Nat} {a b c d e a' b' c' d' e' : Value} (h : w.heap[q]? = some (.cells #[a, b, c, d, e] T fz)) :
    (((((w.setCell ⟨q, 0, none⟩ a').setCell ⟨q, 1, none⟩ b').setCell ⟨q, 2, none⟩ c').setCell ⟨q, 3, none⟩ d').setCell ⟨q, 4, none⟩ e').heap[q]? = some (.cells #[a', b', c', d', e'] T fz) := by
  rw [block_setCell (block_setCell (block_setCell (block_setCell (block_setCell h _) _) _) _) _]
  rfl

section
variable {R : Nat → Prop} {g r b n : Nat} {L : LS} {w w' : World}

/-- Add's answer. -/
def AddTo (R : Nat → Prop) (g r b : Nat) (L : LS) (n : Nat) (l : List Im) (w : World) (e : Ending) (w' : World) : Prop :=
  (∃ s : ByteArray, s.size = 192 ∧ L.live.length ≤ 1 ∧ AnsL R g r b (addL L s) n w (.tuple #[.int .u64 L.next, .int .i64 0]) e w') ∨
  (∃ c : Int, (c = 1 ∨ c = 2 ∨ c = 31 ∨ c = 10) ∧ (l.length = 1 → (∀ x ∈ l, x.ok = true) → c = 10 ∧ 2 ≤ L.live.length) ∧ AnsL R g r b L n w (.tuple #[.int .u64 0, .int .i64 c]) e w')

set_option maxHeartbeats 4000000 in
theorem add_any (h : LP R g r b L n w) (hg : LG L) (hR : ∀ k, w.heap.size ≤ k → R k) (hnx : L.next ≤ 900) (a : Option Addr) (len cap : Nat) (l : List Im) (hi : ImgsRow w a len cap l) (hl : len ≤ 1000) :
    Calls Tryz.prog 16 #[.pointer (some ⟨g, 0, none⟩), .slice a len cap] w (AddTo R g r b L n l w) := by
  have HM := Lib.hid (may_log h)
  have H0 := Lib.hid h
  have HG := Lib.hid hg
  have HR := Lib.hid hR
  have hll := hi.hlen
  have hf1 := hg.f1
  have hfl := hg.fl
  have HP := Lib.hid (recput_any L.next a len cap l w.drew (hi.below ((Below.refl _ _).drew)) hl (by omega) (by omega))
  have k7 := h.drew.c7
  have k9 := h.drew.c9
  have hgl : g < w.drew.heap.size := h.lt
  clear h hg hR hi
  go_enter Tryz.func16, Tryz.ntmps16
  go_wp2_with fail
  refine HM.out.mono ?_
  rintro e w1 ⟨rfl, rfl⟩
  go_upto_region 4 with fail
  go_cut [7, 8] from 15 to 28 (fun s7 s8 wx => ∃ (s : ByteArray) (c : Int), s7 = .string s ∧ s8 = .int .i64 c ∧ (c = 0 ∨ c = 1 ∨ c = 2) ∧ (c = 0 → 1 ≤ l.length ∧ l.length ≤ 60 ∧ s.size = 64 * secs l.length) ∧ (l.length = 1 → (∀ x ∈ l, x.ok = true) → c = 0) ∧ Below w.heap.size w wx)
  case first =>
    go_region_held3 (fun w' => w'.cell? ⟨g, 7, none⟩ = some (.int .u64 9) ∧ w'.cell? ⟨g, 9, none⟩ = some (.int .u64 L.next))
      (first | exact ⟨k7, k9⟩ | exact ⟨m7, m9⟩ | go_keep)
      (first
        | (go_at_call 56
           refine HP.out.mono ?_
           rintro e x1 ⟨s, c, rfl, hc, hc0, hc1, hb⟩
           have m7 := (hb.cell (p := ⟨g, 7, none⟩) hgl).trans k7
           have m9 := (hb.cell (p := ⟨g, 9, none⟩) hgl).trans k9))
    all_goals go_wp2_with fail
    all_goals go_meet
    all_goals exact ⟨s, c, rfl, rfl, hc, hc0, hc1, ((Below.refl w.heap.size w).drew).trans hb⟩
  case rest =>
    obtain ⟨s, c, rfl, rfl, hc, hc0, hc1, hb⟩ := hcut
    have B1 := Lib.hid hb
    have L1 := Lib.hid (H0.out.below hb)
    have C1 := Lib.hid hc1
    by_cases hz : c = 0
    case neg =>
      have e1 : (c != 0) = true := by simpa using hz
      have e1' : (c == 0) = false := by simpa using hz
      have HF : Hid (AddTo R g r b L n l w (.returned (.tuple #[.int .u64 0, .int .i64 c])) wc) := Lib.hid (.inr ⟨c, by omega, fun p q => absurd (C1.out p q) hz, rfl, L1.out, Grow.of_below B1.out⟩)
      clear hc hc0 hc1 hz hb k7 k9
      go_wp2
      go_ret2
      exact HF.out
    subst hz
    obtain ⟨l1, l60, hss⟩ := hc0 rfl
    have HT := Lib.hid (fun w => most8 w)
    have c3 := L1.out.c3
    clear hc hc0 hc1 hb k7 k9
    by_cases h1 : len = 1
    case neg =>
      have g1 : (1 : Int) < (len : Int) := by omega
      have HF : Hid (AddTo R g r b L n l w (.returned (.tuple #[.int .u64 0, .int .i64 31])) wc) := Lib.hid (.inr ⟨31, by omega, fun p q => by omega, rfl, L1.out, Grow.of_below B1.out⟩)
      go_wp2_with fail
      refine (HT.out _).mono ?_
      rintro e w2 ⟨rfl, rfl⟩
      go_wp2
      go_ret2
      exact HF.out
    subst h1
    have HFT := fits_one L1.out (by have := HG.out.ll; omega) HG.out.n3
    rw [used3 HG.out _ (Nat.le_refl _)] at HFT
    by_cases h2 : L.live.length ≤ 1
    case neg =>
      have hd : decide ((3 : Int) ≤ 7 - ((3 * L.live.length : Nat) : Int)) = false := by simp; omega
      rw [hd] at HFT
      replace HFT := Lib.hid HFT
      have hl2 : 2 ≤ L.live.length := by omega
      have HL2 : Hid (2 ≤ L.live.length) := Lib.hid hl2
      clear hd h2 hl2
      go_wp2_with fail
      refine (HT.out _).mono ?_
      rintro e w2 ⟨rfl, rfl⟩
      go_wp2_with fail
      refine HFT.out.mono ?_
      rintro e w2 ⟨rfl, hb⟩
      have HF : Hid (AddTo R g r b L n l w (.returned (.tuple #[.int .u64 0, .int .i64 10])) w2) := Lib.hid (.inr ⟨10, by omega, fun p q => ⟨rfl, HL2.out⟩, rfl, L1.out.below hb, Grow.of_below (B1.out.trans (hb.mono B1.out.size))⟩)
      clear hb
      go_wp2
      go_ret2
      exact HF.out
    have hd : decide ((3 : Int) ≤ 7 - ((3 * L.live.length : Nat) : Int)) = true := by simp; omega
    rw [hd] at HFT
    replace HFT := Lib.hid HFT
    have hs192 : s.size = 192 := by
      rw [hss, hll]
      rfl
    have HS := Lib.hid hs192
    have HL1 := Lib.hid h2
    clear hd h2 hss hs192 hll l1 l60
    go_wp2_with fail
    refine (HT.out _).mono ?_
    rintro e w2 ⟨rfl, rfl⟩
    go_wp2_with fail
    refine HFT.out.mono ?_
    rintro e W ⟨rfl, hb⟩
    have BW := Lib.hid (B1.out.trans (hb.mono B1.out.size))
    have LW := Lib.hid (L1.out.below hb)
    have k9 := LW.out.drew.c9
    have k11 := LW.out.drew.c11
    have hgw : g < W.drew.heap.size := LW.out.lt
    have HSC : Hid (∀ w, Calls Tryz.prog 58 #[.int .i64 1] w fun e w' => e = .returned (.int .i64 3) ∧ w = w') := Lib.hid (fun w => sectors_rec 1 (by decide) w)
    clear hb c3 HFT
    go_upto_region 11 with fail
    go_cut [9] from 50 to 62 (fun s9 wx => ∃ q, s9 = .pointer (some ⟨q, 0, none⟩) ∧ wx.heap[q]? = some (.cells #[.int .u64 L.next, .int .i64 L.pl, .int .i64 3, .string s, .bool false] 89 (0, 0)) ∧ Below W.heap.size W wx ∧ W.heap.size ≤ q)
    case first =>
      have hne : ¬ g = W.heap.size := by have hgw' : g < W.heap.size := hgw; omega
      have hne2 : ¬ W.heap.size = g := by have hgw' : g < W.heap.size := hgw; omega
      go_region_held3 (fun w' => w'.cell? ⟨g, 9, none⟩ = some (.int .u64 L.next) ∧ w'.cell? ⟨g, 11, none⟩ = some (.int .i64 L.pl))
        (first | exact ⟨k9, k11⟩ | exact ⟨alloc_keep k9, alloc_keep k11⟩ | go_keep)
        (first
          | (go_at_call 58
             refine (HSC.out _).mono ?_
             rintro e x1 ⟨rfl, rfl⟩))
      all_goals go_wp2_with fail
      all_goals go_meet
      all_goals exact ⟨_, rfl, heap_alloc_new W _, ((Below.refl _ _).alloc (Nat.le_refl _) _).drew, Nat.le_refl _⟩
    case rest =>
      obtain ⟨q, rfl, hq, hbq, hqW⟩ := hcut
      clear k9 k11
      obtain ⟨x, hx⟩ : ∃ x : En, x = ⟨L.next, L.pl, 3, s, false⟩ := ⟨_, rfl⟩
      have L2 := Lib.hid ((LW.out.mono (R' := fun k => R k ∧ k ≠ q) (fun k hk hz => ⟨hk, by omega⟩)).below hbq)
      have B2 := Lib.hid (BW.out.trans (hbq.mono BW.out.size))
      have Q2 := Lib.hid hq
      have QW : Hid (w.heap.size ≤ q) := Lib.hid (Nat.le_trans BW.out.size hqW)
      clear hq hbq hqW hgw
      have hlen9 : L.live.length ≤ 900 := by have := HL1.out; omega
      have HX := Lib.hid hx
      have k14 := L2.out.drew.c14
      have hq2 : wc.drew.heap[q]? = _ := Q2.out
      have b0 : wc.drew.cell? ⟨q, 0, none⟩ = some (.int .u64 L.next) := by simp only [World.cell?, hq2]; rfl
      have b1 : wc.drew.cell? ⟨q, 1, none⟩ = some (.int .i64 L.pl) := by simp only [World.cell?, hq2]; rfl
      have b2 : wc.drew.cell? ⟨q, 2, none⟩ = some (.int .i64 3) := by simp only [World.cell?, hq2]; rfl
      have b3 : wc.drew.cell? ⟨q, 3, none⟩ = some (.string s) := by simp only [World.cell?, hq2]; rfl
      have b4 : wc.drew.cell? ⟨q, 4, none⟩ = some (.bool false) := by simp only [World.cell?, hq2]; rfl
      have hqz : q < wc.heap.size := (Array.getElem?_eq_some_iff.1 Q2.out).1
      have HMK := Lib.hid (mkEn (L.next : Int) (L.pl : Int) 3 s false wc.drew)
      have HPU : Hid (Calls Tryz.prog 59 #[.pointer (some ⟨r, 0, none⟩), .slice (some ⟨wc.heap.size, 0, none⟩) 1 1] (wc.drew.alloc (.cells #[.int .u64 (L.next : Int), .int .i64 (L.pl : Int), .int .i64 3, .string s, .bool false] 89)) (AnsL (fun k => R k ∧ k ≠ q) g r b { L with live := L.live ++ [⟨L.next, L.pl, 3, s, false⟩] } n (wc.drew.alloc (.cells #[.int .u64 (L.next : Int), .int .i64 (L.pl : Int), .int .i64 3, .string s, .bool false] 89)) (.int .i64 1))) := Lib.hid (
        push_any (L2.out.drew.below ((Below.refl _ _).alloc (Nat.le_refl _) _)) (fun k hk => by
          have h1 : wc.drew.heap.size + 1 ≤ k := by simpa using hk
          have h2 : wc.heap.size + 1 ≤ k := h1
          have h3 := B2.out.size
          exact ⟨HR.out k (by omega), by omega⟩) hlen9 ⟨L.next, L.pl, 3, s, false⟩ wc.heap.size (heap_alloc_new wc.drew _))
      clear hq2 hlen9 hx
      go_upto_region 12 with fail
      go_cut [] from 63 to 69 (fun wx => LP (fun k => R k ∧ k ≠ q) g r b { L with live := L.live ++ [⟨L.next, L.pl, 3, s, false⟩] } n wx ∧ Grow R w wx ∧ wx.heap[q]? = some (.cells #[.int .u64 L.next, .int .i64 L.pl, .int .i64 3, .string s, .bool false] 89 (0, 0)))
      case first =>
        have hmk := HMK.out
        go_region_held3 (fun w' => w'.cell? ⟨g, 14, none⟩ = some (.pointer (some ⟨r, 0, none⟩)) ∧ w'.cell? ⟨q, 0, none⟩ = some (.int .u64 L.next) ∧ w'.cell? ⟨q, 1, none⟩ = some (.int .i64 L.pl) ∧ w'.cell? ⟨q, 2, none⟩ = some (.int .i64 3) ∧ w'.cell? ⟨q, 3, none⟩ = some (.string s) ∧ w'.cell? ⟨q, 4, none⟩ = some (.bool false))
          (first | exact ⟨k14, b0, b1, b2, b3, b4⟩ | exact ⟨alloc_keep k14, alloc_keep b0, alloc_keep b1, alloc_keep b2, alloc_keep b3, alloc_keep b4⟩ | exact ⟨m14, d0, d1, d2, d3, d4⟩ | go_keep)
          (first
            | (go_at_call 59
               refine HPU.out.mono ?_
               rintro e x1 ⟨rfl, hl1, hg1⟩
               have m14 := hl1.c14
               have hq1 : x1.heap[q]? = some (.cells #[.int .u64 L.next, .int .i64 L.pl, .int .i64 3, .string s, .bool false] 89 (0, 0)) := (hg1.block q (by simp; omega) (fun h => h.2 rfl)).trans ((heap_alloc_old _ _ hqz).trans Q2.out)
               have d0 : x1.cell? ⟨q, 0, none⟩ = some (.int .u64 L.next) := by simp only [World.cell?, hq1]; rfl
               have d1 : x1.cell? ⟨q, 1, none⟩ = some (.int .i64 L.pl) := by simp only [World.cell?, hq1]; rfl
               have d2 : x1.cell? ⟨q, 2, none⟩ = some (.int .i64 3) := by simp only [World.cell?, hq1]; rfl
               have d3 : x1.cell? ⟨q, 3, none⟩ = some (.string s) := by simp only [World.cell?, hq1]; rfl
               have d4 : x1.cell? ⟨q, 4, none⟩ = some (.bool false) := by simp only [World.cell?, hq1]; rfl))
        all_goals go_wp2_with fail
        all_goals go_meet
        all_goals exact ⟨hl1, (((Grow.of_below (F := R) B2.out).trans (Grow.drew wc) (F' := fun _ => False) (fun _ h => h.elim)).trans (Grow.alloc _ _) (F' := fun _ => False) (fun _ h => h.elim)).trans hg1 (fun k hk => .inl hk.1), hq1⟩
      case rest =>
        obtain ⟨hl3, hg3, hq3⟩ := hcut
        clear k14 b0 b1 b2 b3 b4
        have L3 := Lib.hid hl3
        have G3 := Lib.hid hg3
        have hz3 : w.heap.size ≤ wc.heap.size := hg3.size
        have k11 := hl3.drew.c11
        have f11 := hl3.drew.fz 11
        have d2 : wc.drew.cell? ⟨q, 2, none⟩ = some (.int .i64 3) := by
          have hq4 : wc.drew.heap[q]? = _ := hq3
          simp only [World.cell?, hq4]
          rfl
        have HC := Lib.hid ((size_log hl3.drew).mono (fun e w' h => (⟨h.1, h.2.symm⟩ : e = _ ∧ w' = wc.drew)))
        have hpl7 := HG.out.pl
        obtain ⟨P, hP⟩ : ∃ P, P = (L.pl + 3) % 7 := ⟨_, rfl⟩
        have i1 : IntKind.i64.wrap ((L.pl : Int) + 3) = (L.pl : Int) + 3 := IntWalk.i64_in _ (by omega)
        have i2 : ((L.pl : Int) + 3).tmod 7 = (P : Int) := by rw [Int.tmod_eq_emod_of_nonneg (by omega)]; omega
        have i2' : ((L.pl : Int) + 3) % 7 = (P : Int) := by omega
        have hst := L3.out.store (L' := { L with live := L.live ++ [⟨L.next, L.pl, 3, s, false⟩], pl := P }) (i := 11) (x := .int .i64 P) rfl rfl
        have L4 := Lib.hid hst.drew
        have G4 : Hid (Grow R w (wc.setCell ⟨g, 11, none⟩ (.int .i64 P)).drew) := Lib.hid ((G3.out.trans (Grow.setCell (F := fun k => k = g) rfl _) (fun k hk => .inl (by rw [hk]; exact L3.out.gR.1))).trans (Grow.drew _) (F' := fun _ => False) (fun _ h => h.elim))
        have hgq : q ≠ g := fun e => L3.out.gR.2 e.symm
        have Q4 : Hid ((wc.setCell ⟨g, 11, none⟩ (.int .i64 P)).drew.heap[q]? = some (.cells #[.int .u64 L.next, .int .i64 L.pl, .int .i64 3, .string s, .bool false] 89 (0, 0))) := Lib.hid ((block_setCell_ne hgq _).trans hq3)
        have HPP := Lib.hid hP
        clear hl3 hg3 hq3 hst hP
        go_upto_region 13 with fail
        refine region_tail 11 (by kernel_rfl) (by kernel_rfl) ?_
        simp only [List.take_succ_cons, List.take_zero, List.drop_succ_cons, List.drop_zero]
        iterate 11 (first | still_step | still_call HC.out)
        refine wpStill_nil ?_
        go_upto_region 14 with fail
        generalize (wc.setCell ⟨g, 11, none⟩ (.int .i64 P)).drew = W5 at *
        clear k11 f11 d2 i1 i2 i2'
        have k9 := L4.out.c9
        have f9 := L4.out.fz 9
        have i3 : IntKind.u64.wrap ((L.next : Int) + 1) = (L.next : Int) + 1 := by rw [IntKind.wrap_u64, Int.emod_eq_of_lt (by omega) (by omega)]
        have hst := L4.out.store (L' := addL L s) (i := 9) (x := .int .u64 ((L.next : Int) + 1)) (by unfold addL; rw [HPP.out]; rfl) rfl
        have HF : Hid (AddTo R g r b L n l w (.returned (.tuple #[.int .u64 L.next, .int .i64 0])) (W5.setCell ⟨g, 9, none⟩ (.int .u64 ((L.next : Int) + 1)))) := Lib.hid (.inl ⟨s, HS.out, HL1.out, rfl, hst.mono (fun k hk _ => hk.1), G4.out.trans (Grow.setCell (F := fun k => k = g) rfl _) (fun k hk => .inl (by rw [hk]; exact L4.out.gR.1))⟩)
        have hq5 : (W5.setCell ⟨g, 9, none⟩ (.int .u64 ((L.next : Int) + 1))).heap[q]? = some (.cells #[.int .u64 L.next, .int .i64 L.pl, .int .i64 3, .string s, .bool false] 89 (0, 0)) := (block_setCell_ne hgq _).trans Q4.out
        have Q5 := Lib.hid hq5
        clear hst hq5
        go_upto_region 15 with fail
        generalize W5.setCell ⟨g, 9, none⟩ (.int .u64 ((L.next : Int) + 1)) = W6 at *
        have d0 : W6.cell? ⟨q, 0, none⟩ = some (.int .u64 L.next) := by simp only [World.cell?, Q5.out]; rfl
        clear k9 f9 i3
        go_wp2
        go_ret2
        exact HF.out
end

end Go.Proofs.YtkgdpmeheakdcaaGreat
