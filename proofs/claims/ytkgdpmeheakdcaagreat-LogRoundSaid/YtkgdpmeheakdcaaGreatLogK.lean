/- The log's Free: walk. -/
import Derived.Test.YtkgdpmeheakdcaaGreatLogJ
namespace Go.Proofs.YtkgdpmeheakdcaaGreat
open Go.RowKit
set_option linter.all false
set_option maxRecDepth 100000

def freeR (L : LS) (below : Nat) : LS := if below ≤ L.first then L else freeL L below
theorem freeR_good {L : LS} (h : LG L) (below : Nat) (h2 : below ≤ L.synced + 1) : LG (freeR L below) := by
  unfold freeR
  split
  · exact h
  · exact free_good h below (by omega) h2
theorem freeR_next (L : LS) (below : Nat) : (freeR L below).next = L.next := by
  unfold freeR
  split <;> rfl
def sLen : Value → Nat
  | .slice _ n _ => n
  | _ => 0

section
variable {R F : Nat → Prop} {g r b n : Nat} {v : Value} {D : DS} {L : LS} {w w' : World}

set_option maxHeartbeats 1500000 in
theorem free_any (h : LP R g r b L n w) (hg : LG L) (hR : ∀ k, w.heap.size ≤ k → R k) (hn : n ≤ 600000) (below : Nat) (hbl : below ≤ L.synced + 1) :
    Calls Tryz.prog 25 #[.pointer (some ⟨g, 0, none⟩), .int .u64 below] w (AnsL R g r b (freeR L below) (n + 16) w (.int .i64 0)) := by
  have HM := Lib.hid (may_log h)
  have c10 := h.c10
  have c13 := h.c13
  have hnx := hg.nx
  have hwn := hg.wn
  have hsw := hg.sw
  have hfl := hg.fl
  have hf1 := hg.f1
  have hll := hg.ll
  have hplm := hg.pl
  have i1 : IntKind.u64.wrap ((L.synced : Int) + 1) = (L.synced : Int) + 1 := by rw [IntKind.wrap_u64, Int.emod_eq_of_lt (by omega) (by omega)]
  have g0 : ¬ ((L.synced : Int) + 1 < (below : Int)) := by omega
  by_cases hle : below ≤ L.first
  · have g1 : (below : Int) ≤ (L.first : Int) := by omega
    have HF : Hid (AnsL R g r b (freeR L below) (n + 16) w (.int .i64 0) (.returned (.int .i64 0)) w) := Lib.hid (by
      unfold freeR
      rw [if_pos hle]
      exact ⟨rfl, h.more (by omega), Grow.refl _ _⟩)
    clear h hg hR
    go_enter Tryz.func25, Tryz.ntmps25
    go_wp2_with fail
    refine HM.out.mono ?_
    rintro e w1 ⟨rfl, rfl⟩
    go_wp2
    go_ret
    exact HF.out
  · have g1 : ¬ (below : Int) ≤ (L.first : Int) := by omega
    have hFR : freeR L below = freeL L below := if_neg hle
    rw [hFR]
    have k14 := h.drew.c14
    have k11 := h.drew.c11
    have hgl : g < w.drew.heap.size := h.lt
    have HLI := Lib.hid (list_any h.drew (by omega))
    have H0 := Lib.hid h
    have HG := Lib.hid hg
    have HR := Lib.hid hR
    obtain ⟨m, hm⟩ : ∃ m, m = below - L.first := ⟨_, rfl⟩
    have HMM := Lib.hid hm
    obtain ⟨len, hlen⟩ : ∃ len, len = L.live.length := ⟨_, rfl⟩
    rw [← hlen] at hfl hll
    have HLN := Lib.hid hlen
    clear h hg hR hFR hm hlen
    go_enter Tryz.func25, Tryz.ntmps25
    go_wp2_with fail
    refine HM.out.mono ?_
    rintro e w1 ⟨rfl, rfl⟩
    go_upto_region 8 with fail
    go_cut [6, 7] from 27 to 35 (fun s6 s7 wx => ∃ (uo : Option Addr) (ucap : Nat), s6 = .slice uo len ucap ∧ s7 = .int .i64 L.pl ∧ wx.ownsRow w.heap.size 89 5 (.slice uo len ucap) len (enCells L.live) ∧ Below w.heap.size w wx)
    case first =>
      go_region_held3 (fun w' => w'.cell? ⟨g, 14, none⟩ = some (.pointer (some ⟨r, 0, none⟩)) ∧ w'.cell? ⟨g, 11, none⟩ = some (.int .i64 L.pl))
        (first | exact ⟨k14, k11⟩ | exact ⟨m14, m11⟩ | go_keep)
        (first
          | (go_at_call 62
             refine HLI.out.mono ?_
             rintro e x1 ⟨u, rfl, hown, hgr⟩
             have hb : Below w.drew.heap.size w.drew x1 := (Grow.of_grownBy (F := fun _ => False) hgr (fun _ h => by cases h)).below (Nat.le_refl _) (fun _ h => h.elim)
             have m14 := (hb.cell (p := ⟨g, 14, none⟩) hgl).trans k14
             have m11 := (hb.cell (p := ⟨g, 11, none⟩) hgl).trans k11))
      all_goals go_wp2_with fail
      all_goals go_meet
      all_goals
        obtain ⟨uo, ucap, hu, -, -, -⟩ := ownsRow_shape hown
        subst hu
        exact ⟨uo, ucap, by rw [HLN.out], rfl, by rw [HLN.out]; exact hown, ((Below.refl w.heap.size w).drew).trans hb⟩
    case rest =>
      obtain ⟨uo, ucap, rfl, rfl, hown, hb⟩ := hcut
      obtain ⟨uo2, ucap2, hu, hncap, hcapm, -⟩ := ownsRow_shape hown
      have hue : ucap = ucap2 := by
        simp at hu
        exact hu.2
      subst hue
      have HO := Lib.hid hown
      have B1 := Lib.hid hb
      have L1 := Lib.hid (H0.out.below hb)
      have HEN : Hid (∀ k, k < len → ∃ (q : Nat) (x : En), uo = some ⟨q, 0, none⟩ ∧ L.live[k]? = some x ∧ x.lsn = L.first + k ∧ x.pl < 7 ∧ wc.cell? ⟨q, k * 5, none⟩ = some (.int .u64 (L.first + k : Nat)) ∧ wc.cell? ⟨q, k * 5 + 1, none⟩ = some (.int .i64 x.pl)) := Lib.hid (fun k hk => by
        obtain ⟨x, hx⟩ : ∃ x, L.live[k]? = some x := ⟨_, List.getElem?_eq_getElem (show k < L.live.length by rw [← HLN.out]; exact hk)⟩
        obtain ⟨q1, q2, q3, q4, q5⟩ := HG.out.en k x hx
        obtain ⟨q, rfl⟩ : ∃ q, uo = some ⟨q, 0, none⟩ := by
          rcases hown.2 with ⟨-, h0⟩ | ⟨q, cap', cur, he, -⟩
          · omega
          · simp at he
            exact ⟨q, he.1⟩
        have ho := hown
        rw [HLN.out] at ho
        have e0 := en_cell ho k x hx 0 (by omega)
        have e1 := en_cell ho k x hx 1 (by omega)
        simp only [En.cells, List.getElem?_cons_zero, List.getElem?_cons_succ, Nat.add_zero] at e0 e1
        exact ⟨q, x, rfl, hx, q1, q3, by rw [e0, q1], e1⟩)
      have HH : Hid (∀ P : Nat, P < 7 → Calls Tryz.prog 54 #[.pointer (some ⟨g, 0, none⟩), .int .u64 below, .int .i64 P] wc (AnsL R g r b L (n + 16) wc (.int .i64 0))) := Lib.hid (fun P hP => head_any L1.out (fun k hk => HR.out k (Nat.le_trans hb.size hk)) (by omega) below P (by omega) (by omega) (by omega))
      clear hown hb hu k14 k11 hgl HLI c10 c13
      have hm0 : 1 ≤ m := by have := HMM.out; omega
      have hml : m ≤ len := by have := HMM.out; omega
      have i2 : IntKind.i64.wrap ((len : Int) - ((len - m : Nat) : Int)) = (m : Int) := by rw [IntWalk.i64_in _ (by omega)]; omega
      go_wp2
      go_loopw [6] (fun s6 wr => ∃ (k n1 c1 : Nat) (ao : Option Addr), s6 = .slice ao n1 c1 ∧ k ≤ m ∧ n1 + k = len ∧ c1 + k = ucap ∧ (∀ q, uo = some ⟨q, 0, none⟩ → 0 < n1 → ao = some ⟨q, k * 5, none⟩) ∧ wr = wc) (fun s6 _ => sLen s6)
      case atStart => exact ⟨0, len, ucap, uo, rfl, by omega, by omega, by omega, fun q h _ => by rw [h, Nat.zero_mul], rfl⟩
      case round =>
        obtain ⟨k, n1, c1, ao, rfl, hk, hn1, hc1, hao, rfl⟩ := hrel
        by_cases hlt : k < m
        · obtain ⟨q, x, hq, hx, hx1, hx2, e0, e1⟩ := HEN.out k (by omega)
          have ha := hao q hq (by omega)
          subst ha
          have hn0 : 0 < n1 := by omega
          have hlss : ((L.first + k : Nat) : Int) < (below : Int) := by have := HMM.out; omega
          have hnc : n1 ≤ c1 := by omega
          have hn1' : 1 ≤ n1 := hn0
          have HAO := Lib.hid hao
          have HX := Lib.hid hx
          have HQ := Lib.hid hq
          clear hx1 hx2 e1 hao hx hq
          go_wp2
          go_roundw
          case rel => exact ⟨k + 1, n1 - 1, c1 - 1, _, rfl, by omega, by omega, by omega, fun q' h h0 => by
            have hqq : q' = q := by rw [HQ.out] at h; cases h; rfl
            subst hqq
            rw [if_neg (by omega)]
            simp, trivial⟩
          case measure => simp [sLen]; omega
        · have hkm : k = m := by omega
          subst hkm
          have i1 : IntKind.i64.wrap ((len : Int) - (n1 : Int)) = (k : Int) := by rw [IntWalk.i64_in _ (by omega)]; omega
          have HK1 := Lib.hid hm0
          have HK2 := Lib.hid hml
          clear i2
          by_cases hz : n1 = 0
          · subst hz
            have HHP := Lib.hid (HH.out L.pl hplm)
            have i2 : IntKind.i64.wrap (len : Int) = (k : Int) := by rw [IntWalk.i64_in _ (by omega)]; omega
            have HKL : Hid (k = len) := Lib.hid (by omega)
            clear i1 hao hn1
            go_wp2_with fail
            refine HHP.out.mono ?_
            rintro e w5 ⟨rfl, hl, hg5⟩
            have L5 := Lib.hid hl
            have G5 : Hid (Grow R w w5) := Lib.hid ((Grow.of_below B1.out).trans hg5 (fun _ h => .inl h))
            have Z5 : Hid (w.heap.size ≤ w5.heap.size) := Lib.hid G5.out.size
            have k14 := hl.drew.c14
            have HC : Hid (Calls Tryz.prog 67 #[.pointer (some ⟨r, 0, none⟩)] w5.drew fun e w' => e = .returned (.int .i64 len) ∧ w' = w5.drew) := Lib.hid (by
              have h := len_any hl.drew (by rw [← HLN.out]; omega)
              rw [← HLN.out] at h
              exact h.mono (fun e w' h => ⟨h.1, h.2.symm⟩))
            have HD : Hid (Calls Tryz.prog 66 #[.pointer (some ⟨r, 0, none⟩), .int .i64 k] w5.drew (AnsL R g r b { L with live := L.live.drop k } (n + 16) w5.drew (.int .i64 k))) := Lib.hid (drop_any hl.drew (fun q hq => HR.out q (Nat.le_trans Z5.out hq)) (by rw [← HLN.out]; omega) k HK1.out (by rw [← HLN.out]; exact HK2.out))
            clear hl hg5
            go_upto_region 16 with fail
            refine region_tail 12 (by kernel_rfl) (by kernel_rfl) ?_
            simp only [List.take_succ_cons, List.take_zero, List.drop_succ_cons, List.drop_zero]
            iterate 12 (first | still_step | still_call HC.out)
            refine wpStill_nil ?_
            go_wp2_with fail
            refine HD.out.mono ?_
            rintro e w6 ⟨rfl, hl, hg6⟩
            have hmx : max (L.synced : Int) (L.written : Int) = (L.written : Int) := by omega
            have hmxN : max L.synced L.written = L.written := by omega
            have d12 : w6.drew.cell? ⟨g, 12, none⟩ = some (.int .u64 L.written) := hl.drew.c12
            have d13 : w6.drew.cell? ⟨g, 13, none⟩ = some (.int .u64 L.synced) := hl.drew.c13
            have d10 : w6.drew.cell? ⟨g, 10, none⟩ = some (.int .u64 L.first) := hl.drew.c10
            have f10 := hl.drew.fz 10
            have f13 := hl.drew.fz 13
            have e10 := hl.c10
            have e12 : w6.cell? ⟨g, 12, none⟩ = some (.int .u64 L.written) := hl.c12
            have e13 : w6.cell? ⟨g, 13, none⟩ = some (.int .u64 L.synced) := hl.c13
            have h10 := hl.fz 10
            have h13 := hl.fz 13
            have h1 := hl.store (L' := { { L with live := L.live.drop k } with first := below }) (i := 10) (x := .int .u64 below) (by rfl) rfl
            have h2 := h1.store (L' := freeL L below) (i := 13) (x := .int .u64 L.written) (by unfold freeL; rw [hmxN]; rfl) (by unfold freeL; rw [← HMM.out])
            have HF : Hid (AnsL R g r b (freeL L below) (n + 16) w (.int .i64 0) (.returned (.int .i64 0)) ((w6.setCell ⟨g, 10, none⟩ (.int .u64 below)).setCell ⟨g, 13, none⟩ (.int .u64 L.written)).drew) := Lib.hid ⟨rfl, h2.drew, (((G5.out.trans (Grow.drew w5) (F' := fun _ => False) (fun _ h => h.elim)).trans hg6 (fun _ h => .inl h)).trans ((Grow.setCell (F := fun k => k = g) rfl _).trans (Grow.setCell (F := fun k => k = g) rfl _) (fun _ h => .inl h)) (fun k hk => .inl (by rw [hk]; exact hl.gR))).trans (Grow.drew _) (F' := fun _ => False) (fun _ h => h.elim)⟩
            clear hl hg6 h1 h2 k14
            go_upto_region 17 with fail
            go_region
            go_wp2
            go_ret
            exact HF.out
          · obtain ⟨q, x, hq, hx, hx1, hx2, e0, e1⟩ := HEN.out k (by omega)
            have hn0 : 0 < n1 := by omega
            have ha := hao q hq hn0
            subst ha
            have hlss : ¬ ((L.first + k : Nat) : Int) < (below : Int) := by have := HMM.out; omega
            have hnc : n1 ≤ c1 := by omega
            have HHP := Lib.hid (HH.out x.pl hx2)
            clear hx1 hx2 hx hq hao hn1 hc1
            go_wp2_with fail
            refine HHP.out.mono ?_
            rintro e w5 ⟨rfl, hl, hg5⟩
            have L5 := Lib.hid hl
            have G5 : Hid (Grow R w w5) := Lib.hid ((Grow.of_below B1.out).trans hg5 (fun _ h => .inl h))
            have Z5 : Hid (w.heap.size ≤ w5.heap.size) := Lib.hid G5.out.size
            have k14 := hl.drew.c14
            have HC : Hid (Calls Tryz.prog 67 #[.pointer (some ⟨r, 0, none⟩)] w5.drew fun e w' => e = .returned (.int .i64 len) ∧ w' = w5.drew) := Lib.hid (by
              have h := len_any hl.drew (by rw [← HLN.out]; omega)
              rw [← HLN.out] at h
              exact h.mono (fun e w' h => ⟨h.1, h.2.symm⟩))
            have HD : Hid (Calls Tryz.prog 66 #[.pointer (some ⟨r, 0, none⟩), .int .i64 k] w5.drew (AnsL R g r b { L with live := L.live.drop k } (n + 16) w5.drew (.int .i64 k))) := Lib.hid (drop_any hl.drew (fun q hq => HR.out q (Nat.le_trans Z5.out hq)) (by rw [← HLN.out]; omega) k HK1.out (by rw [← HLN.out]; exact HK2.out))
            clear hl hg5
            go_upto_region 16 with fail
            refine region_tail 12 (by kernel_rfl) (by kernel_rfl) ?_
            simp only [List.take_succ_cons, List.take_zero, List.drop_succ_cons, List.drop_zero]
            iterate 12 (first | still_step | still_call HC.out)
            refine wpStill_nil ?_
            go_wp2_with fail
            refine HD.out.mono ?_
            rintro e w6 ⟨rfl, hl, hg6⟩
            have hmx : max (L.synced : Int) (L.written : Int) = (L.written : Int) := by omega
            have hmxN : max L.synced L.written = L.written := by omega
            have d12 : w6.drew.cell? ⟨g, 12, none⟩ = some (.int .u64 L.written) := hl.drew.c12
            have d13 : w6.drew.cell? ⟨g, 13, none⟩ = some (.int .u64 L.synced) := hl.drew.c13
            have d10 : w6.drew.cell? ⟨g, 10, none⟩ = some (.int .u64 L.first) := hl.drew.c10
            have f10 := hl.drew.fz 10
            have f13 := hl.drew.fz 13
            have e10 := hl.c10
            have e12 : w6.cell? ⟨g, 12, none⟩ = some (.int .u64 L.written) := hl.c12
            have e13 : w6.cell? ⟨g, 13, none⟩ = some (.int .u64 L.synced) := hl.c13
            have h10 := hl.fz 10
            have h13 := hl.fz 13
            have h1 := hl.store (L' := { { L with live := L.live.drop k } with first := below }) (i := 10) (x := .int .u64 below) (by rfl) rfl
            have h2 := h1.store (L' := freeL L below) (i := 13) (x := .int .u64 L.written) (by unfold freeL; rw [hmxN]; rfl) (by unfold freeL; rw [← HMM.out])
            have HF : Hid (AnsL R g r b (freeL L below) (n + 16) w (.int .i64 0) (.returned (.int .i64 0)) ((w6.setCell ⟨g, 10, none⟩ (.int .u64 below)).setCell ⟨g, 13, none⟩ (.int .u64 L.written)).drew) := Lib.hid ⟨rfl, h2.drew, (((G5.out.trans (Grow.drew w5) (F' := fun _ => False) (fun _ h => h.elim)).trans hg6 (fun _ h => .inl h)).trans ((Grow.setCell (F := fun k => k = g) rfl _).trans (Grow.setCell (F := fun k => k = g) rfl _) (fun _ h => .inl h)) (fun k hk => .inl (by rw [hk]; exact hl.gR))).trans (Grow.drew _) (F' := fun _ => False) (fun _ h => h.elim)⟩
            clear hl hg6 h1 h2 k14
            go_upto_region 17 with fail
            go_region
            go_wp2
            go_ret
            exact HF.out
end

end Go.Proofs.YtkgdpmeheakdcaaGreat
