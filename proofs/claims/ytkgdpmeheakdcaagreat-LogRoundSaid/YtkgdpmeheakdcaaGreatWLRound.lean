/- LogRound: walk. -/
import Derived.Test.YtkgdpmeheakdcaaGreatLogR
namespace Go.Proofs.YtkgdpmeheakdcaaGreat
open Go.RowKit
set_option linter.all false
set_option maxRecDepth 100000

set_option maxHeartbeats 8000000 in
theorem lround_walk (a0 : Option Addr) (len0 cap0 : Nat) (z0 : List Int) (a1 : Option Addr) (len1 cap1 : Nat) (z1 : Nat → Bool) (w : World) (w0 : RowOf .i64 w a0 len0 cap0 z0) (w1 : BoolRow w a1 len1 cap1 z1) :
    Calls Tryz.prog 5 #[.slice a0 len0 cap0, .slice a1 len1 cap1] w fun e w' => e = .returned (.bool true) ∧ Below w.heap.size w w' := by
  have HAL := Lib.hid alive12_any
  by_cases h0 : 60 < len0
  · have hd0 : decide (60 < (len0 : Int)) = true := by simp; omega
    clear w0 w1 h0
    go_enter Tryz.func5, Tryz.ntmps5
    go_wp2_with fail
    refine (HAL.out w).mono ?_
    rintro e w9 ⟨rfl, hb⟩
    have B9 := Lib.hid hb
    clear hb
    go_wp2
    go_ret
    exact ⟨rfl, B9.out⟩
  have hd0 : decide (60 < (len0 : Int)) = false := by simp; omega
  by_cases h1 : 60 < len1
  · have hd1 : decide (60 < (len1 : Int)) = true := by simp; omega
    clear w0 w1 h1 h0
    go_enter Tryz.func5, Tryz.ntmps5
    go_wp2_with fail
    refine (HAL.out w).mono ?_
    rintro e w9 ⟨rfl, hb⟩
    have B9 := Lib.hid hb
    clear hb
    go_wp2
    go_ret
    exact ⟨rfl, B9.out⟩
  have hd1 : decide (60 < (len1 : Int)) = false := by simp; omega
  have HW := Lib.hid w0
  have HV := Lib.hid w1
  have hcap0 := w0.capOk
  have hcap1 := w1.capOk
  have H0 := Lib.hid (ready_any w)
  have h60 : len0 ≤ 60 := by omega
  clear w0 w1 h0 h1
  go_enter Tryz.func5, Tryz.ntmps5
  go_wp2_with fail
  refine H0.out.mono ?_
  rintro e w1 ⟨b, p, m, rfl, hd, hr, hb, hm⟩
  have hmq : m ≤ w1.heap.size := by have := hr.lt; have := hr.ge; omega
  have ha : Below w1.heap.size w1 (w1.alloc (.cells #[.int .i64 2, .int .i64 10, .int .i64 8, .int .i64 4, .int .i64 32] 31)) := (Below.refl _ _).alloc (Nat.le_refl _) _
  have hz : (w1.alloc (.cells #[.int .i64 2, .int .i64 10, .int .i64 8, .int .i64 4, .int .i64 32] 31)).heap.size = w1.heap.size + 1 := by simp
  obtain ⟨P, hP⟩ : ∃ P, P = w1.heap.size := ⟨_, rfl⟩
  have Y2 : lyBlk (w1.alloc (.cells #[.int .i64 2, .int .i64 10, .int .i64 8, .int .i64 4, .int .i64 32] 31)) P := by rw [hP]; exact heap_alloc_new w1 _
  obtain ⟨R, hR⟩ : ∃ R : Nat → Prop, R = fun k => (w.heap.size ≤ k ∧ k < m) ∨ P < k := ⟨_, rfl⟩
  have hre : RNew R P w := ⟨fun k hk => by
    rw [hR] at hk
    rcases hk with h | h
    · exact h.1
    · have := hb.size; omega, fun hk => by
    rw [hR] at hk
    rcases hk with h | h
    · omega
    · omega, fun k hk => by rw [hR]; exact .inr hk⟩
  have d2 : DiskP R b dk9 (w1.alloc (.cells #[.int .i64 2, .int .i64 10, .int .i64 8, .int .i64 4, .int .i64 32] 31)) := (hd.below ha).mono (fun k hk => by rw [hR]; exact .inl hk)
  have HO := Lib.hid (open_any d2 di9 (fun k hk => hre.rn k (by omega)) (by decide))
  have B2 := hb.trans (ha.mono hb.size)
  have HST : Hid (∀ g r w3, LP R g r b L0 65 w3 → Grow R (w1.alloc (.cells #[.int .i64 2, .int .i64 10, .int .i64 8, .int .i64 4, .int .i64 32] 31)) w3 → RSt R g r b P w L0 65 w3) := Lib.hid (fun g r w3 hl hg => ⟨hre, good_L0, hl, B2.trans (hg.below B2.size hre.rb), Y2.grow hg hre.rp⟩)
  have HPW := Lib.hid hP
  clear hd hr hb hm ha hz d2 hR hmq H0 B2 Y2 hre hP
  go_wp2_with fail
  refine HO.out.mono ?_
  rintro e w3 ⟨g, r, rfl, hl, hg⟩
  have S3 := Lib.hid (HST.out g r w3 hl hg)
  clear hl hg HO HST
  rw [← HPW.out]
  clear HPW
  go_wp2
  go_loopw [11, 12] (fun s11 s12 wr => ∃ (k : Nat) (L : LS) (N : Nat), k ≤ len0 ∧ s12 = .int .i64 k ∧ s11 = .int .u64 N ∧ N ≤ k + 1 ∧ 1 ≤ N ∧ L.next = N ∧ RSt R g r b P w L (65 + 300 * k) wr) (fun _ i _ => len0 - (intOf i).toNat)
  case atStart => exact ⟨0, L0, 1, Nat.zero_le _, rfl, rfl, by omega, by omega, rfl, S3.out⟩
  case round =>
    obtain ⟨k, L, N, hk, rfl, rfl, hN1, hN0, hLN, hs⟩ := hrel
    obtain ⟨wo, rfl⟩ : ∃ wo : World, wo = wr := ⟨_, rfl⟩
    have HS := Lib.hid hs
    have HN := Lib.hid hLN
    by_cases hlt : k < len0
    case neg =>
      have hkn : k = len0 := by omega
      have hnl : ¬ (k : Int) < (len0 : Int) := by omega
      clear hs hLN hkn
      go_wp2_with fail
      refine (HAL.out wo).mono ?_
      rintro e w9 ⟨rfl, hb⟩
      have B9 := Lib.hid ((HS.out.low hb).bl)
      clear hb
      go_wp2
      go_ret
      exact ⟨rfl, B9.out⟩
    obtain ⟨kb, ko, ha0, hc, hkb⟩ := HW.out.at k hlt
    obtain ⟨z, hz⟩ : ∃ z, z = z0.getD k 0 := ⟨_, rfl⟩
    rw [← hz] at hc
    have HCX : Hid (∀ wx, Below w.heap.size w wx → wx.cell? ⟨kb, ko + k, none⟩ = some (.int .i64 z)) := Lib.hid (fun wx hb => (World.cell?_of_block (hb.block kb hkb)).trans hc)
    subst ha0
    have hkc : k < cap0 := by omega
    have hcx := HCX.out wo hs.bl
    have hcxd : wo.drew.cell? ⟨kb, ko + k, none⟩ = some (.int .i64 z) := hcx
    obtain ⟨y0, y1, y2, y3, y4⟩ := five_cells hs.ly
    have y2d : wo.drew.cell? ⟨P, 2, none⟩ = some (.int .i64 8) := y2
    clear hs hLN hz hc hkb y0 y1 y3 y4
    by_cases hzl : z < 1
    · have hdz : decide (z < 1) = true := by simpa using hzl
      clear HCX
      go_upto_region 13 with fail
      go_quiet (fail)
      generalize hW : World.drewN _ nq = WX
      have BX : Hid (Below w.heap.size w WX) := Lib.hid (by rw [← hW]; exact (HS.out.drewN nq).bl)
      clear hW
      go_wp2
      go_ret
      exact ⟨rfl, BX.out⟩
    have hdz : decide (z < 1) = false := by simpa using hzl
    by_cases hzg : 1 < z
    · have hdg : decide (1 < z) = true := by simpa using hzg
      clear HCX
      go_upto_region 13 with fail
      go_quiet (first
      | (go_at_call 22
         refine Calls.quiet_of_same ((rmost8 _).mono (fun e w' h => ⟨h.1, h.2.symm⟩))))
      generalize hW : World.drewN _ nq = WX
      have BX : Hid (Below w.heap.size w WX) := Lib.hid (by rw [← hW]; exact (HS.out.drewN nq).bl)
      clear hW
      go_wp2
      go_ret
      exact ⟨rfl, BX.out⟩
    have hz1 : z = 1 := by omega
    subst hz1
    go_upto_region 13 with fail
    go_quiet (first
      | (go_at_call 22
         refine Calls.quiet_of_same ((rmost8 _).mono (fun e w' h => ⟨h.1, h.2.symm⟩))))
    generalize hW : World.drewN _ nq = WX
    have SX : Hid (RSt R g r b P w L (65 + 300 * k) WX) := Lib.hid (by rw [← hW]; exact HS.out.drewN nq)
    clear hW hcx hcxd y2 y2d HS hdz hzl hzg
    go_wp2
    go_loopw [13, 14] (fun s13 s14 wr => RSt R g r b P w L (65 + 300 * k) wr ∧ ((s14 = .int .i64 0 ∧ s13 = .slice none 0 0) ∨ (s14 = .int .i64 1 ∧ ∃ (a : Option Addr) (c : Nat), s13 = .slice a 1 c ∧ 1 ≤ c ∧ ImgsRow wr a 1 c [oneI 0 N]))) (fun _ s14 _ => 1 - (intOf s14).toNat)
    case atStart => exact ⟨SX.out, .inl ⟨rfl, rfl⟩⟩
    case round =>
      obtain ⟨hs, hcase⟩ := hrel
      have HS := Lib.hid hs
      have hcx := HCX.out wr hs.bl
      clear hs
      rcases hcase with ⟨rfl, rfl⟩ | ⟨rfl, a, c, rfl, hc1, him⟩
      · obtain ⟨sd, hsd⟩ : ∃ sd, sd = str (oneL 0) := ⟨_, rfl⟩
        have H1 : Hid (Calls Tryz.prog 17 #[.int .i64 0, .int .u64 N] wr fun e w' => e = .returned (.agg #[.int .i64 0, .int .u64 N, .string sd]) ∧ Below wr.heap.size wr w') := Lib.hid (by rw [hsd]; exact one_any 0 N (by decide) wr)
        have HSD := Lib.hid hsd
        clear hsd
        go_wp2_with fail
        refine H1.out.mono ?_
        rintro e w4 ⟨rfl, hb⟩
        have hmk := mkIm 0 (N : Int) sd w4
        have S4 := Lib.hid ((HS.out.low hb).low ((Below.refl w4.heap.size w4).alloc (Nat.le_refl _) (.cells #[.int .i64 0, .int .u64 N, .string sd] 24)))
        have HNW : Hid (∀ j u, [Value.int .i64 0, .int .u64 N, .string sd][j]? = some u → (w4.alloc (.cells #[.int .i64 0, .int .u64 N, .string sd] 24)).cell? ((⟨w4.heap.size, 0, none⟩ : Addr).add j) = some u) := Lib.hid (World.news_of_block (heap_alloc_new w4 _))
        have HFIN : Hid (∀ (uo : Option Addr) (ucap : Nat) w', w'.ownsRow w4.heap.size 24 3 (.slice uo (0 + 1) ucap) (0 + 1) ([] ++ [Value.int .i64 0, .int .u64 N, .string sd]) → (w4.alloc (.cells #[.int .i64 0, .int .u64 N, .string sd] 24)).grownBy w' none → 1 ≤ ucap → ucap ≤ maxLen → RSt R g r b P w L (65 + 300 * k) w' ∧ ImgsRow w' uo 1 ucap [oneI 0 N]) := Lib.hid (fun uo ucap w' ho hgr h1 h2 =>
          ⟨S4.out.low ((Grow.of_grownBy (F := fun _ => False) hgr (fun _ h => by cases h)).below (Nat.le_refl _) (fun _ h => h.elim)), ImgsRow.own1 (i := oneI 0 N) (by rw [HSD.out] at ho; exact ho) (by show N < 18446744073709551616; omega) (by show (oneL 0).length ≤ maxLen; rw [oneL_length]; decide) h1 h2⟩)
        obtain ⟨i0, hi, hz0, hz1, hz2⟩ := info_parts infoImg
        clear hb hcx
        go_wp2_with (at_builtin; (refine wpList_append_own_at _ rfl _ _ 41 rfl w4.heap.size 24 i0 _ 3 32 Tryz.underlying41 hi hz0 hz1 hz2 rfl (by decide) (.slice none 0 0) 0 [] rfl (World.ownsRow_nil _ _ _ _) ⟨w4.heap.size, 0, none⟩ 1 1 [Value.int .i64 0, .int .u64 N, .string sd] rfl rfl HNW.out (by simp [Value.oneCell']) (by decide) (by decide) (by simp) ?_; intro v' w' hown' hgrow' hnil' hloc'; obtain ⟨uo, ucap, hu, hnc, hcm', huno⟩ := ownsRow_shape hown'; subst hu; have HREL := Lib.hid (HFIN.out uo ucap w' hown' hgrow' (by omega) hcm'); clear hown' hgrow' hnil' hloc' huno))
        go_roundw
        case rel => exact ⟨HREL.out.1, .inr ⟨rfl, uo, ucap, rfl, by omega, HREL.out.2⟩⟩
        case measure => simp [intOf]
      · have HI := Lib.hid him
        clear him
        by_cases hl1 : L.live.length ≤ 1
        case pos =>
          have HF := Lib.hid (rs_fits HS.out true (by simp [hl1]))
          have HL1 := Lib.hid hl1
          clear hl1
          go_wp2_with fail
          refine HF.out.mono ?_
          rintro e w4 ⟨rfl, hs4, hb4⟩
          have hcx4 := HCX.out w4 hs4.bl
          have HA := Lib.hid (rs_add1 hs4 N HN.out HL1.out (by omega) a c (oneI 0 N) (HI.out.below hb4) (oneI_ok 0 N (by decide)))
          clear hs4 hb4 hcx
          go_wp2_with fail
          refine HA.out.mono ?_
          rintro e w5 ⟨rfl, s, hs192, hs5⟩
          have HS5 := Lib.hid hs5
          obtain ⟨M, hM⟩ : ∃ M, M = N + 1 := ⟨_, rfl⟩
          have hwm : IntKind.u64.wrap ((N : Int) + 1) = (M : Int) := by rw [IntKind.wrap_u64, Int.emod_eq_of_lt (by omega) (by omega)]; omega
          have hM0 : 1 ≤ M := by omega
          have hM1 : M ≤ k + 2 := by omega
          have HN5 : Hid ((addL L s).next = M) := Lib.hid (by show L.next + 1 = M; rw [HN.out, hM])
          clear hs5 hM hs192 hcx4
          by_cases f1 : k < len1
          case neg =>
            have g1 : ¬ (k : Int) < (len1 : Int) := by omega
            have HUU : Hid (∃ U : Nat, U ≤ 6 ∧ Calls Tryz.prog 19 #[.pointer (some ⟨g, 0, none⟩)] w5.drew fun e y => e = .returned (.int .i64 (U : Nat)) ∧ RSt R g r b P w (addL L s) (65 + 300 * k) y) := Lib.hid ⟨_, by have := HS5.out.lg.ll; omega, rs_used HS5.out.drew⟩
            obtain ⟨U, hU6, hU⟩ := HUU.out
            have HU := Lib.hid hU
            have h7 : IntKind.i64.wrap 7 = 7 := by decide
            have gu : decide (IntKind.i64.wrap 7 < (U : Int)) = false := by rw [h7]; simp; omega
            clear h7
            have k2 := (five_cells HS5.out.drew.ly).2.2.1
            have iw : IntKind.i64.wrap ((k : Int) + 1) = (k : Int) + 1 := IntWalk.i64_in _ (by omega)
            clear HUU hU
            go_upto_region 30 with fail
            go_cut [175] from 163 to 175 (fun s175 wx => s175 = .bool false ∧ RSt R g r b P w (addL L s) (65 + 300 * k) wx)
            case first =>
              go_region_held3 (fun w' => w'.cell? ⟨P, 2, none⟩ = some (.int .i64 8))
                (first | exact k2 | exact m2 | go_keep)
                (first
                  | (go_at_call 19
                     refine HU.out.mono ?_
                     rintro e x1 ⟨rfl, hs1⟩
                     have HS1 := Lib.hid hs1
                     have m2 := (five_cells hs1.ly).2.2.1
                     clear hs1)
                  | (go_at_call 18
                     refine (rs_next HS1.out _ HN5.out).mono ?_
                     rintro e x2 ⟨rfl, rfl⟩))
              all_goals go_wp2_with fail
              all_goals go_meet
              all_goals exact ⟨rfl, HS1.out⟩
            case rest =>
              obtain ⟨rfl, hs⟩ := hcut
              have HSC := Lib.hid hs
              clear hs k2 gu
              go_wp2
              go_roundw
              case rel => exact ⟨k + 1, _, M, by omega, by go_num, rfl, by omega, by omega, HN5.out, HSC.out.more (by omega)⟩
              case measure => simp [intOf]; omega
          have g1 : (k : Int) < (len1 : Int) := by omega
          obtain ⟨kb1, ko1, ha1, hc, hkb⟩ := HV.out.at k f1
          obtain ⟨zb, hzb⟩ : ∃ zb, zb = z1 k := ⟨_, rfl⟩
          rw [← hzb] at hc
          have hcy : w5.cell? ⟨kb1, ko1 + k, none⟩ = some (.bool zb) := (World.cell?_of_block (HS5.out.bl.block kb1 hkb)).trans hc
          subst ha1
          have hkc1 : k < cap1 := by omega
          clear hc hkb hzb
          cases zb with
          | false =>
            have HUU : Hid (∃ U : Nat, U ≤ 6 ∧ Calls Tryz.prog 19 #[.pointer (some ⟨g, 0, none⟩)] w5.drew fun e y => e = .returned (.int .i64 (U : Nat)) ∧ RSt R g r b P w (addL L s) (65 + 300 * k) y) := Lib.hid ⟨_, by have := HS5.out.lg.ll; omega, rs_used HS5.out.drew⟩
            obtain ⟨U, hU6, hU⟩ := HUU.out
            have HU := Lib.hid hU
            have h7 : IntKind.i64.wrap 7 = 7 := by decide
            have gu : decide (IntKind.i64.wrap 7 < (U : Int)) = false := by rw [h7]; simp; omega
            clear h7
            have k2 := (five_cells HS5.out.drew.ly).2.2.1
            have iw : IntKind.i64.wrap ((k : Int) + 1) = (k : Int) + 1 := IntWalk.i64_in _ (by omega)
            clear HUU hU
            go_upto_region 30 with fail
            go_cut [175] from 163 to 175 (fun s175 wx => s175 = .bool false ∧ RSt R g r b P w (addL L s) (65 + 300 * k) wx)
            case first =>
              go_region_held3 (fun w' => w'.cell? ⟨P, 2, none⟩ = some (.int .i64 8))
                (first | exact k2 | exact m2 | go_keep)
                (first
                  | (go_at_call 19
                     refine HU.out.mono ?_
                     rintro e x1 ⟨rfl, hs1⟩
                     have HS1 := Lib.hid hs1
                     have m2 := (five_cells hs1.ly).2.2.1
                     clear hs1)
                  | (go_at_call 18
                     refine (rs_next HS1.out _ HN5.out).mono ?_
                     rintro e x2 ⟨rfl, rfl⟩))
              all_goals go_wp2_with fail
              all_goals go_meet
              all_goals exact ⟨rfl, HS1.out⟩
            case rest =>
              obtain ⟨rfl, hs⟩ := hcut
              have HSC := Lib.hid hs
              clear hs k2 gu
              go_wp2
              go_roundw
              case rel => exact ⟨k + 1, _, M, by omega, by go_num, rfl, by omega, by omega, HN5.out, HSC.out.more (by omega)⟩
              case measure => simp [intOf]; omega
          | true =>
            have HY := Lib.hid (rs_sync HS5.out (by omega))
            obtain ⟨Q, hQ⟩ : ∃ Q, Q = M - 1 := ⟨_, rfl⟩
            have HQ := Lib.hid hQ
            have hwq : IntKind.u64.wrap ((M : Int) - 1) = (Q : Int) := by rw [IntKind.wrap_u64, Int.emod_eq_of_lt (by omega) (by omega)]; omega
            clear hQ
            go_wp2_with fail
            refine HY.out.mono ?_
            rintro e w6 ⟨rfl, hs⟩
            have HZ := Lib.hid (rs_free hs (by omega) Q (by show Q ≤ (addL L s).next - 1 + 1; have h1 := HQ.out; have h2 := HN5.out; omega))
            clear hs hcy
            go_wp2_with fail
            refine HZ.out.mono ?_
            rintro e w7 ⟨rfl, hs⟩
            have HS7 := Lib.hid hs
            have HN7 : Hid ((freeR (syncL (addL L s)) Q).next = M) := Lib.hid (by rw [freeR_next]; exact HN5.out)
            clear hs hwq
            have HUU : Hid (∃ U : Nat, U ≤ 6 ∧ Calls Tryz.prog 19 #[.pointer (some ⟨g, 0, none⟩)] w7.drew fun e y => e = .returned (.int .i64 (U : Nat)) ∧ RSt R g r b P w (freeR (syncL (addL L s)) Q) (65 + 300 * k + 96 + 16) y) := Lib.hid ⟨_, by have := HS7.out.lg.ll; omega, rs_used HS7.out.drew⟩
            obtain ⟨U, hU6, hU⟩ := HUU.out
            have HU := Lib.hid hU
            have h7 : IntKind.i64.wrap 7 = 7 := by decide
            have gu : decide (IntKind.i64.wrap 7 < (U : Int)) = false := by rw [h7]; simp; omega
            clear h7
            have k2 := (five_cells HS7.out.drew.ly).2.2.1
            have iw : IntKind.i64.wrap ((k : Int) + 1) = (k : Int) + 1 := IntWalk.i64_in _ (by omega)
            clear HUU hU
            go_upto_region 30 with fail
            go_cut [175] from 163 to 175 (fun s175 wx => s175 = .bool false ∧ RSt R g r b P w (freeR (syncL (addL L s)) Q) (65 + 300 * k + 96 + 16) wx)
            case first =>
              go_region_held3 (fun w' => w'.cell? ⟨P, 2, none⟩ = some (.int .i64 8))
                (first | exact k2 | exact m2 | go_keep)
                (first
                  | (go_at_call 19
                     refine HU.out.mono ?_
                     rintro e x1 ⟨rfl, hs1⟩
                     have HS1 := Lib.hid hs1
                     have m2 := (five_cells hs1.ly).2.2.1
                     clear hs1)
                  | (go_at_call 18
                     refine (rs_next HS1.out _ HN7.out).mono ?_
                     rintro e x2 ⟨rfl, rfl⟩))
              all_goals go_wp2_with fail
              all_goals go_meet
              all_goals exact ⟨rfl, HS1.out⟩
            case rest =>
              obtain ⟨rfl, hs⟩ := hcut
              have HSC := Lib.hid hs
              clear hs k2 gu
              go_wp2
              go_roundw
              case rel => exact ⟨k + 1, _, M, by omega, by go_num, rfl, by omega, by omega, HN7.out, HSC.out.more (by omega)⟩
              case measure => simp [intOf]; omega
        case neg =>
          have HF := Lib.hid (rs_fits HS.out false (by simp; omega))
          have HL2 : Hid (2 ≤ L.live.length) := Lib.hid (by omega)
          clear hl1
          go_wp2_with fail
          refine HF.out.mono ?_
          rintro e w4 ⟨rfl, hs4, hb4⟩
          have hcx4 := HCX.out w4 hs4.bl
          have HA := Lib.hid (rs_add0 hs4 HL2.out (by rw [HN.out]; omega) a c (oneI 0 N) (HI.out.below hb4) (oneI_ok 0 N (by decide)))
          clear hs4 hb4 hcx
          go_wp2_with fail
          refine HA.out.mono ?_
          rintro e w5 ⟨rfl, hs5⟩
          have HY5 := Lib.hid (rs_sync hs5 (by omega))
          clear hs5 hcx4
          go_wp2_with fail
          refine HY5.out.mono ?_
          rintro e w8 ⟨rfl, hs8⟩
          have HZ8 := Lib.hid (rs_free hs8 (by omega) N (by show N ≤ L.next - 1 + 1; have := HN.out; omega))
          have hlen9 : (freeR (syncL L) N).live.length = 0 := by
            have h1 := HN.out
            have h2 := HS.out.lg.fl
            have h3 := HL2.out
            have h4 : ¬ N ≤ (syncL L).first := by show ¬ N ≤ L.first; omega
            unfold freeR
            rw [if_neg h4]
            show ((L.live.map flushE).drop (N - L.first)).length = 0
            rw [List.length_drop, List.length_map]
            omega
          have HLEN := Lib.hid hlen9
          clear hs8 hlen9
          go_wp2_with fail
          refine HZ8.out.mono ?_
          rintro e w9 ⟨rfl, hs9⟩
          have HU9 : Hid (Calls Tryz.prog 19 #[.pointer (some ⟨g, 0, none⟩)] w9 fun e y => e = .returned (.int .i64 0) ∧ RSt R g r b P w (freeR (syncL L) N) (65 + 300 * k + 96 + 16) y) := Lib.hid (by
            have h := rs_used hs9
            rw [HLEN.out] at h
            exact h)
          clear hs9
          go_wp2_with fail
          refine HU9.out.mono ?_
          rintro e w10 ⟨rfl, hs10⟩
          have hcx10 := HCX.out w10 hs10.bl
          have HF10 := Lib.hid (rs_fits hs10 true (by rw [HLEN.out]; rfl))
          clear hs10
          go_wp2_with fail
          refine HF10.out.mono ?_
          rintro e w11 ⟨rfl, hs11, -⟩
          have HS11 := Lib.hid hs11
          have HN11 : Hid ((freeR (syncL L) N).next = N) := Lib.hid (by rw [freeR_next]; exact HN.out)
          have hM1 : N ≤ k + 2 := by omega
          clear hs11 hcx10
          by_cases f1 : k < len1
          case neg =>
            have g1 : ¬ (k : Int) < (len1 : Int) := by omega
            have HUU : Hid (∃ U : Nat, U ≤ 6 ∧ Calls Tryz.prog 19 #[.pointer (some ⟨g, 0, none⟩)] w11.drew fun e y => e = .returned (.int .i64 (U : Nat)) ∧ RSt R g r b P w (freeR (syncL L) N) (65 + 300 * k + 96 + 16) y) := Lib.hid ⟨_, by have := HS11.out.lg.ll; omega, rs_used HS11.out.drew⟩
            obtain ⟨U, hU6, hU⟩ := HUU.out
            have HU := Lib.hid hU
            have h7 : IntKind.i64.wrap 7 = 7 := by decide
            have gu : decide (IntKind.i64.wrap 7 < (U : Int)) = false := by rw [h7]; simp; omega
            clear h7
            have k2 := (five_cells HS11.out.drew.ly).2.2.1
            have iw : IntKind.i64.wrap ((k : Int) + 1) = (k : Int) + 1 := IntWalk.i64_in _ (by omega)
            clear HUU hU
            go_upto_region 30 with fail
            go_cut [175] from 163 to 175 (fun s175 wx => s175 = .bool false ∧ RSt R g r b P w (freeR (syncL L) N) (65 + 300 * k + 96 + 16) wx)
            case first =>
              go_region_held3 (fun w' => w'.cell? ⟨P, 2, none⟩ = some (.int .i64 8))
                (first | exact k2 | exact m2 | go_keep)
                (first
                  | (go_at_call 19
                     refine HU.out.mono ?_
                     rintro e x1 ⟨rfl, hs1⟩
                     have HS1 := Lib.hid hs1
                     have m2 := (five_cells hs1.ly).2.2.1
                     clear hs1)
                  | (go_at_call 18
                     refine (rs_next HS1.out _ HN11.out).mono ?_
                     rintro e x2 ⟨rfl, rfl⟩))
              all_goals go_wp2_with fail
              all_goals go_meet
              all_goals exact ⟨rfl, HS1.out⟩
            case rest =>
              obtain ⟨rfl, hs⟩ := hcut
              have HSC := Lib.hid hs
              clear hs k2 gu
              go_wp2
              go_roundw
              case rel => exact ⟨k + 1, _, N, by omega, by go_num, rfl, by omega, by omega, HN11.out, HSC.out.more (by omega)⟩
              case measure => simp [intOf]; omega
          have g1 : (k : Int) < (len1 : Int) := by omega
          obtain ⟨kb1, ko1, ha1, hc, hkb⟩ := HV.out.at k f1
          obtain ⟨zb, hzb⟩ : ∃ zb, zb = z1 k := ⟨_, rfl⟩
          rw [← hzb] at hc
          have hcy : w11.cell? ⟨kb1, ko1 + k, none⟩ = some (.bool zb) := (World.cell?_of_block (HS11.out.bl.block kb1 hkb)).trans hc
          subst ha1
          have hkc1 : k < cap1 := by omega
          clear hc hkb hzb
          cases zb with
          | false =>
            have HUU : Hid (∃ U : Nat, U ≤ 6 ∧ Calls Tryz.prog 19 #[.pointer (some ⟨g, 0, none⟩)] w11.drew fun e y => e = .returned (.int .i64 (U : Nat)) ∧ RSt R g r b P w (freeR (syncL L) N) (65 + 300 * k + 96 + 16) y) := Lib.hid ⟨_, by have := HS11.out.lg.ll; omega, rs_used HS11.out.drew⟩
            obtain ⟨U, hU6, hU⟩ := HUU.out
            have HU := Lib.hid hU
            have h7 : IntKind.i64.wrap 7 = 7 := by decide
            have gu : decide (IntKind.i64.wrap 7 < (U : Int)) = false := by rw [h7]; simp; omega
            clear h7
            have k2 := (five_cells HS11.out.drew.ly).2.2.1
            have iw : IntKind.i64.wrap ((k : Int) + 1) = (k : Int) + 1 := IntWalk.i64_in _ (by omega)
            clear HUU hU
            go_upto_region 30 with fail
            go_cut [175] from 163 to 175 (fun s175 wx => s175 = .bool false ∧ RSt R g r b P w (freeR (syncL L) N) (65 + 300 * k + 96 + 16) wx)
            case first =>
              go_region_held3 (fun w' => w'.cell? ⟨P, 2, none⟩ = some (.int .i64 8))
                (first | exact k2 | exact m2 | go_keep)
                (first
                  | (go_at_call 19
                     refine HU.out.mono ?_
                     rintro e x1 ⟨rfl, hs1⟩
                     have HS1 := Lib.hid hs1
                     have m2 := (five_cells hs1.ly).2.2.1
                     clear hs1)
                  | (go_at_call 18
                     refine (rs_next HS1.out _ HN11.out).mono ?_
                     rintro e x2 ⟨rfl, rfl⟩))
              all_goals go_wp2_with fail
              all_goals go_meet
              all_goals exact ⟨rfl, HS1.out⟩
            case rest =>
              obtain ⟨rfl, hs⟩ := hcut
              have HSC := Lib.hid hs
              clear hs k2 gu
              go_wp2
              go_roundw
              case rel => exact ⟨k + 1, _, N, by omega, by go_num, rfl, by omega, by omega, HN11.out, HSC.out.more (by omega)⟩
              case measure => simp [intOf]; omega
          | true =>
            have HY := Lib.hid (rs_sync HS11.out (by omega))
            obtain ⟨Q, hQ⟩ : ∃ Q, Q = N - 1 := ⟨_, rfl⟩
            have HQ := Lib.hid hQ
            have hwq : IntKind.u64.wrap ((N : Int) - 1) = (Q : Int) := by rw [IntKind.wrap_u64, Int.emod_eq_of_lt (by omega) (by omega)]; omega
            clear hQ
            go_wp2_with fail
            refine HY.out.mono ?_
            rintro e w6 ⟨rfl, hs⟩
            have HZ := Lib.hid (rs_free hs (by omega) Q (by show Q ≤ (freeR (syncL L) N).next - 1 + 1; have h1 := HQ.out; have h2 := HN11.out; omega))
            clear hs hcy
            go_wp2_with fail
            refine HZ.out.mono ?_
            rintro e w7 ⟨rfl, hs⟩
            have HS7 := Lib.hid hs
            have HN7 : Hid ((freeR (syncL (freeR (syncL L) N)) Q).next = N) := Lib.hid (by rw [freeR_next]; exact HN11.out)
            clear hs hwq
            have HUU : Hid (∃ U : Nat, U ≤ 6 ∧ Calls Tryz.prog 19 #[.pointer (some ⟨g, 0, none⟩)] w7.drew fun e y => e = .returned (.int .i64 (U : Nat)) ∧ RSt R g r b P w (freeR (syncL (freeR (syncL L) N)) Q) (65 + 300 * k + 96 + 16 + 96 + 16) y) := Lib.hid ⟨_, by have := HS7.out.lg.ll; omega, rs_used HS7.out.drew⟩
            obtain ⟨U, hU6, hU⟩ := HUU.out
            have HU := Lib.hid hU
            have h7 : IntKind.i64.wrap 7 = 7 := by decide
            have gu : decide (IntKind.i64.wrap 7 < (U : Int)) = false := by rw [h7]; simp; omega
            clear h7
            have k2 := (five_cells HS7.out.drew.ly).2.2.1
            have iw : IntKind.i64.wrap ((k : Int) + 1) = (k : Int) + 1 := IntWalk.i64_in _ (by omega)
            clear HUU hU
            go_upto_region 30 with fail
            go_cut [175] from 163 to 175 (fun s175 wx => s175 = .bool false ∧ RSt R g r b P w (freeR (syncL (freeR (syncL L) N)) Q) (65 + 300 * k + 96 + 16 + 96 + 16) wx)
            case first =>
              go_region_held3 (fun w' => w'.cell? ⟨P, 2, none⟩ = some (.int .i64 8))
                (first | exact k2 | exact m2 | go_keep)
                (first
                  | (go_at_call 19
                     refine HU.out.mono ?_
                     rintro e x1 ⟨rfl, hs1⟩
                     have HS1 := Lib.hid hs1
                     have m2 := (five_cells hs1.ly).2.2.1
                     clear hs1)
                  | (go_at_call 18
                     refine (rs_next HS1.out _ HN7.out).mono ?_
                     rintro e x2 ⟨rfl, rfl⟩))
              all_goals go_wp2_with fail
              all_goals go_meet
              all_goals exact ⟨rfl, HS1.out⟩
            case rest =>
              obtain ⟨rfl, hs⟩ := hcut
              have HSC := Lib.hid hs
              clear hs k2 gu
              go_wp2
              go_roundw
              case rel => exact ⟨k + 1, _, N, by omega, by go_num, rfl, by omega, by omega, HN7.out, HSC.out.more (by omega)⟩
              case measure => simp [intOf]; omega

end Go.Proofs.YtkgdpmeheakdcaaGreat
