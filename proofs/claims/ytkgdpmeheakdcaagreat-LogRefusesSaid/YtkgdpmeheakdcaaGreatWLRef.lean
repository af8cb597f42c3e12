/- LogRefuses: walk. -/
import Derived.Test.YtkgdpmeheakdcaaGreatLogH
namespace Go.Proofs.YtkgdpmeheakdcaaGreat
open Go.RowKit
set_option linter.all false
set_option maxRecDepth 100000

set_option maxHeartbeats 8000000 in
theorem lrefuses_walk (a0 : Option Addr) (len0 cap0 : Nat) (z0 : List Im) (n : Int) (w : World) (w0 : ImgsRow w a0 len0 cap0 z0) :
    Calls Tryz.prog 4 #[.slice a0 len0 cap0, .int .i64 n] w fun e w' => e = .returned (.bool true) ∧ Below w.heap.size w w' := by
  have HAL := Lib.hid alive12_any
  have HI := Lib.hid w0
  have HLI := Lib.hid (blight_any a0 len0 cap0 z0 w w0)
  clear w0
  go_enter Tryz.func4, Tryz.ntmps4
  go_wp2_with fail
  refine HLI.out.mono ?_
  rintro e w0 ⟨v, rfl, hv, hb⟩
  have B0 := Lib.hid hb
  cases v with
  | false =>
    clear hb hv
    go_wp2_with fail
    refine (HAL.out w0).mono ?_
    rintro e w9 ⟨rfl, hb⟩
    have B9 := Lib.hid (B0.out.trans (hb.mono B0.out.size))
    clear hb
    go_wp2
    go_ret
    exact ⟨rfl, B9.out⟩
  | true =>
    have h70 : len0 ≤ 70 := hv rfl
    have H0 := Lib.hid (ready_any w0)
    clear hb hv
    go_wp2_with fail
    refine H0.out.mono ?_
    rintro e w1 ⟨b, p, m, rfl, hd, hr, hb, hm⟩
    have hmq : m ≤ w1.heap.size := by have := hr.lt; have := hr.ge; omega
    have ha : Below w1.heap.size w1 (w1.alloc (.cells #[.int .i64 2, .int .i64 10, .int .i64 8, .int .i64 4, .int .i64 32] 31)) := (Below.refl _ _).alloc (Nat.le_refl _) _
    have hz : (w1.alloc (.cells #[.int .i64 2, .int .i64 10, .int .i64 8, .int .i64 4, .int .i64 32] 31)).heap.size = w1.heap.size + 1 := by simp
    obtain ⟨R, hR⟩ : ∃ R : Nat → Prop, R = fun k => (w0.heap.size ≤ k ∧ k < m) ∨ w1.heap.size < k := ⟨_, rfl⟩
    have hRb : ∀ k, R k → w.heap.size ≤ k := fun k hk => by
      rw [hR] at hk
      have h0 := B0.out.size
      rcases hk with h | h
      · omega
      · have := hb.size; omega
    have HRB := Lib.hid hRb
    have HRN : Hid (∀ k, w1.heap.size + 1 ≤ k → R k) := Lib.hid (fun k hk => by rw [hR]; exact .inr hk)
    have d2 : DiskP R b dk9 (w1.alloc (.cells #[.int .i64 2, .int .i64 10, .int .i64 8, .int .i64 4, .int .i64 32] 31)) := (hd.below ha).mono (fun k hk => by rw [hR]; exact .inl hk)
    have HO := Lib.hid (open_any d2 di9 (fun k hk => HRN.out k (by omega)) (by decide))
    have hb1 := B0.out.trans (hb.mono B0.out.size)
    have B2 := Lib.hid (hb1.trans (ha.mono hb1.size))
    have HZ := Lib.hid hz
    clear hd hr hb hm ha hz hRb d2 hR hmq H0 hb1
    go_wp2_with fail
    refine HO.out.mono ?_
    rintro e w3 ⟨g, r, rfl, hl, hg⟩
    have S3 : Hid (w1.heap.size + 1 ≤ w3.heap.size) := Lib.hid (by rw [← HZ.out]; exact hg.size)
    have B3 := Lib.hid (B2.out.trans (hg.below B2.out.size HRB.out))
    have L3 := Lib.hid hl
    clear hl hg HO B2
    generalize w1.alloc (.cells #[.int .i64 2, .int .i64 10, .int .i64 8, .int .i64 4, .int .i64 32] 31) = W2 at *
    obtain ⟨t, ht⟩ : ∃ t, t = n % 2 := ⟨_, rfl⟩
    have ht0 : 0 ≤ t := by omega
    have ht1 : t ≤ 1 := by omega
    have hand : bits .and .i64 n 1 = t := by rw [i64_and1, ht]
    have H1 := Lib.hid (one_any 1 1 (by decide))
    unfold oneI Im.val at H1
    dsimp only at H1
    clear ht
    go_wp2
    go_loopw [11] (fun i wr => ∃ (k : Nat) (L : LS), k ≤ 1 ∧ (k : Int) ≤ t ∧ i = .int .i64 k ∧ LG L ∧ L.next = k + 1 ∧ L.live.length = k ∧ LP R g r b L 65 wr ∧ Below w.heap.size w wr ∧ w1.heap.size + 1 ≤ wr.heap.size) (fun i _ => 1 - (intOf i).toNat)
    case atStart => exact ⟨0, L0, by omega, by omega, rfl, good_L0, rfl, rfl, L3.out, B3.out, S3.out⟩
    case round =>
      obtain ⟨k, L, hk, hkt, rfl, hgd, hnx, hlen, hl, hb, hs⟩ := hrel
      have HG := Lib.hid hgd
      have HL := Lib.hid hl
      have HB := Lib.hid hb
      have HS := Lib.hid hs
      have HLN := Lib.hid hlen
      by_cases hlt : (k : Int) < t
      · have hk0 : k = 0 := by omega
        have ht1' : t = 1 := by omega
        subst hk0
        subst ht1'
        clear hgd hl hb hs hlen
        go_wp2_with fail
        refine (H1.out wr).mono ?_
        rintro e w4 ⟨rfl, hb⟩
        have hmk := mkIm ((1 : Nat) : Int) ((1 : Nat) : Int) (str (oneL 1)) w4
        have ha : Below w4.heap.size w4 (w4.alloc (.cells #[.int .i64 ((1 : Nat) : Int), .int .u64 ((1 : Nat) : Int), .string (str (oneL 1))] 24)) := (Below.refl _ _).alloc (Nat.le_refl _) _
        have hb4 := HB.out.trans (hb.mono HB.out.size)
        have B4 := Lib.hid (hb4.trans (ha.mono hb4.size))
        have L4 := Lib.hid ((HL.out.below hb).below ha)
        have S4 : Hid (w1.heap.size + 1 ≤ (w4.alloc (.cells #[.int .i64 ((1 : Nat) : Int), .int .u64 ((1 : Nat) : Int), .string (str (oneL 1))] 24)).heap.size) := Lib.hid (Nat.le_trans (Nat.le_trans HS.out hb.size) ha.size)
        have HA := Lib.hid (add_room L4.out HG.out (fun k hk => HRN.out k (Nat.le_trans S4.out hk)) (by omega) (by rw [HLN.out]; decide) (i := oneI 1 1) (heap_alloc_new w4 _) (oneI_ok 1 1 (by decide)) (by decide))
        clear hb ha hb4
        go_wp2_with fail
        refine HA.out.mono ?_
        rintro e w5 ⟨s, hs, rfl, hl, hg⟩
        have hnx2 : (addL L s).next = 1 + 1 := by
          show L.next + 1 = 1 + 1
          omega
        have HREL : Hid (LG (addL L s) ∧ (addL L s).next = 1 + 1 ∧ (addL L s).live.length = 1 ∧ LP R g r b (addL L s) 65 w5 ∧ Below w.heap.size w w5 ∧ w1.heap.size + 1 ≤ w5.heap.size) := Lib.hid ⟨add_good HG.out (by rw [HLN.out]; decide) s hs (by omega), hnx2, by show (L.live ++ [_]).length = 1; rw [List.length_append, HLN.out]; rfl, hl, B4.out.trans (hg.below B4.out.size HRB.out), Nat.le_trans S4.out hg.size⟩
        clear hl hg hmk hs hnx2
        go_wp2
        go_roundw
        case rel => exact ⟨1, addL L s, by omega, by omega, by go_num, HREL.out⟩
        case measure => simp [intOf]
      · have hlt' : ¬ (k : Int) < t := hlt
        clear hgd hl hb hs hlen
        have HNX : Hid (∀ wx, LP R g r b L 65 wx → Calls Tryz.prog 18 #[.pointer (some ⟨g, 0, none⟩)] wx fun e w' => e = .returned (.int .u64 L.next) ∧ wx = w') := Lib.hid (fun wx h => next_any h)
        obtain ⟨U, hU⟩ : ∃ U : Nat, U = 3 * k := ⟨_, rfl⟩
        have HUS : Hid (∀ wx, LP R g r b L 65 wx → Calls Tryz.prog 19 #[.pointer (some ⟨g, 0, none⟩)] wx fun e w' => e = .returned (.int .i64 (U : Int)) ∧ Below wx.heap.size wx w') := Lib.hid (fun wx h => by
          have hu := used_any h (by rw [HLN.out]; omega) HG.out.n3
          rw [used3 HG.out _ (Nat.le_refl _), HLN.out, ← hU] at hu
          exact hu)
        have HUU := Lib.hid hU
        obtain ⟨P, hP⟩ : ∃ P, P = pendN L.live L.live.length := ⟨_, rfl⟩
        have hPk : P ≤ 1 := by rw [hP, HLN.out]; exact Nat.le_trans (pendN_le _ _) hk
        have HPE : Hid (∀ wx, LP R g r b L 65 wx → Calls Tryz.prog 20 #[.pointer (some ⟨g, 0, none⟩)] wx fun e w' => e = .returned (.int .i64 P) ∧ Below wx.heap.size wx w') := Lib.hid (fun wx h => by rw [hP]; exact pending_any h (by rw [HLN.out]; omega))
        have HPP := Lib.hid hP
        clear hP hU
        have N5 := Lib.hid (HNX.out wr HL.out)
        go_wp2_with fail
        refine N5.out.mono ?_
        rintro e wx ⟨rfl, rfl⟩
        have U5 := Lib.hid (HUS.out wr HL.out)
        go_wp2_with fail
        refine U5.out.mono ?_
        rintro e w6 ⟨rfl, hb⟩
        have B6 := Lib.hid (HB.out.trans (hb.mono HB.out.size))
        have L6 := Lib.hid (HL.out.below hb)
        have S6 : Hid (w1.heap.size + 1 ≤ w6.heap.size) := Lib.hid (Nat.le_trans HS.out hb.size)
        have P6 := Lib.hid (HPE.out w6 L6.out)
        clear hb
        go_wp2_with fail
        refine P6.out.mono ?_
        rintro e w7 ⟨rfl, hb⟩
        have B7 := Lib.hid (B6.out.trans (hb.mono B6.out.size))
        have L7 := Lib.hid (L6.out.below hb)
        have S7 : Hid (w1.heap.size + 1 ≤ w7.heap.size) := Lib.hid (Nat.le_trans S6.out hb.size)
        have HA := Lib.hid (add_any L7.out HG.out (fun k hk => HRN.out k (Nat.le_trans S7.out hk)) (by omega) a0 len0 cap0 z0 (HI.out.below B7.out) (by omega))
        clear hb
        go_wp2_with fail
        refine HA.out.mono ?_
        rintro e w8 (⟨s, hs, hl1, rfl, hl, hg⟩ | ⟨c, hc, hcc, rfl, hl, hg⟩)
        · have B8 := Lib.hid (B7.out.trans (hg.below B7.out.size HRB.out))
          have L8 := Lib.hid hl
          have G8 := Lib.hid (add_good HG.out hl1 s hs (by omega))
          have hlen8 : (addL L s).live.length = k + 1 := by show (L.live ++ [_]).length = k + 1; rw [List.length_append, HLN.out]; rfl
          have HLN8 := Lib.hid hlen8
          clear hl hg hs hl1 hlen8
          go_wp2_with fail
          refine (HAL.out w8).mono ?_
          rintro e w9 ⟨rfl, hb⟩
          have B9 := Lib.hid (B8.out.trans (hb.mono B8.out.size))
          have L9 := Lib.hid (L8.out.below hb)
          have N9 : Hid (Calls Tryz.prog 18 #[.pointer (some ⟨g, 0, none⟩)] w9 fun e w' => e = .returned (.int .u64 ((L.next + 1 : Nat) : Int)) ∧ w9 = w') := Lib.hid (next_any L9.out)
          have U9 := used_any L9.out (by rw [HLN8.out]; omega) G8.out.n3
          rw [used3 G8.out _ (Nat.le_refl _), HLN8.out] at U9
          have P9 : Hid (∀ wx, LP R g r b (addL L s) 65 wx → Calls Tryz.prog 20 #[.pointer (some ⟨g, 0, none⟩)] wx fun e w' => e = .returned (.int .i64 ((P + 1 : Nat) : Int)) ∧ Below wx.heap.size wx w') := Lib.hid (fun wx h => by
            have hp := pending_any h (by rw [HLN8.out]; omega)
            have he : pendN (addL L s).live (addL L s).live.length = P + 1 := by rw [HPP.out]; exact pendN_snoc L.live _ rfl
            rw [he] at hp
            exact hp)
          have i1 : IntKind.u64.wrap ((L.next : Int) + 1) = (L.next : Int) + 1 := by rw [IntKind.wrap_u64, Int.emod_eq_of_lt (by omega) (by omega)]
          have i2 : IntKind.i64.wrap ((P : Int) + 1) = (P : Int) + 1 := IntWalk.i64_in _ (by omega)
          have j1 : ((L.next + 1 : Nat) : Int) = (L.next : Int) + 1 := by omega
          have j2 : ((P + 1 : Nat) : Int) = (P : Int) + 1 := by omega
          rw [j1] at N9
          have j3 : ((3 * (k + 1) : Nat) : Int) = (U : Int) + 3 := by have := HUU.out; omega
          rw [j3] at U9
          replace U9 := Lib.hid U9
          have hUU : (U : Int) < (U : Int) + 3 := by omega
          clear hb j1 j3
          go_wp2_with fail
          refine N9.out.mono ?_
          rintro e wx ⟨rfl, rfl⟩
          go_wp2_with fail
          refine U9.out.mono ?_
          rintro e wA ⟨rfl, hb⟩
          have BA := Lib.hid (B9.out.trans (hb.mono B9.out.size))
          have PA := P9.out wA (L9.out.below hb)
          rw [j2] at PA
          replace PA := Lib.hid PA
          clear hb j2
          go_wp2_with fail
          refine PA.out.mono ?_
          rintro e wB ⟨rfl, hb⟩
          have BB := Lib.hid (BA.out.trans (hb.mono BA.out.size))
          clear hb
          go_wp2
          go_ret
          exact ⟨rfl, BB.out⟩
        · have B8 := Lib.hid (B7.out.trans (hg.below B7.out.size HRB.out))
          have L8 := Lib.hid hl
          clear hl hg hcc
          rcases hc with rfl | rfl | rfl | rfl
          all_goals
            go_wp2_with fail
            refine (HAL.out w8).mono ?_
            rintro e w9 ⟨rfl, hb⟩
            have B9 := Lib.hid (B8.out.trans (hb.mono B8.out.size))
            have L9 := Lib.hid (L8.out.below hb)
            have N9 := Lib.hid (HNX.out w9 L9.out)
            have U9 := Lib.hid (HUS.out w9 L9.out)
            clear hb
            go_wp2_with fail
            refine N9.out.mono ?_
            rintro e wx ⟨rfl, rfl⟩
            go_wp2_with fail
            refine U9.out.mono ?_
            rintro e wA ⟨rfl, hb⟩
            have BA := Lib.hid (B9.out.trans (hb.mono B9.out.size))
            have LA := Lib.hid (L9.out.below hb)
            have PA := Lib.hid (HPE.out wA LA.out)
            clear hb
            go_wp2_with fail
            refine PA.out.mono ?_
            rintro e wB ⟨rfl, hb⟩
            have BB := Lib.hid (BA.out.trans (hb.mono BA.out.size))
            have KB := Lib.hid (broken_any (LA.out.below hb))
            clear hb
            go_wp2_with fail
            refine KB.out.mono ?_
            rintro e wC ⟨rfl, rfl⟩
            go_wp2
            go_ret
            exact ⟨rfl, BB.out⟩

end Go.Proofs.YtkgdpmeheakdcaaGreat
