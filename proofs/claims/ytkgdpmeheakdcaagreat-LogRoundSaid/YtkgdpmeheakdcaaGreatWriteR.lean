/- Write: all its answers. -/
import Derived.Test.YtkgdpmeheakdcaaGreatWrite
namespace Go.Proofs.YtkgdpmeheakdcaaGreat
open Go.RowKit
set_option linter.all false
set_option maxRecDepth 100000

def goodB (data : ByteArray) : Bool := decide (1 ≤ data.size / 64 ∧ data.size / 64 ≤ 16 ∧ data.size % 64 = 0)
def writeR (D : DS) (node epoch a : Int) (data : ByteArray) : Int × DS :=
  if mayE D.on node ≠ 0 then (mayE D.on node, D) else if goodB data = false then (1, D) else if admE (D.table.getD node.toNat 0) epoch ≠ 0 then (34, D)
  else if thereB D.sectors a (data.size / 64 : Nat) = false then (30, D) else if goesB D = true then (14, goesD D) else (0, wrN (goesD D) node a data (data.size / 64))

theorem write_any {F : Nat → Prop} {b : Nat} {D : DS} {nb lb : Nat} {wv sv : Value} {w : World} (h : DiskIn F b D nb lb wv sv w) (ok : D.Ok) (node epoch a : Int) (data : ByteArray) (hds : data.size ≤ 100000) :
    Calls Tryz.prog 44 #[.pointer (some ⟨b, 0, none⟩), .int .i64 node, .int .u64 epoch, .int .i64 a, .string data] w fun e w' => e = .returned (.int .i64 (writeR D node epoch a data).1) ∧ DiskTo F b (writeR D node epoch a data).2 w w' := by
  have HM := Lib.hid (may_any h.blk node)
  have HF := Lib.hid (DiskTo.same h)
  unfold writeR
  by_cases hm : mayE D.on node = 0
  · rw [if_neg (by simpa using hm)]
    rw [hm] at HM
    obtain ⟨hon, h0, h1⟩ := mayE_zero hm
    obtain ⟨n, rfl⟩ := Int.eq_ofNat_of_zero_le h0
    rw [Int.toNat_natCast]
    obtain ⟨q, hq⟩ : ∃ q, q = data.size / 64 := ⟨_, rfl⟩
    obtain ⟨r, hr⟩ : ∃ r, r = data.size % 64 := ⟨_, rfl⟩
    have hs1 : ((data.size : Int)).tdiv 64 = q := by rw [Int.tdiv_eq_ediv_of_nonneg (by omega), hq]; omega
    have hs2 : ((data.size : Int)).tmod 64 = r := by rw [Int.tmod_eq_emod_of_nonneg (by omega), hr]; omega
    cases hgb : goodB data with
    | false =>
      rw [if_pos rfl]
      have hbad : q < 1 ∨ 16 < q ∨ (1 ≤ q ∧ q ≤ 16 ∧ r ≠ 0) := by
        unfold goodB at hgb
        rw [← hq, ← hr] at hgb
        simp at hgb
        omega
      have hqb : q ≤ 2000 := by omega
      have hrb : r < 64 := by omega
      clear h ok hm hon h0 h1 hgb hq hr
      rcases hbad with hb | hb | ⟨hb1, hb2, hb3⟩
      · have g1 : decide ((q : Int) < 1) = true := by simp; omega
        go_enter Tryz.func44, Tryz.ntmps44
        go_wp2_with fail
        refine HM.out.mono ?_
        rintro e w1 ⟨rfl, rfl⟩
        go_wp2
        go_ret
        exact ⟨rfl, HF.out⟩
      · have g1 : decide ((q : Int) < 1) = false := by simp; omega
        have g2 : decide (16 < (q : Int)) = true := by simp; omega
        go_enter Tryz.func44, Tryz.ntmps44
        go_wp2_with fail
        refine HM.out.mono ?_
        rintro e w1 ⟨rfl, rfl⟩
        go_wp2
        go_ret
        exact ⟨rfl, HF.out⟩
      · have g1 : decide ((q : Int) < 1) = false := by simp; omega
        have g2 : decide (16 < (q : Int)) = false := by simp; omega
        have g3 : ((r : Int) != 0) = true := by simp; omega
        go_enter Tryz.func44, Tryz.ntmps44
        go_wp2_with fail
        refine HM.out.mono ?_
        rintro e w1 ⟨rfl, rfl⟩
        go_wp2
        go_ret
        exact ⟨rfl, HF.out⟩
    | true =>
      rw [if_neg (by simp)]
      have hgood : 1 ≤ q ∧ q ≤ 16 ∧ r = 0 := by
        unfold goodB at hgb
        rw [← hq, ← hr] at hgb
        simpa using hgb
      obtain ⟨q1, q2, rfl⟩ := hgood
      have HA := Lib.hid (admits_any h.blk n (by omega) epoch)
      rw [← hq]
      rcases admE_cases (D.table.getD n 0) epoch with ha | ha
      · rw [if_neg (by rw [ha]; decide)]
        cases ht : thereB D.sectors a q with
        | false =>
          rw [if_pos rfl]
          have HT := Lib.hid (there_any h.blk (by have := ok.s0; omega) ok.s1 a q)
          rw [ht] at HT
          rw [ha] at HA
          clear h ok hm hon h0 h1 hgb hq hr ha ht
          go_enter Tryz.func44, Tryz.ntmps44
          go_wp2_with fail
          refine HM.out.mono ?_
          rintro e w1 ⟨rfl, rfl⟩
          go_wp2_with fail
          refine HA.out.mono ?_
          rintro e w1 ⟨rfl, rfl⟩
          go_wp2_with fail
          refine HT.out.mono ?_
          rintro e w1 ⟨rfl, rfl⟩
          go_wp2
          go_ret
          exact ⟨rfl, HF.out⟩
        | true =>
          rw [if_neg (by simp)]
          cases hg : goesB D with
          | true =>
            rw [if_pos rfl]
            have HT := Lib.hid (there_any h.blk (by have := ok.s0; omega) ok.s1 a q)
            have HG := Lib.hid (goes_any h hon ok)
            rw [ht] at HT
            rw [ha] at HA
            rw [hg] at HG
            clear h ok hm hon h0 h1 hgb hq hr ha ht hg
            go_enter Tryz.func44, Tryz.ntmps44
            go_wp2_with fail
            refine HM.out.mono ?_
            rintro e w1 ⟨rfl, rfl⟩
            go_wp2_with fail
            refine HA.out.mono ?_
            rintro e w1 ⟨rfl, rfl⟩
            go_wp2_with fail
            refine HT.out.mono ?_
            rintro e w1 ⟨rfl, rfl⟩
            go_wp2_with fail
            refine HG.out.mono ?_
            rintro e w1 ⟨rfl, hd⟩
            have HD := Lib.hid hd
            clear hd
            go_wp2
            go_ret
            exact ⟨rfl, HD.out⟩
          | false =>
            rw [if_neg (by simp)]
            exact write_ok h ok n (by omega) epoch a data q q1 q2 (by omega) hon ha ht hg
      · rw [if_pos (by rw [ha]; decide)]
        rw [ha] at HA
        clear h ok hm hon h0 h1 hgb hq hr ha
        go_enter Tryz.func44, Tryz.ntmps44
        go_wp2_with fail
        refine HM.out.mono ?_
        rintro e w1 ⟨rfl, rfl⟩
        go_wp2_with fail
        refine HA.out.mono ?_
        rintro e w1 ⟨rfl, rfl⟩
        go_wp2
        go_ret
        exact ⟨rfl, HF.out⟩
  · rw [if_pos (by simpa using hm)]
    have hmb : (mayE D.on node != 0) = true := by simpa using hm
    clear h ok hm
    generalize mayE D.on node = m at *
    go_enter Tryz.func44, Tryz.ntmps44
    go_wp2_with fail
    refine HM.out.mono ?_
    rintro e w1 ⟨rfl, rfl⟩
    go_wp2
    go_ret
    exact ⟨rfl, HF.out⟩

end Go.Proofs.YtkgdpmeheakdcaaGreat
