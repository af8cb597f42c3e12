/- Barrier, Admit, Fence, Put. -/
import Derived.Test.YtkgdpmeheakdcaaGreatGoes
namespace Go.Proofs.YtkgdpmeheakdcaaGreat
open Go.RowKit
set_option linter.all false
set_option maxRecDepth 100000

theorem mayE_zero {on : Bool} {node : Int} (h : mayE on node = 0) : on = true ∧ 0 ≤ node ∧ node ≤ 16 := by
  unfold mayE at h
  cases on with
  | false => simp at h
  | true =>
    simp at h
    by_cases h1 : node < 0
    · simp [h1] at h
    · by_cases h2 : 16 < node
      · simp [h1, h2] at h
      · exact ⟨rfl, by omega, by omega⟩
theorem admE_cases (t e : Int) : admE t e = 0 ∨ admE t e = 34 := by
  unfold admE
  by_cases h : e = 0
  · simp [h]
  · by_cases h2 : t = e
    · simp [h, h2]
    · simp [h, h2]

def barrierR (D : DS) (node epoch : Int) : Int × DS :=
  if mayE D.on node ≠ 0 then (mayE D.on node, D) else if admE (D.table.getD node.toNat 0) epoch ≠ 0 then (34, D) else if goesB D = true then (14, goesD D) else (0, settle (goesD D) node)
def admitR (D : DS) (node epoch : Int) : Int × DS :=
  if mayE D.on node ≠ 0 then (mayE D.on node, D) else if epoch ≤ D.last then (8, D) else if goesB D = true then (14, goesD D) else (0, { goesD D with table := D.table.set node.toNat epoch, last := epoch })
def fenceR (D : DS) (node : Int) : Int × DS :=
  if mayE D.on node ≠ 0 then (mayE D.on node, D) else if goesB D = true then (14, goesD D) else (0, { settle (goesD D) node with table := D.table.set node.toNat 0 })
def putR (D : DS) (node word : Int) : Int × DS :=
  if mayE D.on node ≠ 0 then (mayE D.on node, D) else if goesB D = true then (14, goesD D) else (0, { goesD D with words := D.words.set node.toNat word })

theorem goesD_keeps {D : DS} (h : goesB D = false) : (goesD D).waits = D.waits ∧ (goesD D).table = D.table ∧ (goesD D).words = D.words ∧ (goesD D).now = D.now ∧ (goesD D).lasts = D.lasts ∧ (goesD D).stays = D.stays ∧ (goesD D).sectors = D.sectors ∧ (goesD D).on = D.on ∧ (goesD D).last = D.last ∧ (goesD D).seq = D.seq := by
  unfold goesB at h
  unfold goesD
  cases ha : D.armed with
  | false => simp
  | true =>
    rw [ha] at h
    have hl : 0 < D.left := by simpa using h
    simp [hl]

theorem DiskTo.store {F : Nat → Prop} {b : Nat} {D : DS} {w w1 : World} (hd : DiskTo F b D w w1) (hb : F b) : ∃ F' nb lb wv sv, DiskIn F' b D nb lb wv sv w1 ∧ Grow F w w1 ∧ ∀ k, F' k → F k ∨ w.heap.size ≤ k := by
  obtain ⟨F', ⟨nb, lb, wv, sv, h⟩, hg, hF⟩ := hd
  exact ⟨F', nb, lb, wv, sv, h, hg, hF⟩


theorem barrier_any {F : Nat → Prop} {b : Nat} {D : DS} {nb lb : Nat} {wv sv : Value} {w : World} (h : DiskIn F b D nb lb wv sv w) (ok : D.Ok) (node epoch : Int) :
    Calls Tryz.prog 64 #[.pointer (some ⟨b, 0, none⟩), .int .i64 node, .int .u64 epoch] w fun e w' => e = .returned (.int .i64 (barrierR D node epoch).1) ∧ DiskTo F b (barrierR D node epoch).2 w w' := by
  have HM := Lib.hid (may_any h.blk node)
  unfold barrierR
  by_cases hm : mayE D.on node = 0
  · rw [if_neg (by simpa using hm)]
    rw [hm] at HM
    obtain ⟨hon, h0, h1⟩ := mayE_zero hm
    obtain ⟨n, rfl⟩ := Int.eq_ofNat_of_zero_le h0
    have HA := Lib.hid (admits_any h.blk n (by omega) epoch)
    rw [Int.toNat_natCast]
    rcases admE_cases (D.table.getD n 0) epoch with ha | ha
    · rw [if_neg (by simpa using ha)]
      rw [ha] at HA
      have HG := Lib.hid (goes_any h hon ok)
      cases hg : goesB D with
      | true =>
        rw [if_pos rfl]
        rw [hg] at HG
        clear h ok hm hon h0 h1 ha hg
        go_enter Tryz.func64, Tryz.ntmps64
        go_wp2_with fail
        refine HM.out.mono ?_
        rintro e w1 ⟨rfl, rfl⟩
        go_wp2_with fail
        refine HA.out.mono ?_
        rintro e w1 ⟨rfl, rfl⟩
        go_wp2_with fail
        refine HG.out.mono ?_
        rintro e w1 ⟨rfl, hd⟩
        have HD := Lib.hid hd
        clear hd
        go_wp2
        go_ret
        exact ⟨rfl, HD.out⟩
      | false =>
        rw [if_neg (by simp)]
        rw [hg] at HG
        have hwn : (goesD D).waits.length ≤ 1000000 := by rw [(goesD_keeps hg).1]; have := ok.wn; omega
        clear h ok hm hon h0 h1 ha hg
        go_enter Tryz.func64, Tryz.ntmps64
        go_wp2_with fail
        refine HM.out.mono ?_
        rintro e w1 ⟨rfl, rfl⟩
        go_wp2_with fail
        refine HA.out.mono ?_
        rintro e w1 ⟨rfl, rfl⟩
        go_wp2_with fail
        refine HG.out.mono ?_
        rintro e w1 ⟨rfl, F', ⟨nb', lb', wv', sv', hd⟩, hgr, hF⟩
        have HS := Lib.hid (settle_any hd n hwn)
        have HGR := Lib.hid hgr
        have HFF := Lib.hid hF
        clear hd hgr hF hwn
        go_wp2_with fail
        refine HS.out.mono ?_
        rintro e w2 ⟨rfl, hd2⟩
        have HFin := Lib.hid (DiskTo.trans HGR.out HFF.out hd2)
        clear hd2
        go_wp2
        go_ret
        exact ⟨rfl, HFin.out⟩
    · rw [if_pos (by rw [ha]; decide)]
      rw [ha] at HA
      have HF := Lib.hid (DiskTo.same h)
      clear h ok hm hon h0 h1 ha
      go_enter Tryz.func64, Tryz.ntmps64
      go_wp2_with fail
      refine HM.out.mono ?_
      rintro e w1 ⟨rfl, rfl⟩
      go_wp2_with fail
      refine HA.out.mono ?_
      rintro e w1 ⟨rfl, rfl⟩
      go_wp2
      go_ret
      exact ⟨rfl, HF.out⟩
  · rw [if_pos (by simpa using hm)]
    have hmb : (mayE D.on node != 0) = true := by simpa using hm
    have HF := Lib.hid (DiskTo.same h)
    clear h ok hm
    generalize mayE D.on node = m at *
    go_enter Tryz.func64, Tryz.ntmps64
    go_wp2_with fail
    refine HM.out.mono ?_
    rintro e w1 ⟨rfl, rfl⟩
    go_wp2
    go_ret
    exact ⟨rfl, HF.out⟩

theorem fence_any {F : Nat → Prop} {b : Nat} {D : DS} {nb lb : Nat} {wv sv : Value} {w : World} (h : DiskIn F b D nb lb wv sv w) (ok : D.Ok) (node : Int) :
    Calls Tryz.prog 75 #[.pointer (some ⟨b, 0, none⟩), .int .i64 node] w fun e w' => e = .returned (.int .i64 (fenceR D node).1) ∧ DiskTo F b (fenceR D node).2 w w' := by
  have HM := Lib.hid (may_any h.blk node)
  unfold fenceR
  by_cases hm : mayE D.on node = 0
  · rw [if_neg (by simpa using hm)]
    rw [hm] at HM
    obtain ⟨hon, h0, h1⟩ := mayE_zero hm
    obtain ⟨n, rfl⟩ := Int.eq_ofNat_of_zero_le h0
    rw [Int.toNat_natCast]
    have HG := Lib.hid (goes_any h hon ok)
    cases hg : goesB D with
    | true =>
      rw [if_pos rfl]
      rw [hg] at HG
      clear h ok hm hon h0 h1 hg
      go_enter Tryz.func75, Tryz.ntmps75
      go_wp2_with fail
      refine HM.out.mono ?_
      rintro e w1 ⟨rfl, rfl⟩
      go_wp2_with fail
      refine HG.out.mono ?_
      rintro e w1 ⟨rfl, hd⟩
      have HD := Lib.hid hd
      clear hd
      go_wp2
      go_ret
      exact ⟨rfl, HD.out⟩
    | false =>
      rw [if_neg (by simp)]
      rw [hg] at HG
      have hwn : (goesD D).waits.length ≤ 1000000 := by rw [(goesD_keeps hg).1]; have := ok.wn; omega
      have HT := Lib.hid ((goesD_keeps hg).2.1)
      have hlt : (n : Int) < 17 := by omega
      have hltn : n < 17 := by omega
      clear h ok hm hon h0 h1 hg
      go_enter Tryz.func75, Tryz.ntmps75
      go_wp2_with fail
      refine HM.out.mono ?_
      rintro e w1 ⟨rfl, rfl⟩
      go_wp2_with fail
      refine HG.out.mono ?_
      rintro e w1 ⟨rfl, F', ⟨nb', lb', wv', sv', hd⟩, hgr, hF⟩
      have HS := Lib.hid (settle_any hd n hwn)
      have HGR := Lib.hid hgr
      have HFF := Lib.hid hF
      clear hd hgr hF hwn
      go_wp2_with fail
      refine HS.out.mono ?_
      rintro e w2 ⟨rfl, hd2⟩
      obtain ⟨F2, ⟨nb2, lb2, wv2, sv2, hd2'⟩, hg2, hF2⟩ := DiskTo.trans HGR.out HFF.out hd2
      have ht := hd2'.blk.tab n hltn
      have ft := hd2'.blk.fz (6 + n)
      have hst := hd2'.store (hd2'.blk.setTab n hltn 0) rfl rfl rfl rfl
      have hfin : DiskTo F b { settle (goesD D) n with table := D.table.set n 0 } w (w2.setCell ⟨b, 6 + n, none⟩ (.int .u64 0)) := by
        rw [← HT.out]
        exact DiskTo.trans hg2 hF2 (DiskTo.mk' hst (Grow.setCell hd2'.fb _) (fun k hk => .inl hk))
      have HFin := Lib.hid hfin
      generalize (settle (goesD D) n).table.getD n 0 = tv at ht
      clear hd2 hd2' hg2 hF2 hst hfin
      go_wp2
      go_ret
      exact ⟨rfl, HFin.out⟩
  · rw [if_pos (by simpa using hm)]
    have hmb : (mayE D.on node != 0) = true := by simpa using hm
    have HF := Lib.hid (DiskTo.same h)
    clear h ok hm
    generalize mayE D.on node = m at *
    go_enter Tryz.func75, Tryz.ntmps75
    go_wp2_with fail
    refine HM.out.mono ?_
    rintro e w1 ⟨rfl, rfl⟩
    go_wp2
    go_ret
    exact ⟨rfl, HF.out⟩

theorem put_any {F : Nat → Prop} {b : Nat} {D : DS} {nb lb : Nat} {wv sv : Value} {w : World} (h : DiskIn F b D nb lb wv sv w) (ok : D.Ok) (node word : Int) :
    Calls Tryz.prog 76 #[.pointer (some ⟨b, 0, none⟩), .int .i64 node, .int .u64 word] w fun e w' => e = .returned (.int .i64 (putR D node word).1) ∧ DiskTo F b (putR D node word).2 w w' := by
  have HM := Lib.hid (may_any h.blk node)
  unfold putR
  by_cases hm : mayE D.on node = 0
  · rw [if_neg (by simpa using hm)]
    rw [hm] at HM
    obtain ⟨hon, h0, h1⟩ := mayE_zero hm
    obtain ⟨n, rfl⟩ := Int.eq_ofNat_of_zero_le h0
    rw [Int.toNat_natCast]
    have HG := Lib.hid (goes_any h hon ok)
    cases hg : goesB D with
    | true =>
      rw [if_pos rfl]
      rw [hg] at HG
      clear h ok hm hon h0 h1 hg
      go_enter Tryz.func76, Tryz.ntmps76
      go_wp2_with fail
      refine HM.out.mono ?_
      rintro e w1 ⟨rfl, rfl⟩
      go_wp2_with fail
      refine HG.out.mono ?_
      rintro e w1 ⟨rfl, hd⟩
      have HD := Lib.hid hd
      clear hd
      go_wp2
      go_ret
      exact ⟨rfl, HD.out⟩
    | false =>
      rw [if_neg (by simp)]
      rw [hg] at HG
      have HT := Lib.hid ((goesD_keeps hg).2.2.1)
      have hlt : (n : Int) < 17 := by omega
      have hltn : n < 17 := by omega
      clear h ok hm hon h0 h1 hg
      go_enter Tryz.func76, Tryz.ntmps76
      go_wp2_with fail
      refine HM.out.mono ?_
      rintro e w1 ⟨rfl, rfl⟩
      go_wp2_with fail
      refine HG.out.mono ?_
      rintro e w1 ⟨rfl, F', ⟨nb', lb', wv', sv', hd⟩, hgr, hF⟩
      have ht := hd.blk.wrd n hltn
      have ft := hd.blk.fz (23 + n)
      have hst := hd.store (hd.blk.setWrd n hltn word) rfl rfl rfl rfl
      have hfin : DiskTo F b { goesD D with words := D.words.set n word } w (w1.setCell ⟨b, 23 + n, none⟩ (.int .u64 word)) := by
        rw [← HT.out]
        exact DiskTo.trans hgr hF (DiskTo.mk' hst (Grow.setCell hd.fb _) (fun k hk => .inl hk))
      have HFin := Lib.hid hfin
      generalize (goesD D).words.getD n 0 = tv at ht
      clear hd hgr hF hst hfin
      go_wp2
      go_ret
      exact ⟨rfl, HFin.out⟩
  · rw [if_pos (by simpa using hm)]
    have hmb : (mayE D.on node != 0) = true := by simpa using hm
    have HF := Lib.hid (DiskTo.same h)
    clear h ok hm
    generalize mayE D.on node = m at *
    go_enter Tryz.func76, Tryz.ntmps76
    go_wp2_with fail
    refine HM.out.mono ?_
    rintro e w1 ⟨rfl, rfl⟩
    go_wp2
    go_ret
    exact ⟨rfl, HF.out⟩

theorem admit_any {F : Nat → Prop} {b : Nat} {D : DS} {nb lb : Nat} {wv sv : Value} {w : World} (h : DiskIn F b D nb lb wv sv w) (ok : D.Ok) (node epoch : Int) :
    Calls Tryz.prog 36 #[.pointer (some ⟨b, 0, none⟩), .int .i64 node, .int .u64 epoch] w fun e w' => e = .returned (.int .i64 (admitR D node epoch).1) ∧ DiskTo F b (admitR D node epoch).2 w w' := by
  have HM := Lib.hid (may_any h.blk node)
  unfold admitR
  by_cases hm : mayE D.on node = 0
  · rw [if_neg (by simpa using hm)]
    rw [hm] at HM
    obtain ⟨hon, h0, h1⟩ := mayE_zero hm
    obtain ⟨n, rfl⟩ := Int.eq_ofNat_of_zero_le h0
    rw [Int.toNat_natCast]
    have c40 := h.blk.c40
    by_cases hle : epoch ≤ D.last
    · rw [if_pos hle]
      have HF := Lib.hid (DiskTo.same h)
      clear h ok hm hon h0 h1
      go_enter Tryz.func36, Tryz.ntmps36
      go_wp2_with fail
      refine HM.out.mono ?_
      rintro e w1 ⟨rfl, rfl⟩
      go_wp2
      go_ret
      exact ⟨rfl, HF.out⟩
    · rw [if_neg hle]
      have HG := Lib.hid (goes_any h hon ok)
      cases hg : goesB D with
      | true =>
        rw [if_pos rfl]
        rw [hg] at HG
        clear h ok hm hon h0 h1 hg
        go_enter Tryz.func36, Tryz.ntmps36
        go_wp2_with fail
        refine HM.out.mono ?_
        rintro e w1 ⟨rfl, rfl⟩
        go_wp2_with fail
        refine HG.out.mono ?_
        rintro e w1 ⟨rfl, hd⟩
        have HD := Lib.hid hd
        clear hd
        go_wp2
        go_ret
        exact ⟨rfl, HD.out⟩
      | false =>
        rw [if_neg (by simp)]
        rw [hg] at HG
        have HT := Lib.hid ((goesD_keeps hg).2.1)
        have hlt : (n : Int) < 17 := by omega
        have hltn : n < 17 := by omega
        clear h ok hm hon h0 h1 hg
        go_enter Tryz.func36, Tryz.ntmps36
        go_wp2_with fail
        refine HM.out.mono ?_
        rintro e w1 ⟨rfl, rfl⟩
        go_wp2_with fail
        refine HG.out.mono ?_
        rintro e w1 ⟨rfl, F', ⟨nb', lb', wv', sv', hd⟩, hgr, hF⟩
        have ht := hd.blk.tab n hltn
        have ft := hd.blk.fz (6 + n)
        have d40 := hd.blk.c40
        have f40 := hd.blk.fz 40
        have hst := hd.store (hd.blk.setTab n hltn epoch) rfl rfl rfl rfl
        have hst2 := hst.store (hst.blk.set40 epoch) rfl rfl rfl rfl
        have hfin : DiskTo F b { goesD D with table := D.table.set n epoch, last := epoch } w ((w1.setCell ⟨b, 6 + n, none⟩ (.int .u64 epoch)).setCell ⟨b, 40, none⟩ (.int .u64 epoch)) := by
          rw [← HT.out]
          exact DiskTo.trans hgr hF (DiskTo.mk' hst2 ((Grow.setCell hd.fb _).trans (Grow.setCell hd.fb _) (fun k hk => .inl hk)) (fun k hk => .inl hk))
        have k40 := hst.blk.c40
        have HFin := Lib.hid hfin
        generalize (goesD D).table.getD n 0 = tv at ht
        generalize (goesD D).last = tl at d40 k40
        clear hd hgr hF hst hst2 hfin
        go_wp2
        go_ret
        exact ⟨rfl, HFin.out⟩
  · rw [if_pos (by simpa using hm)]
    have hmb : (mayE D.on node != 0) = true := by simpa using hm
    have HF := Lib.hid (DiskTo.same h)
    clear h ok hm
    generalize mayE D.on node = m at *
    go_enter Tryz.func36, Tryz.ntmps36
    go_wp2_with fail
    refine HM.out.mono ?_
    rintro e w1 ⟨rfl, rfl⟩
    go_wp2
    go_ret
    exact ⟨rfl, HF.out⟩

end Go.Proofs.YtkgdpmeheakdcaaGreat
