/- The reference's Load and Store, block.Load of no disk: walks (seat Z). -/
import Derived.Test.YtkgdpmeheakdcaaGreatRef14
import Derived.Test.YtkgdpmeheakdcaaGreatAlive10
namespace Go.Proofs.YtkgdpmeheakdcaaGreat
open Go.RowKit
set_option linter.all false
set_option maxRecDepth 100000

def rloadB (R : RS) (n : Int) : Im × Int := if (blockAtR sh0 n).2 ≠ 0 then (zIm, 30) else getB n (rdL R.l (blockAtR sh0 n).1 2)
/-- What the reference's disk of the laws keeps. -/
structure RG (R : RS) : Prop where
  room : R.room = 37
  n0 : 0 < R.l.length
  n1 : R.l.length ≤ 100000
  s64 : ∀ j, (ratK R.l j R.l.length).size = 64

/-- The reference's disk at p, its blocks among Q. -/
def RQ (Q : Nat → Prop) (p : Nat) (D : RS) (w : World) : Prop := ∃ v, RIn8 p v D w ∧ Q p ∧ ∀ k, v.ownBlock = some k → Q k
def AnsRQ (Q : Nat → Prop) (p : Nat) (D : RS) (w : World) (v : Value) (e : Ending) (w' : World) : Prop := e = .returned v ∧ RQ Q p D w' ∧ Grow Q w w'
section
variable {Q : Nat → Prop} {p : Nat} {D : RS} {w w' : World}
theorem RQ.below (h : RQ Q p D w) (hb : Below w.heap.size w w') : RQ Q p D w' := by
  obtain ⟨v, h1, h2, h3⟩ := h
  exact ⟨v, h1.grow (Grow.of_below (F := fun _ => False) hb) (fun h => h) (fun _ _ h => h), h2, h3⟩
theorem RQ.grow {G : Nat → Prop} (h : RQ Q p D w) (hg : Grow G w w') (hG : ∀ k, Q k → k < w.heap.size → ¬ G k) : RQ Q p D w' := by
  obtain ⟨v, h1, h2, h3⟩ := h
  exact ⟨v, h1.grow hg (hG p h2 h1.blk.plt) (fun k hk => hG k (h3 k hk) (h1.olt hk)), h2, h3⟩
theorem RQ.mono {Q' : Nat → Prop} (h : RQ Q p D w) (hQ : ∀ k, Q k → k < w.heap.size → Q' k) : RQ Q' p D w := by
  obtain ⟨v, h1, h2, h3⟩ := h
  exact ⟨v, h1, hQ p h2 h1.blk.plt, fun k hk => hQ k (h3 k hk) (h1.olt hk)⟩
theorem RQ.of_P {m : Nat} (h : RP m p D w) : RQ (fun k => m ≤ k) p D w := h
theorem rq_write (h : RQ Q p D w) (hQ : ∀ k, w.heap.size ≤ k → Q k) (n : Nat) (hn : n < 17) (epoch a : Int) (data : ByteArray) (q : Nat) (hm1 : 1 ≤ q) (hm2 : q ≤ 16) (hsz : data.size = q * 64)
    (hmay : rmayE D n epoch = 0) (ha0 : 0 ≤ a) (ha1 : a + q ≤ D.room) (hrm : D.room ≤ 20000) (hll : D.l.length ≤ 100000) :
    Calls Tryz.prog 39 #[.pointer (some ⟨p, 0, none⟩), .int .i64 n, .int .u64 epoch, .int .i64 a, .string data] w (AnsRQ Q p (rwN D n a data q) w (.int .i64 0)) := by
  obtain ⟨v, h1, h2, h3⟩ := h
  refine (rwrite_ok h1 n hn epoch a data q hm1 hm2 hsz hmay ha0 ha1 hrm hll).mono ?_
  rintro e w' ⟨rfl, g⟩
  obtain ⟨v', g1, g2, g3⟩ := g
  refine ⟨rfl, ⟨v', g1, h2, fun k hk => ?_⟩, g2.mono (fun k hk => ?_)⟩
  · rcases g3 k hk with h | h
    · exact h3 k h
    · exact hQ k h
  · rcases hk with rfl | hk
    · exact h2
    · exact h3 k hk
end

theorem rread_pl {Q : Nat → Prop} {p : Nat} {R : RS} {w : World} (h : RQ Q p R w) (g : RG R) (n : Int) (h0 : 0 ≤ n) (h1 : n < 10) :
    Calls Tryz.prog 49 #[.pointer (some ⟨p, 0, none⟩), .int .i64 (17 + 2 * n), .int .i64 2] w fun e w' => e = .returned (.tuple #[.string (str (rdL R.l (17 + 2 * n) 2)), .int .i64 0]) ∧ Below w.heap.size w w' := by
  obtain ⟨v, h2, _, _⟩ := h
  exact rread8_ok h2 (17 + 2 * n) 2 (by decide) (by decide) (by omega) (by rw [g.room]; show 17 + 2 * n ≤ 37 - 2; omega) (by rw [g.room]; decide) g.n0 (by have := g.n1; omega) g.s64

set_option maxHeartbeats 2000000 in
theorem rload_any {Q : Nat → Prop} {p : Nat} {R : RS} {w : World} (h : RQ Q p R w) (g : RG R) (n : Int) :
    Calls Tryz.prog 12 #[.pointer (some ⟨p, 0, none⟩), .agg #[.int .i64 2, .int .i64 10, .int .i64 8, .int .i64 4, .int .i64 32], .int .i64 n] w fun e w' => e = .returned (.tuple #[(rloadB R n).1.val, .int .i64 (rloadB R n).2]) ∧ Below w.heap.size w w' := by
  have hb0 : Below w.heap.size w ((w.alloc (.cells #[.int .i64 2, .int .i64 10, .int .i64 8, .int .i64 4, .int .i64 32] 29)).alloc (.cells #[.int .i64 0, .int .u64 0, .string ⟨#[]⟩] 24)) := ((Below.refl _ _).alloc (Nat.le_refl _) _).alloc (by simp) _
  have hi0 : imBlk zIm ((w.alloc (.cells #[.int .i64 2, .int .i64 10, .int .i64 8, .int .i64 4, .int .i64 32] 29)).alloc (.cells #[.int .i64 0, .int .u64 0, .string ⟨#[]⟩] 24)) (w.heap.size + 1) := by
    have := heap_alloc_new (w.alloc (.cells #[.int .i64 2, .int .i64 10, .int .i64 8, .int .i64 4, .int .i64 32] 29)) (.cells #[.int .i64 0, .int .u64 0, .string ⟨#[]⟩] 24)
    have e : (w.alloc (.cells #[.int .i64 2, .int .i64 10, .int .i64 8, .int .i64 4, .int .i64 32] 29)).heap.size = w.heap.size + 1 := by simp
    rw [e] at this
    exact this
  have D0 := Lib.hid ((h.below ((Below.refl _ _).alloc (Nat.le_refl _) (.cells #[.int .i64 2, .int .i64 10, .int .i64 8, .int .i64 4, .int .i64 32] 29))).below ((Below.refl _ _).alloc (Nat.le_refl _) (.cells #[.int .i64 0, .int .u64 0, .string ⟨#[]⟩] 24)))
  have B0 := Lib.hid hb0
  have I0 := Lib.hid hi0
  have HBA := Lib.hid (rblkat_any n)
  have HLB : Hid (rloadB R n = if (blockAtR sh0 n).2 ≠ 0 then (zIm, 30) else getB n (rdL R.l (blockAtR sh0 n).1 2)) := Lib.hid rfl
  have HG := Lib.hid g
  clear h hb0 hi0 g
  generalize rloadB R n = LB at *
  by_cases hin : 0 ≤ n ∧ n < 10
  · rw [blockAt_in n hin.1 hin.2] at HBA HLB
    have HRD : Hid (∀ wx, RQ Q p R wx → Calls Tryz.prog 49 #[.pointer (some ⟨p, 0, none⟩), .int .i64 (17 + 2 * n), .int .i64 2] wx fun e w' => e = .returned (.tuple #[.string (str (rdL R.l (17 + 2 * n) 2)), .int .i64 0]) ∧ Below wx.heap.size wx w') := Lib.hid (fun wx d => rread_pl d HG.out n hin.1 hin.2)
    have HL2 : Hid (LB = getB n (rdL R.l (17 + 2 * n) 2)) := Lib.hid (by rw [HLB.out, if_neg (fun h => h rfl)])
    have HGT : Hid (∀ wx, Calls Tryz.prog 50 #[.int .i64 n, .string (str (rdL R.l (17 + 2 * n) 2))] wx (GetTo LB wx)) := Lib.hid (fun wx => by
      have h := rbget_any n (rdL R.l (17 + 2 * n) 2) wx
      rw [← HL2.out] at h
      exact h)
    dsimp only at HBA
    generalize (17 + 2 * n : Int) = pl at *
    generalize rdL R.l pl 2 = L at *
    obtain ⟨⟨lb, lv, ld⟩, le⟩ := LB
    unfold GetTo Im.val at HGT
    dsimp only at HGT
    clear hin HL2 HLB
    go_enter Tryz.func12, Tryz.ntmps12
    go_wp2_with fail
    refine (HBA.out _).mono ?_
    rintro e w1 ⟨rfl, hb⟩
    have D1 := Lib.hid (D0.out.below hb)
    have B1 := Lib.hid (B0.out.trans (hb.mono B0.out.size))
    have I1 := Lib.hid (I0.out.below hb)
    clear hb
    have HR := Lib.hid (HRD.out _ D1.out)
    go_wp2_with fail
    refine HR.out.mono ?_
    rintro e w2 ⟨rfl, hb⟩
    have B2 := Lib.hid (B1.out.trans (hb.mono B1.out.size))
    have I2 := Lib.hid (I1.out.below hb)
    clear hb
    go_wp2_with fail
    refine (HGT.out w2).mono ?_
    rintro e w3 ⟨rfl, hb⟩
    have B3 := Lib.hid (B2.out.trans (hb.mono B2.out.size))
    have i3 := I2.out.below hb
    obtain ⟨r0, r1, r2⟩ := i3.cells
    have f0 := i3.fz 0
    have f1 := i3.fz 1
    have f2 := i3.fz 2
    have hlt := i3.lt
    have I4 := Lib.hid (i3.set (Im.mk lb lv ld))
    clear hb i3
    go_wp2
    have i4 : imBlk (Im.mk lb lv ld) (((w3.setCell ⟨w.heap.size + 1, 0, none⟩ (.int .i64 lb)).setCell ⟨w.heap.size + 1, 1, none⟩ (.int .u64 lv)).setCell ⟨w.heap.size + 1, 2, none⟩ (.string (str ld))) (w.heap.size + 1) := I4.out
    have b4 := below_set3 B3.out (w.heap.size + 1) (by omega) (.int .i64 lb) (.int .u64 lv) (.string (str ld))
    clear r0 r1 r2
    generalize ((w3.setCell ⟨w.heap.size + 1, 0, none⟩ (.int .i64 lb)).setCell ⟨w.heap.size + 1, 1, none⟩ (.int .u64 lv)).setCell ⟨w.heap.size + 1, 2, none⟩ (.string (str ld)) = Wf at *
    obtain ⟨r0, r1, r2⟩ := i4.cells
    exact bodyPost_ret (v := .tuple #[(Im.mk lb lv ld).val, .int .i64 le]) (by simp [results, Tryz.results12, go_sem, r0, r1, r2]; rfl) rfl ⟨rfl, b4⟩
  · rw [blockAt_out n hin] at HBA HLB
    have HL2 : Hid (LB = (zIm, 30)) := Lib.hid (by rw [HLB.out, if_pos (by decide)])
    have hl2 := HL2.out
    subst hl2
    dsimp only at HBA
    clear HLB HL2 hin
    go_enter Tryz.func12, Tryz.ntmps12
    go_wp2_with fail
    refine (HBA.out _).mono ?_
    rintro e w1 ⟨rfl, hb⟩
    have B2 := Lib.hid (B0.out.trans (hb.mono B0.out.size))
    have i3 := I0.out.below hb
    obtain ⟨r0, r1, r2⟩ := i3.cells
    have f0 := i3.fz 0
    have f1 := i3.fz 1
    have f2 := i3.fz 2
    have hlt := i3.lt
    have I4 := Lib.hid i3.zset
    clear hb i3
    go_wp2
    have i4 := I4.out
    have b4 := below_set3 B2.out (w.heap.size + 1) (by omega) (.int .i64 0) (.int .u64 0) (.string ⟨#[]⟩)
    clear r0 r1 r2
    generalize ((w1.setCell ⟨w.heap.size + 1, 0, none⟩ (.int .i64 0)).setCell ⟨w.heap.size + 1, 1, none⟩ (.int .u64 0)).setCell ⟨w.heap.size + 1, 2, none⟩ (.string ⟨#[]⟩) = Wf at *
    obtain ⟨r0, r1, r2⟩ := i4.cells
    exact bodyPost_ret (v := .tuple #[zIm.val, .int .i64 30]) (by simp [results, Tryz.results12, go_sem, r0, r1, r2]; rfl) rfl ⟨rfl, b4⟩

/-- The reference's code for a store that is refused. -/
def rstoreC (R : RS) (node epoch : Int) (i : Im) : Int := if (blockAtR sh0 i.b).2 ≠ 0 then 30 else if i.ok = false then 1 else rmayE R node epoch

set_option maxHeartbeats 1000000 in
theorem rstore_no {Q : Nat → Prop} {p : Nat} {R : RS} {w : World} (h : RQ Q p R w) (node epoch : Int) (i : Im) (hv : i.v < 18446744073709551616) (hl : i.d.length ≤ 1000) (hc : rstoreC R node epoch i ≠ 0) :
    Calls Tryz.prog 10 #[.pointer (some ⟨p, 0, none⟩), .agg #[.int .i64 2, .int .i64 10, .int .i64 8, .int .i64 4, .int .i64 32], .int .i64 node, .int .u64 epoch, i.val] w fun e w' => e = .returned (.int .i64 (rstoreC R node epoch i)) ∧ Below w.heap.size w w' := by
  have hb0 : Below w.heap.size w ((w.alloc (.cells #[.int .i64 2, .int .i64 10, .int .i64 8, .int .i64 4, .int .i64 32] 29)).alloc (.cells #[.int .i64 i.b, .int .u64 i.v, .string (str i.d)] 24)) := ((Below.refl _ _).alloc (Nat.le_refl _) _).alloc (by simp) _
  have hi0 : imBlk i ((w.alloc (.cells #[.int .i64 2, .int .i64 10, .int .i64 8, .int .i64 4, .int .i64 32] 29)).alloc (.cells #[.int .i64 i.b, .int .u64 i.v, .string (str i.d)] 24)) (w.heap.size + 1) := by
    have := heap_alloc_new (w.alloc (.cells #[.int .i64 2, .int .i64 10, .int .i64 8, .int .i64 4, .int .i64 32] 29)) (.cells #[.int .i64 i.b, .int .u64 i.v, .string (str i.d)] 24)
    have e : (w.alloc (.cells #[.int .i64 2, .int .i64 10, .int .i64 8, .int .i64 4, .int .i64 32] 29)).heap.size = w.heap.size + 1 := by simp
    rw [e] at this
    exact this
  have D0 := Lib.hid ((h.below ((Below.refl _ _).alloc (Nat.le_refl _) (.cells #[.int .i64 2, .int .i64 10, .int .i64 8, .int .i64 4, .int .i64 32] 29))).below ((Below.refl _ _).alloc (Nat.le_refl _) (.cells #[.int .i64 i.b, .int .u64 i.v, .string (str i.d)] 24)))
  have B0 := Lib.hid hb0
  have I0 := Lib.hid hi0
  have HBA := Lib.hid (rblkat_any i.b)
  have HST : Hid (rstoreC R node epoch i = if (blockAtR sh0 i.b).2 ≠ 0 then 30 else if i.ok = false then 1 else rmayE R node epoch) := Lib.hid rfl
  have HNO := Lib.hid (fun h w => rbput_no i h hl w)
  have HOK := Lib.hid (fun h w => rbput_ok i h hv w)
  have HLN := Lib.hid (Im.bytes_length i)
  clear h hb0 hi0 hl
  generalize rstoreC R node epoch i = SR at *
  generalize i.bytes = IB at *
  generalize i.ok = ok at *
  obtain ⟨ib, iv, idt⟩ := i
  unfold Im.val at *
  dsimp only at *
  rcases blockAtR_err sh0 ib with he | he
  · generalize (blockAtR sh0 ib).1 = pl at *
    generalize (blockAtR sh0 ib).2 = er at *
    subst he
    cases ok with
    | false =>
      have hsr : SR = 1 := by rw [HST.out, if_neg (by decide), if_pos rfl]
      subst hsr
      clear hc
      go_enter Tryz.func10, Tryz.ntmps10
      go_wp2_with fail
      refine (HBA.out _).mono ?_
      rintro e w1 ⟨rfl, hb⟩
      have B1 := Lib.hid (B0.out.trans (hb.mono B0.out.size))
      have I1 := Lib.hid (I0.out.below hb)
      obtain ⟨c0, c1, c2⟩ := I1.out.cells
      clear hb
      have HP := Lib.hid (HNO.out trivial w1)
      go_wp2_with fail
      refine HP.out.mono ?_
      rintro e w2 ⟨rfl, hb⟩
      have B2 := Lib.hid (B1.out.trans (hb.mono B1.out.size))
      clear hb
      go_wp2
      go_ret
      exact ⟨rfl, B2.out⟩
    | true =>
      have HS2 : Hid (SR = rmayE R node epoch) := Lib.hid (by rw [HST.out, if_neg (by decide), if_neg (by decide)])
      have HIB := Lib.hid (HLN.out rfl)
      have HC := Lib.hid hc
      clear hc
      go_enter Tryz.func10, Tryz.ntmps10
      go_wp2_with fail
      refine (HBA.out _).mono ?_
      rintro e w1 ⟨rfl, hb⟩
      have D1 := Lib.hid (D0.out.below hb)
      have B1 := Lib.hid (B0.out.trans (hb.mono B0.out.size))
      have I1 := Lib.hid (I0.out.below hb)
      obtain ⟨c0, c1, c2⟩ := I1.out.cells
      clear hb
      have HP := Lib.hid (HOK.out trivial w1)
      go_wp2_with fail
      refine HP.out.mono ?_
      rintro e w2 ⟨rfl, hb⟩
      have D2 := Lib.hid (D1.out.below hb)
      have B2 := Lib.hid (B1.out.trans (hb.mono B1.out.size))
      have HW : Hid (Calls Tryz.prog 39 #[.pointer (some ⟨p, 0, none⟩), .int .i64 node, .int .u64 epoch, .int .i64 pl, .string (str IB)] w2 fun e w' => e = .returned (.int .i64 SR) ∧ w2 = w') := Lib.hid (by
        obtain ⟨v, q1, q2, q3⟩ := D2.out
        have h := rwrite_no q1.blk node epoch pl (str IB) 2 (by decide) (by decide) (by rw [str_size, HIB.out]) (by rw [← HS2.out]; exact HC.out)
        rw [← HS2.out] at h
        exact h)
      clear hb c0 c1 c2
      go_wp2_with fail
      refine HW.out.mono ?_
      rintro e w3 ⟨rfl, rfl⟩
      go_wp2
      go_ret
      exact ⟨rfl, B2.out⟩
  · generalize (blockAtR sh0 ib).1 = pl at *
    generalize (blockAtR sh0 ib).2 = er at *
    subst he
    have hsr : SR = 30 := by rw [HST.out, if_pos (by decide)]
    subst hsr
    clear hc
    go_enter Tryz.func10, Tryz.ntmps10
    go_wp2_with fail
    refine (HBA.out _).mono ?_
    rintro e w1 ⟨rfl, hb⟩
    have B1 := Lib.hid (B0.out.trans (hb.mono B0.out.size))
    clear hb
    go_wp2
    go_ret
    exact ⟨rfl, B1.out⟩

set_option maxHeartbeats 1000000 in
theorem rstore_ok {Q : Nat → Prop} {p : Nat} {R : RS} {w : World} (h : RQ Q p R w) (g : RG R) (i : Im) (hv : i.v < 18446744073709551616) (hi : i.ok = true) (hb10 : i.b < 10) (hmay : rmayE R 1 9 = 0) (hQ : ∀ k, w.heap.size ≤ k → Q k) :
    Calls Tryz.prog 10 #[.pointer (some ⟨p, 0, none⟩), .agg #[.int .i64 2, .int .i64 10, .int .i64 8, .int .i64 4, .int .i64 32], .int .i64 1, .int .u64 9, i.val] w (AnsRQ Q p (rwN R 1 (17 + 2 * i.b) (str i.bytes) 2) w (.int .i64 0)) := by
  have hb0 : Below w.heap.size w ((w.alloc (.cells #[.int .i64 2, .int .i64 10, .int .i64 8, .int .i64 4, .int .i64 32] 29)).alloc (.cells #[.int .i64 i.b, .int .u64 i.v, .string (str i.d)] 24)) := ((Below.refl _ _).alloc (Nat.le_refl _) _).alloc (by simp) _
  have hi0 : imBlk i ((w.alloc (.cells #[.int .i64 2, .int .i64 10, .int .i64 8, .int .i64 4, .int .i64 32] 29)).alloc (.cells #[.int .i64 i.b, .int .u64 i.v, .string (str i.d)] 24)) (w.heap.size + 1) := by
    have := heap_alloc_new (w.alloc (.cells #[.int .i64 2, .int .i64 10, .int .i64 8, .int .i64 4, .int .i64 32] 29)) (.cells #[.int .i64 i.b, .int .u64 i.v, .string (str i.d)] 24)
    have e : (w.alloc (.cells #[.int .i64 2, .int .i64 10, .int .i64 8, .int .i64 4, .int .i64 32] 29)).heap.size = w.heap.size + 1 := by simp
    rw [e] at this
    exact this
  have D0 := Lib.hid ((h.below ((Below.refl _ _).alloc (Nat.le_refl _) (.cells #[.int .i64 2, .int .i64 10, .int .i64 8, .int .i64 4, .int .i64 32] 29))).below ((Below.refl _ _).alloc (Nat.le_refl _) (.cells #[.int .i64 i.b, .int .u64 i.v, .string (str i.d)] 24)))
  have B0 := Lib.hid hb0
  have I0 := Lib.hid hi0
  have h0 := (Im.ok_iff.1 hi).1
  have hba := rblkat_any i.b
  rw [blockAt_in i.b h0 hb10] at hba
  have HBA := Lib.hid hba
  have HOK := Lib.hid (rbput_ok i hi hv)
  have HLN := Lib.hid (Im.bytes_length i hi)
  have hroom : (17 + 2 * i.b : Int) + (2 : Nat) ≤ R.room := by rw [g.room]; show (17 + 2 * i.b : Int) + 2 ≤ 37; omega
  have HWR : Hid (∀ wx, RQ Q p R wx → w.heap.size ≤ wx.heap.size → Calls Tryz.prog 39 #[.pointer (some ⟨p, 0, none⟩), .int .i64 1, .int .u64 9, .int .i64 (17 + 2 * i.b), .string (str i.bytes)] wx (AnsRQ Q p (rwN R 1 (17 + 2 * i.b) (str i.bytes) 2) wx (.int .i64 0))) := Lib.hid (fun wx hx hz =>
    rq_write hx (fun k hk => hQ k (Nat.le_trans hz hk)) 1 (by decide) 9 (17 + 2 * i.b) (str i.bytes) 2 (by decide) (by decide) (by rw [str_size, HLN.out]) hmay (by omega) hroom (by rw [g.room]; decide) g.n1)
  clear h hb0 hi0 hba hi h0 hroom hb10 hmay
  generalize rwN R 1 (17 + 2 * i.b) (str i.bytes) 2 = R' at *
  generalize (17 + 2 * i.b : Int) = pl at *
  generalize i.bytes = IB at *
  obtain ⟨ib, iv, idt⟩ := i
  unfold Im.val at *
  dsimp only at *
  go_enter Tryz.func10, Tryz.ntmps10
  go_wp2_with fail
  refine (HBA.out _).mono ?_
  rintro e w1 ⟨rfl, hb⟩
  have D1 := Lib.hid (D0.out.below hb)
  have B1 := Lib.hid (B0.out.trans (hb.mono B0.out.size))
  have I1 := Lib.hid (I0.out.below hb)
  obtain ⟨c0, c1, c2⟩ := I1.out.cells
  clear hb
  have HP := Lib.hid (HOK.out w1)
  go_wp2_with fail
  refine HP.out.mono ?_
  rintro e w2 ⟨rfl, hb⟩
  have D2 := Lib.hid (D1.out.below hb)
  have B2 := Lib.hid (B1.out.trans (hb.mono B1.out.size))
  have HW := Lib.hid (HWR.out w2 D2.out B2.out.size)
  clear hb c0 c1 c2
  go_wp2_with fail
  refine HW.out.mono ?_
  rintro e w3 ⟨rfl, hr, hg⟩
  have R3 := Lib.hid hr
  have G3 : Hid (Grow Q w w3) := Lib.hid ((Grow.of_below (F := Q) (show Below w.heap.size w w2 from B2.out)).trans hg (fun k hk => .inl hk))
  clear hr hg
  go_wp2
  go_ret
  exact ⟨rfl, R3.out, G3.out⟩

theorem bread_nil (a n : Int) (w : World) : Calls Tryz.prog 47 #[.pointer none, .int .i64 a, .int .i64 n] w fun e w' => e = .returned (.tuple #[.string ⟨#[]⟩, .int .i64 14]) ∧ w = w' := by
  have HM := Lib.hid (on_nil (w := w))
  go_enter Tryz.func47, Tryz.ntmps47
  go_wp2_with fail
  refine HM.out.mono ?_
  rintro e w1 ⟨rfl, rfl⟩
  go_wp2
  go_ret2
  exact ⟨rfl, rfl⟩

theorem bload_nil (w : World) :
    Calls Tryz.prog 11 #[.pointer none, .agg #[.int .i64 2, .int .i64 10, .int .i64 8, .int .i64 4, .int .i64 32], .int .i64 0] w fun e w' => e = .returned (.tuple #[zIm.val, .int .i64 14]) ∧ Below w.heap.size w w' := by
  have hb0 : Below w.heap.size w ((w.alloc (.cells #[.int .i64 2, .int .i64 10, .int .i64 8, .int .i64 4, .int .i64 32] 31)).alloc (.cells #[.int .i64 0, .int .u64 0, .string ⟨#[]⟩] 24)) := ((Below.refl _ _).alloc (Nat.le_refl _) _).alloc (by simp) _
  have hi0 : imBlk zIm ((w.alloc (.cells #[.int .i64 2, .int .i64 10, .int .i64 8, .int .i64 4, .int .i64 32] 31)).alloc (.cells #[.int .i64 0, .int .u64 0, .string ⟨#[]⟩] 24)) (w.heap.size + 1) := by
    have := heap_alloc_new (w.alloc (.cells #[.int .i64 2, .int .i64 10, .int .i64 8, .int .i64 4, .int .i64 32] 31)) (.cells #[.int .i64 0, .int .u64 0, .string ⟨#[]⟩] 24)
    have e : (w.alloc (.cells #[.int .i64 2, .int .i64 10, .int .i64 8, .int .i64 4, .int .i64 32] 31)).heap.size = w.heap.size + 1 := by simp
    rw [e] at this
    exact this
  have B0 := Lib.hid hb0
  have I0 := Lib.hid hi0
  have hba := blkat0 0
  rw [blockAt_in 0 (by decide) (by decide)] at hba
  have HBA := Lib.hid hba
  have HRD := Lib.hid (bread_nil (17 + 2 * 0) 2)
  clear hb0 hi0 hba
  go_enter Tryz.func11, Tryz.ntmps11
  go_wp2_with fail
  refine (HBA.out _).mono ?_
  rintro e w1 ⟨rfl, hb⟩
  have B1 := Lib.hid (B0.out.trans (hb.mono B0.out.size))
  have I1 := Lib.hid (I0.out.below hb)
  clear hb
  go_wp2_with fail
  refine (HRD.out w1).mono ?_
  rintro e w2 ⟨rfl, rfl⟩
  have i3 := I1.out
  obtain ⟨r0, r1, r2⟩ := i3.cells
  have f0 := i3.fz 0
  have f1 := i3.fz 1
  have f2 := i3.fz 2
  have hlt := i3.lt
  have I4 := Lib.hid i3.zset
  clear i3
  go_wp2
  have i4 := I4.out
  have b4 := below_set3 B1.out (w.heap.size + 1) (by omega) (.int .i64 0) (.int .u64 0) (.string ⟨#[]⟩)
  clear r0 r1 r2
  generalize ((w1.setCell ⟨w.heap.size + 1, 0, none⟩ (.int .i64 0)).setCell ⟨w.heap.size + 1, 1, none⟩ (.int .u64 0)).setCell ⟨w.heap.size + 1, 2, none⟩ (.string ⟨#[]⟩) = Wf at *
  obtain ⟨r0, r1, r2⟩ := i4.cells
  exact bodyPost_ret (v := .tuple #[zIm.val, .int .i64 14]) (by simp [results, Tryz.results11, go_sem, r0, r1, r2]; rfl) rfl ⟨rfl, b4⟩

end Go.Proofs.YtkgdpmeheakdcaaGreat
