import Derived.Test.YtkgdpmeheakdcaaGreatAlive10
/- The reference's Pad, PutBlock: walks. -/
namespace Go.Proofs.YtkgdpmeheakdcaaGreat
open Go.RowKit
set_option linter.all false
set_option maxRecDepth 100000

theorem rbput_no (i : Im) (hi : i.ok = false) (hl : i.d.length ≤ 1000) (w : World) : Calls Tryz.prog 46 #[i.val] w fun e w' => e = .returned (.tuple #[.string ⟨#[]⟩, .int .i64 1]) ∧ Below w.heap.size w w' := by
  have hsz : ((str i.d).size : Int) = i.d.length := by rw [str_size]
  have HB := Lib.hid ((Below.refl w.heap.size w).alloc (Nat.le_refl _) (.cells #[.int .i64 i.b, .int .u64 i.v, .string (str i.d)] 24))
  unfold Im.ok at hi
  unfold Im.val
  obtain ⟨b, v, d⟩ := i
  dsimp only at *
  have hi2 : ¬ (0 ≤ b ∧ b < 4096 ∧ d.length = 96) := by simpa using hi
  clear hi
  by_cases h1 : 0 ≤ b
  · have e1 : decide (b < 0) = false := by simp; omega
    by_cases h2 : b < 4096
    · have e2 : decide (4096 ≤ b) = false := by simp; omega
      have h3 : ¬ d.length = 96 := fun h => hi2 ⟨h1, h2, h⟩
      have e3 : ((d.length : Int) == 96) = false := by simp; omega
      have e4 : ((d.length : Int) != 96) = true := by simp; omega
      go_enter Tryz.func46, Tryz.ntmps46
      go_wp2
      go_ret2
      exact ⟨rfl, HB.out⟩
    · have e2 : decide (4096 ≤ b) = true := by simp; omega
      go_enter Tryz.func46, Tryz.ntmps46
      go_wp2
      go_ret2
      exact ⟨rfl, HB.out⟩
  · have e1 : decide (b < 0) = true := by simp; omega
    go_enter Tryz.func46, Tryz.ntmps46
    go_wp2
    go_ret2
    exact ⟨rfl, HB.out⟩

def imObj (b : Int) (v : Nat) (d : List UInt8) : Obj := .cells #[.int .i64 b, .int .u64 v, .string (str d)] 24 (0, 0)
theorem imObj_cells {b : Int} {v : Nat} {d : List UInt8} {w : World} {q : Nat} (h : w.heap[q]? = some (imObj b v d)) : w.cell? ⟨q, 0, none⟩ = some (.int .i64 b) ∧ w.cell? ⟨q, 1, none⟩ = some (.int .u64 v) ∧ w.cell? ⟨q, 2, none⟩ = some (.string (str d)) := by
  unfold imObj at h
  simp [World.cell?, h]

/-- The writer that a round makes. -/
theorem XSt.made {q : Nat} {o : Obj} {w0 wr : World} (s : List UInt8) (hs : s.length ≤ 1000) (hk : wr.heap[q]? = some o) (hb : Below w0.heap.size w0 wr) (hq : w0.heap.size ≤ q) :
    XSt q (wr.heap.size + 1) o w0 s ((Lib.bytesWorld wr 5 (str s)).alloc (.cells #[.slice (some ⟨wr.heap.size, 0, none⟩) s.length (grownCap wr s.length 0 5), .int .i64 0] 113)) := by
  have hqlt : q < wr.heap.size := (Array.getElem?_eq_some_iff.1 hk).1
  have hsz : (Lib.bytesWorld wr 5 (str s)).heap.size = wr.heap.size + 1 := Lib.bytesWorld_size wr _ _
  have hbb : Below w0.heap.size w0 (Lib.bytesWorld wr 5 (str s)) := hb.trans ⟨rfl, rfl, rfl, by rw [Lib.bytesWorld_size]; omega, fun k hk => Lib.bytesWorld_at_old wr _ _ k (by have := hb.size; omega)⟩
  have h2 := heap_alloc_new (Lib.bytesWorld wr 5 (str s)) (.cells #[.slice (some ⟨wr.heap.size, 0, none⟩) s.length (grownCap wr s.length 0 5), .int .i64 0] 113)
  rw [hsz] at h2
  have hr := rowQ_bytes wr s (by omega)
  refine ⟨⟨_, ⟨h2, hr.of_same (fun g hg => ?_), fun e => ?_, by omega⟩, fun k hk => ?_⟩, ?_, hbb.alloc hbb.size _, hq, by omega⟩
  · have e : wr.heap.size = g := by
      have e1 : some wr.heap.size = some g := hg
      injection e1
    subst e
    exact heap_alloc_old _ _ (by omega)
  · have e1 : some wr.heap.size = some (wr.heap.size + 1) := e
    injection e1
    omega
  · have e1 : some wr.heap.size = some k := hk
    injection e1 with e1
    omega
  · exact (heap_alloc_old _ _ (by omega)).trans ((Lib.bytesWorld_at_old wr _ _ q hqlt).trans hk)

set_option maxHeartbeats 2000000 in
theorem rbput_ok (i : Im) (hi : i.ok = true) (hv : i.v < 18446744073709551616) (w : World) : Calls Tryz.prog 46 #[i.val] w fun e w' => e = .returned (.tuple #[.string (str i.bytes), .int .i64 0]) ∧ Below w.heap.size w w' := by
  obtain ⟨h0, h1, h2⟩ := Im.ok_iff.1 hi
  obtain ⟨b, v, d⟩ := i
  have HBY : Hid ((Im.mk b v d).bytes = imK b.toNat v d 2) := Lib.hid rfl
  generalize (Im.mk b v d).bytes = SB at *
  dsimp only at *
  obtain ⟨b, rfl⟩ := Int.eq_ofNat_of_zero_le h0
  rw [Int.toNat_natCast] at HBY
  have hb1 : b < 4096 := by omega
  have hsz : ((str d).size : Int) = 96 := by rw [str_size, h2]; rfl
  have HI0 : Hid ((w.alloc (.cells #[.int .i64 b, .int .u64 v, .string (str d)] 24)).heap[w.heap.size]? = some (imObj b v d)) := Lib.hid (heap_alloc_new w _)
  have HB0 := Lib.hid ((Below.refl w.heap.size w).alloc (Nat.le_refl _) (.cells #[.int .i64 b, .int .u64 v, .string (str d)] 24))
  have HIL := Lib.hid (imK_length b v d h2)
  have HD := Lib.hid h2
  have HV := Lib.hid hv
  have e1 : decide ((b : Int) < 0) = false := by simp
  have e2 : decide (4096 ≤ (b : Int)) = false := by simp; omega
  unfold Im.val at *
  dsimp only at *
  clear hi h0 h2 hv
  go_enter Tryz.func46, Tryz.ntmps46
  go_wp2
  go_loopw [4, 5] (fun t i wr => ∃ k : Nat, k ≤ 2 ∧ i = .int .i64 k ∧ t = .string (str (imK b v d k)) ∧ wr.heap[w.heap.size]? = some (imObj b v d) ∧ Below w.heap.size w wr) (fun _ i _ => 2 - (intOf i).toNat)
  case atStart => exact ⟨0, by omega, rfl, rfl, HI0.out, HB0.out⟩
  case round =>
    obtain ⟨k, hk, rfl, rfl, hi, hb⟩ := hrel
    obtain ⟨c0, c1, c2⟩ := imObj_cells hi
    by_cases hlt : k < 2
    · have hhl := halfL_length d HD.out k hlt
      have hszh : (str (halfL d k)).size = 48 := by rw [str_size, hhl]
      have hsl : ∀ wx : World, (Instr.slice 9 (.string (str d)) (some (.int .i64 (48 * (k : Int)))) (some (.int .i64 (48 * (k : Int) + 48))) none).run Tryz.prog wx = .ok (.string (str (halfL d k))) wx := by
        intro wx
        have hdl := HD.out
        have h := str_mid d (48 * k) (48 * k + 48) wx (by omega) (by omega)
        rw [show 48 * k + 48 - 48 * k = 48 by omega] at h
        rw [show (48 * (k : Int)) = ((48 * k : Nat) : Int) by omega, show (((48 * k : Nat) : Int) + 48) = ((48 * k + 48 : Nat) : Int) by omega]
        exact h
      have i1 : IntKind.i64.wrap (48 * (k : Int)) = 48 * (k : Int) := IntWalk.i64_in _ (by omega)
      have i2 : IntKind.i64.wrap (48 * (k : Int) + 48) = 48 * (k : Int) + 48 := IntWalk.i64_in _ (by omega)
      have hkb : ∀ wx : World, Sem.run Tryz.prog (convert 9 95 (.string (str (halfL d k)))) wx = .ok (.slice (some ⟨wx.heap.size, 0, none⟩) 48 (grownCap wx 48 0 5)) (Lib.bytesWorld wx 5 (str (halfL d k))) := fun wx => by
        have h := Lib.run_convert_string_bytes (P := Tryz.prog) wx 9 95 5 (str (halfL d k)) Tryz.underlying9 Tryz.underlying95 Tryz.underlying5
        rw [hszh] at h
        exact h
      have hX : XSt w.heap.size (wr.heap.size + 1) (imObj b v d) w (halfL d k) ((Lib.bytesWorld wr 5 (str (halfL d k))).alloc (.cells #[.slice (some ⟨wr.heap.size, 0, none⟩) 48 (grownCap wr 48 0 5), .int .i64 0] 113)) := by
        have h := XSt.made (halfL d k) (by omega) hi hb (Nat.le_refl _)
        rw [hhl] at h
        exact h
      have X0 := Lib.hid hX
      have HHL := Lib.hid hhl
      have hbsz : (Lib.bytesWorld wr 5 (str (halfL d k))).heap.size = wr.heap.size + 1 := Lib.bytesWorld_size wr _ _
      clear hX hb hi hhl
      have IK : Hid (imK b v d (k + 1) = imK b v d k ++ secL b v d k) := Lib.hid rfl
      have L1 := Lib.hid (HIL.out k hk)
      have L2 := Lib.hid (HIL.out (k + 1) (by omega))
      have SEC : Hid (secL b v d k = stampL ((halfL d k ++ leN 4 b) ++ leN 8 v) 64) := Lib.hid (by unfold secL tagL; rw [List.append_assoc])
      go_upto_region 8 with fail
      have hv2 := HV.out
      have hw4 : IntKind.u64.wrap (b : Int) = (b : Int) := by rw [IntKind.wrap_u64, Int.emod_eq_of_lt (by omega) (by omega)]
      generalize (Lib.bytesWorld wr 5 (str (halfL d k))).alloc (.cells #[.slice (some ⟨wr.heap.size, 0, none⟩) 48 (grownCap wr 48 0 5), .int .i64 0] 113) = W0 at *
      generalize halfL d k = HF at *
      generalize wr.heap.size + 1 = p at *
      clear hsl hkb hbsz c0 c1 c2 hszh
      obtain ⟨c0, c1, c2⟩ := imObj_cells X0.out.keep
      have N0 : Hid (Calls Tryz.prog 82 #[.pointer (some ⟨p, 0, none⟩), .int .u64 b, .int .i64 4] W0 fun e w' => e = .returned (.tuple #[]) ∧ XSt w.heap.size p (imObj b v d) w (HF ++ leN 4 b) w') := Lib.hid (X0.out.num 4 (by decide) (by decide) b (by omega) (by omega) (by rw [HHL.out]; decide))
      clear hv2
      go_wp2_with fail
      refine N0.out.mono ?_
      rintro e W2 ⟨rfl, hx⟩
      have X1 := Lib.hid hx
      clear hx X0 N0 c0 c1 c2
      obtain ⟨c0, c1, c2⟩ := imObj_cells X1.out.keep
      have N1 : Hid (Calls Tryz.prog 82 #[.pointer (some ⟨p, 0, none⟩), .int .u64 v, .int .i64 8] W2 fun e w' => e = .returned (.tuple #[]) ∧ XSt w.heap.size p (imObj b v d) w ((HF ++ leN 4 b) ++ leN 8 v) w') := Lib.hid (X1.out.num 8 (by decide) (by decide) v (by have := HV.out; omega) HV.out (by rw [List.length_append, HHL.out, leN_length]; decide))
      go_wp2_with fail
      refine N1.out.mono ?_
      rintro e W3 ⟨rfl, hx⟩
      have X2 := Lib.hid hx
      clear hx X1 N1 c0 c1 c2
      obtain ⟨vv, hv, hcv⟩ := X2.out.val
      have ST : Hid (Calls Tryz.prog 83 #[.string (str ((HF ++ leN 4 b) ++ leN 8 v)), .int .i64 64] W3 fun e w' => e = .returned (.tuple #[.string (str (secL b v d k)), .int .i64 0]) ∧ Below W3.heap.size W3 w') := by
        have h := rstamp_any ((HF ++ leN 4 b) ++ leN 8 v) (by rw [List.length_append, List.length_append, HHL.out, leN_length, leN_length]; decide) W3
        rw [← SEC.out] at h
        exact Lib.hid h
      clear SEC HHL
      generalize (HF ++ leN 4 b) ++ leN 8 v = BD at *
      have hap : str (imK b v d k) ++ str (secL b v d k) = str (imK b v d (k + 1)) := by rw [IK.out]; exact str_app _ _
      have hbig : ¬ 9223372036854775807 < (str (imK b v d k)).size + (str (secL b v d k)).size := by
        have h3 : (imK b v d (k + 1)).length = (imK b v d k).length + (secL b v d k).length := by rw [IK.out, List.length_append]
        have h1 := L1.out
        have h2 := L2.out
        rw [str_size, str_size]
        omega
      go_wp2_with fail
      refine ST.out.mono ?_
      rintro e w9 ⟨rfl, hb⟩
      have K9 := Lib.hid ((hb.block w.heap.size (Array.getElem?_eq_some_iff.1 X2.out.keep).1).trans X2.out.keep)
      have B9 := Lib.hid (X2.out.bel.trans (hb.mono X2.out.bel.size))
      clear hb hv hcv ST
      go_wp2
      go_roundw
      case rel => exact ⟨k + 1, by omega, by go_num, rfl, K9.out, B9.out⟩
      case measure => simp [intOf]; omega
    · have hk2 : k = 2 := by omega
      subst hk2
      have HB := Lib.hid hb
      rw [← HBY.out]
      clear hb hi c0 c1 c2
      go_wp2
      go_ret2
      exact ⟨rfl, HB.out⟩

end Go.Proofs.YtkgdpmeheakdcaaGreat

/- The reference's GetBlock: walk. -/
namespace Go.Proofs.YtkgdpmeheakdcaaGreat
open Go.RowKit
set_option linter.all false
set_option maxRecDepth 100000

theorem made128 (w : World) : (Instr.makeSlice 95 (.int .i64 128) (.int .i64 128)).run Tryz.prog w = .ok (.slice (some ⟨w.heap.size, 0, none⟩) 128 128) (w.alloc (.cells (fillRow 0 128 0) 5)) := made_u8 w 128 (by decide)

/-- The world at the reads: the zero image's box, and the zeros. -/
def gbW (w : World) : World := (w.alloc (.cells #[.int .i64 0, .int .u64 0, .string ⟨#[]⟩] 24)).alloc (.cells (fillRow 0 128 0) 5)
theorem gbW_im (w : World) : imBlk zIm (gbW w) w.heap.size :=
  (heap_alloc_old _ _ (by simp)).trans (heap_alloc_new w _)
theorem gbW_below (w : World) : Below w.heap.size w (gbW w) := ((Below.refl w.heap.size w).alloc (Nat.le_refl _) _).alloc (by simp) _
theorem gbW_conv (w : World) : (convert 95 9 (.slice (some ⟨w.heap.size + 1, 0, none⟩) 128 128)).run Tryz.prog (gbW w) = .ok (.string (str (zerosL 128))) (gbW w) := by
  have h := zconv_new (w.alloc (.cells #[.int .i64 0, .int .u64 0, .string ⟨#[]⟩] 24)) 128
  rw [show (w.alloc (.cells #[.int .i64 0, .int .u64 0, .string ⟨#[]⟩] 24)).heap.size = w.heap.size + 1 by simp] at h
  exact h

set_option maxHeartbeats 1000000 in
theorem rbget_len (n : Int) (L : List UInt8) (h : L.length ≠ 128) (w : World) :
    Calls Tryz.prog 50 #[.int .i64 n, .string (str L)] w (GetTo (zIm, 5) w) := by
  have hsz : ((str L).size : Int) = L.length := by rw [str_size]
  have hne : ((L.length : Int) == 128) = false := by simp; omega
  have hne2 : ((L.length : Int) != 128) = true := by simp; omega
  have iw : imBlk zIm (w.alloc (.cells #[.int .i64 0, .int .u64 0, .string ⟨#[]⟩] 24)) w.heap.size := heap_alloc_new w _
  have B0 := Lib.hid ((Below.refl w.heap.size w).alloc (Nat.le_refl _) (.cells #[.int .i64 0, .int .u64 0, .string ⟨#[]⟩] 24))
  clear iw B0
  go_enter Tryz.func50, Tryz.ntmps50
  go_wp2
  exact bodyPost_ret (v := .tuple #[zIm.val, .int .i64 5]) (by simp [results, Tryz.results50, go_sem]; rfl) rfl ⟨rfl, (Below.refl _ _).alloc (Nat.le_refl _) _⟩

set_option maxHeartbeats 1000000 in
theorem rbget_zero (n : Int) (w : World) :
    Calls Tryz.prog 50 #[.int .i64 n, .string (str (zerosL 128))] w (GetTo (⟨n, 0, zerosL 96⟩, 0) w) := by
  have hi0 : imBlk zIm (w.alloc (.cells #[.int .i64 0, .int .u64 0, .string ⟨#[]⟩] 24)) w.heap.size := heap_alloc_new w _
  have hb0 := (Below.refl w.heap.size w).alloc (Nat.le_refl _) (.cells #[.int .i64 0, .int .u64 0, .string ⟨#[]⟩] 24)
  have hlt0 := hi0.lt
  have ha := (Below.refl (w.alloc (.cells #[.int .i64 0, .int .u64 0, .string ⟨#[]⟩] 24)).heap.size (w.alloc (.cells #[.int .i64 0, .int .u64 0, .string ⟨#[]⟩] 24))).alloc (Nat.le_refl _) (.cells (fillRow 0 128 0) 5)
  have IW := Lib.hid (hi0.below ha)
  have BW := Lib.hid (hb0.trans (ha.mono hb0.size))
  have hsz : ((str (zerosL 128)).size : Int) = 128 := by rw [str_size, zerosL_length]; rfl
  have hmk := made128
  have hcv := gbW_conv w
  unfold gbW at hcv
  have hsl : ∀ wx : World, (Instr.slice 9 (.string (str (zerosL 128))) none (some (.int .i64 96)) none).run Tryz.prog wx = .ok (.string (str (zerosL 96))) wx := fun wx => by
    have h := str_take (zerosL 128) 96 wx (by rw [zerosL_length]; decide)
    rw [show (zerosL 128).take 96 = zerosL 96 from by decide] at h
    exact h
  have heq := str_eq_B (str (zerosL 128))
  clear ha hi0 hb0 hlt0
  generalize str (zerosL 128) = Z128 at *
  generalize zerosL 96 = Z96 at *
  generalize fillRow 0 128 0 = FR at *
  go_enter Tryz.func50, Tryz.ntmps50
  go_upto_region 4 with fail
  generalize (w.alloc (.cells #[.int .i64 0, .int .u64 0, .string ⟨#[]⟩] 24)).alloc (.cells FR 5) = V2 at *
  have iw := IW.out
  obtain ⟨r0, r1, r2⟩ := iw.cells
  have f0 := iw.fz 0
  have f1 := iw.fz 1
  have f2 := iw.fz 2
  have hltq := iw.lt
  have I2' := Lib.hid (iw.set (Im.mk n 0 Z96))
  have B2' := Lib.hid (below_set3 BW.out w.heap.size (Nat.le_refl _) (.int .i64 ((Im.mk n 0 Z96) : Im).b) (.int .u64 ((Im.mk n 0 Z96) : Im).v) (.string (str ((Im.mk n 0 Z96) : Im).d)))
  dsimp only at I2' B2'
  clear iw hmk hcv
  go_wp2
  have i2 : imBlk (Im.mk n 0 Z96) (((V2.setCell ⟨w.heap.size, 0, none⟩ (.int .i64 n)).setCell ⟨w.heap.size, 1, none⟩ (.int .u64 0)).setCell ⟨w.heap.size, 2, none⟩ (.string (str Z96))) w.heap.size := I2'.out
  have b2 : Below w.heap.size w (((V2.setCell ⟨w.heap.size, 0, none⟩ (.int .i64 n)).setCell ⟨w.heap.size, 1, none⟩ (.int .u64 0)).setCell ⟨w.heap.size, 2, none⟩ (.string (str Z96))) := B2'.out
  clear r0 r1 r2
  generalize ((V2.setCell ⟨w.heap.size, 0, none⟩ (.int .i64 n)).setCell ⟨w.heap.size, 1, none⟩ (.int .u64 0)).setCell ⟨w.heap.size, 2, none⟩ (.string (str Z96)) = Wf at *
  obtain ⟨r0, r1, r2⟩ := i2.cells
  exact bodyPost_ret (v := .tuple #[(Im.mk n 0 Z96).val, .int .i64 0]) (by simp [results, Tryz.results50, go_sem, r0, r1, r2]; rfl) rfl ⟨rfl, b2⟩

theorem rread_ok (S : List UInt8) (h : S.length = 64) (w : World) : Calls Tryz.prog 100 #[.string (str S)] w fun e w' => e = .returned (.tuple #[.string (if sumOk S = true then str (S.take 60) else ⟨#[]⟩), .int .i64 (if sumOk S = true then 0 else 6)]) ∧ Below w.heap.size w w' := by
  have h1 := rread_any S (by omega) (by omega) w
  rw [h] at h1
  exact h1
theorem sec0_len (L : List UInt8) (h : L.length = 128) : (sec0 L).length = 64 := by unfold sec0; rw [List.length_take, List.length_drop]; omega
theorem sec1_len (L : List UInt8) (h : L.length = 128) : (sec1 L).length = 64 := by unfold sec1; rw [List.length_take, List.length_drop]; omega
theorem sec0_eq (L : List UInt8) : L.take 64 = sec0 L := by simp [sec0]
theorem sec1_eq (L : List UInt8) (h : L.length = 128) : L.drop 64 = sec1 L := by
  unfold sec1
  rw [List.take_of_length_le (by rw [List.length_drop]; omega)]

set_option maxHeartbeats 1000000 in
theorem rbget_x6 (n : Int) (L : List UInt8) (hL : L.length = 128) (hz : L ≠ zerosL 128) (hX : sumOk (sec0 L) = false) (w : World) :
    Calls Tryz.prog 50 #[.int .i64 n, .string (str L)] w (GetTo (zIm, 6) w) := by
  have hsz : ((str L).size : Int) = 128 := by rw [str_size, hL]; rfl
  have hmk := made128
  have hcv := gbW_conv w
  unfold gbW at hcv
  have heq := str_ne_B (fun e : str L = str (zerosL 128) => hz (str_inj.1 e))
  have s0 : ∀ wx : World, (Instr.slice 9 (.string (str L)) none (some (.int .i64 64)) none).run Tryz.prog wx = .ok (.string (str (sec0 L))) wx := fun wx => by
    have h := str_take L 64 wx (by rw [hL]; decide)
    rw [sec0_eq] at h
    exact h
  have HR0 : Hid (∀ w, Calls Tryz.prog 100 #[.string (str (sec0 L))] w fun e w' => e = .returned (.tuple #[.string ⟨#[]⟩, .int .i64 6]) ∧ Below w.heap.size w w') := Lib.hid (fun w => by
    have h := rread_ok (sec0 L) (sec0_len L hL) w
    rw [hX] at h
    exact h)
  have IW := Lib.hid (gbW_im w)
  have BW := Lib.hid (gbW_below w)
  unfold gbW at IW BW
  clear hz hX hL
  generalize str (sec0 L) = S0 at *
  generalize str (zerosL 128) = Z128 at *
  generalize fillRow 0 128 0 = FR at *
  go_enter Tryz.func50, Tryz.ntmps50
  go_wp2_with fail
  refine (HR0.out _).mono ?_
  rintro e V2 ⟨rfl, hb⟩
  have iw := IW.out.below hb
  have B2 := Lib.hid (BW.out.trans (hb.mono BW.out.size))
  obtain ⟨r0, r1, r2⟩ := iw.cells
  have f0 := iw.fz 0
  have f1 := iw.fz 1
  have f2 := iw.fz 2
  have hltq := iw.lt
  have I2' := Lib.hid (iw.set (Im.mk 0 0 []))
  have B2' := Lib.hid (below_set3 B2.out w.heap.size (Nat.le_refl _) (.int .i64 ((Im.mk 0 0 []) : Im).b) (.int .u64 ((Im.mk 0 0 []) : Im).v) (.string (str ((Im.mk 0 0 []) : Im).d)))
  dsimp only at I2' B2'
  clear iw hmk hcv hb IW BW B2
  go_wp2
  have i2 : imBlk (Im.mk 0 0 []) (((V2.setCell ⟨w.heap.size, 0, none⟩ (.int .i64 0)).setCell ⟨w.heap.size, 1, none⟩ (.int .u64 0)).setCell ⟨w.heap.size, 2, none⟩ (.string ⟨#[]⟩)) w.heap.size := I2'.out
  have b2 : Below w.heap.size w (((V2.setCell ⟨w.heap.size, 0, none⟩ (.int .i64 0)).setCell ⟨w.heap.size, 1, none⟩ (.int .u64 0)).setCell ⟨w.heap.size, 2, none⟩ (.string ⟨#[]⟩)) := B2'.out
  clear r0 r1 r2
  generalize ((V2.setCell ⟨w.heap.size, 0, none⟩ (.int .i64 0)).setCell ⟨w.heap.size, 1, none⟩ (.int .u64 0)).setCell ⟨w.heap.size, 2, none⟩ (.string ⟨#[]⟩) = Wf at *
  obtain ⟨r0, r1, r2⟩ := i2.cells
  exact bodyPost_ret (v := .tuple #[((Im.mk 0 0 []) : Im).val, .int .i64 6]) (by simp [results, Tryz.results50, go_sem, r0, r1, r2]; rfl) rfl ⟨rfl, b2⟩

set_option maxHeartbeats 1000000 in
theorem rbget_y6 (n : Int) (L : List UInt8) (hL : L.length = 128) (hz : L ≠ zerosL 128) (hX : sumOk (sec0 L) = true) (hY : sumOk (sec1 L) = false) (w : World) :
    Calls Tryz.prog 50 #[.int .i64 n, .string (str L)] w (GetTo (zIm, 6) w) := by
  have hsz : ((str L).size : Int) = 128 := by rw [str_size, hL]; rfl
  have hmk := made128
  have hcv := gbW_conv w
  unfold gbW at hcv
  have heq := str_ne_B (fun e : str L = str (zerosL 128) => hz (str_inj.1 e))
  have s0 : ∀ wx : World, (Instr.slice 9 (.string (str L)) none (some (.int .i64 64)) none).run Tryz.prog wx = .ok (.string (str (sec0 L))) wx := fun wx => by
    have h := str_take L 64 wx (by rw [hL]; decide)
    rw [sec0_eq] at h
    exact h
  have s1 : ∀ wx : World, (Instr.slice 9 (.string (str L)) (some (.int .i64 64)) none none).run Tryz.prog wx = .ok (.string (str (sec1 L))) wx := fun wx => by
    have h := str_drop L 64 wx (by rw [hL]; decide)
    rw [sec1_eq L hL] at h
    exact h
  have HR0 : Hid (∀ w, Calls Tryz.prog 100 #[.string (str (sec0 L))] w fun e w' => e = .returned (.tuple #[.string (str ((sec0 L).take 60)), .int .i64 0]) ∧ Below w.heap.size w w') := Lib.hid (fun w => by
    have h := rread_ok (sec0 L) (sec0_len L hL) w
    rw [hX] at h
    exact h)
  have HR1 : Hid (∀ w, Calls Tryz.prog 100 #[.string (str (sec1 L))] w fun e w' => e = .returned (.tuple #[.string ⟨#[]⟩, .int .i64 6]) ∧ Below w.heap.size w w') := Lib.hid (fun w => by
    have h := rread_ok (sec1 L) (sec1_len L hL) w
    rw [hY] at h
    exact h)
  have IW := Lib.hid (gbW_im w)
  have BW := Lib.hid (gbW_below w)
  unfold gbW at IW BW
  clear hz hX hL hY
  generalize str ((sec0 L).take 60) = P0 at *
  generalize str (sec0 L) = S0 at *
  generalize str (sec1 L) = S1 at *
  generalize str (zerosL 128) = Z128 at *
  generalize fillRow 0 128 0 = FR at *
  go_enter Tryz.func50, Tryz.ntmps50
  go_wp2_with fail
  refine (HR0.out _).mono ?_
  rintro e V1 ⟨rfl, hb⟩
  have I1 := Lib.hid (IW.out.below hb)
  have B1 := Lib.hid (BW.out.trans (hb.mono BW.out.size))
  clear hb IW BW
  go_wp2_with fail
  refine (HR1.out _).mono ?_
  rintro e V2 ⟨rfl, hb⟩
  have iw := I1.out.below hb
  have B2 := Lib.hid (B1.out.trans (hb.mono B1.out.size))
  obtain ⟨r0, r1, r2⟩ := iw.cells
  have f0 := iw.fz 0
  have f1 := iw.fz 1
  have f2 := iw.fz 2
  have hltq := iw.lt
  have I2' := Lib.hid (iw.set (Im.mk 0 0 []))
  have B2' := Lib.hid (below_set3 B2.out w.heap.size (Nat.le_refl _) (.int .i64 ((Im.mk 0 0 []) : Im).b) (.int .u64 ((Im.mk 0 0 []) : Im).v) (.string (str ((Im.mk 0 0 []) : Im).d)))
  dsimp only at I2' B2'
  clear iw hmk hcv hb I1 B1 B2
  go_wp2
  have i2 : imBlk (Im.mk 0 0 []) (((V2.setCell ⟨w.heap.size, 0, none⟩ (.int .i64 0)).setCell ⟨w.heap.size, 1, none⟩ (.int .u64 0)).setCell ⟨w.heap.size, 2, none⟩ (.string ⟨#[]⟩)) w.heap.size := I2'.out
  have b2 : Below w.heap.size w (((V2.setCell ⟨w.heap.size, 0, none⟩ (.int .i64 0)).setCell ⟨w.heap.size, 1, none⟩ (.int .u64 0)).setCell ⟨w.heap.size, 2, none⟩ (.string ⟨#[]⟩)) := B2'.out
  clear r0 r1 r2
  generalize ((V2.setCell ⟨w.heap.size, 0, none⟩ (.int .i64 0)).setCell ⟨w.heap.size, 1, none⟩ (.int .u64 0)).setCell ⟨w.heap.size, 2, none⟩ (.string ⟨#[]⟩) = Wf at *
  obtain ⟨r0, r1, r2⟩ := i2.cells
  exact bodyPost_ret (v := .tuple #[((Im.mk 0 0 []) : Im).val, .int .i64 6]) (by simp [results, Tryz.results50, go_sem, r0, r1, r2]; rfl) rfl ⟨rfl, b2⟩

end Go.Proofs.YtkgdpmeheakdcaaGreat

/- The reference's GetBlock, both sectors being good: walk. -/
namespace Go.Proofs.YtkgdpmeheakdcaaGreat
open Go.RowKit
set_option linter.all false
set_option maxRecDepth 100000

/-- Two readers, and the zero image's box. -/
structure YY (q p1 p2 : Nat) (w0 : World) (A B : List UInt8) (w : World) : Prop where
  y1 : YIn p1 A w
  y2 : YIn p2 B w
  im : imBlk zIm w q
  bel : Below w0.heap.size w0 w
  ne : p1 ≠ p2
  g1 : q < p1
  g2 : q < p2
  q0 : w0.heap.size ≤ q
theorem YY.swap {q p1 p2 : Nat} {w0 w : World} {A B : List UInt8} (h : YY q p1 p2 w0 A B w) : YY q p2 p1 w0 B A w := ⟨h.y2, h.y1, h.im, h.bel, h.ne.symm, h.g2, h.g1, h.q0⟩
theorem YY.num {q p1 p2 : Nat} {w0 w : World} {A B : List UInt8} (h : YY q p1 p2 w0 A B w) (n : Nat) (hn1 : 1 ≤ n) (hn8 : n ≤ 8) (hl : n ≤ A.length) (hl2 : A.length ≤ 100000) :
    Calls Tryz.prog 101 #[.pointer (some ⟨p1, 0, none⟩), .int .i64 n] w fun e w' => e = .returned (.int .u64 (unLe (A.take n))) ∧ YY q p1 p2 w0 (A.drop n) B w' := by
  refine (ynum_any h.y1 n hn1 hn8 hl hl2).mono ?_
  rintro e w' ⟨rfl, h1, hg⟩
  have a1 := h.g1
  have a2 := h.q0
  refine ⟨rfl, h1, (hg.block p2 h.y2.lt (fun e => h.ne e.symm)).trans h.y2, (hg.block q h.im.lt (fun e => by omega)).trans h.im, h.bel.trans (hg.below h.bel.size (fun k hk => by omega)), h.ne, h.g1, h.g2, h.q0⟩

/-- What the two sectors tell. -/
def twoB (n : Int) (X Y : Im) : Im × Int :=
  if X.b ≠ n ∨ Y.b ≠ n ∨ 4096 ≤ n then (zIm, 4) else if X.v ≠ Y.v then (zIm, 6) else (⟨n, X.v, X.d ++ Y.d⟩, 0)

theorem twoB_ok (yb v : Nat) (P Q : List UInt8) (h : (yb : Int) < 4096) : twoB yb ⟨yb, v, P⟩ ⟨yb, v, Q⟩ = (⟨yb, v, P ++ Q⟩, 0) := by
  unfold twoB
  dsimp only
  rw [if_neg (by omega), if_neg (by simp)]
theorem twoB_v (yb v u : Nat) (P Q : List UInt8) (h : (yb : Int) < 4096) (hv : v ≠ u) : twoB yb ⟨yb, v, P⟩ ⟨yb, u, Q⟩ = (zIm, 6) := by
  unfold twoB
  dsimp only
  rw [if_neg (by omega), if_pos hv]
theorem twoB_f (n : Int) (xb yb v u : Nat) (P Q : List UInt8) (h : ¬ ((xb : Int) = n ∧ (yb : Int) = n ∧ n < 4096)) : twoB n ⟨xb, v, P⟩ ⟨yb, u, Q⟩ = (zIm, 4) := by
  unfold twoB
  dsimp only
  rw [if_pos (by omega)]

set_option maxHeartbeats 4000000 in
theorem rbget_two (n : Int) (L : List UInt8) (hL : L.length = 128) (hz : L ≠ zerosL 128) (hX : sumOk (sec0 L) = true) (hY : sumOk (sec1 L) = true) (w : World) :
    Calls Tryz.prog 50 #[.int .i64 n, .string (str L)] w (GetTo (twoB n (readX ((sec0 L).take 60)) (readX ((sec1 L).take 60))) w) := by
  have hsz : ((str L).size : Int) = 128 := by rw [str_size, hL]; rfl
  have hmk := made128
  have hcv := gbW_conv w
  unfold gbW at hcv
  have heq := str_ne_B (fun e : str L = str (zerosL 128) => hz (str_inj.1 e))
  have s0 : ∀ wx : World, (Instr.slice 9 (.string (str L)) none (some (.int .i64 64)) none).run Tryz.prog wx = .ok (.string (str (sec0 L))) wx := fun wx => by
    have h := str_take L 64 wx (by rw [hL]; decide)
    rw [sec0_eq] at h
    exact h
  have s1 : ∀ wx : World, (Instr.slice 9 (.string (str L)) (some (.int .i64 64)) none none).run Tryz.prog wx = .ok (.string (str (sec1 L))) wx := fun wx => by
    have h := str_drop L 64 wx (by rw [hL]; decide)
    rw [sec1_eq L hL] at h
    exact h
  have HR0 : Hid (∀ w, Calls Tryz.prog 100 #[.string (str (sec0 L))] w fun e w' => e = .returned (.tuple #[.string (str ((sec0 L).take 60)), .int .i64 0]) ∧ Below w.heap.size w w') := Lib.hid (fun w => by
    have h := rread_ok (sec0 L) (sec0_len L hL) w
    rw [hX] at h
    exact h)
  have HR1 : Hid (∀ w, Calls Tryz.prog 100 #[.string (str (sec1 L))] w fun e w' => e = .returned (.tuple #[.string (str ((sec1 L).take 60)), .int .i64 0]) ∧ Below w.heap.size w w') := Lib.hid (fun w => by
    have h := rread_ok (sec1 L) (sec1_len L hL) w
    rw [hY] at h
    exact h)
  have l0 : ((sec0 L).take 60).length = 60 := by rw [List.length_take, sec0_len L hL]; rfl
  have l1 : ((sec1 L).take 60).length = 60 := by rw [List.length_take, sec1_len L hL]; rfl
  have IW := Lib.hid (gbW_im w)
  have BW := Lib.hid (gbW_below w)
  unfold gbW at IW BW
  clear hz hX hL hY
  generalize (sec0 L).take 60 = P at *
  generalize (sec1 L).take 60 = Q at *
  generalize str (sec0 L) = S0 at *
  generalize str (sec1 L) = S1 at *
  generalize str (zerosL 128) = Z128 at *
  generalize fillRow 0 128 0 = FR at *
  have p48 : ∀ wx : World, (Instr.slice 9 (.string (str P)) (some (.int .i64 48)) none none).run Tryz.prog wx = .ok (.string (str (P.drop 48))) wx := fun wx => str_drop P 48 wx (by omega)
  have q48 : ∀ wx : World, (Instr.slice 9 (.string (str Q)) (some (.int .i64 48)) none none).run Tryz.prog wx = .ok (.string (str (Q.drop 48))) wx := fun wx => str_drop Q 48 wx (by omega)
  have ph : ∀ wx : World, (Instr.slice 9 (.string (str P)) none (some (.int .i64 48)) none).run Tryz.prog wx = .ok (.string (str (P.take 48))) wx := fun wx => str_take P 48 wx (by omega)
  have qh : ∀ wx : World, (Instr.slice 9 (.string (str Q)) none (some (.int .i64 48)) none).run Tryz.prog wx = .ok (.string (str (Q.take 48))) wx := fun wx => str_take Q 48 wx (by omega)
  have hap : str (P.take 48) ++ str (Q.take 48) = str (P.take 48 ++ Q.take 48) := str_app _ _
  have hbig : ¬ 9223372036854775807 < (str (P.take 48)).size + (str (Q.take 48)).size := by rw [str_size, str_size, List.length_take, List.length_take]; omega
  have lp : (P.drop 48).length = 12 := by rw [List.length_drop]; omega
  have lq : (Q.drop 48).length = 12 := by rw [List.length_drop]; omega
  have HT : Hid (twoB n (readX P) (readX Q) = twoB n ⟨unLe ((P.drop 48).take 4), unLe (((P.drop 48).drop 4).take 8), P.take 48⟩ ⟨unLe ((Q.drop 48).take 4), unLe (((Q.drop 48).drop 4).take 8), Q.take 48⟩) := Lib.hid rfl
  rw [HT.out]
  clear HT l0 l1
  generalize P.take 48 = PH at *
  generalize Q.take 48 = QH at *
  generalize P.drop 48 = PT at *
  generalize Q.drop 48 = QT at *
  generalize str P = SP at *
  generalize str Q = SQ at *
  have LP := Lib.hid lp
  have LQ := Lib.hid lq
  clear lp lq
  go_enter Tryz.func50, Tryz.ntmps50
  go_wp2_with fail
  refine (HR0.out _).mono ?_
  rintro e V1 ⟨rfl, hb⟩
  have I1 := Lib.hid (IW.out.below hb)
  have B1 := Lib.hid (BW.out.trans (hb.mono BW.out.size))
  clear hb IW BW
  go_wp2_with fail
  refine (HR1.out _).mono ?_
  rintro e V2 ⟨rfl, hb⟩
  have I2 := Lib.hid (I1.out.below hb)
  have B2 := Lib.hid (B1.out.trans (hb.mono B1.out.size))
  clear hb I1 B1 hmk hcv s0 s1 heq
  go_upto_region 11 with fail
  go_cut [9, 10] from 47 to 54 (fun s9 s10 wx => ∃ p1 p2, s9 = .pointer (some ⟨p1, 0, none⟩) ∧ s10 = .pointer (some ⟨p2, 0, none⟩) ∧ YY w.heap.size p1 p2 w PT QT wx)
  case first =>
    have hq := I2.out.lt
    have key : ∀ (A B : List UInt8), YY w.heap.size V2.heap.size (V2.heap.size + 1) w A B ((V2.alloc (.cells #[.string (str A), .int .i64 0] 140)).alloc (.cells #[.string (str B), .int .i64 0] 140)).drew := fun A B => by
      have h1 := heap_alloc_new V2 (.cells #[.string (str A), .int .i64 0] 140)
      have h2 := heap_alloc_new (V2.alloc (.cells #[.string (str A), .int .i64 0] 140)) (.cells #[.string (str B), .int .i64 0] 140)
      rw [show (V2.alloc (.cells #[.string (str A), .int .i64 0] 140)).heap.size = V2.heap.size + 1 by simp] at h2
      exact ⟨(heap_alloc_old _ _ (by simp)).trans h1, h2, (heap_alloc_old _ _ (by simp; omega)).trans ((heap_alloc_old _ _ hq).trans I2.out), ((B2.out.alloc B2.out.size _).alloc (by have := B2.out.size; simp; omega) _).drew, by omega, by omega, by omega, Nat.le_refl _⟩
    have KEY := Lib.hid key
    clear key
    go_region
    all_goals go_wp2_with fail
    all_goals go_meet
    · exact ⟨_, _, rfl, rfl, KEY.out PT QT⟩
    · exact ⟨_, _, rfl, rfl, (KEY.out QT PT).swap⟩
  case rest =>
    obtain ⟨p1, p2, rfl, rfl, hy⟩ := hcut
    have Y0 := Lib.hid hy
    clear hy I2 B2
    have N1 := Lib.hid (Y0.out.num 4 (by decide) (by decide) (by rw [LP.out]; decide) (by rw [LP.out]; decide))
    go_wp2_with fail
    refine N1.out.mono ?_
    rintro e W1 ⟨rfl, hy⟩
    have Y1 := Lib.hid hy
    have a1 := unLe_lt (PT.take 4)
    rw [show (PT.take 4).length = 4 by rw [List.length_take, LP.out]; rfl] at a1
    have a1' : unLe (PT.take 4) < 4294967296 := a1
    clear hy Y0 N1 a1
    have N2 := Lib.hid (Y1.out.swap.num 4 (by decide) (by decide) (by rw [LQ.out]; decide) (by rw [LQ.out]; decide))
    generalize unLe (PT.take 4) = xb at *
    have w1 : IntKind.i64.wrap (xb : Int) = (xb : Int) := IntWalk.i64_in _ (by omega)
    go_wp2_with fail
    refine N2.out.mono ?_
    rintro e W2 ⟨rfl, hy⟩
    have Y2 := Lib.hid hy.swap
    have a2 := unLe_lt (QT.take 4)
    rw [show (QT.take 4).length = 4 by rw [List.length_take, LQ.out]; rfl] at a2
    have a2' : unLe (QT.take 4) < 4294967296 := a2
    clear hy Y1 N2 a2
    have N3 := Lib.hid (Y2.out.num 8 (by decide) (by decide) (by rw [List.length_drop, LP.out]; decide) (by rw [List.length_drop, LP.out]; decide))
    generalize unLe (QT.take 4) = yb at *
    have w2 : IntKind.i64.wrap (yb : Int) = (yb : Int) := IntWalk.i64_in _ (by omega)
    go_wp2_with fail
    refine N3.out.mono ?_
    rintro e W3 ⟨rfl, hy⟩
    have Y3 := Lib.hid hy
    clear hy Y2 N3
    have N4 := Lib.hid (Y3.out.swap.num 8 (by decide) (by decide) (by rw [List.length_drop, LQ.out]; decide) (by rw [List.length_drop, LQ.out]; decide))
    go_wp2_with fail
    refine N4.out.mono ?_
    rintro e W4 ⟨rfl, hy⟩
    have iw := hy.im
    have B4 := Lib.hid hy.bel
    clear hy Y3 N4
    generalize unLe ((PT.drop 4).take 8) = xv at *
    generalize unLe ((QT.drop 4).take 8) = yv at *
    obtain ⟨r0, r1, r2⟩ := iw.cells
    have f0 := iw.fz 0
    have f1 := iw.fz 1
    have f2 := iw.fz 2
    have hltq := iw.lt
    have EW : ∀ (i : Im), Hid (imBlk i (((W4.setCell ⟨w.heap.size, 0, none⟩ (.int .i64 i.b)).setCell ⟨w.heap.size, 1, none⟩ (.int .u64 i.v)).setCell ⟨w.heap.size, 2, none⟩ (.string (str i.d))) w.heap.size ∧ Below w.heap.size w (((W4.setCell ⟨w.heap.size, 0, none⟩ (.int .i64 i.b)).setCell ⟨w.heap.size, 1, none⟩ (.int .u64 i.v)).setCell ⟨w.heap.size, 2, none⟩ (.string (str i.d)))) := fun i => Lib.hid ⟨iw.set i, below_set3 B4.out w.heap.size (Nat.le_refl _) _ _ _⟩
    clear iw B4
    by_cases hb : (xb : Int) = n ∧ (yb : Int) = n ∧ n < 4096
    · obtain ⟨rfl, hb2, hb3⟩ := hb
      have hb4 : yb = xb := by omega
      subst hb4
      have e3 : decide (4096 ≤ (yb : Int)) = false := by simp; omega
      by_cases hv : xv = yv
      · subst hv
        have HT := Lib.hid (twoB_ok yb xv PH QH hb3)
        have E1 := EW ⟨yb, xv, PH ++ QH⟩
        dsimp only at E1
        clear EW
        go_upto_region 18 with fail
        go_region
        obtain ⟨i2, b2⟩ := E1.out
        clear r0 r1 r2
        generalize ((W4.setCell ⟨w.heap.size, 0, none⟩ (.int .i64 (yb : Int))).setCell ⟨w.heap.size, 1, none⟩ (.int .u64 (xv : Int))).setCell ⟨w.heap.size, 2, none⟩ (.string (str (PH ++ QH))) = Wf at *
        have b3 := b2.drew
        obtain ⟨r0, r1, r2⟩ := i2.cells
        have r0' : Wf.drew.cell? ⟨w.heap.size, 0, none⟩ = _ := r0
        have r1' : Wf.drew.cell? ⟨w.heap.size, 1, none⟩ = _ := r1
        have r2' : Wf.drew.cell? ⟨w.heap.size, 2, none⟩ = _ := r2
        go_wp2
        exact bodyPost_ret (v := .tuple #[((Im.mk yb xv (PH ++ QH)) : Im).val, .int .i64 0]) (by simp [results, Tryz.results50, go_sem, r0', r1', r2']; rfl) rfl ⟨(congrArg (fun r : Im × Int => Ending.returned (Value.tuple #[r.1.val, .int .i64 r.2])) HT.out.symm), b3⟩
      · have HT := Lib.hid (twoB_v yb xv yv PH QH hb3 hv)
        have e1 : ((xv : Int) == (yv : Int)) = false := by simp; omega
        have e2 : ((xv : Int) != (yv : Int)) = true := by simp; omega
        have E1 := EW zIm
        unfold zIm at E1
        dsimp only at E1
        clear EW
        go_wp2
        obtain ⟨i2, b2⟩ : imBlk ⟨0, 0, []⟩ (((W4.setCell ⟨w.heap.size, 0, none⟩ (.int .i64 0)).setCell ⟨w.heap.size, 1, none⟩ (.int .u64 0)).setCell ⟨w.heap.size, 2, none⟩ (.string ⟨#[]⟩)) w.heap.size ∧ Below w.heap.size w (((W4.setCell ⟨w.heap.size, 0, none⟩ (.int .i64 0)).setCell ⟨w.heap.size, 1, none⟩ (.int .u64 0)).setCell ⟨w.heap.size, 2, none⟩ (.string ⟨#[]⟩)) := E1.out
        clear r0 r1 r2
        generalize ((W4.setCell ⟨w.heap.size, 0, none⟩ (.int .i64 0)).setCell ⟨w.heap.size, 1, none⟩ (.int .u64 0)).setCell ⟨w.heap.size, 2, none⟩ (.string ⟨#[]⟩) = Wf at *
        obtain ⟨r0, r1, r2⟩ := i2.cells
        exact bodyPost_ret (v := .tuple #[((Im.mk 0 0 []) : Im).val, .int .i64 6]) (by simp [results, Tryz.results50, go_sem, r0, r1, r2]; rfl) rfl ⟨(congrArg (fun r : Im × Int => Ending.returned (Value.tuple #[r.1.val, .int .i64 r.2])) HT.out.symm), b2⟩
    · have HT := Lib.hid (twoB_f n xb yb xv yv PH QH hb)
      by_cases h1 : (xb : Int) = n
      · subst h1
        by_cases h2 : yb = xb
        · subst h2
          have e3 : decide (4096 ≤ (yb : Int)) = true := by simp; omega
          clear hb
          have E1 := EW zIm
          unfold zIm at E1
          dsimp only at E1
          clear EW
          go_wp2
          obtain ⟨i2, b2⟩ : imBlk ⟨0, 0, []⟩ (((W4.setCell ⟨w.heap.size, 0, none⟩ (.int .i64 0)).setCell ⟨w.heap.size, 1, none⟩ (.int .u64 0)).setCell ⟨w.heap.size, 2, none⟩ (.string ⟨#[]⟩)) w.heap.size ∧ Below w.heap.size w (((W4.setCell ⟨w.heap.size, 0, none⟩ (.int .i64 0)).setCell ⟨w.heap.size, 1, none⟩ (.int .u64 0)).setCell ⟨w.heap.size, 2, none⟩ (.string ⟨#[]⟩)) := E1.out
          clear r0 r1 r2
          generalize ((W4.setCell ⟨w.heap.size, 0, none⟩ (.int .i64 0)).setCell ⟨w.heap.size, 1, none⟩ (.int .u64 0)).setCell ⟨w.heap.size, 2, none⟩ (.string ⟨#[]⟩) = Wf at *
          obtain ⟨r0, r1, r2⟩ := i2.cells
          exact bodyPost_ret (v := .tuple #[((Im.mk 0 0 []) : Im).val, .int .i64 4]) (by simp [results, Tryz.results50, go_sem, r0, r1, r2]; rfl) rfl ⟨(congrArg (fun r : Im × Int => Ending.returned (Value.tuple #[r.1.val, .int .i64 r.2])) HT.out.symm), b2⟩
        · have e1 : ((yb : Int) == (xb : Int)) = false := by simp; omega
          have e2 : ((yb : Int) != (xb : Int)) = true := by simp; omega
          clear hb
          have E1 := EW zIm
          unfold zIm at E1
          dsimp only at E1
          clear EW
          go_wp2
          obtain ⟨i2, b2⟩ : imBlk ⟨0, 0, []⟩ (((W4.setCell ⟨w.heap.size, 0, none⟩ (.int .i64 0)).setCell ⟨w.heap.size, 1, none⟩ (.int .u64 0)).setCell ⟨w.heap.size, 2, none⟩ (.string ⟨#[]⟩)) w.heap.size ∧ Below w.heap.size w (((W4.setCell ⟨w.heap.size, 0, none⟩ (.int .i64 0)).setCell ⟨w.heap.size, 1, none⟩ (.int .u64 0)).setCell ⟨w.heap.size, 2, none⟩ (.string ⟨#[]⟩)) := E1.out
          clear r0 r1 r2
          generalize ((W4.setCell ⟨w.heap.size, 0, none⟩ (.int .i64 0)).setCell ⟨w.heap.size, 1, none⟩ (.int .u64 0)).setCell ⟨w.heap.size, 2, none⟩ (.string ⟨#[]⟩) = Wf at *
          obtain ⟨r0, r1, r2⟩ := i2.cells
          exact bodyPost_ret (v := .tuple #[((Im.mk 0 0 []) : Im).val, .int .i64 4]) (by simp [results, Tryz.results50, go_sem, r0, r1, r2]; rfl) rfl ⟨(congrArg (fun r : Im × Int => Ending.returned (Value.tuple #[r.1.val, .int .i64 r.2])) HT.out.symm), b2⟩
      · have e1 : ((xb : Int) == n) = false := by simp; omega
        have e2 : ((xb : Int) != n) = true := by simp; omega
        clear hb
        have E1 := EW zIm
        unfold zIm at E1
        dsimp only at E1
        clear EW
        go_wp2
        obtain ⟨i2, b2⟩ : imBlk ⟨0, 0, []⟩ (((W4.setCell ⟨w.heap.size, 0, none⟩ (.int .i64 0)).setCell ⟨w.heap.size, 1, none⟩ (.int .u64 0)).setCell ⟨w.heap.size, 2, none⟩ (.string ⟨#[]⟩)) w.heap.size ∧ Below w.heap.size w (((W4.setCell ⟨w.heap.size, 0, none⟩ (.int .i64 0)).setCell ⟨w.heap.size, 1, none⟩ (.int .u64 0)).setCell ⟨w.heap.size, 2, none⟩ (.string ⟨#[]⟩)) := E1.out
        clear r0 r1 r2
        generalize ((W4.setCell ⟨w.heap.size, 0, none⟩ (.int .i64 0)).setCell ⟨w.heap.size, 1, none⟩ (.int .u64 0)).setCell ⟨w.heap.size, 2, none⟩ (.string ⟨#[]⟩) = Wf at *
        obtain ⟨r0, r1, r2⟩ := i2.cells
        exact bodyPost_ret (v := .tuple #[((Im.mk 0 0 []) : Im).val, .int .i64 4]) (by simp [results, Tryz.results50, go_sem, r0, r1, r2]; rfl) rfl ⟨(congrArg (fun r : Im × Int => Ending.returned (Value.tuple #[r.1.val, .int .i64 r.2])) HT.out.symm), b2⟩

theorem readB_no {P : List UInt8} (h : sumOk P = false) : readB P = (zIm, 6) := by
  unfold readB
  rw [if_neg (by rw [h]; decide)]
theorem readB_yes {P : List UInt8} (h : sumOk P = true) : readB P = (readX (P.take 60), 0) := by
  unfold readB
  rw [if_pos h]
theorem rbget_any (n : Int) (L : List UInt8) (w : World) : Calls Tryz.prog 50 #[.int .i64 n, .string (str L)] w (GetTo (getB n L) w) := by
  unfold getB
  by_cases hL : L.length = 128
  · rw [if_neg (by simpa using hL)]
    by_cases hz : L = zerosL 128
    · rw [if_pos hz, hz]
      exact rbget_zero n w
    · rw [if_neg hz]
      cases hX : sumOk (sec0 L) with
      | false =>
        rw [readB_no hX, if_pos (show (zIm, (6 : Int)).2 ≠ 0 by decide)]
        exact rbget_x6 n L hL hz hX w
      | true =>
        rw [readB_yes hX, if_neg (fun h => h rfl)]
        cases hY : sumOk (sec1 L) with
        | false =>
          rw [readB_no hY, if_pos (show (zIm, (6 : Int)).2 ≠ 0 by decide)]
          exact rbget_y6 n L hL hz hX hY w
        | true =>
          rw [readB_yes hY, if_neg (fun h => h rfl)]
          exact rbget_two n L hL hz hX hY w
  · rw [if_pos hL]
    exact rbget_len n L hL w

end Go.Proofs.YtkgdpmeheakdcaaGreat
