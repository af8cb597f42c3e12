/- BlockTells: walk. -/
import Derived.Test.YtkgdpmeheakdcaaRefC
namespace Go.Proofs.Ytkgdpmeheakdcaa
open Go.RowKit
set_option linter.all false
set_option maxRecDepth 100000

def putB (i : Im) : List UInt8 × Int := if i.ok = true then (i.bytes, 0) else ([], 1)
theorem bput_any (i : Im) (hv : i.v < 18446744073709551616) (hl : i.d.length ≤ 1000) (w : World) : Calls Try.prog 47 #[i.val] w fun e w' => e = .returned (.tuple #[.string (str (putB i).1), .int .i64 (putB i).2]) ∧ Below w.heap.size w w' := by
  unfold putB
  cases h : i.ok with
  | true => rw [if_pos rfl]; exact bput_ok i h hv w
  | false => rw [if_neg (by decide)]; exact bput_no i h hl w
theorem rbput_any (i : Im) (hv : i.v < 18446744073709551616) (hl : i.d.length ≤ 1000) (w : World) : Calls Try.prog 48 #[i.val] w fun e w' => e = .returned (.tuple #[.string (str (putB i).1), .int .i64 (putB i).2]) ∧ Below w.heap.size w w' := by
  unfold putB
  cases h : i.ok with
  | true => rw [if_pos rfl]; exact rbput_ok i h hv w
  | false => rw [if_neg (by decide)]; exact rbput_no i h hl w

/-- Image boxes of the call. -/
def Ib (l : List (Im × Nat)) (w : World) : Prop := ∀ x ∈ l, imBlk x.1 w x.2
theorem Ib.below {l : List (Im × Nat)} {w w' : World} (h : Ib l w) (hb : Below w.heap.size w w') : Ib l w' := fun x hx => (h x hx).below hb
theorem Ib.add {l : List (Im × Nat)} {w : World} (h : Ib l w) (i : Im) : Ib ((i, w.heap.size) :: l) (w.alloc (.cells #[.int .i64 i.b, .int .u64 i.v, .string (str i.d)] 77)) := by
  intro x hx
  rcases List.mem_cons.1 hx with rfl | hx
  · exact heap_alloc_new w _
  · exact (heap_alloc_old w _ (h x hx).lt).trans (h x hx)

set_option maxHeartbeats 4000000 in
theorem tells_walk (s : Im) (n : Int) (x : ByteArray) (W : World) (hv : s.v < 18446744073709551616) (hsl : s.d.length ≤ maxLen) (hx : x.size ≤ maxLen) :
    Calls Try.prog 14 #[s.val, .int .i64 n, .string x] W fun e w' => e = .returned (.bool true) ∧ Below W.heap.size W w' := by
  obtain ⟨X, rfl⟩ : ∃ X, x = str X := ⟨_, (str_list x).symm⟩
  have hxs : ((str X).size : Int) = X.length := by rw [str_size]
  have hds : ((str s.d).size : Int) = s.d.length := by rw [str_size]
  have HA := Lib.hid alive10_any
  by_cases h1 : s.d.length ≤ 300
  · have g1 : decide (300 < (s.d.length : Int)) = false := by simp; omega
    by_cases h2 : X.length ≤ 300
    · have g2 : decide (300 < (X.length : Int)) = false := by simp; omega
      have HP := Lib.hid (fun w => bput_any s hv (by omega) w)
      have HQ := Lib.hid (fun w => rbput_any s hv (by omega) w)
      have HG := Lib.hid (fun w => bget_any n X w)
      have HR := Lib.hid (fun w => rbget_any n X w)
      have HG2 := Lib.hid (fun w => bget_any n (putB s).1 w)
      have HR2 := Lib.hid (fun w => rbget_any n (putB s).1 w)
      have HD := Lib.hid (fun w => pad_any X (by omega) w)
      have HE := Lib.hid (fun w => rpad_any X (by omega) w)
      unfold GetTo at HG HR HG2 HR2
      generalize getB n X = G1 at *
      generalize getB n (putB s).1 = G2 at *
      generalize (putB s).1 = PB at *
      generalize (putB s).2 = PE at *
      generalize (padL X).1 = DB at *
      generalize (padL X).2 = DE at *
      have hB0 : Below W.heap.size W (W.alloc (.cells #[.int .i64 s.b, .int .u64 s.v, .string (str s.d)] 77)) := (Below.refl _ _).alloc (Nat.le_refl _) _
      have hI0 : imBlk s (W.alloc (.cells #[.int .i64 s.b, .int .u64 s.v, .string (str s.d)] 77)) W.heap.size := heap_alloc_new W _
      have hL0 : Ib [(s, W.heap.size)] (W.alloc (.cells #[.int .i64 s.b, .int .u64 s.v, .string (str s.d)] 77)) := by
        intro y hy
        rcases List.mem_cons.1 hy with rfl | hy
        · exact hI0
        · cases hy
      have B0 := Lib.hid hB0
      have L0 := Lib.hid hL0
      obtain ⟨sb, sv, sd⟩ := s
      obtain ⟨⟨ab, av, ad⟩, ae⟩ := G1
      obtain ⟨⟨cb, cv, cd⟩, ce⟩ := G2
      unfold Im.val at *
      dsimp only at *
      clear hB0 hI0 hL0 hv hsl hx h1 h2
      go_enter Try.func14, Try.ntmps14
      go_wp2_with fail
      refine (HP.out _).mono ?_
      rintro e w1 ⟨rfl, hb⟩
      have L1 := Lib.hid (L0.out.below hb)
      have B1 := Lib.hid (B0.out.trans (hb.mono B0.out.size))
      obtain ⟨c0, c1, c2⟩ := imBlk.cells (L1.out _ (List.mem_cons_self ..))
      dsimp only at c0 c1 c2
      clear hb L0 B0
      go_wp2_with fail
      refine (HQ.out _).mono ?_
      rintro e w2 ⟨rfl, hb⟩
      have L2 := Lib.hid (L1.out.below hb)
      have B2 := Lib.hid (B1.out.trans (hb.mono B1.out.size))
      clear hb L1 B1 c0 c1 c2
      go_wp2_with fail
      refine (HG.out _).mono ?_
      rintro e w3 ⟨rfl, hb⟩
      have L3 := Lib.hid ((L2.out.below hb).add ⟨ab, av, ad⟩)
      have B3 := Lib.hid ((B2.out.trans (hb.mono B2.out.size)).alloc (B2.out.trans (hb.mono B2.out.size)).size (.cells #[.int .i64 ab, .int .u64 av, .string (str ad)] 77))
      dsimp only at L3 B3
      clear hb L2 B2
      go_wp2_with fail
      refine (HR.out _).mono ?_
      rintro e w4 ⟨rfl, hb⟩
      have L4 := Lib.hid ((L3.out.below hb).add ⟨ab, av, ad⟩)
      have B4 := Lib.hid ((B3.out.trans (hb.mono B3.out.size)).alloc (B3.out.trans (hb.mono B3.out.size)).size (.cells #[.int .i64 ab, .int .u64 av, .string (str ad)] 77))
      dsimp only at L4 B4
      clear hb L3 B3
      go_wp2_with fail
      refine (HD.out _).mono ?_
      rintro e w5 ⟨rfl, hb⟩
      have L5 := Lib.hid (L4.out.below hb)
      have B5 := Lib.hid (B4.out.trans (hb.mono B4.out.size))
      clear hb L4 B4
      go_wp2_with fail
      refine (HE.out _).mono ?_
      rintro e w6 ⟨rfl, hb⟩
      have L6 := Lib.hid (L5.out.below hb)
      have B6 := Lib.hid (B5.out.trans (hb.mono B5.out.size))
      clear hb L5 B5
      go_wp2_with fail
      refine (HG2.out _).mono ?_
      rintro e w7 ⟨rfl, hb⟩
      have L7 := Lib.hid ((L6.out.below hb).add ⟨cb, cv, cd⟩)
      have B7 := Lib.hid ((B6.out.trans (hb.mono B6.out.size)).alloc (B6.out.trans (hb.mono B6.out.size)).size (.cells #[.int .i64 cb, .int .u64 cv, .string (str cd)] 77))
      dsimp only at L7 B7
      clear hb L6 B6
      go_wp2_with fail
      refine (HR2.out _).mono ?_
      rintro e w8 ⟨rfl, hb⟩
      have L8 := Lib.hid ((L7.out.below hb).add ⟨cb, cv, cd⟩)
      have B8 := Lib.hid ((B7.out.trans (hb.mono B7.out.size)).alloc (B7.out.trans (hb.mono B7.out.size)).size (.cells #[.int .i64 cb, .int .u64 cv, .string (str cd)] 77))
      dsimp only at L8 B8
      clear hb L7 B7
      go_wp2_with fail
      refine (HA.out _).mono ?_
      rintro e w9 ⟨rfl, hb⟩
      have l9 := L8.out.below hb
      have B9 := Lib.hid (B8.out.trans (hb.mono B8.out.size))
      obtain ⟨c0, c1, c2⟩ := imBlk.cells (l9 _ (.head _))
      obtain ⟨d0, d1, d2⟩ := imBlk.cells (l9 _ (.tail _ (.head _)))
      obtain ⟨e0, e1, e2⟩ := imBlk.cells (l9 _ (.tail _ (.tail _ (.head _))))
      obtain ⟨f0, f1, f2⟩ := imBlk.cells (l9 _ (.tail _ (.tail _ (.tail _ (.head _)))))
      dsimp only at c0 c1 c2 d0 d1 d2 e0 e1 e2 f0 f1 f2
      clear hb L8 B8 l9
      go_wp2
      go_ret
      exact ⟨rfl, B9.out⟩
    · have g2 : decide (300 < (X.length : Int)) = true := by simp; omega
      have hB0 : Below W.heap.size W (W.alloc (.cells #[.int .i64 s.b, .int .u64 s.v, .string (str s.d)] 77)) := (Below.refl _ _).alloc (Nat.le_refl _) _
      have B0 := Lib.hid hB0
      unfold Im.val
      clear hB0
      go_enter Try.func14, Try.ntmps14
      go_wp2_with fail
      refine (HA.out _).mono ?_
      rintro e w1 ⟨rfl, hb⟩
      have B1 := Lib.hid (B0.out.trans (hb.mono B0.out.size))
      clear hb
      go_wp2
      go_ret
      exact ⟨rfl, B1.out⟩
  · have g1 : decide (300 < (s.d.length : Int)) = true := by simp; omega
    have hB0 : Below W.heap.size W (W.alloc (.cells #[.int .i64 s.b, .int .u64 s.v, .string (str s.d)] 77)) := (Below.refl _ _).alloc (Nat.le_refl _) _
    have B0 := Lib.hid hB0
    unfold Im.val
    clear hB0
    go_enter Try.func14, Try.ntmps14
    go_wp2_with fail
    refine (HA.out _).mono ?_
    rintro e w1 ⟨rfl, hb⟩
    have B1 := Lib.hid (B0.out.trans (hb.mono B0.out.size))
    clear hb
    go_wp2
    go_ret
    exact ⟨rfl, B1.out⟩

end Go.Proofs.Ytkgdpmeheakdcaa
