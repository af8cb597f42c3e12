/- Read: all its answers. -/
import Derived.Test.YtkgdpmeheakdcaaGreatWriteR
namespace Go.Proofs.YtkgdpmeheakdcaaGreat
open Go.RowKit
set_option linter.all false
set_option maxRecDepth 100000

def zero64 : ByteArray := ⟨(Lib.repeatL [0] 64).toArray⟩
def secAt (D : DS) (a : Int) : ByteArray := (D.now a).getD zero64
/-- The bytes of n sectors from a on. -/
def readL (D : DS) (a : Int) : Nat → List UInt8
  | 0 => []
  | n + 1 => readL D a n ++ (secAt D (a + n)).data.toList
def readR (D : DS) (a n : Int) : ByteArray × Int :=
  if D.on = false then (⟨#[]⟩, 14) else if decide (1 ≤ n ∧ n ≤ 400) = false ∨ thereB D.sectors a n = false then (⟨#[]⟩, 30) else (⟨(readL D a n.toNat).toArray⟩, 0)

theorem zero64_size : zero64.size = 64 := by decide +kernel

theorem readL_length {D : DS} (hs : ∀ k s, D.now k = some s → s.size = 64) (a : Int) : ∀ n, (readL D a n).length = 64 * n
  | 0 => rfl
  | n + 1 => by
    have h : (secAt D (a + n)).data.toList.length = 64 := by
      unfold secAt
      cases hd : D.now (a + n) with
      | none => exact zero64_size
      | some s => exact hs _ _ hd
    simp only [readL, List.length_append, readL_length hs a n, h]
    omega

theorem builderAt_below {T e : TypeId} {B b : Nat} {p : Value} {bs : List Value} {w w' : World} (h : Lib.BuilderAt T e B b p bs w) (hb : Below w.heap.size w w') : Lib.BuilderAt T e B b p bs w' := by
  obtain ⟨hB, v, hk, hown, hne⟩ := h
  refine ⟨hB, v, ?_, ownsRow_of_same hown ?_, hne⟩
  · rw [hb.block b (Array.getElem?_eq_some_iff.1 hk).1]
    exact hk
  · intro g hg
    obtain ⟨_, cur, hc⟩ := ownsRow_block hown hg
    exact hb.block g (Array.getElem?_eq_some_iff.1 hc).1
theorem isBuilder_below {T e : TypeId} {B b : Nat} {bs : List Value} {w w' : World} (h : Lib.IsBuilder T e B b bs w) (hb : Below w.heap.size w w') : Lib.IsBuilder T e B b bs w' :=
  h.elim (fun h => .inl (builderAt_below h hb)) (fun h => .inr (builderAt_below h hb))

theorem read_any {F : Nat → Prop} {b : Nat} {D : DS} {nb lb : Nat} {wv sv : Value} {w : World} (h : DiskIn F b D nb lb wv sv w) (ok : D.Ok) (sec : ∀ k s, D.now k = some s → s.size = 64) (a n : Int) :
    Calls Tryz.prog 47 #[.pointer (some ⟨b, 0, none⟩), .int .i64 a, .int .i64 n] w fun e w' => e = .returned (.tuple #[.string (readR D a n).1, .int .i64 (readR D a n).2]) ∧ Grow (fun _ => False) w w' := by
  have HON := Lib.hid (on_any h.blk)
  have HT := Lib.hid (there_any h.blk (by have := ok.s0; omega) ok.s1 a n)
  unfold readR
  cases hon : D.on with
  | false =>
    rw [if_pos rfl]
    rw [hon] at HON
    clear h ok sec
    go_enter Tryz.func47, Tryz.ntmps47
    go_wp2_with fail
    refine HON.out.mono ?_
    rintro e w1 ⟨rfl, rfl⟩
    go_wp2
    go_ret2
    exact ⟨rfl, Grow.refl _ _⟩
  | true =>
    rw [if_neg (by simp)]
    rw [hon] at HON
    by_cases hn0 : n < 1
    · rw [if_pos (.inl (by simp; omega))]
      clear h ok sec
      go_enter Tryz.func47, Tryz.ntmps47
      go_wp2_with fail
      refine HON.out.mono ?_
      rintro e w1 ⟨rfl, rfl⟩
      go_wp2
      go_ret2
      exact ⟨rfl, Grow.refl _ _⟩
    · by_cases hn1 : 400 < n
      · rw [if_pos (.inl (by simp; omega))]
        clear h ok sec
        go_enter Tryz.func47, Tryz.ntmps47
        go_wp2_with fail
        refine HON.out.mono ?_
        rintro e w1 ⟨rfl, rfl⟩
        go_wp2
        go_ret2
        exact ⟨rfl, Grow.refl _ _⟩
      · obtain ⟨m, rfl⟩ := Int.eq_ofNat_of_zero_le (show 0 ≤ n by omega)
        cases ht : thereB D.sectors a m with
        | false =>
          rw [if_pos (.inr rfl)]
          rw [ht] at HT
          clear h ok sec ht
          go_enter Tryz.func47, Tryz.ntmps47
          go_wp2_with fail
          refine HON.out.mono ?_
          rintro e w1 ⟨rfl, rfl⟩
          go_wp2_with fail
          refine HT.out.mono ?_
          rintro e w1 ⟨rfl, rfl⟩
          go_wp2
          go_ret2
          exact ⟨rfl, Grow.refl _ _⟩
        | true =>
          rw [if_neg (by simp; omega), Int.toNat_natCast]
          rw [ht] at HT
          have hb : 0 ≤ a ∧ a + m ≤ 20000 := by
            unfold thereB at ht
            simp at ht
            have := ok.s1
            omega
          obtain ⟨hb0, hb1⟩ := hb
          have c3 := h.blk.c3
          have HD := Lib.hid h
          have HS := Lib.hid sec
          have hz : 4 * w.heap.size = 4 * w.heap.size := rfl
          have hblt : b < w.heap.size := h.flt b h.fb
          clear h ok sec ht
          go_enter Tryz.func47, Tryz.ntmps47
          go_wp2_with fail
          refine HON.out.mono ?_
          rintro e w1 ⟨rfl, rfl⟩
          go_wp2_with fail
          refine HT.out.mono ?_
          rintro e w1 ⟨rfl, rfl⟩
          go_wp2
          go_loopw [31] (fun i wr => ∃ k : Nat, k ≤ m ∧ i = .int .i64 k ∧ Lib.IsBuilder 128 5 w.heap.size w.heap.size (Lib.byteCells (readL D a k)) wr ∧ Below w.heap.size w wr)
            (fun i _ => m - (intOf i).toNat)
          case atStart => exact ⟨0, Nat.zero_le _, rfl, Lib.fresh_isBuilder _ _ _, (Below.refl _ _).alloc (Nat.le_refl _) _⟩
          case round =>
            obtain ⟨k, hk, rfl, hib, hbl⟩ := hrel
            have hlen : (readL D a k).length = 64 * k := readL_length HS.out a k
            have hbs : w.heap.size ≤ wr.heap.size := hbl.size
            have hdi := HD.out.grow (Grow.of_below (F := fun _ => False) hbl) (fun _ _ h => h)
            have hc3 : wr.cell? ⟨b, 3, none⟩ = some (Value.map (some nb)) := hdi.blk.c3
            have hnow := hdi.now
            by_cases hlt : k < m
            · have hlook := MapAt.lookup hnow Tryz.underlying102 Tryz.underlying3 (Tryz.zeroValue9 wr) (a + k) true
              have hrs : readL D a (k + 1) = readL D a k ++ (secAt D (a + k)).data.toList := rfl
              cases hd : D.now (a + k) with
              | some s =>
                have hs64 : s.size = 64 := HS.out _ _ hd
                have hse : secAt D (a + k) = s := by simp [secAt, hd]
                rw [hse] at hrs
                have hlook' : (Instr.lookup 102 (.map (some nb)) (.int .i64 (a + k)) true).run Tryz.prog wr = .ok (.tuple #[.string s, .bool true]) wr := by
                  rw [hlook]
                  simp [lookV, nowV, hd]
                have HW := Lib.hid (Tryz.Builder_WriteStringB w.heap.size w.heap.size _ s wr hib (by rw [Lib.byteCells_length, hlen, hs64]; omega) hbs)
                have HI := Lib.hid hib
                have HB := Lib.hid hbl
                have HR := Lib.hid hrs
                clear hd hnow hlook hdi hib hbl hrs hse c3 hs64 hlen
                go_wp2_with fail
                refine HW.out.mono ?_
                rintro e w1 ⟨rfl, hw1, hw2⟩
                have H1 := Lib.hid hw1
                have H2 := Lib.hid hw2
                clear hw1 hw2
                go_wp2
                go_roundw
                case rel => exact ⟨k + 1, by omega, by go_num, .inr (by rw [HR.out, Lib.byteCells_append]; exact H1.out), HB.out.trans H2.out⟩
                case measure => simp [intOf]; omega
              | none =>
                have hse : secAt D (a + k) = zero64 := by simp [secAt, hd]
                rw [hse] at hrs
                have hlook' : (Instr.lookup 102 (.map (some nb)) (.int .i64 (a + k)) true).run Tryz.prog wr = .ok (.tuple #[.string ⟨#[]⟩, .bool false]) wr := by
                  rw [hlook]
                  simp [lookV, nowV, hd]
                have HP := Lib.hid (Tryz.strings_Repeat ⟨#[0]⟩ 64 wr (by omega) (by decide))
                have HI := Lib.hid hib
                have HB := Lib.hid hbl
                have HR := Lib.hid hrs
                have HL := Lib.hid hlen
                clear hd hnow hlook hdi hib hbl hrs hse c3 hlen
                go_wp2_with fail
                refine HP.out.mono ?_
                rintro e w1 ⟨rfl, hw1⟩
                have HW := Lib.hid (Tryz.Builder_WriteStringB w.heap.size w.heap.size _ zero64 w1 (isBuilder_below HI.out hw1) (by rw [Lib.byteCells_length, HL.out, zero64_size]; omega) (Nat.le_trans hbs hw1.size))
                have H1 := Lib.hid hw1
                clear hw1
                go_wp2_with fail
                refine HW.out.mono ?_
                rintro e w2 ⟨rfl, hw2, hw3⟩
                have H2 := Lib.hid hw2
                have H3 := Lib.hid hw3
                clear hw2 hw3
                go_wp2
                go_roundw
                case rel => exact ⟨k + 1, by omega, by go_num, .inr (by rw [HR.out, Lib.byteCells_append]; exact H2.out), HB.out.trans ((H1.out.mono hbs).trans H3.out)⟩
                case measure => simp [intOf]; omega
            · have hkm : k = m := by omega
              subst hkm
              have HX := Lib.hid (Tryz.Builder_String_any w.heap.size w.heap.size _ wr hib hbs)
              have HB := Lib.hid hbl
              clear hnow hdi hib hbl c3 hlen
              go_wp2_with fail
              refine HX.out.mono ?_
              rintro e w1 ⟨rfl, hw1⟩
              have H1 := Lib.hid hw1
              clear hw1
              go_wp2
              go_ret2
              exact ⟨rfl, Grow.of_below (HB.out.trans H1.out)⟩

end Go.Proofs.YtkgdpmeheakdcaaGreat
