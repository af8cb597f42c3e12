import Derived.Test.YtkgdpmeheakdcaaGreatOpenL
import Derived.Test.YtkgdpmeheakdcaaGreatBLaw
import Derived.Deep.RegionHeld3
import Derived.Deep.CutRange
/- rec: Sectors, Most, and a writer beside a box: walks. -/
namespace Go.Proofs.YtkgdpmeheakdcaaGreat
open Go.RowKit
set_option linter.all false
set_option maxRecDepth 100000

/-- How many sectors a record has. -/
def secs (n : Nat) : Nat := if 1 ≤ n ∧ n ≤ 60 then (108 * n + 41) / 42 else 0
theorem secs_in {n : Nat} (h1 : 1 ≤ n) (h2 : n ≤ 60) : secs n = (108 * n + 41) / 42 := by unfold secs; rw [if_pos ⟨h1, h2⟩]
theorem secs_le (n : Nat) : secs n ≤ 155 := by
  unfold secs
  split <;> omega

theorem sectors_rec (n : Nat) (hn : n ≤ 1000) (w : World) : Calls Tryz.prog 58 #[.int .i64 n] w fun e w' => e = .returned (.int .i64 (secs n)) ∧ w = w' := by
  unfold secs
  by_cases h1 : n < 1
  · have e1 : decide ((n : Int) < 1) = true := by simp; omega
    rw [if_neg (by omega)]
    go_enter Tryz.func58, Tryz.ntmps58
    go_wp2
    go_ret
    exact ⟨rfl, rfl⟩
  · have e1 : decide ((n : Int) < 1) = false := by simp; omega
    by_cases h2 : 60 < n
    · have e2 : decide (60 < (n : Int)) = true := by simp; omega
      rw [if_neg (by omega)]
      go_enter Tryz.func58, Tryz.ntmps58
      go_wp2
      go_ret
      exact ⟨rfl, rfl⟩
    · have e2 : decide (60 < (n : Int)) = false := by simp; omega
      rw [if_pos ⟨by omega, by omega⟩]
      have i1 : IntKind.i64.wrap (108 * (n : Int)) = 108 * (n : Int) := IntWalk.i64_in _ (by omega)
      have i2 : IntKind.i64.wrap (108 * (n : Int) + 42) = 108 * (n : Int) + 42 := IntWalk.i64_in _ (by omega)
      have i3 : IntKind.i64.wrap (108 * (n : Int) + 42 - 1) = 108 * (n : Int) + 41 := by rw [IntWalk.i64_in _ (by omega)]; omega
      obtain ⟨q, hq⟩ : ∃ q, q = (108 * n + 41) / 42 := ⟨_, rfl⟩
      rw [← hq]
      have i4 : (108 * (n : Int) + 41).tdiv 42 = (q : Int) := by rw [Int.tdiv_eq_ediv_of_nonneg (by omega)]; omega
      have i6 : (108 * (n : Int) + 41) / 42 = (q : Int) := by omega
      have i5 : IntKind.i64.wrap (q : Int) = (q : Int) := IntWalk.i64_in _ (by omega)
      clear h1 h2 hq
      go_enter Tryz.func58, Tryz.ntmps58
      go_wp2
      go_ret
      exact ⟨rfl, rfl⟩

set_option maxHeartbeats 2000000 in
theorem most8 (w : World) : Calls Tryz.prog 57 #[.int .i64 8] w fun e w' => e = .returned (.int .i64 1) ∧ w = w' := by
  have S1 : Hid (∀ w, Calls Tryz.prog 58 #[.int .i64 1] w fun e w' => e = .returned (.int .i64 3) ∧ w = w') := Lib.hid (fun w => sectors_rec 1 (by decide) w)
  have S2 : Hid (∀ w, Calls Tryz.prog 58 #[.int .i64 2] w fun e w' => e = .returned (.int .i64 6) ∧ w = w') := Lib.hid (fun w => sectors_rec 2 (by decide) w)
  go_enter Tryz.func57, Tryz.ntmps57
  go_wp2
  go_loopw [3] (fun i wr => wr = w ∧ (i = .int .i64 0 ∨ i = .int .i64 1)) (fun i _ => 2 - (intOf i).toNat)
  case atStart => exact ⟨rfl, .inl rfl⟩
  case round =>
    obtain ⟨rfl, rfl | rfl⟩ := hrel
    · go_wp2_with fail
      refine (S1.out _).mono ?_
      rintro e w1 ⟨rfl, rfl⟩
      go_wp2
      go_roundw
      case rel => exact ⟨trivial, .inr rfl⟩
      case measure => simp [intOf]
    · go_wp2_with fail
      refine (S2.out _).mono ?_
      rintro e w1 ⟨rfl, rfl⟩
      go_wp2
      go_ret
      exact ⟨rfl, rfl⟩

/-- A box at q that stays, a writer at p. -/
structure BoxSt (o : Obj) (q p : Nat) (w0 : World) (bs : List UInt8) (wx : World) : Prop where
  wr : ∃ v, WIn p v bs wx ∧ ∀ k, v.ownBlock = some k → q < k
  box : wx.heap[q]? = some o
  bel : Below w0.heap.size w0 wx
  qp : w0.heap.size ≤ q ∧ q < p
theorem BoxSt.drew {o : Obj} {q p : Nat} {w0 wx : World} {bs : List UInt8} (h : BoxSt o q p w0 bs wx) : BoxSt o q p w0 bs wx.drew := by
  obtain ⟨v, h1, h2⟩ := h.wr
  exact ⟨⟨v, h1.grow (Grow.drew wx), h2⟩, h.box, h.bel.drew, h.qp⟩
theorem BoxSt.num {o : Obj} {q p : Nat} {w0 wx : World} {bs : List UInt8} (h : BoxSt o q p w0 bs wx) (n : Nat) (hn : n = 1 ∨ n = 4 ∨ n = 8) (x : Nat) (hx : x < 256 ^ n) (hs : bs.length + n ≤ 100000) :
    Calls Tryz.prog 120 #[.pointer (some ⟨p, 0, none⟩), .int .u64 x, .int .i64 n] wx fun e w' => e = .returned (.pointer (some ⟨p, 0, none⟩)) ∧ BoxSt o q p w0 (bs ++ leN n x) w' := by
  obtain ⟨v, h1, h2⟩ := h.wr
  have hq := h.qp
  have hlt : q < wx.heap.size := (Array.getElem?_eq_some_iff.1 h.box).1
  refine (num_any h1 n hn x hx hs).mono ?_
  rintro e w' ⟨rfl, v', g1, g2, g3⟩
  have hne : ∀ k, (k = p ∨ v.ownBlock = some k) → q < k := fun k hk => by
    rcases hk with rfl | hk
    · exact hq.2
    · exact h2 k hk
  refine ⟨rfl, ⟨v', g1, fun k hk => ?_⟩, ?_, h.bel.trans (g2.below h.bel.size (fun k hk => by have := hne k hk; omega)), hq⟩
  · rcases g3 k hk with g4 | g4
    · exact h2 k g4
    · omega
  · exact (g2.block q hlt (fun hf => by have := hne q hf; omega)).trans h.box
theorem BoxSt.bytes {o : Obj} {q p : Nat} {w0 wx : World} {bs : List UInt8} (h : BoxSt o q p w0 bs wx) :
    Calls Tryz.prog 121 #[.pointer (some ⟨p, 0, none⟩)] wx fun e w' => e = .returned (.tuple #[.string (str bs), .int .i64 0]) ∧ wx = w' := by
  obtain ⟨v, h1, h2⟩ := h.wr
  exact bytes_any h1
theorem BoxSt.start {w0 w : World} (o : Obj) (hb : Below w0.heap.size w0 w) : BoxSt o w.heap.size (w.heap.size + 1) w0 [] ((w.alloc o).alloc (.cells #[.slice none 0 0, .int .i64 0] 161)) := by
  have h1 : (w.alloc o).heap.size = w.heap.size + 1 := by simp
  have h2 := WIn.new (w.alloc o)
  rw [h1] at h2
  have ha : Below w.heap.size w ((w.alloc o).alloc (.cells #[.slice none 0 0, .int .i64 0] 161)) := ((Below.refl _ _).alloc (Nat.le_refl _) _).alloc (by omega) _
  refine ⟨⟨_, h2, fun k hk => by cases hk⟩, ?_, hb.trans (ha.mono hb.size), hb.size, by omega⟩
  exact (heap_alloc_old _ _ (by omega)).trans (heap_alloc_new w _)
theorem three_cells {w : World} {q : Nat} {T : TypeId} {a b c : Value} (h : w.heap[q]? = some (.cells #[a, b, c] T (0, 0))) :
    w.cell? ⟨q, 0, none⟩ = some a ∧ w.cell? ⟨q, 1, none⟩ = some b ∧ w.cell? ⟨q, 2, none⟩ = some c := by
  simp [World.cell?, h]

end Go.Proofs.YtkgdpmeheakdcaaGreat

/- rec: PutHead, label: walks. -/
namespace Go.Proofs.YtkgdpmeheakdcaaGreat
open Go.RowKit
set_option linter.all false
set_option maxRecDepth 100000

def headTag (lsn pl : Nat) : List UInt8 := leN 8 9 ++ leN 8 lsn ++ leN 4 pl
theorem headTag_length (lsn pl : Nat) : (headTag lsn pl).length = 20 := by simp [headTag, leN_length]
def headL (lsn pl : Nat) : List UInt8 := stampL ([72, 69, 65, 68] ++ headTag lsn pl) 64
theorem headL_length (lsn pl : Nat) : (headL lsn pl).length = 64 := stampL_length (by rw [List.length_append, headTag_length]; decide)

set_option maxHeartbeats 2000000 in
theorem puthead_any (lsn pl : Nat) (h1 : 1 ≤ lsn) (h2 : lsn < 18446744073709551616) (h3 : pl ≤ 256) (w : World) :
    Calls Tryz.prog 103 #[.agg #[.int .u64 9, .int .u64 lsn, .int .i64 pl]] w fun e w' => e = .returned (.tuple #[.string (str (headL lsn pl)), .int .i64 0]) ∧ Below w.heap.size w w' := by
  have HS0 := Lib.hid (BoxSt.start (.cells #[.int .u64 9, .int .u64 lsn, .int .i64 pl] 146) (Below.refl w.heap.size w))
  have HH : Hid (str [72, 69, 65, 68] ++ str (headTag lsn pl) = str ([72, 69, 65, 68] ++ headTag lsn pl)) := Lib.hid (str_app _ _)
  have HBIG : Hid (¬ 9223372036854775807 < (str [72, 69, 65, 68]).size + (str (headTag lsn pl)).size) := Lib.hid (by rw [str_size, str_size, headTag_length]; decide)
  have HST : Hid (∀ w, Calls Tryz.prog 106 #[.string (str ([72, 69, 65, 68] ++ headTag lsn pl)), .int .i64 64] w fun e w' => e = .returned (.tuple #[.string (str (headL lsn pl)), .int .i64 0]) ∧ Below w.heap.size w w') := Lib.hid (fun w => stamp_any _ (by rw [List.length_append, headTag_length]; decide) w)
  have e1 : ((lsn : Int) == 0) = false := by simp; omega
  have e2 : decide ((pl : Int) < 0) = false := by simp
  have e3 : decide (256 < (pl : Int)) = false := by simp; omega
  have HV : Hid (lsn < 256 ^ 8) := Lib.hid h2
  have hlb : (lsn : Int) < 18446744073709551616 := by omega
  clear h1 h2
  go_enter Tryz.func103, Tryz.ntmps103
  go_upto_region 4 with fail
  generalize (w.alloc (.cells #[.int .u64 9, .int .u64 lsn, .int .i64 pl] 146)).alloc (.cells #[.slice none 0 0, .int .i64 0] 161) = W at *
  obtain ⟨O, hO⟩ : ∃ O, O = Obj.cells #[.int .u64 9, .int .u64 lsn, .int .i64 pl] 146 (0, 0) := ⟨_, rfl⟩
  rw [← hO] at HS0
  have CELLS : Hid (∀ wx bs, BoxSt O w.heap.size (w.heap.size + 1) w bs wx → wx.cell? ⟨w.heap.size, 0, none⟩ = some (.int .u64 9) ∧ wx.cell? ⟨w.heap.size, 1, none⟩ = some (.int .u64 lsn) ∧ wx.cell? ⟨w.heap.size, 2, none⟩ = some (.int .i64 pl)) := Lib.hid (fun wx bs h => three_cells (h.box.trans (by rw [hO])))
  have N1 : Hid (∀ wx, BoxSt O w.heap.size (w.heap.size + 1) w [] wx → Calls Tryz.prog 120 #[.pointer (some ⟨w.heap.size + 1, 0, none⟩), .int .u64 9, .int .i64 8] wx fun e w' => e = .returned (.pointer (some ⟨w.heap.size + 1, 0, none⟩)) ∧ BoxSt O w.heap.size (w.heap.size + 1) w (leN 8 9) w') := Lib.hid (fun wx h => h.num 8 (.inr (.inr rfl)) 9 (by decide) (by decide))
  have N2 : Hid (∀ wx, BoxSt O w.heap.size (w.heap.size + 1) w (leN 8 9) wx → Calls Tryz.prog 120 #[.pointer (some ⟨w.heap.size + 1, 0, none⟩), .int .u64 lsn, .int .i64 8] wx fun e w' => e = .returned (.pointer (some ⟨w.heap.size + 1, 0, none⟩)) ∧ BoxSt O w.heap.size (w.heap.size + 1) w (leN 8 9 ++ leN 8 lsn) w') := Lib.hid (fun wx h => h.num 8 (.inr (.inr rfl)) lsn HV.out (by rw [leN_length]; decide))
  have N3 : Hid (∀ wx, BoxSt O w.heap.size (w.heap.size + 1) w (leN 8 9 ++ leN 8 lsn) wx → Calls Tryz.prog 120 #[.pointer (some ⟨w.heap.size + 1, 0, none⟩), .int .u64 pl, .int .i64 4] wx fun e w' => e = .returned (.pointer (some ⟨w.heap.size + 1, 0, none⟩)) ∧ BoxSt O w.heap.size (w.heap.size + 1) w (headTag lsn pl) w') := Lib.hid (fun wx h => h.num 4 (.inr (.inl rfl)) pl (by omega) (by rw [List.length_append, leN_length, leN_length]; decide))
  have N4 : Hid (∀ wx, BoxSt O w.heap.size (w.heap.size + 1) w (headTag lsn pl) wx → Calls Tryz.prog 121 #[.pointer (some ⟨w.heap.size + 1, 0, none⟩)] wx fun e w' => e = .returned (.tuple #[.string (str (headTag lsn pl)), .int .i64 0]) ∧ wx = w') := Lib.hid (fun wx h => h.bytes)
  clear hO
  have hSd := HS0.out.drew
  obtain ⟨c0, c1, c2⟩ := CELLS.out _ _ hSd
  have hwb : IntKind.u64.wrap (pl : Int) = (pl : Int) := by rw [IntKind.wrap_u64, Int.emod_eq_of_lt (by omega) (by omega)]
  go_cut [5, 6] from 25 to 38 (fun s5 s6 wx => s5 = .string (str (headTag lsn pl)) ∧ s6 = .int .i64 0 ∧ Below w.heap.size w wx)
  case first =>
    go_region_held3 (fun w' => w'.cell? ⟨w.heap.size, 0, none⟩ = some (.int .u64 9) ∧ w'.cell? ⟨w.heap.size, 1, none⟩ = some (.int .u64 lsn) ∧ w'.cell? ⟨w.heap.size, 2, none⟩ = some (.int .i64 pl))
      (first | exact ⟨c0, c1, c2⟩ | exact ⟨d0, d1, d2⟩ | exact ⟨k0, k1, k2⟩ | exact ⟨j0, j1, j2⟩ | go_keep)
      (first
        | (go_at_call 120
           with_reducible refine (N1.out _ hSd).mono ?_
           rintro e x1 ⟨rfl, g1⟩
           obtain ⟨d0, d1, d2⟩ := CELLS.out _ _ g1)
        | (go_at_call 120
           with_reducible refine (N2.out _ g1).mono ?_
           rintro e x2 ⟨rfl, g2⟩
           obtain ⟨k0, k1, k2⟩ := CELLS.out _ _ g2)
        | (go_at_call 120
           with_reducible refine (N3.out _ g2).mono ?_
           rintro e x3 ⟨rfl, g3⟩
           obtain ⟨j0, j1, j2⟩ := CELLS.out _ _ g3)
        | (go_at_call 121
           with_reducible refine (N4.out _ g3).mono ?_
           rintro e x4 ⟨rfl, rfl⟩))
    all_goals go_wp2_with fail
    all_goals go_meet
    all_goals exact ⟨rfl, rfl, g3.bel⟩
  case rest =>
    obtain ⟨rfl, rfl, hs⟩ := hcut
    have HS := Lib.hid hs
    have hap : (⟨#[72, 69, 65, 68]⟩ : ByteArray) ++ str (headTag lsn pl) = str ([72, 69, 65, 68] ++ headTag lsn pl) := HH.out
    have hbig : ¬ 9223372036854775807 < (⟨#[72, 69, 65, 68]⟩ : ByteArray).size + (str (headTag lsn pl)).size := HBIG.out
    have ST := Lib.hid (HST.out wc)
    clear hs hSd c0 c1 c2 hwb
    go_wp2_with fail
    refine ST.out.mono ?_
    rintro e w4 ⟨rfl, hb4⟩
    have HF := Lib.hid (HS.out.trans (hb4.mono HS.out.size))
    clear hb4
    go_wp2
    go_ret2
    exact ⟨rfl, HF.out⟩

def labTag (lsn place n : Nat) : List UInt8 := leN 8 9 ++ leN 8 lsn ++ leN 1 place ++ leN 1 n
theorem labTag_length (lsn place n : Nat) : (labTag lsn place n).length = 18 := by simp [labTag, leN_length]

set_option maxHeartbeats 2000000 in
theorem label_any (lsn place n : Nat) (sl : Value) (hsl : ∃ a len cap, sl = .slice a len cap) (h2 : lsn < 18446744073709551616) (h3 : place < 256) (h4 : n < 256) (w : World) :
    Calls Tryz.prog 107 #[.agg #[.int .u64 9, .int .u64 lsn, sl], .int .i64 place, .int .i64 n] w fun e w' => e = .returned (.string (str (labTag lsn place n))) ∧ Below w.heap.size w w' := by
  obtain ⟨sa, slen, scap, rfl⟩ := hsl
  have HS0 := Lib.hid (BoxSt.start (.cells #[.int .u64 9, .int .u64 lsn, .slice sa slen scap] 93) (Below.refl w.heap.size w))
  have HV : Hid (lsn < 256 ^ 8) := Lib.hid h2
  have hlb : (lsn : Int) < 18446744073709551616 := by omega
  clear h2
  go_enter Tryz.func107, Tryz.ntmps107
  go_upto_region 2 with fail
  generalize (w.alloc (.cells #[.int .u64 9, .int .u64 lsn, .slice sa slen scap] 93)).alloc (.cells #[.slice none 0 0, .int .i64 0] 161) = W at *
  obtain ⟨O, hO⟩ : ∃ O, O = Obj.cells #[.int .u64 9, .int .u64 lsn, .slice sa slen scap] 93 (0, 0) := ⟨_, rfl⟩
  rw [← hO] at HS0
  have CELLS : Hid (∀ wx bs, BoxSt O w.heap.size (w.heap.size + 1) w bs wx → wx.cell? ⟨w.heap.size, 0, none⟩ = some (.int .u64 9) ∧ wx.cell? ⟨w.heap.size, 1, none⟩ = some (.int .u64 lsn) ∧ wx.cell? ⟨w.heap.size, 2, none⟩ = some (.slice sa slen scap)) := Lib.hid (fun wx bs h => three_cells (h.box.trans (by rw [hO])))
  have N1 : Hid (∀ wx, BoxSt O w.heap.size (w.heap.size + 1) w [] wx → Calls Tryz.prog 120 #[.pointer (some ⟨w.heap.size + 1, 0, none⟩), .int .u64 9, .int .i64 8] wx fun e w' => e = .returned (.pointer (some ⟨w.heap.size + 1, 0, none⟩)) ∧ BoxSt O w.heap.size (w.heap.size + 1) w (leN 8 9) w') := Lib.hid (fun wx h => h.num 8 (.inr (.inr rfl)) 9 (by decide) (by decide))
  have N2 : Hid (∀ wx, BoxSt O w.heap.size (w.heap.size + 1) w (leN 8 9) wx → Calls Tryz.prog 120 #[.pointer (some ⟨w.heap.size + 1, 0, none⟩), .int .u64 lsn, .int .i64 8] wx fun e w' => e = .returned (.pointer (some ⟨w.heap.size + 1, 0, none⟩)) ∧ BoxSt O w.heap.size (w.heap.size + 1) w (leN 8 9 ++ leN 8 lsn) w') := Lib.hid (fun wx h => h.num 8 (.inr (.inr rfl)) lsn HV.out (by rw [leN_length]; decide))
  have N3 : Hid (∀ wx, BoxSt O w.heap.size (w.heap.size + 1) w (leN 8 9 ++ leN 8 lsn) wx → Calls Tryz.prog 120 #[.pointer (some ⟨w.heap.size + 1, 0, none⟩), .int .u64 place, .int .i64 1] wx fun e w' => e = .returned (.pointer (some ⟨w.heap.size + 1, 0, none⟩)) ∧ BoxSt O w.heap.size (w.heap.size + 1) w (leN 8 9 ++ leN 8 lsn ++ leN 1 place) w') := Lib.hid (fun wx h => h.num 1 (.inl rfl) place (by omega) (by rw [List.length_append, leN_length, leN_length]; decide))
  have N4 : Hid (∀ wx, BoxSt O w.heap.size (w.heap.size + 1) w (leN 8 9 ++ leN 8 lsn ++ leN 1 place) wx → Calls Tryz.prog 120 #[.pointer (some ⟨w.heap.size + 1, 0, none⟩), .int .u64 n, .int .i64 1] wx fun e w' => e = .returned (.pointer (some ⟨w.heap.size + 1, 0, none⟩)) ∧ BoxSt O w.heap.size (w.heap.size + 1) w (labTag lsn place n) w') := Lib.hid (fun wx h => h.num 1 (.inl rfl) n (by omega) (by rw [List.length_append, List.length_append, leN_length, leN_length, leN_length]; decide))
  have N5 : Hid (∀ wx, BoxSt O w.heap.size (w.heap.size + 1) w (labTag lsn place n) wx → Calls Tryz.prog 121 #[.pointer (some ⟨w.heap.size + 1, 0, none⟩)] wx fun e w' => e = .returned (.tuple #[.string (str (labTag lsn place n)), .int .i64 0]) ∧ wx = w') := Lib.hid (fun wx h => h.bytes)
  clear hO
  have hSd := HS0.out.drew
  obtain ⟨c0, c1, c2⟩ := CELLS.out _ _ hSd
  have hwb : IntKind.u64.wrap (place : Int) = (place : Int) := by rw [IntKind.wrap_u64, Int.emod_eq_of_lt (by omega) (by omega)]
  have hwn : IntKind.u64.wrap (n : Int) = (n : Int) := by rw [IntKind.wrap_u64, Int.emod_eq_of_lt (by omega) (by omega)]
  go_cut [8, 9] from 10 to 25 (fun s5 s6 wx => s5 = .string (str (labTag lsn place n)) ∧ s6 = .int .i64 0 ∧ Below w.heap.size w wx)
  case first =>
    go_region_held3 (fun w' => w'.cell? ⟨w.heap.size, 0, none⟩ = some (.int .u64 9) ∧ w'.cell? ⟨w.heap.size, 1, none⟩ = some (.int .u64 lsn) ∧ w'.cell? ⟨w.heap.size, 2, none⟩ = some (.slice sa slen scap))
      (first | exact ⟨c0, c1, c2⟩ | exact ⟨d0, d1, d2⟩ | exact ⟨k0, k1, k2⟩ | exact ⟨j0, j1, j2⟩ | exact ⟨l0, l1, l2⟩ | go_keep)
      (first
        | (go_at_call 120
           with_reducible refine (N1.out _ hSd).mono ?_
           rintro e x1 ⟨rfl, g1⟩
           obtain ⟨d0, d1, d2⟩ := CELLS.out _ _ g1)
        | (go_at_call 120
           with_reducible refine (N2.out _ g1).mono ?_
           rintro e x2 ⟨rfl, g2⟩
           obtain ⟨k0, k1, k2⟩ := CELLS.out _ _ g2)
        | (go_at_call 120
           with_reducible refine (N3.out _ g2).mono ?_
           rintro e x3 ⟨rfl, g3⟩
           obtain ⟨j0, j1, j2⟩ := CELLS.out _ _ g3)
        | (go_at_call 120
           with_reducible refine (N4.out _ g3).mono ?_
           rintro e x4 ⟨rfl, g4⟩
           obtain ⟨l0, l1, l2⟩ := CELLS.out _ _ g4)
        | (go_at_call 121
           with_reducible refine (N5.out _ g4).mono ?_
           rintro e x5 ⟨rfl, rfl⟩))
    all_goals go_wp2_with fail
    all_goals go_meet
    all_goals exact ⟨rfl, rfl, g4.bel⟩
  case rest =>
    obtain ⟨rfl, rfl, hs⟩ := hcut
    have HS := Lib.hid hs
    clear hs hSd c0 c1 c2 hwb hwn
    go_wp2
    go_ret
    exact ⟨rfl, HS.out⟩

end Go.Proofs.YtkgdpmeheakdcaaGreat
