/- sum's Stamp and Read: walks. -/
import Derived.Test.YtkgdpmeheakdcaaGreatSum
import Derived.Test.YtkgdpmeheakdcaaGreatWrite
import Derived.Deep.RegionHeld3
import Derived.Deep.RegionWith
namespace Go.Proofs.YtkgdpmeheakdcaaGreat
open Go.RowKit
set_option linter.all false
set_option maxRecDepth 100000

theorem repeatL_zero : ∀ c, Lib.repeatL [0] c = zerosL c := by
  intro c
  induction c with
  | zero => rfl
  | succ c ih => simp [Lib.repeatL, zerosL] at *; rw [ih]; rfl
theorem repeat_zero (m : Nat) (hm : m ≤ 1000000) (w : World) : Calls Tryz.prog 95 #[.string ⟨#[0]⟩, .int .i64 m] w fun e w' => e = .returned (.string (str (zerosL m))) ∧ Below w.heap.size w w' := by
  have h := Tryz.strings_Repeat ⟨#[0]⟩ m w (by omega) (by show 1 * m ≤ _; omega)
  rw [show (ByteArray.mk #[0]).data.toList = [0] from rfl, repeatL_zero] at h
  exact h

theorem cell_new1 (w : World) (v : Value) (T : TypeId) : (w.alloc (.cells #[v] T)).cell? ⟨w.heap.size, 0, none⟩ = some v := by
  simp only [World.cell?, heap_alloc_new]
  rfl

theorem cell_new1d (w : World) (v : Value) (T : TypeId) : (w.alloc (.cells #[v] T)).drew.cell? ⟨w.heap.size, 0, none⟩ = some v := cell_new1 w v T

set_option maxHeartbeats 1000000 in
theorem stamp_any (l : List UInt8) (hl : l.length ≤ 60) (w : World) :
    Calls Tryz.prog 106 #[.string (str l), .int .i64 64] w fun e w' => e = .returned (.tuple #[.string (str (stampL l 64)), .int .i64 0]) ∧ Below w.heap.size w w' := by
  obtain ⟨m, hm⟩ : ∃ m, m = 60 - l.length := ⟨_, rfl⟩
  have hm1 : m + l.length = 60 := by omega
  have hsz : ((str l).size : Int) = l.length := by rw [str_size]
  have hle : (l.length : Int) ≤ 60 := by omega
  have hle2 : ¬ (60 : Int) < l.length := by omega
  have hmi : (60 : Int) - (l.length : Int) = (m : Int) := by omega
  have HR := Lib.hid (repeat_zero m (by omega) w)
  have HM1 := Lib.hid hm1
  have HST : Hid (stampL l 64 = (l ++ zerosL m) ++ four (l ++ zerosL m)) := Lib.hid (by unfold stampL; rw [hm])
  clear hm1 hm
  have hbig : ¬ 9223372036854775807 < (str l).size + (str (zerosL m)).size := by have := HM1.out; rw [str_size, str_size, zerosL_length]; omega
  go_enter Tryz.func106, Tryz.ntmps106
  go_wp2_with fail
  refine HR.out.mono ?_
  rintro e w1 ⟨rfl, hb1⟩
  have HB1 := Lib.hid hb1
  clear hb1
  have hap : str l ++ str (zerosL m) = str (l ++ zerosL m) := str_app l (zerosL m)
  have hL : (l ++ zerosL m).length = 60 := by have := HM1.out; simp [zerosL_length]; omega
  have HS : Hid (four (l ++ zerosL m) = leN 4 (crc (l ++ zerosL m))) := Lib.hid rfl
  generalize l ++ zerosL m = L at *
  have HL := Lib.hid hL
  clear hL
  have HO := Lib.hid (of_any w1.heap.size (str L) (w1.alloc (.cells #[.string (str L)] 9)) (cell_new1 _ _ _) (by rw [str_size]; have := HL.out; omega))
  have H4 := Lib.hid (four_any (crc L) (crc_lt L) (w1.alloc (.cells #[.string (str L)] 9)))
  go_wp2_with fail
  refine HO.out.mono ?_
  rintro e w2 ⟨rfl, rfl⟩
  go_wp2_with fail
  refine H4.out.mono ?_
  rintro e w3 ⟨rfl, hb3⟩
  have hbel : Below w.heap.size w w3 := (HB1.out.alloc HB1.out.size _).trans (hb3.mono (by have := HB1.out.size; simp; omega))
  have HBE := Lib.hid hbel
  clear hb3 hbel
  have hbig2 : ¬ 9223372036854775807 < (str L).size + (str (leN 4 (crc L))).size := by have := HL.out; rw [str_size, str_size, leN_length]; omega
  have hap2 : str L ++ str (leN 4 (crc L)) = str (stampL l 64) := by rw [HST.out, HS.out, str_app]
  go_wp2
  go_ret2
  exact ⟨rfl, HBE.out⟩


theorem beq_dec (a b : List UInt8) : (a == b) = decide (a = b) := by
  rw [Bool.eq_iff_iff]
  simp

theorem str_drop (L : List UInt8) (n : Nat) (wx : World) (h : n ≤ L.length) : (Instr.slice 9 (.string (str L)) (some (.int .i64 n)) none none).run Tryz.prog wx = .ok (.string (str (L.drop n))) wx := by
  rw [run_slice_string_l wx 9 (str L) Tryz.underlying9 .i64 (n : Int) (by omega) (by rw [str_size]; omega), Int.toNat_natCast]
  congr 2
  apply ByteArray.ext
  simp [str, ByteArray.data_extract, ByteArray.size]
  exact List.take_of_length_le (by simp)
theorem str_take (L : List UInt8) (n : Nat) (wx : World) (h : n ≤ L.length) : (Instr.slice 9 (.string (str L)) none (some (.int .i64 n)) none).run Tryz.prog wx = .ok (.string (str (L.take n))) wx := by
  rw [run_slice_string_h wx 9 (str L) Tryz.underlying9 .i64 (n : Int) (by omega) (by rw [str_size]; omega), Int.toNat_natCast]
  congr 2
  apply ByteArray.ext
  simp [str, ByteArray.data_extract]
theorem str_mid (L : List UInt8) (m n : Nat) (wx : World) (h1 : m ≤ n) (h : n ≤ L.length) : (Instr.slice 9 (.string (str L)) (some (.int .i64 m)) (some (.int .i64 n)) none).run Tryz.prog wx = .ok (.string (str ((L.drop m).take (n - m)))) wx := by
  rw [run_slice_string wx 9 (str L) .i64 .i64 _ _ Tryz.underlying9 (by omega) (by omega) (by rw [str_size]; omega), Int.toNat_natCast, Int.toNat_natCast]
  congr 2
  apply ByteArray.ext
  simp [str, ByteArray.data_extract, List.extract_eq_drop_take]

set_option maxHeartbeats 1000000 in
theorem sumread_any (L : List UInt8) (h4 : 4 ≤ L.length) (hL : L.length ≤ 100000) (w : World) :
    Calls Tryz.prog 112 #[.string (str L)] w fun e w' => e = .returned (.tuple #[.string (if sumOk L = true then str (L.take (L.length - 4)) else ⟨#[]⟩), .int .i64 (if sumOk L = true then 0 else 6)]) ∧ Below w.heap.size w w' := by
  obtain ⟨n, hn⟩ : ∃ n, n = L.length - 4 := ⟨_, rfl⟩
  have hni : (L.length : Int) - 4 = (n : Int) := by omega
  have hsz : ((str L).size : Int) = L.length := by rw [str_size]
  have hn0 : (0 : Int) ≤ (n : Int) := by omega
  have hn1 : (n : Int) ≤ L.length := by omega
  have hn2 : ¬ (n : Int) < 0 := by omega
  have s1 := fun wx => str_drop L n wx (by omega)
  have s2 := fun wx => str_take L n wx (by omega)
  have hok : sumOk L = decide (L.drop n = leN 4 (crc (L.take n))) := by unfold sumOk four; rw [hn]
  have hD : (L.drop n).length = 4 := by rw [List.length_drop]; omega
  have hT : (L.take n).length ≤ 100000 := by rw [List.length_take]; omega
  rw [← hn]
  have HOK := Lib.hid hok
  have HD := Lib.hid hD
  have HT := Lib.hid hT
  clear hok hn hD hT
  generalize sumOk L = ok at *
  go_enter Tryz.func112, Tryz.ntmps112
  go_wp2_with fail
  go_cut [11] from 12 to 21 (fun s11 wx => s11 = .bool (!ok) ∧ Below w.heap.size w wx)
  case first =>
    go_region_with (first
      | (go_at_call 131
         refine (of_any _ _ _ (cell_new1d _ _ _) (by rw [str_size]; exact HT.out)).mono ?_
         rintro e x1 ⟨rfl, rfl⟩)
      | (go_at_call 130
         refine (four_any _ (crc_lt _) _).mono ?_
         rintro e x1 ⟨rfl, bx⟩))
    go_wp2_with fail
    go_meet
    refine ⟨?_, ?_⟩
    · rw [ByteArray.toList_eq, ByteArray.toList_eq]
      show Value.bool (!(L.drop n == leN 4 (crc (L.take n)))) = _
      rw [HOK.out, beq_dec]
    · exact ((Below.refl _ _).alloc (Nat.le_refl _) _).drew.trans (bx.mono (by simp))
  case rest =>
    obtain ⟨rfl, hb⟩ := hcut
    have HB := Lib.hid hb
    clear hb
    cases ok with
    | true =>
      have HC := Lib.hid (sclone_any (str (L.take n)) wc (by rw [str_size]; have := HT.out; omega))
      go_wp2_with fail
      refine HC.out.mono ?_
      rintro e w2 ⟨rfl, hb2⟩
      have HB2 := Lib.hid (HB.out.trans (hb2.mono HB.out.size))
      clear hb2
      go_wp2
      go_ret2
      exact ⟨rfl, HB2.out⟩
    | false =>
      go_wp2
      go_ret2
      exact ⟨rfl, HB.out⟩

end Go.Proofs.YtkgdpmeheakdcaaGreat
