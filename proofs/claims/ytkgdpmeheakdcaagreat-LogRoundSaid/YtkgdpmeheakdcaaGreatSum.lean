/- wire's Bytes and the package sum: walks. -/
import Derived.Test.YtkgdpmeheakdcaaGreatWire
import Derived.Laws.IdiomStrings
import Derived.Laws.BytesArg
import Derived.IntWalk
namespace Go.Proofs.YtkgdpmeheakdcaaGreat
open Go.RowKit
set_option linter.all false
set_option maxRecDepth 100000

/-- A string of a list of bytes. -/
def str (l : List UInt8) : ByteArray := ⟨l.toArray⟩
theorem str_size (l : List UInt8) : (str l).size = l.length := by simp [str, ByteArray.size]
theorem str_list (s : ByteArray) : str s.data.toList = s := by cases s; simp [str]
theorem str_toList (l : List UInt8) : (str l).data.toList = l := rfl
theorem str_app (l m : List UInt8) : str l ++ str m = str (l ++ m) := by
  apply ByteArray.ext
  simp [str]
theorem str_inj {l m : List UInt8} : str l = str m ↔ l = m := by
  constructor
  · intro h
    have := congrArg (fun s => s.data.toList) h
    exact this
  · rintro rfl; rfl

theorem own_conv {v : Value} {bs : List UInt8} {w : World} (h : w.ownsRow 0 5 1 v bs.length (byCells bs)) :
    (convert 95 9 v).run Tryz.prog w = .ok (.string (str bs)) w := by
  rcases h.2 with ⟨rfl, h0⟩ | ⟨g, cap, cur, rfl, hb, hg, h1, h2, h3, h4⟩
  · have := List.eq_nil_of_length_eq_zero h0
    subst this
    exact run_convert_bytes_nil w 95 5 Tryz.underlying95 Tryz.underlying5 0 0 9 Tryz.underlying9
  · refine run_convert_bytes_back (P := Tryz.prog) w 95 9 5 ⟨g, 0, none⟩ cap bs Tryz.underlying95 Tryz.underlying5 Tryz.underlying9 (fun j hj => ?_)
    have hadd : (Addr.add ⟨g, 0, none⟩ j) = ⟨g, j, none⟩ := by
      by_cases hj0 : j = 0
      · subst hj0; rfl
      · simp [Addr.add, hj0]
    rw [hadd]
    simp only [World.cell?, hg]
    have h5 : (byCells bs)[j]? = some (byV bs[j]) := by simp [byCells, List.getElem?_eq_getElem hj]
    rw [← h4, List.getElem?_take, if_pos (by omega), Array.getElem?_toList] at h5
    exact h5

theorem bytes_any {p : Nat} {v : Value} {bs : List UInt8} {w : World} (h : WIn p v bs w) :
    Calls Tryz.prog 121 #[.pointer (some ⟨p, 0, none⟩)] w fun e w' => e = .returned (.tuple #[.string (str bs), .int .i64 0]) ∧ w = w' := by
  have c0 : w.cell? ⟨p, 0, none⟩ = some v := by simp [World.cell?, h.blk]
  have c1 : w.cell? ⟨p, 1, none⟩ = some (.int .i64 0) := by simp [World.cell?, h.blk]
  have hc := own_conv h.own
  clear h
  go_enter Tryz.func121, Tryz.ntmps121
  go_wp2
  go_ret2
  exact ⟨rfl, rfl⟩

/-- An empty writer, just made. -/
theorem WIn.new (w : World) : WIn w.heap.size (.slice none 0 0) [] (w.alloc (.cells #[.slice none 0 0, .int .i64 0] 161)) :=
  ⟨heap_alloc_new w _, ⟨rfl, .inl ⟨rfl, rfl⟩⟩, (fun h => by cases h), Nat.zero_le _⟩
theorem WTo.below {w0 : World} {v : Value} {bs : List UInt8} {p : Nat} {w w' : World} (h : WTo p v bs w w') (hb : Below w0.heap.size w0 w) (hp : w0.heap.size ≤ p) (hv : ∀ k, v.ownBlock = some k → w0.heap.size ≤ k) :
    ∃ v', WIn p v' bs w' ∧ Below w0.heap.size w0 w' ∧ ∀ k, v'.ownBlock = some k → w0.heap.size ≤ k := by
  obtain ⟨v', h1, h2, h3⟩ := h
  refine ⟨v', h1, hb.trans (h2.below hb.size (fun k hk => ?_)), fun k hk => ?_⟩
  · rcases hk with rfl | hk
    · exact hp
    · exact hv k hk
  · rcases h3 k hk with h4 | h4
    · exact hv k h4
    · exact Nat.le_trans hb.size h4

theorem four_any (c : Nat) (hc : c < 4294967296) (w : World) :
    Calls Tryz.prog 130 #[.int .u32 c] w fun e w' => e = .returned (.string (str (leN 4 c))) ∧ Below w.heap.size w w' := by
  have H1 := Lib.hid (num_any (WIn.new w) 4 (.inr (.inl rfl)) c (by simpa using hc) (by decide))
  go_enter Tryz.func130, Tryz.ntmps130
  go_wp2_with fail
  refine H1.out.mono ?_
  rintro e w1 ⟨rfl, hw⟩
  obtain ⟨v', h1, h2, -⟩ := hw.below (w0 := w) ((Below.refl _ _).alloc (Nat.le_refl _) _) (Nat.le_refl _) (fun k hk => by cases hk)
  have HB := Lib.hid (bytes_any h1)
  have H2 := Lib.hid h2
  clear h1 h2 hw
  go_wp2_with fail
  refine HB.out.mono ?_
  rintro e w2 ⟨rfl, rfl⟩
  go_wp2
  go_ret
  exact ⟨rfl, H2.out⟩

theorem xor_all (y : Nat) (h : y < 4294967296) : bits BinOp.xor IntKind.u32 IntKind.u32.max (y : Int) = ((4294967295 - y : Nat) : Int) := by
  have h1 : bits BinOp.xor IntKind.u32 IntKind.u32.max (y : Int) = ((4294967295 ^^^ y : Nat) : Int) := u32_xor_nat 4294967295 y (by decide) h
  rw [h1]
  have h2 : (~~~(BitVec.ofNat 32 y)).toNat = 2 ^ 32 - 1 - (BitVec.ofNat 32 y).toNat := BitVec.toNat_not
  rw [BitVec.not_def, BitVec.toNat_xor, BitVec.toNat_allOnes, BitVec.toNat_ofNat, Nat.mod_eq_of_lt (by omega)] at h2
  have h3 : (4294967295 ^^^ y : Nat) = 4294967295 - y := h2
  rw [h3]

theorem take_snoc' (s : ByteArray) (k : Nat) (h : k < s.size) : s.data.toList.take (k + 1) = s.data.toList.take k ++ [s[k]] := by
  rw [List.take_succ_eq_append_getElem (by simpa using h)]; rfl

set_option maxHeartbeats 1000000 in
theorem of_any (g : Nat) (s : ByteArray) (w : World) (hg : w.cell? ⟨g, 0, none⟩ = some (.string s)) (hs : s.size ≤ 100000) :
    Calls Tryz.prog 131 #[.slice (some ⟨g, 0, none⟩) 1 1] w fun e w' => e = .returned (.int .u32 (crc s.data.toList)) ∧ w = w' := by
  go_enter Tryz.func131, Tryz.ntmps131
  go_wp2
  go_loop [3, 10] (fun t i => ∃ k : Nat, k ≤ 1 ∧ i = .int .i64 k ∧ t = .int .u32 ((if k = 0 then 4294967295 else crcL 4294967295 s.data.toList : Nat) : Int)) (fun _ i => 1 - (intOf i).toNat)
  case atStart => exact ⟨0, by omega, rfl, rfl⟩
  case round =>
    obtain ⟨k, hk, rfl, rfl⟩ := hrel
    by_cases hlt : k = 0
    · subst hlt
      simp only [if_true]
      go_wp2
      go_loop [3, 16] (fun t i => ∃ k : Nat, k ≤ s.size ∧ i = .int .i64 k ∧ t = .int .u32 ((crcL 4294967295 (s.data.toList.take k) : Nat) : Int)) (fun _ i => s.size - (intOf i).toNat)
      case atStart => exact ⟨0, Nat.zero_le _, rfl, by simp [crcL]⟩
      case round =>
        obtain ⟨k, hk2, rfl, rfl⟩ := hrel
        by_cases hlt : k < s.size
        · have hts := take_snoc' s k hlt
          have hCl := crcL_lt (s.data.toList.take k) (x := 4294967295) (by decide)
          have HTS : Hid (crcL 4294967295 (s.data.toList.take (k + 1)) = crcK 8 (crcL 4294967295 (s.data.toList.take k) ^^^ s[k].toNat)) := Lib.hid (by rw [hts, crcL_snoc]; rfl)
          have hX := crcX_lt hCl s[k]
          have hxor : bits BinOp.xor IntKind.u32 ((crcL 4294967295 (s.data.toList.take k) : Nat) : Int) ((s[k].toNat : Int) % 4294967296) = ((crcL 4294967295 (s.data.toList.take k) ^^^ s[k].toNat : Nat) : Int) := by
            have := s[k].toNat_lt
            rw [Int.emod_eq_of_lt (by omega) (by omega)]
            exact u32_xor_nat _ _ hCl (by omega)
          clear hts hCl
          go_wp2
          clear hxor
          generalize crcL 4294967295 (s.data.toList.take k) ^^^ s[k].toNat = X at *
          go_loop [3, 25] (fun t i => ∃ j : Nat, j ≤ 8 ∧ i = .int .i64 j ∧ t = .int .u32 ((crcK j X : Nat) : Int)) (fun _ i => 8 - (intOf i).toNat)
          case atStart => exact ⟨0, by omega, rfl, rfl⟩
          case round =>
            obtain ⟨j, hj, rfl, rfl⟩ := hrel
            by_cases hj8 : j < 8
            · have hY := crcK_lt hX j
              have HK : Hid (crcK (j + 1) X = crc1 (crcK j X)) := Lib.hid rfl
              generalize crcK j X = Y at *
              have hand : bits BinOp.and IntKind.u32 (Y : Int) 1 = ((Y % 2 : Nat) : Int) := by
                have := u32_and_nat Y 1 hY (by decide)
                rw [Nat.and_one_is_mod] at this
                exact this
              by_cases hodd : Y % 2 = 1
              · have hxp : bits BinOp.xor IntKind.u32 ((Y : Int) / 2) 3988292384 = ((Y / 2 ^^^ 3988292384 : Nat) : Int) := by
                  rw [show ((Y : Int) / 2) = ((Y / 2 : Nat) : Int) from by omega]
                  exact u32_xor_nat (Y / 2) 3988292384 (by omega) (by decide)
                rw [hodd] at hand
                have HC : Hid (crc1 Y = (Y / 2) ^^^ 3988292384) := Lib.hid (by unfold crc1; rw [if_pos hodd])
                clear hodd
                go_wp2
                go_round
                case rel => exact ⟨j + 1, by omega, by go_num, by rw [HK.out, HC.out]⟩
                case measure => simp [intOf]; omega
              · have hz : Y % 2 = 0 := by omega
                rw [hz] at hand
                have HC : Hid (crc1 Y = Y / 2) := Lib.hid (by unfold crc1; rw [if_neg hodd])
                clear hodd hz
                go_wp2
                go_round
                case rel => exact ⟨j + 1, by omega, by go_num, by rw [HK.out, HC.out]; go_num⟩
                case measure => simp [intOf]; omega
            · have hj8' : j = 8 := by omega
              subst hj8'
              have HX : Hid (crcK 8 X = crcK 8 X) := Lib.hid rfl
              go_wp2
              go_round
              case rel => exact ⟨k + 1, by omega, by go_num, by rw [HTS.out]⟩
              case measure => simp [intOf]; omega
        · have hks : k = s.size := by omega
          subst hks
          go_wp2
          go_round
          case rel => exact ⟨1, by omega, by go_num, by simp [List.take_of_length_le (show s.data.toList.length ≤ s.size from Nat.le_refl _)]⟩
          case measure => simp [intOf]
    · have hk1 : k = 1 := by omega
      subst hk1
      simp only [if_neg (show ¬ (1 = 0) by decide)]
      go_wp2
      go_ret
      exact ⟨ret_int' (a := bits BinOp.xor IntKind.u32 IntKind.u32.max ((crcL 4294967295 s.data.toList : Nat) : Int)) (xor_all _ (crcL_lt _ (by decide))), rfl⟩

end Go.Proofs.YtkgdpmeheakdcaaGreat
