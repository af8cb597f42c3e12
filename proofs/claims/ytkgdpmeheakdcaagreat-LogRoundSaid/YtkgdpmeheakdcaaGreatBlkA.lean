import Derived.Test.YtkgdpmeheakdcaaGreatSGetX
import Derived.Test.YtkgdpmeheakdcaaGreatOpenS
/- block: walks of zero, Pad, Right, sector, Put. -/
namespace Go.Proofs.YtkgdpmeheakdcaaGreat
open Go.RowKit
set_option linter.all false
set_option maxRecDepth 100000

/-- An image, as plain data. -/
structure Im where
  b : Int
  v : Nat
  d : List UInt8
def Im.val (i : Im) : Value := .agg #[.int .i64 i.b, .int .u64 i.v, .string (str i.d)]
def Im.ok (i : Im) : Bool := decide (0 ≤ i.b ∧ i.b < 4096 ∧ i.d.length = 96)
theorem Im.ok_iff {i : Im} : i.ok = true ↔ 0 ≤ i.b ∧ i.b < 4096 ∧ i.d.length = 96 := by unfold Im.ok; simp
def imBlk (i : Im) (w : World) (q : Nat) : Prop := w.heap[q]? = some (.cells #[.int .i64 i.b, .int .u64 i.v, .string (str i.d)] 24 (0, 0))
theorem imBlk.lt {i : Im} {w : World} {q : Nat} (h : imBlk i w q) : q < w.heap.size := (Array.getElem?_eq_some_iff.1 h).1
theorem imBlk.below {i : Im} {w w' : World} {q : Nat} (h : imBlk i w q) (hb : Below w.heap.size w w') : imBlk i w' q := (hb.block q h.lt).trans h
theorem imBlk.cells {i : Im} {w : World} {q : Nat} (h : imBlk i w q) : w.cell? ⟨q, 0, none⟩ = some (.int .i64 i.b) ∧ w.cell? ⟨q, 1, none⟩ = some (.int .u64 i.v) ∧ w.cell? ⟨q, 2, none⟩ = some (.string (str i.d)) := by
  unfold imBlk at h
  simp [World.cell?, h]

theorem bzero_any (m : Nat) (hm : m ≤ 1000000) (w : World) : Calls Tryz.prog 70 #[.int .i64 m] w fun e w' => e = .returned (.string (str (zerosL m))) ∧ Below w.heap.size w w' := by
  have HR := Lib.hid (repeat_zero m hm w)
  go_enter Tryz.func70, Tryz.ntmps70
  go_wp2_with fail
  refine HR.out.mono ?_
  rintro e w1 ⟨rfl, hb⟩
  have HB := Lib.hid hb
  clear hb
  go_wp2
  go_ret
  exact ⟨rfl, HB.out⟩

def padL (l : List UInt8) : List UInt8 × Int := if l.length ≤ 96 then (l ++ zerosL (96 - l.length), 0) else ([], 2)
theorem pad_any (l : List UInt8) (hl : l.length ≤ 1000) (w : World) : Calls Tryz.prog 30 #[.string (str l)] w fun e w' => e = .returned (.tuple #[.string (str (padL l).1), .int .i64 (padL l).2]) ∧ Below w.heap.size w w' := by
  have hsz : ((str l).size : Int) = l.length := by rw [str_size]
  by_cases h : l.length ≤ 96
  · obtain ⟨m, hm⟩ : ∃ m, m = 96 - l.length := ⟨_, rfl⟩
    have HP : Hid (padL l = (l ++ zerosL m, 0)) := Lib.hid (by unfold padL; rw [if_pos h, hm])
    have hmi : (96 : Int) - (l.length : Int) = (m : Int) := by omega
    have hle : (l.length : Int) ≤ 96 := by omega
    have hbig : ¬ 9223372036854775807 < (str l).size + (str (zerosL m)).size := by rw [str_size, str_size, zerosL_length]; omega
    have hap : str l ++ str (zerosL m) = str (l ++ zerosL m) := str_app l (zerosL m)
    have HZ := Lib.hid (bzero_any m (by omega) w)
    rw [HP.out]
    clear hm h
    go_enter Tryz.func30, Tryz.ntmps30
    go_wp2_with fail
    refine HZ.out.mono ?_
    rintro e w1 ⟨rfl, hb⟩
    have HB := Lib.hid hb
    clear hb
    go_wp2
    go_ret2
    exact ⟨rfl, HB.out⟩
  · have HP : Hid (padL l = ([], 2)) := Lib.hid (by unfold padL; rw [if_neg h])
    have hle : ¬ (l.length : Int) ≤ 96 := by omega
    have hlt : (96 : Int) < (l.length : Int) := by omega
    rw [HP.out]
    clear h
    go_enter Tryz.func30, Tryz.ntmps30
    go_wp2
    go_ret2
    exact ⟨rfl, Below.refl _ _⟩

theorem right_any (i : Im) (hl : i.d.length ≤ 1000) (w : World) : Calls Tryz.prog 89 #[i.val] w fun e w' => e = .returned (.bool i.ok) ∧ Below w.heap.size w w' := by
  have hsz : ((str i.d).size : Int) = i.d.length := by rw [str_size]
  have HB := Lib.hid ((Below.refl w.heap.size w).alloc (Nat.le_refl _) (.cells #[.int .i64 i.b, .int .u64 i.v, .string (str i.d)] 24))
  unfold Im.ok Im.val
  obtain ⟨b, v, d⟩ := i
  dsimp only at *
  by_cases h1 : 0 ≤ b
  · have e1 : decide (0 ≤ b) = true := by simpa using h1
    by_cases h2 : b < 4096
    · have e2 : decide (b < 4096) = true := by simpa using h2
      by_cases h3 : d.length = 96
      · have e3 : ((d.length : Int) == 96) = true := by simp [h3]
        have HG : Hid (decide (0 ≤ b ∧ b < 4096 ∧ d.length = 96) = true) := Lib.hid (by simp [h1, h2, h3])
        rw [HG.out]
        clear h3
        go_enter Tryz.func89, Tryz.ntmps89
        go_wp2
        go_ret
        exact ⟨rfl, HB.out⟩
      · have e3 : ((d.length : Int) == 96) = false := by simp; omega
        have HG : Hid (decide (0 ≤ b ∧ b < 4096 ∧ d.length = 96) = false) := Lib.hid (by simp [h3])
        rw [HG.out]
        go_enter Tryz.func89, Tryz.ntmps89
        go_wp2
        go_ret
        exact ⟨rfl, HB.out⟩
    · have e2 : decide (b < 4096) = false := by simpa using h2
      have HG : Hid (decide (0 ≤ b ∧ b < 4096 ∧ d.length = 96) = false) := Lib.hid (by simp [h2])
      rw [HG.out]
      go_enter Tryz.func89, Tryz.ntmps89
      go_wp2
      go_ret
      exact ⟨rfl, HB.out⟩
  · have e1 : decide (0 ≤ b) = false := by simpa using h1
    have HG : Hid (decide (0 ≤ b ∧ b < 4096 ∧ d.length = 96) = false) := Lib.hid (by simp [h1])
    rw [HG.out]
    go_enter Tryz.func89, Tryz.ntmps89
    go_wp2
    go_ret
    exact ⟨rfl, HB.out⟩

/-- What a sector says of itself, and the sector. -/
def tagL (b v : Nat) : List UInt8 := leN 4 b ++ leN 8 v
def halfL (d : List UInt8) (k : Nat) : List UInt8 := (d.drop (48 * k)).take 48
def secL (b v : Nat) (d : List UInt8) (k : Nat) : List UInt8 := stampL (halfL d k ++ tagL b v) 64
theorem tagL_length (b v : Nat) : (tagL b v).length = 12 := by simp [tagL, leN_length]
theorem halfL_length (d : List UInt8) (h : d.length = 96) (k : Nat) (hk : k < 2) : (halfL d k).length = 48 := by
  unfold halfL
  rw [List.length_take, List.length_drop]
  omega
theorem secL_length (b v : Nat) (d : List UInt8) (h : d.length = 96) (k : Nat) (hk : k < 2) : (secL b v d k).length = 64 :=
  stampL_length (by rw [List.length_append, halfL_length d h k hk, tagL_length]; decide)

/-- Within sector: the image's box at q, the writer at p. -/
structure SecSt (i : Im) (q p : Nat) (w0 : World) (bs : List UInt8) (wx : World) : Prop where
  wr : ∃ v, WIn p v bs wx ∧ ∀ k, v.ownBlock = some k → q < k
  im : imBlk i wx q
  bel : Below w0.heap.size w0 wx
  qp : w0.heap.size ≤ q ∧ q < p
theorem SecSt.drew {i : Im} {q p : Nat} {w0 wx : World} {bs : List UInt8} (h : SecSt i q p w0 bs wx) : SecSt i q p w0 bs wx.drew := by
  obtain ⟨v, h1, h2⟩ := h.wr
  exact ⟨⟨v, h1.grow (Grow.drew wx), h2⟩, h.im, h.bel.drew, h.qp⟩
theorem SecSt.num {i : Im} {q p : Nat} {w0 wx : World} {bs : List UInt8} (h : SecSt i q p w0 bs wx) (n : Nat) (hn : n = 1 ∨ n = 4 ∨ n = 8) (x : Nat) (hx : x < 256 ^ n) (hs : bs.length + n ≤ 100000) :
    Calls Tryz.prog 120 #[.pointer (some ⟨p, 0, none⟩), .int .u64 x, .int .i64 n] wx fun e w' => e = .returned (.pointer (some ⟨p, 0, none⟩)) ∧ SecSt i q p w0 (bs ++ leN n x) w' := by
  obtain ⟨v, h1, h2⟩ := h.wr
  have hq := h.qp
  have hlt := h.im.lt
  refine (num_any h1 n hn x hx hs).mono ?_
  rintro e w' ⟨rfl, v', g1, g2, g3⟩
  have hne : ∀ k, (k = p ∨ v.ownBlock = some k) → q < k := fun k hk => by
    rcases hk with rfl | hk
    · exact hq.2
    · exact h2 k hk
  refine ⟨rfl, ⟨v', g1, fun k hk => ?_⟩, ?_, h.bel.trans (g2.below h.bel.size (fun k hk => by have := hne k hk; omega)), hq⟩
  · rcases g3 k hk with g4 | g4
    · exact h2 k g4
    · omega
  · exact (g2.block q hlt (fun hf => by have := hne q hf; omega)).trans h.im
theorem SecSt.bytes {i : Im} {q p : Nat} {w0 wx : World} {bs : List UInt8} (h : SecSt i q p w0 bs wx) :
    Calls Tryz.prog 121 #[.pointer (some ⟨p, 0, none⟩)] wx fun e w' => e = .returned (.tuple #[.string (str bs), .int .i64 0]) ∧ wx = w' := by
  obtain ⟨v, h1, h2⟩ := h.wr
  exact bytes_any h1

end Go.Proofs.YtkgdpmeheakdcaaGreat

/- block.sector, block.Put: walks. -/
namespace Go.Proofs.YtkgdpmeheakdcaaGreat
open Go.RowKit
set_option linter.all false
set_option maxRecDepth 100000

set_option maxHeartbeats 2000000 in
theorem sector_any (b v : Nat) (d : List UInt8) (hb : b < 4096) (hv : v < 18446744073709551616) (hd : d.length = 96) (k : Nat) (hk : k < 2) (w : World) :
    Calls Tryz.prog 90 #[(Im.mk b v d).val, .int .i64 k] w fun e w' => e = .returned (.tuple #[.string (str (secL b v d k)), .int .i64 0]) ∧ Below w.heap.size w w' := by
  have hS0 : SecSt (Im.mk b v d) w.heap.size (w.heap.size + 1) w [] ((w.alloc (.cells #[.int .i64 b, .int .u64 v, .string (str d)] 24)).alloc (.cells #[.slice none 0 0, .int .i64 0] 161)) := by
    have h1 : (w.alloc (.cells #[.int .i64 b, .int .u64 v, .string (str d)] 24)).heap.size = w.heap.size + 1 := by simp
    have h2 := WIn.new (w.alloc (.cells #[.int .i64 b, .int .u64 v, .string (str d)] 24))
    rw [h1] at h2
    refine ⟨⟨_, h2, fun k hk => by cases hk⟩, ?_, ((Below.refl _ _).alloc (Nat.le_refl _) _).alloc (by omega) _, Nat.le_refl _, by omega⟩
    exact (heap_alloc_old _ _ (by omega)).trans (heap_alloc_new w _)
  have HS0 := Lib.hid hS0
  clear hS0
  have hsl : ∀ wx : World, (Instr.slice 9 (.string (str d)) (some (.int .i64 ((k : Int) * 48))) (some (.int .i64 (((k : Int) + 1) * 48))) none).run Tryz.prog wx = .ok (.string (str (halfL d k))) wx := by
    intro wx
    have h := str_mid d (48 * k) (48 * k + 48) wx (by omega) (by omega)
    rw [show 48 * k + 48 - 48 * k = 48 by omega] at h
    rw [show ((k : Int) * 48) = ((48 * k : Nat) : Int) by omega, show (((k : Int) + 1) * 48) = ((48 * k + 48 : Nat) : Int) by omega]
    exact h
  have HSL := Lib.hid hsl
  have hhl := halfL_length d hd k hk
  have HH : Hid (str (halfL d k) ++ str (tagL b v) = str (halfL d k ++ tagL b v)) := Lib.hid (str_app _ _)
  have HBIG : Hid (¬ 9223372036854775807 < (str (halfL d k)).size + (str (tagL b v)).size) := Lib.hid (by rw [str_size, str_size, hhl, tagL_length]; decide)
  have HST : Hid (∀ w, Calls Tryz.prog 106 #[.string (str (halfL d k ++ tagL b v)), .int .i64 64] w fun e w' => e = .returned (.tuple #[.string (str (secL b v d k)), .int .i64 0]) ∧ Below w.heap.size w w') := Lib.hid (fun w => stamp_any _ (by rw [List.length_append, hhl, tagL_length]; decide) w)
  have HV := Lib.hid hv
  have hbi : (b : Int) < 4096 := by omega
  clear hsl hhl hd
  unfold Im.val
  dsimp only
  go_enter Tryz.func90, Tryz.ntmps90
  go_upto_region 2 with fail
  generalize (w.alloc (.cells #[.int .i64 b, .int .u64 v, .string (str d)] 24)).alloc (.cells #[.slice none 0 0, .int .i64 0] 161) = W at *
  have hv2 := HV.out
  have N1 : Hid (∀ wx, SecSt (Im.mk b v d) w.heap.size (w.heap.size + 1) w [] wx → Calls Tryz.prog 120 #[.pointer (some ⟨w.heap.size + 1, 0, none⟩), .int .u64 b, .int .i64 4] wx fun e w' => e = .returned (.pointer (some ⟨w.heap.size + 1, 0, none⟩)) ∧ SecSt (Im.mk b v d) w.heap.size (w.heap.size + 1) w (leN 4 b) w') := Lib.hid (fun wx h => h.num 4 (.inr (.inl rfl)) b (by omega) (by decide))
  have N2 : Hid (∀ wx, SecSt (Im.mk b v d) w.heap.size (w.heap.size + 1) w (leN 4 b) wx → Calls Tryz.prog 120 #[.pointer (some ⟨w.heap.size + 1, 0, none⟩), .int .u64 v, .int .i64 8] wx fun e w' => e = .returned (.pointer (some ⟨w.heap.size + 1, 0, none⟩)) ∧ SecSt (Im.mk b v d) w.heap.size (w.heap.size + 1) w (tagL b v) w') := Lib.hid (fun wx h => h.num 8 (.inr (.inr rfl)) v hv2 (by rw [leN_length]; decide))
  have N3 : Hid (∀ wx, SecSt (Im.mk b v d) w.heap.size (w.heap.size + 1) w (tagL b v) wx → Calls Tryz.prog 121 #[.pointer (some ⟨w.heap.size + 1, 0, none⟩)] wx fun e w' => e = .returned (.tuple #[.string (str (tagL b v)), .int .i64 0]) ∧ wx = w') := Lib.hid (fun wx h => h.bytes)
  clear hv2
  have hSd := HS0.out.drew
  obtain ⟨c0, c1, c2⟩ := hSd.im.cells
  have hwb : IntKind.u64.wrap (b : Int) = (b : Int) := by rw [IntKind.wrap_u64, Int.emod_eq_of_lt (by omega) (by omega)]
  go_cut [7, 8] from 9 to 19 (fun s7 s8 wx => s7 = .string (str (tagL b v)) ∧ s8 = .int .i64 0 ∧ SecSt (Im.mk b v d) w.heap.size (w.heap.size + 1) w (tagL b v) wx)
  case first =>
    go_region_with (first
      | (go_at_call 120
         with_reducible refine (N1.out _ (by assumption)).mono ?_
         rintro e x1 ⟨rfl, g1⟩
         obtain ⟨d0, d1, d2⟩ := g1.im.cells)
      | (go_at_call 120
         with_reducible refine (N2.out _ (by assumption)).mono ?_
         rintro e x2 ⟨rfl, g2⟩)
      | (go_at_call 121
         with_reducible refine (N3.out _ (by assumption)).mono ?_
         rintro e x3 ⟨rfl, rfl⟩))
    all_goals go_wp2_with fail
    all_goals go_meet
    all_goals exact ⟨rfl, rfl, g2⟩
  case rest =>
    obtain ⟨rfl, rfl, hs⟩ := hcut
    obtain ⟨d0, d1, d2⟩ := hs.im.cells
    have HS := Lib.hid hs
    have hap := HH.out
    have hbig := HBIG.out
    have hsl := HSL.out
    have ST := Lib.hid (HST.out wc)
    have hm1 : IntKind.i64.wrap ((k : Int) * 48) = (k : Int) * 48 := IntWalk.i64_in _ (by omega)
    clear hs hSd c0 c1 c2 hwb
    go_wp2_with fail
    refine ST.out.mono ?_
    rintro e w4 ⟨rfl, hb4⟩
    have HF := Lib.hid (HS.out.bel.trans (hb4.mono HS.out.bel.size))
    clear hb4
    go_wp2
    go_ret2
    exact ⟨rfl, HF.out⟩

end Go.Proofs.YtkgdpmeheakdcaaGreat

/- block.Put: walk. -/
namespace Go.Proofs.YtkgdpmeheakdcaaGreat
open Go.RowKit
set_option linter.all false
set_option maxRecDepth 100000

/-- The sectors of an image, the first k of them. -/
def imK (b v : Nat) (d : List UInt8) : Nat → List UInt8
  | 0 => []
  | k + 1 => imK b v d k ++ secL b v d k
def Im.bytes (i : Im) : List UInt8 := imK i.b.toNat i.v i.d 2
theorem imK_length (b v : Nat) (d : List UInt8) (h : d.length = 96) : ∀ k, k ≤ 2 → (imK b v d k).length = 64 * k
  | 0, _ => rfl
  | k + 1, hk => by rw [imK, List.length_append, imK_length b v d h k (by omega), secL_length b v d h k (by omega)]; omega
theorem Im.bytes_length (i : Im) (h : i.ok = true) : i.bytes.length = 128 := imK_length _ _ _ (Im.ok_iff.1 h).2.2 2 (Nat.le_refl _)

theorem bput_no (i : Im) (hi : i.ok = false) (hl : i.d.length ≤ 1000) (w : World) : Calls Tryz.prog 43 #[i.val] w fun e w' => e = .returned (.tuple #[.string ⟨#[]⟩, .int .i64 1]) ∧ Below w.heap.size w w' := by
  have HR := fun w => right_any i hl w
  rw [hi] at HR
  obtain ⟨b, v, d⟩ := i
  unfold Im.val at *
  dsimp only at *
  replace HR := Lib.hid HR
  clear hi hl
  go_enter Tryz.func43, Tryz.ntmps43
  go_wp2_with fail
  refine (HR.out _).mono ?_
  rintro e w1 ⟨rfl, hb⟩
  have HB := Lib.hid (((Below.refl w.heap.size w).alloc (Nat.le_refl _) _).trans (hb.mono (by simp)))
  clear hb
  go_wp2
  go_ret2
  exact ⟨rfl, HB.out⟩

set_option maxHeartbeats 1000000 in
theorem bput_ok (i : Im) (hi : i.ok = true) (hv : i.v < 18446744073709551616) (w : World) : Calls Tryz.prog 43 #[i.val] w fun e w' => e = .returned (.tuple #[.string (str i.bytes), .int .i64 0]) ∧ Below w.heap.size w w' := by
  obtain ⟨h0, h1, h2⟩ := Im.ok_iff.1 hi
  have HR := fun w => right_any i (by omega) w
  rw [hi] at HR
  obtain ⟨b, v, d⟩ := i
  have HBY : Hid ((Im.mk b v d).bytes = imK b.toNat v d 2) := Lib.hid rfl
  generalize (Im.mk b v d).bytes = SB at *
  dsimp only at *
  obtain ⟨b, rfl⟩ := Int.eq_ofNat_of_zero_le h0
  rw [Int.toNat_natCast] at HBY
  have HS := Lib.hid (fun k (hk : k < 2) w => sector_any b v d (by omega) hv h2 k hk w)
  have HI0 : Hid (imBlk (Im.mk b v d) (w.alloc (.cells #[.int .i64 b, .int .u64 v, .string (str d)] 24)) w.heap.size) := Lib.hid (heap_alloc_new w _)
  have HIL := Lib.hid (imK_length b v d h2)
  unfold Im.val at *
  dsimp only at *
  replace HR := Lib.hid HR
  clear hi h0 h1 h2
  go_enter Tryz.func43, Tryz.ntmps43
  go_wp2_with fail
  refine (HR.out _).mono ?_
  rintro e w1 ⟨rfl, hb⟩
  have I1 := Lib.hid (HI0.out.below hb)
  have B1 := Lib.hid (((Below.refl w.heap.size w).alloc (Nat.le_refl _) _).trans (hb.mono (by simp)))
  clear hb
  go_wp2
  go_loopw [4, 11] (fun t i wr => ∃ k : Nat, k ≤ 2 ∧ i = .int .i64 k ∧ t = .string (str (imK b v d k)) ∧ imBlk (Im.mk b v d) wr w.heap.size ∧ Below w.heap.size w wr) (fun _ i _ => 2 - (intOf i).toNat)
  case atStart => exact ⟨0, by omega, rfl, rfl, I1.out, B1.out⟩
  case round =>
    obtain ⟨k, hk, rfl, rfl, hi, hb⟩ := hrel
    have IK := Lib.hid hi
    have BK := Lib.hid hb
    obtain ⟨c0, c1, c2⟩ := hi.cells
    clear hi hb I1 B1
    by_cases hlt : k < 2
    · have HK := HS.out k hlt
      replace HK := Lib.hid (HK wr)
      have hap : str (imK b v d k) ++ str (secL b v d k) = str (imK b v d (k + 1)) := str_app _ _
      have h1 := HIL.out k hk
      have h2 := HIL.out (k + 1) (by omega)
      have hbig : ¬ 9223372036854775807 < (str (imK b v d k)).size + (str (secL b v d k)).size := by
        have h3 : (imK b v d (k + 1)).length = (imK b v d k).length + (secL b v d k).length := by rw [imK, List.length_append]
        rw [str_size, str_size]
        omega
      clear h1 h2
      go_wp2_with fail
      refine HK.out.mono ?_
      rintro e w2 ⟨rfl, hb⟩
      have I2 := Lib.hid (IK.out.below hb)
      have B2 := Lib.hid (BK.out.trans (hb.mono BK.out.size))
      clear hb
      go_wp2
      go_roundw
      case rel => exact ⟨k + 1, by omega, by go_num, rfl, I2.out, B2.out⟩
      case measure => simp [intOf]; omega
    · have hk2 : k = 2 := by omega
      subst hk2
      have hby : imK b v d 2 = SB := HBY.out.symm
      rw [hby]
      clear hby
      go_wp2
      go_ret2
      exact ⟨rfl, BK.out⟩

end Go.Proofs.YtkgdpmeheakdcaaGreat

/- block.read: walk. -/
namespace Go.Proofs.YtkgdpmeheakdcaaGreat
open Go.RowKit
set_option linter.all false
set_option maxRecDepth 100000

def zIm : Im := ⟨0, 0, []⟩
/-- What a sector's text says: the image of its half. -/
def readX (X : List UInt8) : Im := ⟨unLe ((X.drop 48).take 4), unLe (((X.drop 48).drop 4).take 8), X.take 48⟩
def readB (P : List UInt8) : Im × Int := if sumOk P = true then (readX (P.take 60), 0) else (zIm, 6)

theorem three_set {w : World} {g : Nat} {z0 z1 z2 a b c : Value} {T : TypeId} {fz : Nat × Nat} (h : w.heap[g]? = some (.cells #[z0, z1, z2] T fz)) :
    (((w.setCell ⟨g, 0, none⟩ a).setCell ⟨g, 1, none⟩ b).setCell ⟨g, 2, none⟩ c).heap[g]? = some (.cells #[a, b, c] T fz) := by
  rw [block_setCell (block_setCell (block_setCell h a) b) c]
  rfl
theorem imBlk.fz {i : Im} {w : World} {q : Nat} (h : imBlk i w q) (j : Nat) : w.frozen? ⟨q, j, none⟩ = false := by
  unfold imBlk at h
  simp [World.frozen?, h]
theorem imBlk.set {i : Im} {w : World} {q : Nat} (h : imBlk i w q) (j : Im) : imBlk j (((w.setCell ⟨q, 0, none⟩ (.int .i64 j.b)).setCell ⟨q, 1, none⟩ (.int .u64 j.v)).setCell ⟨q, 2, none⟩ (.string (str j.d))) q := three_set h
theorem below_set3 {B : Nat} {w w' : World} (h : Below B w w') (q : Nat) (hq : B ≤ q) (a b c : Value) : Below B w (((w'.setCell ⟨q, 0, none⟩ a).setCell ⟨q, 1, none⟩ b).setCell ⟨q, 2, none⟩ c) := ((h.setCell hq _).setCell hq _).setCell hq _

/-- Within read: a reader at p, the result's cell at q. -/
structure RdSt (i : Im) (q p : Nat) (w0 : World) (bs : List UInt8) (wx : World) : Prop where
  rd : RIn p bs wx
  im : imBlk i wx q
  bel : Below w0.heap.size w0 wx
  qp : w0.heap.size ≤ q ∧ q < p
theorem RdSt.drew {i : Im} {q p : Nat} {w0 wx : World} {bs : List UInt8} (h : RdSt i q p w0 bs wx) : RdSt i q p w0 bs wx.drew := ⟨h.rd, h.im, h.bel.drew, h.qp⟩
theorem RdSt.num {i : Im} {q p : Nat} {w0 wx : World} {bs : List UInt8} (h : RdSt i q p w0 bs wx) (n : Nat) (hn : n = 1 ∨ n = 4 ∨ n = 8) (hl : n ≤ bs.length) (hl2 : bs.length ≤ 100000) :
    Calls Tryz.prog 114 #[.pointer (some ⟨p, 0, none⟩), .int .i64 n] wx fun e w' => e = .returned (.int .u64 (unLe (bs.take n))) ∧ RdSt i q p w0 (bs.drop n) w' := by
  have hq := h.qp
  refine (rnum_any h.rd n hn hl hl2).mono ?_
  rintro e w' ⟨rfl, h1, h2⟩
  exact ⟨rfl, h1, (h2.block q h.im.lt (fun e => by omega)).trans h.im, h.bel.trans (h2.below h.bel.size (fun k hk => by omega)), hq⟩

set_option maxHeartbeats 2000000 in
theorem bread_any (L : List UInt8) (hL : L.length = 128) (k : Nat) (hk : k < 2) (w : World) :
    Calls Tryz.prog 98 #[.string (str L), .int .i64 k] w fun e w' => e = .returned (.tuple #[(readB ((L.drop (64 * k)).take 64)).1.val, .int .i64 (readB ((L.drop (64 * k)).take 64)).2]) ∧ Below w.heap.size w w' := by
  have hsl : ∀ wx : World, (Instr.slice 9 (.string (str L)) (some (.int .i64 ((k : Int) * 64))) (some (.int .i64 (((k : Int) + 1) * 64))) none).run Tryz.prog wx = .ok (.string (str ((L.drop (64 * k)).take 64))) wx := by
    intro wx
    have h := str_mid L (64 * k) (64 * k + 64) wx (by omega) (by omega)
    rw [show 64 * k + 64 - 64 * k = 64 by omega] at h
    rw [show ((k : Int) * 64) = ((64 * k : Nat) : Int) by omega, show (((k : Int) + 1) * 64) = ((64 * k + 64 : Nat) : Int) by omega]
    exact h
  have hPl : ((L.drop (64 * k)).take 64).length = 64 := by rw [List.length_take, List.length_drop]; omega
  generalize (L.drop (64 * k)).take 64 = P at *
  have HR := sumread_any P (by omega) (by omega)
  rw [hPl] at HR
  have I0 : Hid (imBlk zIm (w.alloc (.cells #[.int .i64 0, .int .u64 0, .string ⟨#[]⟩] 24)) w.heap.size) := Lib.hid (heap_alloc_new w _)
  have B0 := Lib.hid ((Below.refl w.heap.size w).alloc (Nat.le_refl _) (.cells #[.int .i64 0, .int .u64 0, .string ⟨#[]⟩] 24))
  unfold readB
  cases hok : sumOk P with
  | false =>
    rw [hok, if_neg (by decide), if_neg (by decide)] at HR
    rw [if_neg (by decide)]
    replace HR := Lib.hid HR
    clear hok hPl hL
    go_enter Tryz.func98, Tryz.ntmps98
    go_wp2_with fail
    refine (HR.out _).mono ?_
    rintro e w1 ⟨rfl, hb⟩
    have i1 := I0.out.below hb
    obtain ⟨r0, r1, r2⟩ := i1.cells
    have f0 := i1.fz 0
    have f1 := i1.fz 1
    have f2 := i1.fz 2
    have hlt := i1.lt
    have B1 := Lib.hid (B0.out.trans (hb.mono (by simp)))
    have I2 := Lib.hid (i1.set zIm)
    clear hb i1
    go_wp2
    have i2 : imBlk zIm (((w1.setCell ⟨w.heap.size, 0, none⟩ (.int .i64 0)).setCell ⟨w.heap.size, 1, none⟩ (.int .u64 0)).setCell ⟨w.heap.size, 2, none⟩ (.string ⟨#[]⟩)) w.heap.size := I2.out
    have b2 := below_set3 B1.out w.heap.size (Nat.le_refl _) (.int .i64 0) (.int .u64 0) (.string ⟨#[]⟩)
    clear r0 r1 r2 f0 f1 f2 I2 B1
    generalize ((w1.setCell ⟨w.heap.size, 0, none⟩ (.int .i64 0)).setCell ⟨w.heap.size, 1, none⟩ (.int .u64 0)).setCell ⟨w.heap.size, 2, none⟩ (.string ⟨#[]⟩) = Wf at *
    obtain ⟨r0, r1, r2⟩ := i2.cells
    exact bodyPost_ret (v := .tuple #[zIm.val, .int .i64 6]) (by simp [results, Tryz.results98, go_sem, r0, r1, r2]; rfl) rfl ⟨rfl, b2⟩
  | true =>
    rw [hok, if_pos rfl, if_pos rfl] at HR
    rw [if_pos rfl]
    replace HR := Lib.hid HR
    have hXl : (P.take (64 - 4)).length = 60 := by rw [List.length_take, hPl]; rfl
    have hX : P.take (64 - 4) = P.take 60 := rfl
    rw [hX] at HR hXl
    clear hX hok hPl hL
    generalize P.take 60 = X at *
    have hxs : ((str X).size : Int) = 60 := by rw [str_size, hXl]; rfl
    have hex : (str X).extract 48 (str X).size = str (X.drop 48) := str_ext_from X 48
    have hex2 : (str X).extract 0 48 = str (X.take 48) := by
      apply ByteArray.ext
      apply Array.ext'
      rw [ByteArray.data_extract, Array.toList_extract, List.extract_eq_drop_take]
      simp [str]
    have hDl : (X.drop 48).length = 12 := by rw [List.length_drop, hXl]
    have HDL := Lib.hid hDl
    have HRX : Hid (readX X = ⟨unLe ((X.drop 48).take 4), unLe (((X.drop 48).drop 4).take 8), X.take 48⟩) := Lib.hid rfl
    generalize readX X = RX at *
    clear hDl hXl
    go_enter Tryz.func98, Tryz.ntmps98
    go_wp2_with fail
    refine (HR.out _).mono ?_
    rintro e w1 ⟨rfl, hb⟩
    have I1 := Lib.hid (I0.out.below hb)
    have B1 := Lib.hid (B0.out.trans (hb.mono (by simp)))
    have HNR := Lib.hid (newreader_any (X.drop 48) (by rw [HDL.out]; decide) w1)
    clear hb I0 B0
    go_wp2_with fail
    refine HNR.out.mono ?_
    rintro e w2 ⟨p, rfl, hri, hp, hb⟩
    have hS : RdSt zIm w.heap.size p w (X.drop 48) w2 := ⟨hri, I1.out.below hb, B1.out.trans (hb.mono B1.out.size), Nat.le_refl _, by have := I1.out.lt; omega⟩
    have S2 := Lib.hid hS
    clear hri hp hb I1 B1 hS hex
    have N1 : Hid (∀ wx, RdSt zIm w.heap.size p w (X.drop 48) wx → Calls Tryz.prog 114 #[.pointer (some ⟨p, 0, none⟩), .int .i64 4] wx fun e w' => e = .returned (.int .u64 (unLe ((X.drop 48).take 4))) ∧ RdSt zIm w.heap.size p w ((X.drop 48).drop 4) w') := Lib.hid (fun wx h => h.num 4 (.inr (.inl rfl)) (by rw [HDL.out]; decide) (by rw [HDL.out]; decide))
    have N2 : Hid (∀ wx, RdSt zIm w.heap.size p w ((X.drop 48).drop 4) wx → Calls Tryz.prog 114 #[.pointer (some ⟨p, 0, none⟩), .int .i64 8] wx fun e w' => e = .returned (.int .u64 (unLe (((X.drop 48).drop 4).take 8))) ∧ RdSt zIm w.heap.size p w (((X.drop 48).drop 4).drop 8) w') := Lib.hid (fun wx h => h.num 8 (.inr (.inr rfl)) (by rw [List.length_drop, HDL.out]; decide) (by rw [List.length_drop, HDL.out]; decide))
    have hlt1 : unLe ((X.drop 48).take 4) < 4294967296 := by
      have h1 := unLe_lt ((X.drop 48).take 4)
      have h2 : ((X.drop 48).take 4).length = 4 := by rw [List.length_take, HDL.out]; rfl
      rw [h2] at h1
      exact h1
    have hd2 := S2.out.drew
    have hw1 : IntKind.i64.wrap ((unLe ((X.drop 48).take 4) : Nat) : Int) = ((unLe ((X.drop 48).take 4) : Nat) : Int) := IntWalk.i64_in _ (by omega)
    generalize unLe ((X.drop 48).take 4) = bx at *
    generalize unLe (((X.drop 48).drop 4).take 8) = vx at *
    go_wp2_with fail
    go_cut [5] from 27 to 34 (fun s5 wx => s5 = .int .i64 0 ∧ imBlk RX wx w.heap.size ∧ Below w.heap.size w wx)
    case first =>
      go_region_with (first
        | (go_at_call 114
           with_reducible refine (N1.out _ (by assumption)).mono ?_
           rintro e x1 ⟨rfl, g1⟩)
        | (go_at_call 114
           with_reducible refine (N2.out _ (by assumption)).mono ?_
           rintro e x2 ⟨rfl, g2⟩
           obtain ⟨d0, d1, d2⟩ := g2.im.cells
           have f0 := g2.im.fz 0
           have f1 := g2.im.fz 1
           have f2 := g2.im.fz 2))
      all_goals go_wp2_with fail
      all_goals go_meet
      all_goals exact ⟨rfl, by rw [HRX.out]; exact g2.im.set _, below_set3 g2.bel _ (Nat.le_refl _) _ _ _⟩
    case rest =>
      obtain ⟨rfl, hi, hb⟩ := hcut
      obtain ⟨r0, r1, r2⟩ := hi.cells
      have HB := Lib.hid hb
      clear hi hb
      go_wp2
      exact bodyPost_ret (v := .tuple #[RX.val, .int .i64 0]) (by simp [results, Tryz.results98, go_sem, r0, r1, r2]; rfl) rfl ⟨rfl, HB.out⟩

end Go.Proofs.YtkgdpmeheakdcaaGreat

/- block.Get: walk (printed by gen_bget.py: one walk a way). -/
namespace Go.Proofs.YtkgdpmeheakdcaaGreat
open Go.RowKit
set_option linter.all false
set_option maxRecDepth 100000

def sec0 (L : List UInt8) : List UInt8 := (L.drop (64 * 0)).take 64
def sec1 (L : List UInt8) : List UInt8 := (L.drop (64 * 1)).take 64
/-- What Get tells of a block's bytes, the number asked for being n. -/
def getB (n : Int) (L : List UInt8) : Im × Int :=
  if L.length ≠ 128 then (zIm, 5) else if L = zerosL 128 then (⟨n, 0, zerosL 96⟩, 0)
  else if (readB (sec0 L)).2 ≠ 0 then (zIm, 6) else if (readB (sec1 L)).2 ≠ 0 then (zIm, 6)
  else if (readB (sec0 L)).1.b ≠ n ∨ (readB (sec1 L)).1.b ≠ n ∨ 4096 ≤ n then (zIm, 4)
  else if (readB (sec0 L)).1.v ≠ (readB (sec1 L)).1.v then (zIm, 6)
  else (⟨n, (readB (sec0 L)).1.v, (readB (sec0 L)).1.d ++ (readB (sec1 L)).1.d⟩, 0)
theorem readB_err (P : List UInt8) : (readB P).2 = 0 ∨ (readB P).2 = 6 := by
  unfold readB
  split
  · exact .inl rfl
  · exact .inr rfl
theorem readB_len (P : List UInt8) : (readB P).1.d.length ≤ 60 := by
  unfold readB
  split
  · show ((P.take 60).take 48).length ≤ 60
    rw [List.length_take]
    omega
  · exact Nat.zero_le _

/-- What Get leaves. -/
def GetTo (r : Im × Int) (w : World) (e : Ending) (w' : World) : Prop := e = .returned (.tuple #[r.1.val, .int .i64 r.2]) ∧ Below w.heap.size w w'

theorem str_ne_B {a b : ByteArray} (h : a ≠ b) : (a.toList == b.toList) = false := by
  rw [ByteArray.toList_eq, ByteArray.toList_eq]
  simp
  intro e
  exact h (ByteArray.ext e)
theorem str_eq_B (a : ByteArray) : (a.toList == a.toList) = true := by simp


set_option maxHeartbeats 1000000 in
theorem bget_len (n : Int) (L : List UInt8) (h : L.length ≠ 128) (w : World) :
    Calls Tryz.prog 48 #[.int .i64 n, .string (str L)] w (GetTo (zIm, 5) w) := by
  have I0 : Hid (imBlk zIm (w.alloc (.cells #[.int .i64 0, .int .u64 0, .string ⟨#[]⟩] 24)) w.heap.size) := Lib.hid (heap_alloc_new w _)
  have B0 := Lib.hid ((Below.refl w.heap.size w).alloc (Nat.le_refl _) (.cells #[.int .i64 0, .int .u64 0, .string ⟨#[]⟩] 24))
  have hsz : ((str L).size : Int) = L.length := by rw [str_size]
  have hne : ((L.length : Int) == 128) = false := by simp; omega
  have hne2 : ((L.length : Int) != 128) = true := by simp; omega
  clear I0 B0
  go_enter Tryz.func48, Tryz.ntmps48
  go_wp2
  exact bodyPost_ret (v := .tuple #[zIm.val, .int .i64 5]) (by simp [results, Tryz.results48, go_sem]; rfl) rfl ⟨rfl, (Below.refl _ _).alloc (Nat.le_refl _) _⟩

set_option maxHeartbeats 1000000 in
theorem bget_zero (n : Int) (L : List UInt8) (h : L = zerosL 128) (w : World) :
    Calls Tryz.prog 48 #[.int .i64 n, .string (str L)] w (GetTo (⟨n, 0, zerosL 96⟩, 0) w) := by
  have I0 : Hid (imBlk zIm (w.alloc (.cells #[.int .i64 0, .int .u64 0, .string ⟨#[]⟩] 24)) w.heap.size) := Lib.hid (heap_alloc_new w _)
  have B0 := Lib.hid ((Below.refl w.heap.size w).alloc (Nat.le_refl _) (.cells #[.int .i64 0, .int .u64 0, .string ⟨#[]⟩] 24))
  have hsz : ((str L).size : Int) = 128 := by rw [str_size, h, zerosL_length]; rfl
  have HZ1 : Hid (∀ w, Calls Tryz.prog 70 #[.int .i64 128] w fun e w' => e = .returned (.string (str L)) ∧ Below w.heap.size w w') := Lib.hid (fun w => by rw [h]; exact bzero_any 128 (by decide) w)
  have HZ2 : Hid (∀ w, Calls Tryz.prog 70 #[.int .i64 96] w fun e w' => e = .returned (.string (str (zerosL 96))) ∧ Below w.heap.size w w') := Lib.hid (fun w => bzero_any 96 (by decide) w)
  clear h
  generalize zerosL 96 = Z96 at *
  go_enter Tryz.func48, Tryz.ntmps48
  go_wp2_with fail
  refine (HZ1.out _).mono ?_
  rintro e w1 ⟨rfl, hb⟩
  have I1 := Lib.hid (I0.out.below hb)
  have B1 := Lib.hid (B0.out.trans (hb.mono (by simp)))
  clear hb I0 B0
  go_wp2_with fail
  refine (HZ2.out _).mono ?_
  rintro e w2 ⟨rfl, hb⟩
  have IW := Lib.hid (I1.out.below hb)
  have BW := Lib.hid (B1.out.trans (hb.mono B1.out.size))
  clear hb I1 B1
  have iw := IW.out
  obtain ⟨r0, r1, r2⟩ := iw.cells
  have f0 := iw.fz 0
  have f1 := iw.fz 1
  have f2 := iw.fz 2
  have hltq := iw.lt
  have I2' := Lib.hid (iw.set (Im.mk n 0 Z96))
  have B2' := Lib.hid (below_set3 BW.out w.heap.size (Nat.le_refl _) (.int .i64 ((Im.mk n 0 Z96) : Im).b) (.int .u64 ((Im.mk n 0 Z96) : Im).v) (.string (str ((Im.mk n 0 Z96) : Im).d)))
  dsimp only at I2' B2'
  clear iw
  go_wp2
  have i2 : imBlk (Im.mk n 0 Z96) (((w2.setCell ⟨w.heap.size, 0, none⟩ (.int .i64 n)).setCell ⟨w.heap.size, 1, none⟩ (.int .u64 0)).setCell ⟨w.heap.size, 2, none⟩ (.string (str Z96))) w.heap.size := I2'.out
  have b2 : Below w.heap.size w (((w2.setCell ⟨w.heap.size, 0, none⟩ (.int .i64 n)).setCell ⟨w.heap.size, 1, none⟩ (.int .u64 0)).setCell ⟨w.heap.size, 2, none⟩ (.string (str Z96))) := B2'.out
  clear r0 r1 r2
  generalize ((w2.setCell ⟨w.heap.size, 0, none⟩ (.int .i64 n)).setCell ⟨w.heap.size, 1, none⟩ (.int .u64 0)).setCell ⟨w.heap.size, 2, none⟩ (.string (str Z96)) = Wf at *
  obtain ⟨r0, r1, r2⟩ := i2.cells
  exact bodyPost_ret (v := .tuple #[(Im.mk n 0 Z96).val, .int .i64 0]) (by simp [results, Tryz.results48, go_sem, r0, r1, r2]; rfl) rfl ⟨rfl, b2⟩

set_option maxHeartbeats 1000000 in
theorem bget_x6 (n : Int) (L : List UInt8) (hL : L.length = 128) (hz : L ≠ zerosL 128) (X Y : Im) (hX : readB (sec0 L) = (X, 6))  (w : World) :
    Calls Tryz.prog 48 #[.int .i64 n, .string (str L)] w (GetTo (zIm, 6) w) := by
  have I0 : Hid (imBlk zIm (w.alloc (.cells #[.int .i64 0, .int .u64 0, .string ⟨#[]⟩] 24)) w.heap.size) := Lib.hid (heap_alloc_new w _)
  have B0 := Lib.hid ((Below.refl w.heap.size w).alloc (Nat.le_refl _) (.cells #[.int .i64 0, .int .u64 0, .string ⟨#[]⟩] 24))
  have hsz : ((str L).size : Int) = 128 := by rw [str_size, hL]; rfl
  have HZ1 : Hid (∀ w, Calls Tryz.prog 70 #[.int .i64 128] w fun e w' => e = .returned (.string (str (zerosL 128))) ∧ Below w.heap.size w w') := Lib.hid (fun w => bzero_any 128 (by decide) w)
  have heq := str_ne_B (fun e : str L = str (zerosL 128) => hz (str_inj.1 e))
  have hlx := readB_len (sec0 L)
  rw [hX] at hlx
  have HR0 : Hid (∀ w, Calls Tryz.prog 98 #[.string (str L), .int .i64 0] w fun e w' => e = .returned (.tuple #[X.val, .int .i64 6]) ∧ Below w.heap.size w w') := Lib.hid (fun w => by
    have h := bread_any L hL 0 (by decide) w
    rw [show (L.drop (64 * 0)).take 64 = sec0 L from rfl, hX] at h
    exact h)
  obtain ⟨xb, xv, xd⟩ := X
  unfold Im.val at HR0
  dsimp only at *
  clear hz hX hL
  generalize str (zerosL 128) = Z128 at *
  go_enter Tryz.func48, Tryz.ntmps48
  go_wp2_with fail
  refine (HZ1.out _).mono ?_
  rintro e w1 ⟨rfl, hb⟩
  have I1 := Lib.hid (I0.out.below hb)
  have B1 := Lib.hid (B0.out.trans (hb.mono (by simp)))
  clear hb I0 B0
  go_wp2_with fail
  refine (HR0.out _).mono ?_
  rintro e w2 ⟨rfl, hb⟩
  have I2 := Lib.hid (I1.out.below hb)
  have B2 := Lib.hid (B1.out.trans (hb.mono B1.out.size))
  have hab : Below w2.heap.size w2 (w2.alloc (.cells #[.int .i64 xb, .int .u64 xv, .string (str xd)] 24)) := (Below.refl _ _).alloc (Nat.le_refl _) _
  have hT6 : imBlk (Im.mk xb xv xd) (w2.alloc (.cells #[.int .i64 xb, .int .u64 xv, .string (str xd)] 24)) w2.heap.size := heap_alloc_new w2 _
  have IW := Lib.hid (I2.out.below hab)
  have BW := Lib.hid (B2.out.trans (hab.mono B2.out.size))
  clear hb I1 B1 hab hT6 I2 B2
  go_upto_region 6 with fail
  generalize w2.alloc (.cells #[.int .i64 xb, .int .u64 xv, .string (str xd)] 24) = V2 at *
  have iw := IW.out
  obtain ⟨r0, r1, r2⟩ := iw.cells
  have f0 := iw.fz 0
  have f1 := iw.fz 1
  have f2 := iw.fz 2
  have hltq := iw.lt
  have I2' := Lib.hid (iw.set (Im.mk 0 0 []))
  have B2' := Lib.hid (below_set3 BW.out w.heap.size (Nat.le_refl _) (.int .i64 ((Im.mk 0 0 []) : Im).b) (.int .u64 ((Im.mk 0 0 []) : Im).v) (.string (str ((Im.mk 0 0 []) : Im).d)))
  dsimp only at I2' B2'
  clear iw
  go_wp2
  have i2 : imBlk (Im.mk 0 0 []) (((V2.setCell ⟨w.heap.size, 0, none⟩ (.int .i64 0)).setCell ⟨w.heap.size, 1, none⟩ (.int .u64 0)).setCell ⟨w.heap.size, 2, none⟩ (.string ⟨#[]⟩)) w.heap.size := I2'.out
  have b2 : Below w.heap.size w (((V2.setCell ⟨w.heap.size, 0, none⟩ (.int .i64 0)).setCell ⟨w.heap.size, 1, none⟩ (.int .u64 0)).setCell ⟨w.heap.size, 2, none⟩ (.string ⟨#[]⟩)) := B2'.out
  clear r0 r1 r2
  generalize ((V2.setCell ⟨w.heap.size, 0, none⟩ (.int .i64 0)).setCell ⟨w.heap.size, 1, none⟩ (.int .u64 0)).setCell ⟨w.heap.size, 2, none⟩ (.string ⟨#[]⟩) = Wf at *
  obtain ⟨r0, r1, r2⟩ := i2.cells
  exact bodyPost_ret (v := .tuple #[((Im.mk 0 0 []) : Im).val, .int .i64 6]) (by simp [results, Tryz.results48, go_sem, r0, r1, r2]; rfl) rfl ⟨rfl, b2⟩

set_option maxHeartbeats 1000000 in
theorem bget_y6 (n : Int) (L : List UInt8) (hL : L.length = 128) (hz : L ≠ zerosL 128) (X Y : Im) (hX : readB (sec0 L) = (X, 0)) (hY : readB (sec1 L) = (Y, 6)) (w : World) :
    Calls Tryz.prog 48 #[.int .i64 n, .string (str L)] w (GetTo (zIm, 6) w) := by
  have I0 : Hid (imBlk zIm (w.alloc (.cells #[.int .i64 0, .int .u64 0, .string ⟨#[]⟩] 24)) w.heap.size) := Lib.hid (heap_alloc_new w _)
  have B0 := Lib.hid ((Below.refl w.heap.size w).alloc (Nat.le_refl _) (.cells #[.int .i64 0, .int .u64 0, .string ⟨#[]⟩] 24))
  have hsz : ((str L).size : Int) = 128 := by rw [str_size, hL]; rfl
  have HZ1 : Hid (∀ w, Calls Tryz.prog 70 #[.int .i64 128] w fun e w' => e = .returned (.string (str (zerosL 128))) ∧ Below w.heap.size w w') := Lib.hid (fun w => bzero_any 128 (by decide) w)
  have heq := str_ne_B (fun e : str L = str (zerosL 128) => hz (str_inj.1 e))
  have hlx := readB_len (sec0 L)
  rw [hX] at hlx
  have HR0 : Hid (∀ w, Calls Tryz.prog 98 #[.string (str L), .int .i64 0] w fun e w' => e = .returned (.tuple #[X.val, .int .i64 0]) ∧ Below w.heap.size w w') := Lib.hid (fun w => by
    have h := bread_any L hL 0 (by decide) w
    rw [show (L.drop (64 * 0)).take 64 = sec0 L from rfl, hX] at h
    exact h)
  have hly := readB_len (sec1 L)
  rw [hY] at hly
  have HR1 : Hid (∀ w, Calls Tryz.prog 98 #[.string (str L), .int .i64 1] w fun e w' => e = .returned (.tuple #[Y.val, .int .i64 6]) ∧ Below w.heap.size w w') := Lib.hid (fun w => by
    have h := bread_any L hL 1 (by decide) w
    rw [show (L.drop (64 * 1)).take 64 = sec1 L from rfl, hY] at h
    exact h)
  obtain ⟨xb, xv, xd⟩ := X
  obtain ⟨yb, yv, yd⟩ := Y
  unfold Im.val at HR0 HR1
  dsimp only at *
  clear hz hX hL hY
  generalize str (zerosL 128) = Z128 at *
  go_enter Tryz.func48, Tryz.ntmps48
  go_wp2_with fail
  refine (HZ1.out _).mono ?_
  rintro e w1 ⟨rfl, hb⟩
  have I1 := Lib.hid (I0.out.below hb)
  have B1 := Lib.hid (B0.out.trans (hb.mono (by simp)))
  clear hb I0 B0
  go_wp2_with fail
  refine (HR0.out _).mono ?_
  rintro e w2 ⟨rfl, hb⟩
  have I2 := Lib.hid (I1.out.below hb)
  have B2 := Lib.hid (B1.out.trans (hb.mono B1.out.size))
  have hab : Below w2.heap.size w2 (w2.alloc (.cells #[.int .i64 xb, .int .u64 xv, .string (str xd)] 24)) := (Below.refl _ _).alloc (Nat.le_refl _) _
  have hT6 : imBlk (Im.mk xb xv xd) (w2.alloc (.cells #[.int .i64 xb, .int .u64 xv, .string (str xd)] 24)) w2.heap.size := heap_alloc_new w2 _
  have I3 := Lib.hid (I2.out.below hab)
  have B3 := Lib.hid (B2.out.trans (hab.mono B2.out.size))
  have T3 := Lib.hid hT6
  clear hb I1 B1 hab hT6 I2 B2
  go_upto_region 6 with fail
  generalize w2.alloc (.cells #[.int .i64 xb, .int .u64 xv, .string (str xd)] 24) = V2 at *
  generalize w2.heap.size = t6 at *
  go_wp2_with fail
  refine (HR1.out _).mono ?_
  rintro e w3 ⟨rfl, hb⟩
  have I4 := Lib.hid (I3.out.below hb)
  have B4 := Lib.hid (B3.out.trans (hb.mono B3.out.size))
  have T4 := Lib.hid (T3.out.below hb)
  have hab : Below w3.heap.size w3 (w3.alloc (.cells #[.int .i64 yb, .int .u64 yv, .string (str yd)] 24)) := (Below.refl _ _).alloc (Nat.le_refl _) _
  have IW := Lib.hid (I4.out.below hab)
  have BW := Lib.hid (B4.out.trans (hab.mono B4.out.size))
  obtain ⟨g0, g1, g2⟩ := (T4.out.below hab).cells
  have hT8 : imBlk (Im.mk yb yv yd) (w3.alloc (.cells #[.int .i64 yb, .int .u64 yv, .string (str yd)] 24)) w3.heap.size := heap_alloc_new w3 _
  obtain ⟨h0, h1, h2⟩ := hT8.cells
  clear hb hab hT8 I3 B3 T3 I4 B4 T4
  go_upto_region 9 with fail
  generalize w3.alloc (.cells #[.int .i64 yb, .int .u64 yv, .string (str yd)] 24) = V3 at *
  generalize w3.heap.size = t8 at *
  have iw := IW.out
  obtain ⟨r0, r1, r2⟩ := iw.cells
  have f0 := iw.fz 0
  have f1 := iw.fz 1
  have f2 := iw.fz 2
  have hltq := iw.lt
  have I2' := Lib.hid (iw.set (Im.mk 0 0 []))
  have B2' := Lib.hid (below_set3 BW.out w.heap.size (Nat.le_refl _) (.int .i64 ((Im.mk 0 0 []) : Im).b) (.int .u64 ((Im.mk 0 0 []) : Im).v) (.string (str ((Im.mk 0 0 []) : Im).d)))
  dsimp only at I2' B2'
  clear iw
  go_wp2
  have i2 : imBlk (Im.mk 0 0 []) (((V3.setCell ⟨w.heap.size, 0, none⟩ (.int .i64 0)).setCell ⟨w.heap.size, 1, none⟩ (.int .u64 0)).setCell ⟨w.heap.size, 2, none⟩ (.string ⟨#[]⟩)) w.heap.size := I2'.out
  have b2 : Below w.heap.size w (((V3.setCell ⟨w.heap.size, 0, none⟩ (.int .i64 0)).setCell ⟨w.heap.size, 1, none⟩ (.int .u64 0)).setCell ⟨w.heap.size, 2, none⟩ (.string ⟨#[]⟩)) := B2'.out
  clear r0 r1 r2
  generalize ((V3.setCell ⟨w.heap.size, 0, none⟩ (.int .i64 0)).setCell ⟨w.heap.size, 1, none⟩ (.int .u64 0)).setCell ⟨w.heap.size, 2, none⟩ (.string ⟨#[]⟩) = Wf at *
  obtain ⟨r0, r1, r2⟩ := i2.cells
  exact bodyPost_ret (v := .tuple #[((Im.mk 0 0 []) : Im).val, .int .i64 6]) (by simp [results, Tryz.results48, go_sem, r0, r1, r2]; rfl) rfl ⟨rfl, b2⟩

set_option maxHeartbeats 1000000 in
theorem bget_f1 (n : Int) (L : List UInt8) (hL : L.length = 128) (hz : L ≠ zerosL 128) (X Y : Im) (hX : readB (sec0 L) = (X, 0)) (hY : readB (sec1 L) = (Y, 0)) (hf : X.b ≠ n) (w : World) :
    Calls Tryz.prog 48 #[.int .i64 n, .string (str L)] w (GetTo (zIm, 4) w) := by
  have I0 : Hid (imBlk zIm (w.alloc (.cells #[.int .i64 0, .int .u64 0, .string ⟨#[]⟩] 24)) w.heap.size) := Lib.hid (heap_alloc_new w _)
  have B0 := Lib.hid ((Below.refl w.heap.size w).alloc (Nat.le_refl _) (.cells #[.int .i64 0, .int .u64 0, .string ⟨#[]⟩] 24))
  have hsz : ((str L).size : Int) = 128 := by rw [str_size, hL]; rfl
  have HZ1 : Hid (∀ w, Calls Tryz.prog 70 #[.int .i64 128] w fun e w' => e = .returned (.string (str (zerosL 128))) ∧ Below w.heap.size w w') := Lib.hid (fun w => bzero_any 128 (by decide) w)
  have heq := str_ne_B (fun e : str L = str (zerosL 128) => hz (str_inj.1 e))
  have hlx := readB_len (sec0 L)
  rw [hX] at hlx
  have HR0 : Hid (∀ w, Calls Tryz.prog 98 #[.string (str L), .int .i64 0] w fun e w' => e = .returned (.tuple #[X.val, .int .i64 0]) ∧ Below w.heap.size w w') := Lib.hid (fun w => by
    have h := bread_any L hL 0 (by decide) w
    rw [show (L.drop (64 * 0)).take 64 = sec0 L from rfl, hX] at h
    exact h)
  have hly := readB_len (sec1 L)
  rw [hY] at hly
  have HR1 : Hid (∀ w, Calls Tryz.prog 98 #[.string (str L), .int .i64 1] w fun e w' => e = .returned (.tuple #[Y.val, .int .i64 0]) ∧ Below w.heap.size w w') := Lib.hid (fun w => by
    have h := bread_any L hL 1 (by decide) w
    rw [show (L.drop (64 * 1)).take 64 = sec1 L from rfl, hY] at h
    exact h)
  obtain ⟨xb, xv, xd⟩ := X
  obtain ⟨yb, yv, yd⟩ := Y
  unfold Im.val at HR0 HR1
  dsimp only at *
  clear hz hX hL hY
  generalize str (zerosL 128) = Z128 at *
  have hf1 : (xb == n) = false := by simpa using hf
  have hf2 : (xb != n) = true := by simpa using hf
  clear hf
  go_enter Tryz.func48, Tryz.ntmps48
  go_wp2_with fail
  refine (HZ1.out _).mono ?_
  rintro e w1 ⟨rfl, hb⟩
  have I1 := Lib.hid (I0.out.below hb)
  have B1 := Lib.hid (B0.out.trans (hb.mono (by simp)))
  clear hb I0 B0
  go_wp2_with fail
  refine (HR0.out _).mono ?_
  rintro e w2 ⟨rfl, hb⟩
  have I2 := Lib.hid (I1.out.below hb)
  have B2 := Lib.hid (B1.out.trans (hb.mono B1.out.size))
  have hab : Below w2.heap.size w2 (w2.alloc (.cells #[.int .i64 xb, .int .u64 xv, .string (str xd)] 24)) := (Below.refl _ _).alloc (Nat.le_refl _) _
  have hT6 : imBlk (Im.mk xb xv xd) (w2.alloc (.cells #[.int .i64 xb, .int .u64 xv, .string (str xd)] 24)) w2.heap.size := heap_alloc_new w2 _
  have I3 := Lib.hid (I2.out.below hab)
  have B3 := Lib.hid (B2.out.trans (hab.mono B2.out.size))
  have T3 := Lib.hid hT6
  clear hb I1 B1 hab hT6 I2 B2
  go_upto_region 6 with fail
  generalize w2.alloc (.cells #[.int .i64 xb, .int .u64 xv, .string (str xd)] 24) = V2 at *
  generalize w2.heap.size = t6 at *
  go_wp2_with fail
  refine (HR1.out _).mono ?_
  rintro e w3 ⟨rfl, hb⟩
  have I4 := Lib.hid (I3.out.below hb)
  have B4 := Lib.hid (B3.out.trans (hb.mono B3.out.size))
  have T4 := Lib.hid (T3.out.below hb)
  have hab : Below w3.heap.size w3 (w3.alloc (.cells #[.int .i64 yb, .int .u64 yv, .string (str yd)] 24)) := (Below.refl _ _).alloc (Nat.le_refl _) _
  have IW := Lib.hid (I4.out.below hab)
  have BW := Lib.hid (B4.out.trans (hab.mono B4.out.size))
  obtain ⟨g0, g1, g2⟩ := (T4.out.below hab).cells
  have hT8 : imBlk (Im.mk yb yv yd) (w3.alloc (.cells #[.int .i64 yb, .int .u64 yv, .string (str yd)] 24)) w3.heap.size := heap_alloc_new w3 _
  obtain ⟨h0, h1, h2⟩ := hT8.cells
  clear hb hab hT8 I3 B3 T3 I4 B4 T4
  go_upto_region 9 with fail
  generalize w3.alloc (.cells #[.int .i64 yb, .int .u64 yv, .string (str yd)] 24) = V3 at *
  generalize w3.heap.size = t8 at *
  have iw := IW.out
  obtain ⟨r0, r1, r2⟩ := iw.cells
  have f0 := iw.fz 0
  have f1 := iw.fz 1
  have f2 := iw.fz 2
  have hltq := iw.lt
  have I2' := Lib.hid (iw.set (Im.mk 0 0 []))
  have B2' := Lib.hid (below_set3 BW.out w.heap.size (Nat.le_refl _) (.int .i64 ((Im.mk 0 0 []) : Im).b) (.int .u64 ((Im.mk 0 0 []) : Im).v) (.string (str ((Im.mk 0 0 []) : Im).d)))
  dsimp only at I2' B2'
  clear iw
  go_wp2
  have i2 : imBlk (Im.mk 0 0 []) (((V3.setCell ⟨w.heap.size, 0, none⟩ (.int .i64 0)).setCell ⟨w.heap.size, 1, none⟩ (.int .u64 0)).setCell ⟨w.heap.size, 2, none⟩ (.string ⟨#[]⟩)) w.heap.size := I2'.out
  have b2 : Below w.heap.size w (((V3.setCell ⟨w.heap.size, 0, none⟩ (.int .i64 0)).setCell ⟨w.heap.size, 1, none⟩ (.int .u64 0)).setCell ⟨w.heap.size, 2, none⟩ (.string ⟨#[]⟩)) := B2'.out
  clear r0 r1 r2
  generalize ((V3.setCell ⟨w.heap.size, 0, none⟩ (.int .i64 0)).setCell ⟨w.heap.size, 1, none⟩ (.int .u64 0)).setCell ⟨w.heap.size, 2, none⟩ (.string ⟨#[]⟩) = Wf at *
  obtain ⟨r0, r1, r2⟩ := i2.cells
  exact bodyPost_ret (v := .tuple #[((Im.mk 0 0 []) : Im).val, .int .i64 4]) (by simp [results, Tryz.results48, go_sem, r0, r1, r2]; rfl) rfl ⟨rfl, b2⟩

set_option maxHeartbeats 1000000 in
theorem bget_f2 (n : Int) (L : List UInt8) (hL : L.length = 128) (hz : L ≠ zerosL 128) (X Y : Im) (hX : readB (sec0 L) = (X, 0)) (hY : readB (sec1 L) = (Y, 0)) (hf : X.b = n) (hf2 : Y.b ≠ n) (w : World) :
    Calls Tryz.prog 48 #[.int .i64 n, .string (str L)] w (GetTo (zIm, 4) w) := by
  have I0 : Hid (imBlk zIm (w.alloc (.cells #[.int .i64 0, .int .u64 0, .string ⟨#[]⟩] 24)) w.heap.size) := Lib.hid (heap_alloc_new w _)
  have B0 := Lib.hid ((Below.refl w.heap.size w).alloc (Nat.le_refl _) (.cells #[.int .i64 0, .int .u64 0, .string ⟨#[]⟩] 24))
  have hsz : ((str L).size : Int) = 128 := by rw [str_size, hL]; rfl
  have HZ1 : Hid (∀ w, Calls Tryz.prog 70 #[.int .i64 128] w fun e w' => e = .returned (.string (str (zerosL 128))) ∧ Below w.heap.size w w') := Lib.hid (fun w => bzero_any 128 (by decide) w)
  have heq := str_ne_B (fun e : str L = str (zerosL 128) => hz (str_inj.1 e))
  have hlx := readB_len (sec0 L)
  rw [hX] at hlx
  have HR0 : Hid (∀ w, Calls Tryz.prog 98 #[.string (str L), .int .i64 0] w fun e w' => e = .returned (.tuple #[X.val, .int .i64 0]) ∧ Below w.heap.size w w') := Lib.hid (fun w => by
    have h := bread_any L hL 0 (by decide) w
    rw [show (L.drop (64 * 0)).take 64 = sec0 L from rfl, hX] at h
    exact h)
  have hly := readB_len (sec1 L)
  rw [hY] at hly
  have HR1 : Hid (∀ w, Calls Tryz.prog 98 #[.string (str L), .int .i64 1] w fun e w' => e = .returned (.tuple #[Y.val, .int .i64 0]) ∧ Below w.heap.size w w') := Lib.hid (fun w => by
    have h := bread_any L hL 1 (by decide) w
    rw [show (L.drop (64 * 1)).take 64 = sec1 L from rfl, hY] at h
    exact h)
  obtain ⟨xb, xv, xd⟩ := X
  obtain ⟨yb, yv, yd⟩ := Y
  unfold Im.val at HR0 HR1
  dsimp only at *
  clear hz hX hL hY
  generalize str (zerosL 128) = Z128 at *
  subst hf
  have hf1 : (yb == xb) = false := by simpa using hf2
  have hf3 : (yb != xb) = true := by simpa using hf2
  clear hf2
  go_enter Tryz.func48, Tryz.ntmps48
  go_wp2_with fail
  refine (HZ1.out _).mono ?_
  rintro e w1 ⟨rfl, hb⟩
  have I1 := Lib.hid (I0.out.below hb)
  have B1 := Lib.hid (B0.out.trans (hb.mono (by simp)))
  clear hb I0 B0
  go_wp2_with fail
  refine (HR0.out _).mono ?_
  rintro e w2 ⟨rfl, hb⟩
  have I2 := Lib.hid (I1.out.below hb)
  have B2 := Lib.hid (B1.out.trans (hb.mono B1.out.size))
  have hab : Below w2.heap.size w2 (w2.alloc (.cells #[.int .i64 xb, .int .u64 xv, .string (str xd)] 24)) := (Below.refl _ _).alloc (Nat.le_refl _) _
  have hT6 : imBlk (Im.mk xb xv xd) (w2.alloc (.cells #[.int .i64 xb, .int .u64 xv, .string (str xd)] 24)) w2.heap.size := heap_alloc_new w2 _
  have I3 := Lib.hid (I2.out.below hab)
  have B3 := Lib.hid (B2.out.trans (hab.mono B2.out.size))
  have T3 := Lib.hid hT6
  clear hb I1 B1 hab hT6 I2 B2
  go_upto_region 6 with fail
  generalize w2.alloc (.cells #[.int .i64 xb, .int .u64 xv, .string (str xd)] 24) = V2 at *
  generalize w2.heap.size = t6 at *
  go_wp2_with fail
  refine (HR1.out _).mono ?_
  rintro e w3 ⟨rfl, hb⟩
  have I4 := Lib.hid (I3.out.below hb)
  have B4 := Lib.hid (B3.out.trans (hb.mono B3.out.size))
  have T4 := Lib.hid (T3.out.below hb)
  have hab : Below w3.heap.size w3 (w3.alloc (.cells #[.int .i64 yb, .int .u64 yv, .string (str yd)] 24)) := (Below.refl _ _).alloc (Nat.le_refl _) _
  have IW := Lib.hid (I4.out.below hab)
  have BW := Lib.hid (B4.out.trans (hab.mono B4.out.size))
  obtain ⟨g0, g1, g2⟩ := (T4.out.below hab).cells
  have hT8 : imBlk (Im.mk yb yv yd) (w3.alloc (.cells #[.int .i64 yb, .int .u64 yv, .string (str yd)] 24)) w3.heap.size := heap_alloc_new w3 _
  obtain ⟨h0, h1, h2⟩ := hT8.cells
  clear hb hab hT8 I3 B3 T3 I4 B4 T4
  go_upto_region 9 with fail
  generalize w3.alloc (.cells #[.int .i64 yb, .int .u64 yv, .string (str yd)] 24) = V3 at *
  generalize w3.heap.size = t8 at *
  have iw := IW.out
  obtain ⟨r0, r1, r2⟩ := iw.cells
  have f0 := iw.fz 0
  have f1 := iw.fz 1
  have f2 := iw.fz 2
  have hltq := iw.lt
  have I2' := Lib.hid (iw.set (Im.mk 0 0 []))
  have B2' := Lib.hid (below_set3 BW.out w.heap.size (Nat.le_refl _) (.int .i64 ((Im.mk 0 0 []) : Im).b) (.int .u64 ((Im.mk 0 0 []) : Im).v) (.string (str ((Im.mk 0 0 []) : Im).d)))
  dsimp only at I2' B2'
  clear iw
  go_wp2
  have i2 : imBlk (Im.mk 0 0 []) (((V3.setCell ⟨w.heap.size, 0, none⟩ (.int .i64 0)).setCell ⟨w.heap.size, 1, none⟩ (.int .u64 0)).setCell ⟨w.heap.size, 2, none⟩ (.string ⟨#[]⟩)) w.heap.size := I2'.out
  have b2 : Below w.heap.size w (((V3.setCell ⟨w.heap.size, 0, none⟩ (.int .i64 0)).setCell ⟨w.heap.size, 1, none⟩ (.int .u64 0)).setCell ⟨w.heap.size, 2, none⟩ (.string ⟨#[]⟩)) := B2'.out
  clear r0 r1 r2
  generalize ((V3.setCell ⟨w.heap.size, 0, none⟩ (.int .i64 0)).setCell ⟨w.heap.size, 1, none⟩ (.int .u64 0)).setCell ⟨w.heap.size, 2, none⟩ (.string ⟨#[]⟩) = Wf at *
  obtain ⟨r0, r1, r2⟩ := i2.cells
  exact bodyPost_ret (v := .tuple #[((Im.mk 0 0 []) : Im).val, .int .i64 4]) (by simp [results, Tryz.results48, go_sem, r0, r1, r2]; rfl) rfl ⟨rfl, b2⟩

set_option maxHeartbeats 1000000 in
theorem bget_f3 (n : Int) (L : List UInt8) (hL : L.length = 128) (hz : L ≠ zerosL 128) (X Y : Im) (hX : readB (sec0 L) = (X, 0)) (hY : readB (sec1 L) = (Y, 0)) (hf : X.b = n) (hf2 : Y.b = n) (hf3 : 4096 ≤ n) (w : World) :
    Calls Tryz.prog 48 #[.int .i64 n, .string (str L)] w (GetTo (zIm, 4) w) := by
  have I0 : Hid (imBlk zIm (w.alloc (.cells #[.int .i64 0, .int .u64 0, .string ⟨#[]⟩] 24)) w.heap.size) := Lib.hid (heap_alloc_new w _)
  have B0 := Lib.hid ((Below.refl w.heap.size w).alloc (Nat.le_refl _) (.cells #[.int .i64 0, .int .u64 0, .string ⟨#[]⟩] 24))
  have hsz : ((str L).size : Int) = 128 := by rw [str_size, hL]; rfl
  have HZ1 : Hid (∀ w, Calls Tryz.prog 70 #[.int .i64 128] w fun e w' => e = .returned (.string (str (zerosL 128))) ∧ Below w.heap.size w w') := Lib.hid (fun w => bzero_any 128 (by decide) w)
  have heq := str_ne_B (fun e : str L = str (zerosL 128) => hz (str_inj.1 e))
  have hlx := readB_len (sec0 L)
  rw [hX] at hlx
  have HR0 : Hid (∀ w, Calls Tryz.prog 98 #[.string (str L), .int .i64 0] w fun e w' => e = .returned (.tuple #[X.val, .int .i64 0]) ∧ Below w.heap.size w w') := Lib.hid (fun w => by
    have h := bread_any L hL 0 (by decide) w
    rw [show (L.drop (64 * 0)).take 64 = sec0 L from rfl, hX] at h
    exact h)
  have hly := readB_len (sec1 L)
  rw [hY] at hly
  have HR1 : Hid (∀ w, Calls Tryz.prog 98 #[.string (str L), .int .i64 1] w fun e w' => e = .returned (.tuple #[Y.val, .int .i64 0]) ∧ Below w.heap.size w w') := Lib.hid (fun w => by
    have h := bread_any L hL 1 (by decide) w
    rw [show (L.drop (64 * 1)).take 64 = sec1 L from rfl, hY] at h
    exact h)
  obtain ⟨xb, xv, xd⟩ := X
  obtain ⟨yb, yv, yd⟩ := Y
  unfold Im.val at HR0 HR1
  dsimp only at *
  clear hz hX hL hY
  generalize str (zerosL 128) = Z128 at *
  subst hf
  have hf2s := hf2.symm
  subst hf2s
  go_enter Tryz.func48, Tryz.ntmps48
  go_wp2_with fail
  refine (HZ1.out _).mono ?_
  rintro e w1 ⟨rfl, hb⟩
  have I1 := Lib.hid (I0.out.below hb)
  have B1 := Lib.hid (B0.out.trans (hb.mono (by simp)))
  clear hb I0 B0
  go_wp2_with fail
  refine (HR0.out _).mono ?_
  rintro e w2 ⟨rfl, hb⟩
  have I2 := Lib.hid (I1.out.below hb)
  have B2 := Lib.hid (B1.out.trans (hb.mono B1.out.size))
  have hab : Below w2.heap.size w2 (w2.alloc (.cells #[.int .i64 xb, .int .u64 xv, .string (str xd)] 24)) := (Below.refl _ _).alloc (Nat.le_refl _) _
  have hT6 : imBlk (Im.mk xb xv xd) (w2.alloc (.cells #[.int .i64 xb, .int .u64 xv, .string (str xd)] 24)) w2.heap.size := heap_alloc_new w2 _
  have I3 := Lib.hid (I2.out.below hab)
  have B3 := Lib.hid (B2.out.trans (hab.mono B2.out.size))
  have T3 := Lib.hid hT6
  clear hb I1 B1 hab hT6 I2 B2
  go_upto_region 6 with fail
  generalize w2.alloc (.cells #[.int .i64 xb, .int .u64 xv, .string (str xd)] 24) = V2 at *
  generalize w2.heap.size = t6 at *
  go_wp2_with fail
  refine (HR1.out _).mono ?_
  rintro e w3 ⟨rfl, hb⟩
  have I4 := Lib.hid (I3.out.below hb)
  have B4 := Lib.hid (B3.out.trans (hb.mono B3.out.size))
  have T4 := Lib.hid (T3.out.below hb)
  have hab : Below w3.heap.size w3 (w3.alloc (.cells #[.int .i64 xb, .int .u64 yv, .string (str yd)] 24)) := (Below.refl _ _).alloc (Nat.le_refl _) _
  have IW := Lib.hid (I4.out.below hab)
  have BW := Lib.hid (B4.out.trans (hab.mono B4.out.size))
  obtain ⟨g0, g1, g2⟩ := (T4.out.below hab).cells
  have hT8 : imBlk (Im.mk xb yv yd) (w3.alloc (.cells #[.int .i64 xb, .int .u64 yv, .string (str yd)] 24)) w3.heap.size := heap_alloc_new w3 _
  obtain ⟨h0, h1, h2⟩ := hT8.cells
  clear hb hab hT8 I3 B3 T3 I4 B4 T4
  go_upto_region 9 with fail
  generalize w3.alloc (.cells #[.int .i64 xb, .int .u64 yv, .string (str yd)] 24) = V3 at *
  generalize w3.heap.size = t8 at *
  have iw := IW.out
  obtain ⟨r0, r1, r2⟩ := iw.cells
  have f0 := iw.fz 0
  have f1 := iw.fz 1
  have f2 := iw.fz 2
  have hltq := iw.lt
  have I2' := Lib.hid (iw.set (Im.mk 0 0 []))
  have B2' := Lib.hid (below_set3 BW.out w.heap.size (Nat.le_refl _) (.int .i64 ((Im.mk 0 0 []) : Im).b) (.int .u64 ((Im.mk 0 0 []) : Im).v) (.string (str ((Im.mk 0 0 []) : Im).d)))
  dsimp only at I2' B2'
  clear iw
  go_wp2
  have i2 : imBlk (Im.mk 0 0 []) (((V3.setCell ⟨w.heap.size, 0, none⟩ (.int .i64 0)).setCell ⟨w.heap.size, 1, none⟩ (.int .u64 0)).setCell ⟨w.heap.size, 2, none⟩ (.string ⟨#[]⟩)) w.heap.size := I2'.out
  have b2 : Below w.heap.size w (((V3.setCell ⟨w.heap.size, 0, none⟩ (.int .i64 0)).setCell ⟨w.heap.size, 1, none⟩ (.int .u64 0)).setCell ⟨w.heap.size, 2, none⟩ (.string ⟨#[]⟩)) := B2'.out
  clear r0 r1 r2
  generalize ((V3.setCell ⟨w.heap.size, 0, none⟩ (.int .i64 0)).setCell ⟨w.heap.size, 1, none⟩ (.int .u64 0)).setCell ⟨w.heap.size, 2, none⟩ (.string ⟨#[]⟩) = Wf at *
  obtain ⟨r0, r1, r2⟩ := i2.cells
  exact bodyPost_ret (v := .tuple #[((Im.mk 0 0 []) : Im).val, .int .i64 4]) (by simp [results, Tryz.results48, go_sem, r0, r1, r2]; rfl) rfl ⟨rfl, b2⟩

set_option maxHeartbeats 1000000 in
theorem bget_v (n : Int) (L : List UInt8) (hL : L.length = 128) (hz : L ≠ zerosL 128) (X Y : Im) (hX : readB (sec0 L) = (X, 0)) (hY : readB (sec1 L) = (Y, 0)) (hf : X.b = n) (hf2 : Y.b = n) (hf3 : n < 4096) (hv : X.v ≠ Y.v) (w : World) :
    Calls Tryz.prog 48 #[.int .i64 n, .string (str L)] w (GetTo (zIm, 6) w) := by
  have I0 : Hid (imBlk zIm (w.alloc (.cells #[.int .i64 0, .int .u64 0, .string ⟨#[]⟩] 24)) w.heap.size) := Lib.hid (heap_alloc_new w _)
  have B0 := Lib.hid ((Below.refl w.heap.size w).alloc (Nat.le_refl _) (.cells #[.int .i64 0, .int .u64 0, .string ⟨#[]⟩] 24))
  have hsz : ((str L).size : Int) = 128 := by rw [str_size, hL]; rfl
  have HZ1 : Hid (∀ w, Calls Tryz.prog 70 #[.int .i64 128] w fun e w' => e = .returned (.string (str (zerosL 128))) ∧ Below w.heap.size w w') := Lib.hid (fun w => bzero_any 128 (by decide) w)
  have heq := str_ne_B (fun e : str L = str (zerosL 128) => hz (str_inj.1 e))
  have hlx := readB_len (sec0 L)
  rw [hX] at hlx
  have HR0 : Hid (∀ w, Calls Tryz.prog 98 #[.string (str L), .int .i64 0] w fun e w' => e = .returned (.tuple #[X.val, .int .i64 0]) ∧ Below w.heap.size w w') := Lib.hid (fun w => by
    have h := bread_any L hL 0 (by decide) w
    rw [show (L.drop (64 * 0)).take 64 = sec0 L from rfl, hX] at h
    exact h)
  have hly := readB_len (sec1 L)
  rw [hY] at hly
  have HR1 : Hid (∀ w, Calls Tryz.prog 98 #[.string (str L), .int .i64 1] w fun e w' => e = .returned (.tuple #[Y.val, .int .i64 0]) ∧ Below w.heap.size w w') := Lib.hid (fun w => by
    have h := bread_any L hL 1 (by decide) w
    rw [show (L.drop (64 * 1)).take 64 = sec1 L from rfl, hY] at h
    exact h)
  obtain ⟨xb, xv, xd⟩ := X
  obtain ⟨yb, yv, yd⟩ := Y
  unfold Im.val at HR0 HR1
  dsimp only at *
  clear hz hX hL hY
  generalize str (zerosL 128) = Z128 at *
  subst hf
  have hf2s := hf2.symm
  subst hf2s
  have hv1 : ((xv : Int) == (yv : Int)) = false := by simp; omega
  have hv2 : ((xv : Int) != (yv : Int)) = true := by simp; omega
  clear hv
  go_enter Tryz.func48, Tryz.ntmps48
  go_wp2_with fail
  refine (HZ1.out _).mono ?_
  rintro e w1 ⟨rfl, hb⟩
  have I1 := Lib.hid (I0.out.below hb)
  have B1 := Lib.hid (B0.out.trans (hb.mono (by simp)))
  clear hb I0 B0
  go_wp2_with fail
  refine (HR0.out _).mono ?_
  rintro e w2 ⟨rfl, hb⟩
  have I2 := Lib.hid (I1.out.below hb)
  have B2 := Lib.hid (B1.out.trans (hb.mono B1.out.size))
  have hab : Below w2.heap.size w2 (w2.alloc (.cells #[.int .i64 xb, .int .u64 xv, .string (str xd)] 24)) := (Below.refl _ _).alloc (Nat.le_refl _) _
  have hT6 : imBlk (Im.mk xb xv xd) (w2.alloc (.cells #[.int .i64 xb, .int .u64 xv, .string (str xd)] 24)) w2.heap.size := heap_alloc_new w2 _
  have I3 := Lib.hid (I2.out.below hab)
  have B3 := Lib.hid (B2.out.trans (hab.mono B2.out.size))
  have T3 := Lib.hid hT6
  clear hb I1 B1 hab hT6 I2 B2
  go_upto_region 6 with fail
  generalize w2.alloc (.cells #[.int .i64 xb, .int .u64 xv, .string (str xd)] 24) = V2 at *
  generalize w2.heap.size = t6 at *
  go_wp2_with fail
  refine (HR1.out _).mono ?_
  rintro e w3 ⟨rfl, hb⟩
  have I4 := Lib.hid (I3.out.below hb)
  have B4 := Lib.hid (B3.out.trans (hb.mono B3.out.size))
  have T4 := Lib.hid (T3.out.below hb)
  have hab : Below w3.heap.size w3 (w3.alloc (.cells #[.int .i64 xb, .int .u64 yv, .string (str yd)] 24)) := (Below.refl _ _).alloc (Nat.le_refl _) _
  have IW := Lib.hid (I4.out.below hab)
  have BW := Lib.hid (B4.out.trans (hab.mono B4.out.size))
  obtain ⟨g0, g1, g2⟩ := (T4.out.below hab).cells
  have hT8 : imBlk (Im.mk xb yv yd) (w3.alloc (.cells #[.int .i64 xb, .int .u64 yv, .string (str yd)] 24)) w3.heap.size := heap_alloc_new w3 _
  obtain ⟨h0, h1, h2⟩ := hT8.cells
  clear hb hab hT8 I3 B3 T3 I4 B4 T4
  go_upto_region 9 with fail
  generalize w3.alloc (.cells #[.int .i64 xb, .int .u64 yv, .string (str yd)] 24) = V3 at *
  generalize w3.heap.size = t8 at *
  have iw := IW.out
  obtain ⟨r0, r1, r2⟩ := iw.cells
  have f0 := iw.fz 0
  have f1 := iw.fz 1
  have f2 := iw.fz 2
  have hltq := iw.lt
  have I2' := Lib.hid (iw.set (Im.mk 0 0 []))
  have B2' := Lib.hid (below_set3 BW.out w.heap.size (Nat.le_refl _) (.int .i64 ((Im.mk 0 0 []) : Im).b) (.int .u64 ((Im.mk 0 0 []) : Im).v) (.string (str ((Im.mk 0 0 []) : Im).d)))
  dsimp only at I2' B2'
  clear iw
  go_wp2
  have i2 : imBlk (Im.mk 0 0 []) (((V3.setCell ⟨w.heap.size, 0, none⟩ (.int .i64 0)).setCell ⟨w.heap.size, 1, none⟩ (.int .u64 0)).setCell ⟨w.heap.size, 2, none⟩ (.string ⟨#[]⟩)) w.heap.size := I2'.out
  have b2 : Below w.heap.size w (((V3.setCell ⟨w.heap.size, 0, none⟩ (.int .i64 0)).setCell ⟨w.heap.size, 1, none⟩ (.int .u64 0)).setCell ⟨w.heap.size, 2, none⟩ (.string ⟨#[]⟩)) := B2'.out
  clear r0 r1 r2
  generalize ((V3.setCell ⟨w.heap.size, 0, none⟩ (.int .i64 0)).setCell ⟨w.heap.size, 1, none⟩ (.int .u64 0)).setCell ⟨w.heap.size, 2, none⟩ (.string ⟨#[]⟩) = Wf at *
  obtain ⟨r0, r1, r2⟩ := i2.cells
  exact bodyPost_ret (v := .tuple #[((Im.mk 0 0 []) : Im).val, .int .i64 6]) (by simp [results, Tryz.results48, go_sem, r0, r1, r2]; rfl) rfl ⟨rfl, b2⟩

set_option maxHeartbeats 1000000 in
theorem bget_ok (n : Int) (L : List UInt8) (hL : L.length = 128) (hz : L ≠ zerosL 128) (X Y : Im) (hX : readB (sec0 L) = (X, 0)) (hY : readB (sec1 L) = (Y, 0)) (hf : X.b = n) (hf2 : Y.b = n) (hf3 : n < 4096) (hv : X.v = Y.v) (w : World) :
    Calls Tryz.prog 48 #[.int .i64 n, .string (str L)] w (GetTo (⟨n, X.v, X.d ++ Y.d⟩, 0) w) := by
  have I0 : Hid (imBlk zIm (w.alloc (.cells #[.int .i64 0, .int .u64 0, .string ⟨#[]⟩] 24)) w.heap.size) := Lib.hid (heap_alloc_new w _)
  have B0 := Lib.hid ((Below.refl w.heap.size w).alloc (Nat.le_refl _) (.cells #[.int .i64 0, .int .u64 0, .string ⟨#[]⟩] 24))
  have hsz : ((str L).size : Int) = 128 := by rw [str_size, hL]; rfl
  have HZ1 : Hid (∀ w, Calls Tryz.prog 70 #[.int .i64 128] w fun e w' => e = .returned (.string (str (zerosL 128))) ∧ Below w.heap.size w w') := Lib.hid (fun w => bzero_any 128 (by decide) w)
  have heq := str_ne_B (fun e : str L = str (zerosL 128) => hz (str_inj.1 e))
  have hlx := readB_len (sec0 L)
  rw [hX] at hlx
  have HR0 : Hid (∀ w, Calls Tryz.prog 98 #[.string (str L), .int .i64 0] w fun e w' => e = .returned (.tuple #[X.val, .int .i64 0]) ∧ Below w.heap.size w w') := Lib.hid (fun w => by
    have h := bread_any L hL 0 (by decide) w
    rw [show (L.drop (64 * 0)).take 64 = sec0 L from rfl, hX] at h
    exact h)
  have hly := readB_len (sec1 L)
  rw [hY] at hly
  have HR1 : Hid (∀ w, Calls Tryz.prog 98 #[.string (str L), .int .i64 1] w fun e w' => e = .returned (.tuple #[Y.val, .int .i64 0]) ∧ Below w.heap.size w w') := Lib.hid (fun w => by
    have h := bread_any L hL 1 (by decide) w
    rw [show (L.drop (64 * 1)).take 64 = sec1 L from rfl, hY] at h
    exact h)
  obtain ⟨xb, xv, xd⟩ := X
  obtain ⟨yb, yv, yd⟩ := Y
  unfold Im.val at HR0 HR1
  dsimp only at *
  clear hz hX hL hY
  generalize str (zerosL 128) = Z128 at *
  subst hf
  have hf2s := hf2.symm
  subst hf2s
  have hvs := hv.symm
  subst hvs
  have hap : str xd ++ str yd = str (xd ++ yd) := str_app xd yd
  have hbig : ¬ 9223372036854775807 < (str xd).size + (str yd).size := by rw [str_size, str_size]; omega
  go_enter Tryz.func48, Tryz.ntmps48
  go_wp2_with fail
  refine (HZ1.out _).mono ?_
  rintro e w1 ⟨rfl, hb⟩
  have I1 := Lib.hid (I0.out.below hb)
  have B1 := Lib.hid (B0.out.trans (hb.mono (by simp)))
  clear hb I0 B0
  go_wp2_with fail
  refine (HR0.out _).mono ?_
  rintro e w2 ⟨rfl, hb⟩
  have I2 := Lib.hid (I1.out.below hb)
  have B2 := Lib.hid (B1.out.trans (hb.mono B1.out.size))
  have hab : Below w2.heap.size w2 (w2.alloc (.cells #[.int .i64 xb, .int .u64 yv, .string (str xd)] 24)) := (Below.refl _ _).alloc (Nat.le_refl _) _
  have hT6 : imBlk (Im.mk xb yv xd) (w2.alloc (.cells #[.int .i64 xb, .int .u64 yv, .string (str xd)] 24)) w2.heap.size := heap_alloc_new w2 _
  have I3 := Lib.hid (I2.out.below hab)
  have B3 := Lib.hid (B2.out.trans (hab.mono B2.out.size))
  have T3 := Lib.hid hT6
  clear hb I1 B1 hab hT6 I2 B2
  go_upto_region 6 with fail
  generalize w2.alloc (.cells #[.int .i64 xb, .int .u64 yv, .string (str xd)] 24) = V2 at *
  generalize w2.heap.size = t6 at *
  go_wp2_with fail
  refine (HR1.out _).mono ?_
  rintro e w3 ⟨rfl, hb⟩
  have I4 := Lib.hid (I3.out.below hb)
  have B4 := Lib.hid (B3.out.trans (hb.mono B3.out.size))
  have T4 := Lib.hid (T3.out.below hb)
  have hab : Below w3.heap.size w3 (w3.alloc (.cells #[.int .i64 xb, .int .u64 yv, .string (str yd)] 24)) := (Below.refl _ _).alloc (Nat.le_refl _) _
  have IW := Lib.hid (I4.out.below hab)
  have BW := Lib.hid (B4.out.trans (hab.mono B4.out.size))
  obtain ⟨g0, g1, g2⟩ := (T4.out.below hab).cells
  have hT8 : imBlk (Im.mk xb yv yd) (w3.alloc (.cells #[.int .i64 xb, .int .u64 yv, .string (str yd)] 24)) w3.heap.size := heap_alloc_new w3 _
  obtain ⟨h0, h1, h2⟩ := hT8.cells
  clear hb hab hT8 I3 B3 T3 I4 B4 T4
  go_upto_region 9 with fail
  generalize w3.alloc (.cells #[.int .i64 xb, .int .u64 yv, .string (str yd)] 24) = V3 at *
  generalize w3.heap.size = t8 at *
  have iw := IW.out
  obtain ⟨r0, r1, r2⟩ := iw.cells
  have f0 := iw.fz 0
  have f1 := iw.fz 1
  have f2 := iw.fz 2
  have hltq := iw.lt
  have I2' := Lib.hid (iw.set (Im.mk xb yv (xd ++ yd)))
  have B2' := Lib.hid (below_set3 BW.out w.heap.size (Nat.le_refl _) (.int .i64 ((Im.mk xb yv (xd ++ yd)) : Im).b) (.int .u64 ((Im.mk xb yv (xd ++ yd)) : Im).v) (.string (str ((Im.mk xb yv (xd ++ yd)) : Im).d)))
  dsimp only at I2' B2'
  clear iw
  go_wp2
  have i2 : imBlk (Im.mk xb yv (xd ++ yd)) (((V3.setCell ⟨w.heap.size, 0, none⟩ (.int .i64 xb)).setCell ⟨w.heap.size, 1, none⟩ (.int .u64 (yv : Nat))).setCell ⟨w.heap.size, 2, none⟩ (.string (str (xd ++ yd)))) w.heap.size := I2'.out
  have b2 : Below w.heap.size w (((V3.setCell ⟨w.heap.size, 0, none⟩ (.int .i64 xb)).setCell ⟨w.heap.size, 1, none⟩ (.int .u64 (yv : Nat))).setCell ⟨w.heap.size, 2, none⟩ (.string (str (xd ++ yd)))) := B2'.out
  clear r0 r1 r2
  generalize ((V3.setCell ⟨w.heap.size, 0, none⟩ (.int .i64 xb)).setCell ⟨w.heap.size, 1, none⟩ (.int .u64 (yv : Nat))).setCell ⟨w.heap.size, 2, none⟩ (.string (str (xd ++ yd))) = Wf at *
  obtain ⟨r0, r1, r2⟩ := i2.cells
  exact bodyPost_ret (v := .tuple #[((Im.mk xb yv (xd ++ yd)) : Im).val, .int .i64 0]) (by simp [results, Tryz.results48, go_sem, r0, r1, r2]; rfl) rfl ⟨rfl, b2⟩

theorem bget_any (n : Int) (L : List UInt8) (w : World) : Calls Tryz.prog 48 #[.int .i64 n, .string (str L)] w (GetTo (getB n L) w) := by
  unfold getB
  by_cases hL : L.length = 128
  · rw [if_neg (by simpa using hL)]
    by_cases hz : L = zerosL 128
    · rw [if_pos hz]
      exact bget_zero n L hz w
    · rw [if_neg hz]
      obtain ⟨X, hX⟩ : ∃ X, (readB (sec0 L)).1 = X := ⟨_, rfl⟩
      obtain ⟨Y, hY⟩ : ∃ Y, (readB (sec1 L)).1 = Y := ⟨_, rfl⟩
      rw [hX, hY]
      rcases readB_err (sec0 L) with hx | hx
      · rw [hx, if_neg (by decide)]
        rcases readB_err (sec1 L) with hy | hy
        · rw [hy, if_neg (by decide)]
          have pX : readB (sec0 L) = (X, 0) := Prod.ext hX hx
          have pY : readB (sec1 L) = (Y, 0) := Prod.ext hY hy
          by_cases h1 : X.b = n
          · by_cases h2 : Y.b = n
            · by_cases h3 : 4096 ≤ n
              · rw [if_pos (by omega)]
                exact bget_f3 n L hL hz X Y pX pY h1 h2 h3 w
              · rw [if_neg (by omega)]
                by_cases h4 : X.v = Y.v
                · rw [if_neg (by simpa using h4)]
                  exact bget_ok n L hL hz X Y pX pY h1 h2 (by omega) h4 w
                · rw [if_pos h4]
                  exact bget_v n L hL hz X Y pX pY h1 h2 (by omega) h4 w
            · rw [if_pos (by omega)]
              exact bget_f2 n L hL hz X Y pX pY h1 h2 w
          · rw [if_pos (by omega)]
            exact bget_f1 n L hL hz X Y pX pY h1 w
        · rw [hy, if_pos (by decide)]
          exact bget_y6 n L hL hz X Y (Prod.ext hX hx) (Prod.ext hY hy) w
      · rw [hx, if_pos (by decide)]
        exact bget_x6 n L hL hz X Y (Prod.ext hX hx) w
  · rw [if_pos hL]
    exact bget_len n L hL w

end Go.Proofs.YtkgdpmeheakdcaaGreat
