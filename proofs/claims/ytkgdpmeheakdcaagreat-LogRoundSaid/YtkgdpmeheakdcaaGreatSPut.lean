/- super.Put: walk. -/
import Derived.Test.YtkgdpmeheakdcaaGreatShape
namespace Go.Proofs.YtkgdpmeheakdcaaGreat
open Go.RowKit
set_option linter.all false
set_option maxRecDepth 100000

def numsL (xs : List Nat) : List UInt8 := xs.flatMap (leN 4)
theorem numsL_length (xs : List Nat) : (numsL xs).length = 4 * xs.length := by
  induction xs with
  | nil => rfl
  | cons x xs ih =>
    have : numsL (x :: xs) = leN 4 x ++ numsL xs := rfl
    rw [this, List.length_append, leN_length, ih, List.length_cons]
    omega
theorem numsL_snoc (xs : List Nat) (k : Nat) (h : k < xs.length) : numsL (xs.take (k + 1)) = numsL (xs.take k) ++ leN 4 (xs.getD k 0) := by
  rw [List.take_succ_eq_append_getElem h, List.getD_eq_getElem?_getD, List.getElem?_eq_getElem h]
  unfold numsL
  rw [List.flatMap_append]
  simp
theorem WIn.grow {p : Nat} {v : Value} {bs : List UInt8} {w w' : World} (h : WIn p v bs w) (hg : Grow (fun _ => False) w w') : WIn p v bs w' :=
  ⟨(hg.block p h.lt (fun h => h)).trans h.blk, ownsRow_of_same h.own (fun g hg' => by
    obtain ⟨_, cur, hh⟩ := ownsRow_block h.own hg'
    exact hg.block g (Array.getElem?_eq_some_iff.1 hh).1 (fun h => h)), h.ne, h.small⟩

def magicL : List UInt8 := [67, 79, 77, 77, 79, 78, 83, 49]
def Sh.nums (s : Sh) : List Nat := [s.n.toNat, s.b.toNat, s.l.toNat, s.c.toNat, s.e.toNat]
/-- The superblock of a shape. -/
def Sh.body (s : Sh) : List UInt8 := magicL ++ numsL s.nums
def Sh.bytes (s : Sh) : List UInt8 := stampL s.body 64
theorem Sh.body_length (s : Sh) : s.body.length = 28 := by simp [Sh.body, numsL_length, magicL, Sh.nums]
theorem Sh.bytes_length (s : Sh) : s.bytes.length = 64 := stampL_length (by rw [Sh.body_length]; decide)

theorem sput_no (s : Sh) (hs : s.ok = false) (w : World) : Calls Tryz.prog 110 #[s.val] w fun e w' => e = .returned (.tuple #[.string ⟨#[]⟩, .int .i64 1]) ∧ Below w.heap.size w w' := by
  have HV := fun w => valid_any s w
  rw [hs] at HV
  obtain ⟨n, b, l, c, e⟩ := s
  unfold Sh.val at *
  dsimp only at *
  replace HV := Lib.hid HV
  clear hs
  go_enter Tryz.func110, Tryz.ntmps110
  go_wp2_with fail
  refine (HV.out _).mono ?_
  rintro e w' ⟨rfl, hb⟩
  have HB := Lib.hid hb
  clear hb
  go_wp2
  go_ret2
  exact ⟨rfl, ((Below.refl _ _).alloc (Nat.le_refl _) _).trans (HB.out.mono (by simp))⟩

set_option maxHeartbeats 1000000 in
theorem sput_ok (s : Sh) (hs : s.ok = true) (w : World) : Calls Tryz.prog 110 #[s.val] w fun e w' => e = .returned (.tuple #[.string (str s.bytes), .int .i64 0]) ∧ Below w.heap.size w w' := by
  have HV := fun w => valid_any s w
  rw [hs] at HV
  obtain ⟨⟨a1, a2⟩, ⟨a3, a4⟩, ⟨a5, a6⟩, ⟨a7, a8⟩, ⟨a9, a10⟩⟩ := Sh.ok_iff.1 hs
  have HBY : Hid (s.bytes = stampL (magicL ++ numsL s.nums) 64) := Lib.hid rfl
  generalize s.bytes = SB at *
  obtain ⟨n, b, l, c, e⟩ := s
  unfold Sh.val at *
  dsimp only at *
  obtain ⟨n, rfl⟩ := Int.eq_ofNat_of_zero_le (show 0 ≤ n by omega)
  obtain ⟨b, rfl⟩ := Int.eq_ofNat_of_zero_le (show 0 ≤ b by omega)
  obtain ⟨l, rfl⟩ := Int.eq_ofNat_of_zero_le (show 0 ≤ l by omega)
  obtain ⟨c, rfl⟩ := Int.eq_ofNat_of_zero_le (show 0 ≤ c by omega)
  obtain ⟨e, rfl⟩ := Int.eq_ofNat_of_zero_le (show 0 ≤ e by omega)
  have hxs : (Sh.mk n b l c e).nums = [n, b, l, c, e] := by simp [Sh.nums]
  rw [hxs] at HBY
  clear hxs
  replace HV := Lib.hid HV
  clear hs
  go_enter Tryz.func110, Tryz.ntmps110
  go_wp2_with fail
  refine (HV.out _).mono ?_
  rintro e w1 ⟨rfl, hb⟩
  obtain ⟨hc, hf⟩ := bcell hb
  have HB := Lib.hid hb
  have hz : w.heap.size < w1.heap.size := by have := hb.size; simp at this; omega
  clear hb
  go_wp2
  have hp : WIn w1.heap.size (.slice none 0 0) [] ((w1.alloc (.cells #[.slice none 0 0, .int .i64 0] 161)).alloc (.cells #[.int .i64 n, .int .i64 b, .int .i64 l, .int .i64 c, .int .i64 e] 3)) := (WIn.new w1).grow (Grow.alloc _ _)
  have hq : ((w1.alloc (.cells #[.slice none 0 0, .int .i64 0] 161)).alloc (.cells #[.int .i64 n, .int .i64 b, .int .i64 l, .int .i64 c, .int .i64 e] 3)).heap[w1.heap.size + 1]? = some (.cells #[.int .i64 n, .int .i64 b, .int .i64 l, .int .i64 c, .int .i64 e] 3 (0, 0)) := by
    have := heap_alloc_new (w1.alloc (.cells #[.slice none 0 0, .int .i64 0] 161)) (.cells #[.int .i64 n, .int .i64 b, .int .i64 l, .int .i64 c, .int .i64 e] 3)
    simpa using this
  have hbel : Below w.heap.size w ((w1.alloc (.cells #[.slice none 0 0, .int .i64 0] 161)).alloc (.cells #[.int .i64 n, .int .i64 b, .int .i64 l, .int .i64 c, .int .i64 e] 3)) :=
    ((((Below.refl _ _).alloc (Nat.le_refl _) _).trans (HB.out.mono (by simp))).alloc (by omega) _).alloc (by simp; omega) _
  have HP := Lib.hid hp
  have HQ := Lib.hid hq
  have HBE := Lib.hid hbel
  have HX : Hid (∀ k, k < 5 → ∃ x : Nat, x = [n, b, l, c, e].getD k 0 ∧ x ≤ 4096 ∧ (#[Value.int .i64 n, .int .i64 b, .int .i64 l, .int .i64 c, .int .i64 e] : Array Value)[k]? = some (.int .i64 (x : Int))) := Lib.hid (by
    intro k hk
    match k, hk with
    | 0, _ => exact ⟨n, rfl, by omega, rfl⟩
    | 1, _ => exact ⟨b, rfl, by omega, rfl⟩
    | 2, _ => exact ⟨l, rfl, by omega, rfl⟩
    | 3, _ => exact ⟨c, rfl, by omega, rfl⟩
    | 4, _ => exact ⟨e, rfl, by omega, rfl⟩)
  clear hp hq hbel hc hf
  generalize hW : (w1.alloc (.cells #[.slice none 0 0, .int .i64 0] 161)).alloc (.cells #[.int .i64 n, .int .i64 b, .int .i64 l, .int .i64 c, .int .i64 e] 3) = W at *
  clear hW
  go_loopw [24] (fun i wr => ∃ k : Nat, k ≤ 5 ∧ i = .int .i64 k ∧ WTo w1.heap.size (.slice none 0 0) (numsL ([n, b, l, c, e].take k)) W wr) (fun i _ => 5 - (intOf i).toNat)
  case atStart => exact ⟨0, by omega, rfl, _, HP.out, Grow.refl _ _, fun _ h => .inl h⟩
  case round =>
    obtain ⟨k, hk, rfl, v', hwi, hgr, hvv⟩ := hrel
    by_cases hlt : k < 5
    · obtain ⟨x, hx1, hx2, hx3⟩ := HX.out k hlt
      have hqk : wr.cell? ⟨w1.heap.size + 1, k, none⟩ = some (.int .i64 (x : Int)) := by
        rw [World.cell?_of_block (hgr.block _ (Array.getElem?_eq_some_iff.1 HQ.out).1 (fun h => by
          rcases h with h | h
          · have h' : w1.heap.size + 1 = w1.heap.size := h
            omega
          · cases h))]
        simp only [World.cell?, HQ.out]
        exact hx3
      have hsn := numsL_snoc [n, b, l, c, e] k hlt
      rw [← hx1] at hsn
      have hlen : (numsL ([n, b, l, c, e].take k)).length + 4 ≤ 100000 := by
        rw [numsL_length, List.length_take]
        omega
      have HN := Lib.hid (num_any hwi 4 (.inr (.inl rfl)) x (by omega) hlen)
      have HG := Lib.hid hgr
      have HV2 := Lib.hid hvv
      have HSN := Lib.hid hsn
      clear hwi hgr hvv hx1 hx3 hsn hlen
      go_wp2_with fail
      refine HN.out.mono ?_
      rintro e w2 ⟨rfl, hto⟩
      have HT := Lib.hid (WTo.trans HG.out HV2.out hto)
      clear hto
      go_wp2
      go_roundw
      case rel => exact ⟨k + 1, by omega, by go_num, by rw [HSN.out]; exact HT.out⟩
      case measure => simp [intOf]; omega
    · have hk5 : k = 5 := by omega
      subst hk5
      have HBY2 := Lib.hid (bytes_any hwi)
      have HBW := Lib.hid (HBE.out.trans (hgr.below HBE.out.size (fun k h => by
        rcases h with rfl | h
        · omega
        · cases h)))
      have hl5 : (numsL ([n, b, l, c, e].take 5)).length = 20 := by rw [numsL_length]; rfl
      have HL5 := Lib.hid hl5
      have HBY3 : Hid (SB = stampL (magicL ++ numsL ([n, b, l, c, e].take 5)) 64) := Lib.hid HBY.out
      clear hwi hgr hvv hl5
      generalize numsL ([n, b, l, c, e].take 5) = M at *
      go_wp2_with fail
      refine HBY2.out.mono ?_
      rintro e w2 ⟨rfl, rfl⟩
      have hap : ByteArray.mk #[67, 79, 77, 77, 79, 78, 83, 49] ++ str M = str (magicL ++ M) := str_app magicL M
      have hbig : ¬ 9223372036854775807 < 8 + (str M).size := by rw [str_size, HL5.out]; decide
      have HS := Lib.hid (stamp_any (magicL ++ M) (by rw [List.length_append, HL5.out]; decide) wr)
      go_wp2_with fail
      refine HS.out.mono ?_
      rintro e w2 ⟨rfl, hb2⟩
      have HF := Lib.hid (HBW.out.trans (hb2.mono HBW.out.size))
      clear hb2
      have hsb : stampL (magicL ++ M) 64 = SB := HBY3.out.symm
      rw [hsb]
      clear hsb
      go_wp2
      go_ret2
      exact ⟨rfl, HF.out⟩

end Go.Proofs.YtkgdpmeheakdcaaGreat
