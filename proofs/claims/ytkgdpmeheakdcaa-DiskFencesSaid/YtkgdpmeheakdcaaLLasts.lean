/- DiskLasts: the plain law. -/
import Derived.Test.YtkgdpmeheakdcaaWays
namespace Go.Proofs.Ytkgdpmeheakdcaa
open Go.RowKit
set_option linter.all false
set_option maxRecDepth 100000

/-- The i-th sector of some bytes. -/
def part (a : ByteArray) (i : Nat) : ByteArray := a.extract (64 * i) (64 * i + 64)
theorem part_size {a : ByteArray} {i : Nat} (h : 64 * i + 64 ≤ a.size) : (part a i).size = 64 := extract_size a i h

def ls1 : DS := (admitR (newDS 12) 3 5).2
def ls2 (a : ByteArray) : DS := wrN ls1 3 2 a 2
def ls3 (a : ByteArray) : DS := settle (ls2 a) 3
def ls4 (a b : ByteArray) (p : Int) : DS := wrN (ls3 a) 3 p b 2
def ls5 (a b : ByteArray) (p : Int) (zs : List Int) : DS := restD (cutOn (ls4 a b p) zs)
theorem ls1_ok : admitR (newDS 12) 3 5 = (0, ls1) := Prod.ext (by kernel_rfl) rfl
theorem ls1_good : Good 0 ls1 := (good_new 12 (by decide) (by decide)).admitted 3 5
theorem ls1_armed : ls1.armed = false := by kernel_rfl
theorem ls1_on : ls1.on = true := by kernel_rfl
theorem ls1_at : ls1.table.getD (3 : Int).toNat 0 = 5 := by kernel_rfl
theorem ls1_sectors : ls1.sectors = 12 := by kernel_rfl
theorem ls2_ok {a : ByteArray} (h : a.size = 128) : writeR ls1 3 5 2 a = (0, ls2 a) := by
  rw [writeR_way 2 ls1_on (goesD_off ls1_armed).2 (by decide) (by decide) (by decide) ls1_at h (by decide) (by decide) (by decide) (by rw [ls1_sectors]; decide), (goesD_off ls1_armed).1]
  rfl
theorem ls2_good {a : ByteArray} (h : a.size = 128) : Good 16 (ls2 a) := by
  have := ls1_good.write 3 5 2 a
  rw [ls2_ok h] at this
  exact this
theorem ls2_armed (a : ByteArray) : (ls2 a).armed = false := ls1_armed
theorem ls3_ok (a : ByteArray) : barrierR (ls2 a) 3 5 = (0, ls3 a) := by
  rw [barrierR_way (show (ls2 a).on = true from ls1_on) (goesD_off (ls2_armed a)).2 (by decide) (by decide) (by decide) ls1_at, (goesD_off (ls2_armed a)).1]
  rfl
theorem ls3_good {a : ByteArray} (h : a.size = 128) : Good 16 (ls3 a) := (ls2_good h).settle 3
theorem ls3_armed (a : ByteArray) : (ls3 a).armed = false := ls1_armed
theorem ls4_ok {a b : ByteArray} {p : Int} (h : b.size = 128) (h0 : 0 ≤ p) (h1 : p ≤ 8) : writeR (ls3 a) 3 5 p b = (0, ls4 a b p) := by
  rw [writeR_way 2 (show (ls3 a).on = true from ls1_on) (goesD_off (ls3_armed a)).2 (by decide) (by decide) (by decide) ls1_at h (by decide) (by decide) h0 (by rw [show (ls3 a).sectors = 12 from ls1_sectors]; omega), (goesD_off (ls3_armed a)).1]
  rfl
theorem ls4_good {a b : ByteArray} {p : Int} (ha : a.size = 128) (h : b.size = 128) (h0 : 0 ≤ p) (h1 : p ≤ 8) : Good 32 (ls4 a b p) := by
  have := (ls3_good ha).write 3 5 p b
  rw [ls4_ok h h0 h1] at this
  exact this
theorem ls4_on (a b : ByteArray) (p : Int) : (ls4 a b p).on = true := ls1_on

theorem ls3_lasts (a : ByteArray) (j : Int) : (ls3 a).lasts j = if j = 3 then some ⟨3, 3, 2, part a 1⟩ else if j = 2 then some ⟨3, 2, 1, part a 0⟩ else none := by
  show settleL 3 (fun _ => none) [⟨3, 2, 1, part a 0⟩, ⟨3, 3, 2, part a 1⟩] j = _
  simp [settleL, keepW, seqAt]
theorem ls4_waits (a b : ByteArray) (p : Int) : (ls4 a b p).waits = [⟨3, p, 3, part b 0⟩, ⟨3, p + 1, 4, part b 1⟩] := by
  show [Wr.mk 3 (p + 0) 3 (part b 0), ⟨3, p + 1, 4, part b 1⟩] = _
  rw [Int.add_zero]
theorem ls4_len (a b : ByteArray) (p : Int) : (ls4 a b p).waits.length = 2 := by rw [ls4_waits]; rfl

theorem ls5_now (a b : ByteArray) (p : Int) (zs : List Int) (j : Int) : (ls5 a b p zs).now j =
    if stayB zs 1 = true ∧ j = p + 1 then some (part b 1) else if stayB zs 0 = true ∧ j = p then some (part b 0) else if j = 3 then some (part a 1) else if j = 2 then some (part a 0) else none := by
  have hl : ∀ j, seqAt (ls3 a).lasts j ≤ 2 := by
    intro j
    unfold seqAt
    rw [ls3_lasts]
    by_cases h3 : j = 3
    · simp [h3]
    · by_cases h2 : j = 2
      · simp [h2]
      · simp [h3, h2]
  show (cutL zs 0 (ls4 a b p).lasts (ls4 a b p).waits j).map (·.data) = _
  rw [ls4_waits, show (ls4 a b p).lasts = (ls3 a).lasts from rfl]
  simp only [cutL, Nat.zero_add]
  cases hs0 : stayB zs 0 with
  | false =>
    cases hs1 : stayB zs 1 with
    | false =>
      simp only [Bool.false_eq_true, if_false, false_and, ls3_lasts]
      by_cases h3 : j = 3
      · simp [h3]
      · by_cases h2 : j = 2 <;> simp [h3, h2]
    | true =>
      simp only [if_true, Bool.false_eq_true, if_false, false_and]
      rw [keepW_at _ _ (by have := hl (p + 1); show seqAt _ (p + 1) < 4; omega)]
      by_cases h : j = p + 1
      · simp [h]
      · simp only [h, if_false, and_false, ls3_lasts]
        by_cases h3 : j = 3
        · simp [h3]
        · by_cases h2 : j = 2 <;> simp [h3, h2]
  | true =>
    have hk0 : ∀ j, keepW (ls3 a).lasts ⟨3, p, 3, part b 0⟩ j = if j = p then some ⟨3, p, 3, part b 0⟩ else (ls3 a).lasts j := keepW_at _ _ (by have := hl p; show seqAt _ p < 3; omega)
    have hl2 : seqAt (keepW (ls3 a).lasts ⟨3, p, 3, part b 0⟩) (p + 1) < 4 := by
      have h := hl (p + 1)
      unfold seqAt at h ⊢
      rw [hk0, if_neg (by omega)]
      omega
    cases hs1 : stayB zs 1 with
    | false =>
      simp only [if_true, Bool.false_eq_true, if_false, false_and, true_and]
      rw [hk0]
      by_cases h : j = p
      · simp [h]
      · simp only [h, if_false, ls3_lasts]
        by_cases h3 : j = 3
        · simp [h3]
        · by_cases h2 : j = 2 <;> simp [h3, h2]
    | true =>
      simp only [if_true, true_and]
      rw [keepW_at _ _ hl2]
      by_cases h : j = p + 1
      · simp [h]
      · simp only [h, if_false]
        rw [hk0]
        by_cases h : j = p
        · simp [h]
        · simp only [h, if_false, ls3_lasts]
          by_cases h3 : j = 3
          · simp [h3]
          · by_cases h2 : j = 2 <;> simp [h3, h2]

theorem part_readL {D : DS} (hs : ∀ k s, D.now k = some s → s.size = 64) (a : Int) (n i : Nat) (h : i < n) : part ⟨(readL D a n).toArray⟩ i = secAt D (a + i) := by
  apply bytes_of_list
  unfold part
  rw [extract_list]
  show ((readL D a n).drop _).take _ = _
  rw [show 64 * i + 64 - 64 * i = 64 * 1 by omega, readL_part hs a i 1 n (by omega)]
  simp [readL]

theorem two_parts {x a : ByteArray} (hx : x.size = 128) (ha : a.size = 128) (h0 : part x 0 = part a 0) (h1 : part x 1 = part a 1) : x = a := by
  have hl : ∀ z : ByteArray, z.size = 128 → z.data.toList = (part z 0).data.toList ++ (part z 1).data.toList := by
    intro z hz
    have hzl : z.data.toList.length = 128 := hz
    unfold part
    rw [extract_list, extract_list]
    simp only [Nat.mul_zero, Nat.mul_one, List.drop_zero, Nat.zero_add, Nat.sub_zero, Nat.add_sub_cancel_left]
    rw [List.take_of_length_le (l := z.data.toList.drop 64) (by rw [List.length_drop]; omega), List.take_append_drop]
  apply bytes_of_list
  rw [hl x hx, hl a ha, h0, h1]

/-- What the law asks of what is read. -/
structure LsFacts (a b x y : ByteArray) (p : Int) (zs : List Int) : Prop where
  ysz : y.size = 128
  yb : ∀ i, i < 2 → stayB zs i = true → part y i = part b i
  ya : ∀ i o : Nat, i < 2 → stayB zs i = false → p + i - 2 = o → o < 2 → part y i = part a o
  xa : ¬ (1 ≤ p ∧ p ≤ 3) → x = a

theorem ls5_good {a b : ByteArray} {p : Int} (zs : List Int) (ha : a.size = 128) (h : b.size = 128) (h0 : 0 ≤ p) (h1 : p ≤ 8) : Good 32 (ls5 a b p zs) := ((ls4_good ha h h0 h1).cutOn zs).restore

theorem ls5_read {a b : ByteArray} {p : Int} (zs : List Int) (ha : a.size = 128) (hb : b.size = 128) (h0 : 0 ≤ p) (h1 : p ≤ 8) :
    ∃ x y, readR (ls5 a b p zs) 2 2 = (x, 0) ∧ readR (ls5 a b p zs) p 2 = (y, 0) ∧ LsFacts a b x y p zs := by
  have hg := ls5_good (p := p) zs ha hb h0 h1
  have hon : (ls5 a b p zs).on = true := rfl
  have hse : (ls5 a b p zs).sectors = 12 := ls1_sectors
  have hsz : ∀ q : Int, (⟨(readL (ls5 a b p zs) q 2).toArray⟩ : ByteArray).size = 128 := fun q => by
    show (readL _ q 2).toArray.size = 128
    rw [List.size_toArray, readL_length hg.zn]
  refine ⟨⟨(readL (ls5 a b p zs) 2 2).toArray⟩, ⟨(readL (ls5 a b p zs) p 2).toArray⟩, ?_, ?_, hsz p, ?_, ?_, ?_⟩
  · rw [readR_on hon, hse, if_pos (by decide)]
    rfl
  · rw [readR_on hon, hse, if_pos (by omega)]
    rfl
  · intro i hi hs
    rw [part_readL hg.zn _ _ _ hi]
    unfold secAt
    rw [ls5_now]
    rcases (show i = 0 ∨ i = 1 by omega) with rfl | rfl
    · rw [if_neg (by rintro ⟨-, h⟩; simp at h; omega), if_pos ⟨hs, by simp⟩]
      rfl
    · rw [if_pos ⟨hs, by simp⟩]
      rfl
  · intro i o hi hs ho ho2
    rw [part_readL hg.zn _ _ _ hi]
    unfold secAt
    rw [ls5_now]
    have hn1 : ¬ (stayB zs 1 = true ∧ p + (i : Int) = p + 1) := by
      rintro ⟨h1, h2⟩
      have : i = 1 := by omega
      subst this
      rw [hs] at h1
      cases h1
    have hn0 : ¬ (stayB zs 0 = true ∧ p + (i : Int) = p) := by
      rintro ⟨h1, h2⟩
      have : i = 0 := by omega
      subst this
      rw [hs] at h1
      cases h1
    rw [if_neg hn1, if_neg hn0]
    rcases (show o = 0 ∨ o = 1 by omega) with rfl | rfl
    · rw [if_neg (by omega), if_pos (by omega)]
      rfl
    · rw [if_pos (by omega)]
      rfl
  · intro hp
    refine two_parts (hsz 2) ha ?_ ?_
    · rw [part_readL hg.zn _ _ _ (by decide)]
      unfold secAt
      rw [ls5_now, if_neg (by rintro ⟨-, h⟩; simp at h; omega), if_neg (by rintro ⟨-, h⟩; simp at h; omega), if_neg (by decide), if_pos (by decide)]
      rfl
    · rw [part_readL hg.zn _ _ _ (by decide)]
      unfold secAt
      rw [ls5_now, if_neg (by rintro ⟨-, h⟩; simp at h; omega), if_neg (by rintro ⟨-, h⟩; simp at h; omega), if_pos (by decide)]
      rfl

end Go.Proofs.Ytkgdpmeheakdcaa
