/- What a cut leaves of a stored block: plain laws. -/
import Derived.Test.YtkgdpmeheakdcaaWTells
namespace Go.Proofs.Ytkgdpmeheakdcaa
open Go.RowKit
set_option linter.all false
set_option maxRecDepth 100000

def kp1 (P : Int) (a : Im) : DS := wrN dk9 1 P (str a.bytes) 2
def kp2 (P : Int) (a : Im) : DS := settle (kp1 P a) 1
def kp3 (P : Int) (a b : Im) : DS := wrN (kp2 P a) 1 P (str b.bytes) 2
def kp5 (P : Int) (a b : Im) (zs : List Int) : DS := restD (cutOn (kp3 P a b) zs)

theorem settle_table (D : DS) (n : Int) : (settle D n).table = D.table := rfl
theorem settle_sectors (D : DS) (n : Int) : (settle D n).sectors = D.sectors := rfl
theorem settle_now (D : DS) (n : Int) : (settle D n).now = D.now := rfl
theorem kp1_lv (P : Int) (a : Im) : Lv 1 (kp1 P a) := (dk9_lv 1).wrN _ _ _
theorem kp2_lv (P : Int) (a : Im) : Lv 1 (kp2 P a) := (kp1_lv P a).settle
theorem kp2_waits (P : Int) (a : Im) : (kp2 P a).waits = [] := (kp1_lv P a).settled
theorem kp3_lv (P : Int) (a b : Im) : Lv 1 (kp3 P a b) := (kp2_lv P a).wrN _ _ _
theorem kp1_table (P : Int) (a : Im) : (kp1 P a).table.getD (1 : Int).toNat 0 = 9 := by rw [kp1, wrN_table, dk9_table]; rfl
theorem kp2_table (P : Int) (a : Im) : (kp2 P a).table.getD (1 : Int).toNat 0 = 9 := by rw [kp2, settle_table]; exact kp1_table P a
theorem kp1_sectors (P : Int) (a : Im) : (kp1 P a).sectors = 37 := by rw [kp1, wrN_sectors, dk9_sectors]
theorem kp2_sectors (P : Int) (a : Im) : (kp2 P a).sectors = 37 := by rw [kp2, settle_sectors, kp1_sectors]
theorem kp3_sectors (P : Int) (a b : Im) : (kp3 P a b).sectors = 37 := by rw [kp3, wrN_sectors, kp2_sectors]

section
variable {a b : Im} (ha : a.ok = true) (hb : b.ok = true) (hav : a.v < 18446744073709551616) (hbv : b.v < 18446744073709551616) (h10 : a.b < 10) (hab : b.b = a.b)
include ha
theorem kp_store1 (h10 : a.b < 10) : storeB dk9 1 9 a = (0, kp1 (17 + 2 * a.b) a) :=
  storeB_ok (dk9_lv 1) dk9_sectors (by decide) (by decide) 9 (by decide) (by rw [dk9_table]; rfl) a ha h10
theorem kp1_good (P : Int) : Good 51 (kp1 P a) := good_dk9.wrN 1 P (str a.bytes) 2 (by rw [str_size, Im.bytes_length _ ha]; decide)
theorem kp2_good (P : Int) : Good 51 (kp2 P a) := (kp1_good ha P).settle 1
omit ha in
theorem kp_barrier (P : Int) : barrierR (kp1 P a) 1 9 = (0, kp2 P a) := by
  rw [barrierR_way (node := 1) (epoch := 9) (kp1_lv P a).on (goesD_off (kp1_lv P a).armed).2 (by decide) (by decide) (by decide) (kp1_table P a), (goesD_off (kp1_lv P a).armed).1]
  rfl
include hb hab
omit ha in
theorem kp_store2 (h10 : a.b < 10) : storeB (kp2 (17 + 2 * a.b) a) 1 9 b = (0, kp3 (17 + 2 * a.b) a b) := by
  rw [storeB_ok (kp2_lv _ a) (kp2_sectors _ a) (by decide) (by decide) 9 (by decide) (kp2_table _ a) b hb (by omega), hab]
  rfl
theorem kp3_good (P : Int) : Good 53 (kp3 P a b) := (kp2_good ha P).wrN 1 P (str b.bytes) 2 (by rw [str_size, Im.bytes_length _ hb]; decide)
omit ha in
theorem kp_load (hbv : b.v < 18446744073709551616) (h10 : a.b < 10) : loadB (kp3 (17 + 2 * a.b) a b) b.b = (b, 0) := by
  rw [kp3, ← hab]
  exact loadB_wr (by rw [hab]; exact kp2_lv _ a) (by rw [hab]; exact kp2_sectors _ a) b hb hbv (by omega)
theorem kp_other (h10 : a.b < 10) (m : Int) (m0 : 0 ≤ m) (m1 : m < 10) (hm : m ≠ a.b) : loadB (kp3 (17 + 2 * a.b) a b) m = (⟨m, 0, zerosL 96⟩, 0) := by
  have hfar : ∀ j : Int, (j < 17 + 2 * a.b ∨ 17 + 2 * a.b + (2 : Nat) ≤ j) → 1 ≤ j → j < 37 → (kp3 (17 + 2 * a.b) a b).now j = some zero64 := fun j hj h1 h2 => by
    rw [kp3, (now_wrN _ _ _ _ 2).2 j hj, kp2, settle_now, kp1, (now_wrN _ _ _ _ 2).2 j hj, dk9_now j h1 h2]
  have hr : readL (kp3 (17 + 2 * a.b) a b) (17 + 2 * m) 2 = zerosL 128 := by
    simp only [readL, secAt]
    rw [hfar _ (by omega) (by omega) (by omega), hfar _ (by omega) (by omega) (by omega)]
    simp only [Option.getD_some, zero64_list, List.nil_append]
    decide
  rw [loadB_of (kp3_lv _ a b).on (kp3_sectors _ a b) m m0 m1, hr, getB_zeros]
end

def part2 (i : Im) (k : Nat) : ByteArray := (str i.bytes).extract (64 * k) (64 * k + 64)
theorem part2_0 (i : Im) (h : i.ok = true) : (part2 i 0).data.toList = secL i.b.toNat i.v i.d 0 := by
  unfold part2
  rw [extract_list, str_toList, ← bytes_sec0 i h]
  rfl
theorem part2_1 (i : Im) (h : i.ok = true) : (part2 i 1).data.toList = secL i.b.toNat i.v i.d 1 := by
  unfold part2
  rw [extract_list, str_toList, ← bytes_sec1 i h]
  rfl
theorem kp3_waits (P : Int) (a b : Im) : (kp3 P a b).waits = [⟨1, P + (0 : Nat), (kp2 P a).seq + 1, part2 b 0⟩, ⟨1, P + (1 : Nat), (kp2 P a).seq + 2, part2 b 1⟩] := by
  have h : (kp3 P a b).waits = ((kp2 P a).waits ++ [⟨1, P + (0 : Nat), (kp2 P a).seq + 1, part2 b 0⟩]) ++ [⟨1, P + (1 : Nat), (kp2 P a).seq + 1 + 1, part2 b 1⟩] := rfl
  rw [h, kp2_waits, Int.add_assoc]
  rfl
theorem kp3_len (P : Int) (a b : Im) : (kp3 P a b).waits.length = 2 := by rw [kp3_waits]; rfl
theorem kp3_lasts (P : Int) (a b : Im) : (kp3 P a b).lasts = (kp2 P a).lasts := by rw [kp3, wrN_lasts]

/-- What is read behind the cut. -/
theorem kp5_now (P : Int) (a b : Im) (zs : List Int) :
    (kp5 P a b zs).now P = some (if stayB zs 0 = true then part2 b 0 else part2 a 0) ∧ (kp5 P a b zs).now (P + 1) = some (if stayB zs 1 = true then part2 b 1 else part2 a 1) := by
  have h2 := kp2_lv P a
  have hq := fun j => seqAt_le h2.sl h2.q0 j
  have hsyn : ∀ j, ((kp2 P a).lasts j).map (·.data) = (kp2 P a).now j := fun j => by
    have := h2.syn j
    rw [kp2_waits] at this
    exact this
  have hn0 : (kp2 P a).now P = some (part2 a 0) := by
    rw [kp2, settle_now, kp1]
    have := (now_wrN dk9 1 P (str a.bytes) 2).1 0 (by decide)
    rw [Int.natCast_zero, Int.add_zero] at this
    exact this
  have hn1 : (kp2 P a).now (P + 1) = some (part2 a 1) := by
    rw [kp2, settle_now, kp1]
    exact (now_wrN dk9 1 P (str a.bytes) 2).1 1 (by decide)
  have hnow : ∀ j, (kp5 P a b zs).now j = (cutL zs 0 (kp3 P a b).lasts (kp3 P a b).waits j).map (·.data) := fun _ => rfl
  rw [hnow, hnow, kp3_waits, kp3_lasts]
  generalize (kp2 P a).lasts = L at *
  generalize (kp2 P a).seq = q at *
  generalize (kp2 P a).now = nw at *
  have e0 : P + ((0 : Nat) : Int) = P := by simp
  have e1 : P + ((1 : Nat) : Int) = P + 1 := by simp
  rw [e0, e1]
  simp only [cutL, Nat.zero_add]
  have k0 : ∀ j, keepW L ⟨1, P, q + 1, part2 b 0⟩ j = if j = P then some ⟨1, P, q + 1, part2 b 0⟩ else L j := keepW_at _ _ (by have := hq P; show seqAt _ P < q + 1; omega)
  have k1 : ∀ j, keepW L ⟨1, P + 1, q + 2, part2 b 1⟩ j = if j = P + 1 then some ⟨1, P + 1, q + 2, part2 b 1⟩ else L j := keepW_at _ _ (by have := hq (P + 1); show seqAt _ (P + 1) < q + 2; omega)
  have k2 : ∀ j, keepW (keepW L ⟨1, P, q + 1, part2 b 0⟩) ⟨1, P + 1, q + 2, part2 b 1⟩ j = if j = P + 1 then some ⟨1, P + 1, q + 2, part2 b 1⟩ else keepW L ⟨1, P, q + 1, part2 b 0⟩ j := keepW_at _ _ (by
    show seqAt (keepW L _) (P + 1) < q + 2
    have h := hq (P + 1)
    unfold seqAt at h ⊢
    rw [k0, if_neg (by omega)]
    omega)
  cases hs0 : stayB zs 0 with
  | false =>
    cases hs1 : stayB zs 1 with
    | false =>
      simp only [Bool.false_eq_true, if_false]
      rw [hsyn, hsyn, hn0, hn1]
      exact ⟨rfl, rfl⟩
    | true =>
      simp only [Bool.false_eq_true, if_false, if_true]
      rw [k1, k1, if_neg (by omega), if_pos rfl, hsyn, hn0]
      exact ⟨rfl, rfl⟩
  | true =>
    cases hs1 : stayB zs 1 with
    | false =>
      simp only [Bool.false_eq_true, if_false, if_true]
      rw [k0, k0, if_pos rfl, if_neg (by omega), hsyn, hn1]
      exact ⟨rfl, rfl⟩
    | true =>
      simp only [if_true]
      rw [k2, k2, if_neg (by omega), if_pos rfl, k0, if_pos rfl]
      exact ⟨rfl, rfl⟩

/-- Two sectors, each of an image of that number. -/
theorem getB_mix (i j : Im) (hi : i.ok = true) (hj : j.ok = true) (hiv : i.v < 18446744073709551616) (hjv : j.v < 18446744073709551616) (hij : j.b = i.b) :
    getB i.b (secL i.b.toNat i.v i.d 0 ++ secL j.b.toNat j.v j.d 1) = if i.v = j.v then (⟨i.b, i.v, halfL i.d 0 ++ halfL j.d 1⟩, 0) else (zIm, 6) := by
  obtain ⟨h0, h1, hd⟩ := Im.ok_iff.1 hi
  have he := (Im.ok_iff.1 hj).2.2
  have hb : ((i.b.toNat : Nat) : Int) = i.b := Int.toNat_of_nonneg h0
  rw [hij]
  have l0 := secL_length i.b.toNat i.v i.d hd 0 (by decide)
  have l1 := secL_length i.b.toNat j.v j.d he 1 (by decide)
  have hL : (secL i.b.toNat i.v i.d 0 ++ secL i.b.toNat j.v j.d 1).length = 128 := by rw [List.length_append, l0, l1]
  have s0 : sec0 (secL i.b.toNat i.v i.d 0 ++ secL i.b.toNat j.v j.d 1) = secL i.b.toNat i.v i.d 0 := by
    unfold sec0
    rw [Nat.mul_zero, List.drop_zero, List.take_left' l0]
  have s1 : sec1 (secL i.b.toNat i.v i.d 0 ++ secL i.b.toNat j.v j.d 1) = secL i.b.toNat j.v j.d 1 := by
    unfold sec1
    rw [Nat.mul_one, List.drop_left' l0, List.take_of_length_le (by omega)]
  have hz : secL i.b.toNat i.v i.d 0 ++ secL i.b.toNat j.v j.d 1 ≠ zerosL 128 := by
    intro e
    have h2 : sec0 (zerosL 128) = zerosL 64 := by decide
    have h3 := secL_ok i.b.toNat i.v i.d hd 0 (by decide)
    rw [← s0, e, h2, zeros64_bad] at h3
    cases h3
  unfold getB
  rw [if_neg (by simp [hL]), if_neg hz, s0, s1, readB_secL _ _ (by omega) hiv _ hd 0 (by decide), readB_secL _ _ (by omega) hjv _ he 1 (by decide)]
  rw [if_neg (fun h => h rfl), if_neg (fun h => h rfl), if_neg (by simp only [hb, not_or]; exact ⟨fun h => h rfl, fun h => h rfl, by omega⟩)]
  by_cases hv : i.v = j.v
  · rw [if_neg (fun h => h hv), if_pos hv]
  · rw [if_pos hv, if_neg hv]

theorem rc_on (D : DS) (zs : List Int) : (restD (cutOn D zs)).on = true := rfl
theorem rc_sectors (D : DS) (zs : List Int) : (restD (cutOn D zs)).sectors = D.sectors := rfl
theorem getB_mix' (i j : Im) (hi : i.ok = true) (hj : j.ok = true) (hiv : i.v < 18446744073709551616) (hjv : j.v < 18446744073709551616) (hij : j.b = i.b) :
    getB j.b (secL i.b.toNat i.v i.d 0 ++ secL j.b.toNat j.v j.d 1) = if i.v = j.v then (⟨i.b, i.v, halfL i.d 0 ++ halfL j.d 1⟩, 0) else (zIm, 6) := by
  have h := getB_mix i j hi hj hiv hjv hij
  rw [hij] at h ⊢
  exact h
theorem kp5_load {a b : Im} (ha : a.ok = true) (hb : b.ok = true) (h10 : a.b < 10) (hab : b.b = a.b) (zs : List Int) :
    loadB (kp5 (17 + 2 * a.b) a b zs) b.b = getB b.b ((if stayB zs 0 = true then secL b.b.toNat b.v b.d 0 else secL a.b.toNat a.v a.d 0) ++ (if stayB zs 1 = true then secL b.b.toNat b.v b.d 1 else secL a.b.toNat a.v a.d 1)) := by
  have h0 := (Im.ok_iff.1 ha).1
  have hn := kp5_now (17 + 2 * a.b) a b zs
  have hon : (kp5 (17 + 2 * a.b) a b zs).on = true := by rw [kp5, rc_on]
  have hse : (kp5 (17 + 2 * a.b) a b zs).sectors = 37 := by rw [kp5, rc_sectors, kp3_sectors]
  rw [loadB_of hon hse b.b (by omega) (by omega)]
  generalize kp5 (17 + 2 * a.b) a b zs = K at *
  congr 1
  simp only [readL, secAt, List.nil_append]
  rw [hab, show 17 + 2 * a.b + ((0 : Nat) : Int) = 17 + 2 * a.b by simp, show 17 + 2 * a.b + ((1 : Nat) : Int) = 17 + 2 * a.b + 1 by simp, hn.1, hn.2]
  simp only [Option.getD_some]
  have p0 := part2_0 a ha
  have p1 := part2_1 a ha
  have q0 := part2_0 b hb
  have q1 := part2_1 b hb
  rw [hab] at q0 q1
  generalize part2 a 0 = A0 at *
  generalize part2 a 1 = A1 at *
  generalize part2 b 0 = B0 at *
  generalize part2 b 1 = B1 at *
  rw [← p0, ← p1, ← q0, ← q1]
  cases stayB zs 0 <;> cases stayB zs 1 <;> rfl

/-- What the law asks of the third load. -/
structure Kp (a b : Im) (s0 s1 : Bool) (Z : Im × Int) : Prop where
  all : s0 = true → s1 = true → Z = (b, 0)
  none : s0 = false → s1 = false → Z = (a, 0)
  torn : s0 ≠ s1 → a.v ≠ b.v → Z = (zIm, 6)
  fine : s0 ≠ s1 → a.v = b.v → Z.2 = 0
theorem bytes_secs (i : Im) : i.bytes = secL i.b.toNat i.v i.d 0 ++ secL i.b.toNat i.v i.d 1 := by
  unfold Im.bytes
  simp [imK]
theorem kp_law {a b : Im} (ha : a.ok = true) (hb : b.ok = true) (hav : a.v < 18446744073709551616) (hbv : b.v < 18446744073709551616) (h10 : a.b < 10) (hab : b.b = a.b) (zs : List Int) :
    Kp a b (stayB zs 0) (stayB zs 1) (loadB (kp5 (17 + 2 * a.b) a b zs) b.b) := by
  rw [kp5_load ha hb h10 hab zs]
  refine ⟨fun e0 e1 => ?_, fun e0 e1 => ?_, fun hne hv => ?_, fun hne hv => ?_⟩
  · rw [e0, e1, if_pos rfl, if_pos rfl, ← bytes_secs, getB_bytes b hb hbv]
  · rw [e0, e1, if_neg (by decide), if_neg (by decide), ← bytes_secs, hab, getB_bytes a ha hav]
  · cases h0 : stayB zs 0 <;> cases h1 : stayB zs 1
    · rw [h0, h1] at hne; exact absurd rfl hne
    · rw [if_neg (by decide), if_pos rfl, getB_mix' a b ha hb hav hbv hab, if_neg hv]
    · rw [if_pos rfl, if_neg (by decide), getB_mix b a hb ha hbv hav hab.symm, if_neg (fun e => hv e.symm)]
    · rw [h0, h1] at hne; exact absurd rfl hne
  · cases h0 : stayB zs 0 <;> cases h1 : stayB zs 1
    · rw [h0, h1] at hne; exact absurd rfl hne
    · rw [if_neg (by decide), if_pos rfl, getB_mix' a b ha hb hav hbv hab, if_pos hv]
    · rw [if_pos rfl, if_neg (by decide), getB_mix b a hb ha hbv hav hab.symm, if_pos hv.symm]
    · rw [h0, h1] at hne; exact absurd rfl hne
end Go.Proofs.Ytkgdpmeheakdcaa
