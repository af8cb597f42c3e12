/- DiskArmed: the plain law. -/
import Derived.Test.YtkgdpmeheakdcaaLOrder
namespace Go.Proofs.Ytkgdpmeheakdcaa
open Go.RowKit
set_option linter.all false
set_option maxRecDepth 100000

def ar1 : DS := (admitR (newDS 12) 1 1).2
def ar2 (a : ByteArray) : DS := wrN ar1 1 11 a 1
def ar3 (a : ByteArray) : DS := settle (ar2 a) 1
theorem ar1_ok : admitR (newDS 12) 1 1 = (0, ar1) := Prod.ext (by kernel_rfl) rfl
theorem ar1_good : Good 0 ar1 := (good_new 12 (by decide) (by decide)).admitted 1 1
theorem ar1_armed : ar1.armed = false := by kernel_rfl
theorem ar1_on : ar1.on = true := by kernel_rfl
theorem ar1_at : ar1.table.getD (1 : Int).toNat 0 = 1 := by kernel_rfl
theorem ar1_sectors : ar1.sectors = 12 := by kernel_rfl
theorem ar2_ok {a : ByteArray} (h : a.size = 64) : writeR ar1 1 1 11 a = (0, ar2 a) := by
  rw [writeR_way 1 ar1_on (goesD_off ar1_armed).2 (by decide) (by decide) (by decide) ar1_at h (by decide) (by decide) (by decide) (by rw [ar1_sectors]; decide), (goesD_off ar1_armed).1]
  rfl
theorem ar2_good {a : ByteArray} (h : a.size = 64) : Good 16 (ar2 a) := by
  have := ar1_good.write 1 1 11 a
  rw [ar2_ok h] at this
  exact this
theorem ar3_ok (a : ByteArray) : barrierR (ar2 a) 1 1 = (0, ar3 a) := by
  rw [barrierR_way (show (ar2 a).on = true from ar1_on) (goesD_off (show (ar2 a).armed = false from ar1_armed)).2 (by decide) (by decide) (by decide) ar1_at, (goesD_off (show (ar2 a).armed = false from ar1_armed)).1]
  rfl
theorem ar3_good {a : ByteArray} (h : a.size = 64) : Good 16 (ar3 a) := (ar2_good h).settle 1
theorem ar3_lasts (a : ByteArray) (j : Int) : (ar3 a).lasts j = if j = 11 then some ⟨1, 11, 1, part a 0⟩ else none := by
  show settleL 1 (fun _ => none) [⟨1, 11, 1, part a 0⟩] j = _
  simp [settleL, keepW, seqAt]
theorem ar3_waits (a : ByteArray) : (ar3 a).waits = [] := rfl

def aw (b : ByteArray) (i : Nat) : Wr := ⟨1, i, 2 + i, part b 0⟩

/-- The armed disk behind k writes. -/
structure AI (a b : ByteArray) (n : Int) (zs : List Int) (k : Nat) (D : DS) : Prop where
  on : D.on = true
  armed : D.armed = true
  left : D.left = n - k
  stays : D.stays = zs
  tab : D.table.getD (1 : Int).toNat 0 = 1
  sec : D.sectors = 12
  seq : D.seq = 1 + k
  waits : D.waits = (List.range' 0 k).map (aw b)
  lasts : D.lasts = (ar3 a).lasts
  good : Good (16 + 16 * k) D

theorem ai_start {a b : ByteArray} {n : Int} {zs : List Int} (ha : a.size = 64) (h0 : 0 ≤ n) (h1 : n ≤ 10) (hz : zs.length ≤ 1000) : AI a b n zs 0 (armD (ar3 a) n zs) :=
  ⟨ar1_on, by show decide (0 ≤ n) = true; simpa using h0, by show n = n - ((0 : Nat) : Int); omega, rfl, ar1_at, ar1_sectors, by kernel_rfl, rfl, rfl, (ar3_good ha).arm n (by omega) zs (by omega)⟩

def aiN (b : ByteArray) (k : Nat) (D : DS) : DS := wrN (goesD D) 1 k b 1
theorem ai_write {a b : ByteArray} {n : Int} {zs : List Int} {k : Nat} {D : DS} (h : AI a b n zs k D) (hb : b.size = 64) (hk : (k : Int) < n) (hn : n ≤ 10) : writeR D 1 1 k b = (0, aiN b k D) := by
  have hl : 0 < D.left := by rw [h.left]; omega
  rw [writeR_way 1 h.on (goesD_left h.armed hl).2 (by decide) (by decide) (by decide) h.tab hb (by decide) (by decide) (by omega) (by rw [h.sec]; omega)]
  rfl
theorem ai_next {a b : ByteArray} {n : Int} {zs : List Int} {k : Nat} {D : DS} (h : AI a b n zs k D) (hb : b.size = 64) (hk : (k : Int) < n) (hn : n ≤ 10) : AI a b n zs (k + 1) (aiN b k D) := by
  have hl : 0 < D.left := by rw [h.left]; omega
  have hg : goesD D = { D with left := D.left - 1 } := (goesD_left h.armed hl).1
  have hgood := h.good.write 1 1 k b
  rw [ai_write h hb hk hn] at hgood
  unfold aiN at hgood ⊢
  rw [hg] at hgood ⊢
  refine ⟨h.on, h.armed, ?_, h.stays, h.tab, h.sec, ?_, ?_, h.lasts, hgood.more (by omega)⟩
  · show D.left - 1 = _
    rw [h.left]; push_cast; omega
  · show D.seq + 1 = _
    rw [h.seq]; push_cast; omega
  · show D.waits ++ [⟨1, (k : Int) + ((0 : Nat) : Int), D.seq + 1, part b 0⟩] = _
    rw [h.waits, List.range'_1_concat, List.map_append, h.seq]
    congr 1
    simp [aw]
    omega
theorem ai_fenced {a b : ByteArray} {n : Int} {zs : List Int} {k : Nat} {D : DS} (h : AI a b n zs k D) (hb : b.size = 64) (p : Int) : writeR D 1 2 p b = (34, D) := by
  unfold writeR
  rw [h.on, mayE_in 1 (by decide) (by decide), goodB_size 1 hb (by decide) (by decide), h.tab, admE_other 1 2 (by decide)]
  simp
theorem ai_range {a b : ByteArray} {n : Int} {zs : List Int} {k : Nat} {D : DS} (h : AI a b n zs k D) (hb : b.size = 64) : writeR D 1 1 12 b = (30, D) := by
  have ht : thereB D.sectors 12 (b.size / 64 : Nat) = false := by
    rw [h.sec, hb]
    decide
  unfold writeR
  rw [h.on, mayE_in 1 (by decide) (by decide), goodB_size 1 hb (by decide) (by decide), h.tab, admE_same 1 (by decide), ht]
  simp

def arCut (D : DS) : DS := cutOn D D.stays
theorem ai_cut {a b : ByteArray} {n : Nat} {zs : List Int} {D : DS} (h : AI a b n zs n D) : barrierR D 1 1 = (14, arCut D) := by
  have hl : ¬ 0 < D.left := by rw [h.left]; omega
  have hg : goesB D = true := by unfold goesB; rw [h.armed, decide_eq_false hl]; rfl
  have hd : goesD D = arCut D := by unfold goesD arCut; rw [if_pos h.armed, if_neg hl]
  unfold barrierR
  rw [h.on, mayE_in 1 (by decide) (by decide), h.tab, admE_same 1 (by decide), hg, hd]
  simp

theorem cutL_range (b : ByteArray) (zs : List Int) : ∀ (m s : Nat) (L : Int → Option Wr), (∀ j, seqAt L j < 2 + s) → ∀ j, cutL zs s L ((List.range' s m).map (aw b)) j = if (s : Int) ≤ j ∧ j < s + m ∧ stayB zs j.toNat = true then some (aw b j.toNat) else L j
  | 0, s, L, hL, j => by
    rw [if_neg (by omega)]
    rfl
  | m + 1, s, L, hL, j => by
    rw [List.range'_succ, List.map_cons]
    simp only [cutL]
    cases hs : stayB zs s with
    | false =>
      simp only [Bool.false_eq_true, if_false]
      rw [cutL_range b zs m (s + 1) L (fun j => by have := hL j; push_cast; omega)]
      by_cases hj : j = s
      · subst hj
        rw [if_neg (by push_cast; omega), if_neg (by rw [Int.toNat_natCast, hs]; simp)]
      · by_cases hc : ((s + 1 : Nat) : Int) ≤ j ∧ j < ((s + 1 : Nat) : Int) + m ∧ stayB zs j.toNat = true
        · rw [if_pos hc, if_pos ⟨by push_cast at hc; omega, by push_cast at hc ⊢; omega, hc.2.2⟩]
        · rw [if_neg hc, if_neg (fun h => hc ⟨by push_cast; omega, by push_cast at h ⊢; omega, h.2.2⟩)]
    | true =>
      simp only [if_true]
      have hk : ∀ j, keepW L (aw b s) j = if j = s then some (aw b s) else L j := keepW_at L (aw b s) (by have := hL s; show seqAt L s < 2 + s; omega)
      rw [cutL_range b zs m (s + 1) _ (fun j => by
        have h := hL j
        unfold seqAt at h ⊢
        rw [hk]
        by_cases hj : j = s
        · rw [if_pos hj]; show (2 + (s : Int)) < _; push_cast; omega
        · rw [if_neg hj]; push_cast; omega)]
      rw [hk]
      by_cases hj : j = s
      · subst hj
        rw [if_neg (by push_cast; omega), if_pos rfl, if_pos ⟨by omega, by push_cast; omega, by rw [Int.toNat_natCast]; exact hs⟩, Int.toNat_natCast]
      · rw [if_neg hj]
        by_cases hc : ((s + 1 : Nat) : Int) ≤ j ∧ j < ((s + 1 : Nat) : Int) + m ∧ stayB zs j.toNat = true
        · rw [if_pos hc, if_pos ⟨by push_cast at hc; omega, by push_cast at hc ⊢; omega, hc.2.2⟩]
        · rw [if_neg hc, if_neg (fun h => hc ⟨by push_cast; omega, by push_cast at h ⊢; omega, h.2.2⟩)]

def arEnd (D : DS) : DS := restD (arCut D)
theorem arEnd_now {a b : ByteArray} {n : Nat} {zs : List Int} {D : DS} (h : AI a b n zs n D) (j : Int) :
    (arEnd D).now j = if 0 ≤ j ∧ j < n ∧ stayB zs j.toNat = true then some (part b 0) else if j = 11 then some (part a 0) else none := by
  show (cutL D.stays 0 D.lasts D.waits j).map (·.data) = _
  rw [h.stays, h.lasts, h.waits, cutL_range b zs n 0 _ (fun j => by
    unfold seqAt
    rw [ar3_lasts]
    by_cases hj : j = 11
    · simp [hj]
    · simp [hj])]
  by_cases hc : 0 ≤ j ∧ j < n ∧ stayB zs j.toNat = true
  · rw [if_pos hc, if_pos (by simpa using hc)]
    rfl
  · rw [if_neg hc, if_neg (by simpa using hc), ar3_lasts]
    by_cases hj : j = 11
    · simp [hj]
    · simp [hj]
theorem arEnd_good {a b : ByteArray} {n : Nat} {zs : List Int} {D : DS} (h : AI a b n zs n D) (hn : n ≤ 10) : Good 200 (arEnd D) := ((h.good.cutOn D.stays).restore).more (by omega)

def arWant (b : ByteArray) (n : Nat) (zs : List Int) (i : Nat) : ByteArray := if i < n ∧ stayB zs i = true then b else fillB 0 64
theorem arEnd_read {a b : ByteArray} {n : Nat} {zs : List Int} {D : DS} (h : AI a b n zs n D) (hb : b.size = 64) (hn : n ≤ 10) (i : Nat) (hi : i < 11) : readR (arEnd D) i 1 = (arWant b n zs i, 0) := by
  rw [read_one (arEnd_good h hn).zn rfl i (by omega) (by show (i : Int) < D.sectors; rw [h.sec]; omega) (by show D.sectors ≤ _; rw [h.sec]; decide)]
  congr 1
  unfold secAt arWant
  rw [arEnd_now h, Int.toNat_natCast]
  by_cases hc : i < n ∧ stayB zs i = true
  · rw [if_pos hc, if_pos ⟨by omega, by omega, hc.2⟩]
    exact part_whole hb
  · rw [if_neg hc, if_neg (fun k => hc ⟨by omega, k.2.2⟩), if_neg (by omega)]
    exact zero64_eq
theorem arEnd_read11 {a b : ByteArray} {n : Nat} {zs : List Int} {D : DS} (h : AI a b n zs n D) (ha : a.size = 64) (hn : n ≤ 10) : readR (arEnd D) 11 1 = (a, 0) := by
  rw [read_one (arEnd_good h hn).zn rfl 11 (by decide) (by show (11 : Int) < D.sectors; rw [h.sec]; decide) (by show D.sectors ≤ _; rw [h.sec]; decide)]
  congr 1
  unfold secAt
  rw [arEnd_now h, if_neg (by omega), if_pos rfl]
  exact part_whole ha

/-- The disk behind Arm(0) and Arm(-1). -/
def arOff (D : DS) : DS := armD (armD (arEnd D) 0 []) (-1) []
theorem arOff_good {a b : ByteArray} {n : Nat} {zs : List Int} {D : DS} (h : AI a b n zs n D) (hn : n ≤ 10) : Good 200 (armD (arEnd D) 0 []) ∧ Good 200 (arOff D) := by
  have g := (arEnd_good h hn).arm 0 (by decide) [] (by decide)
  exact ⟨g, g.arm (-1) (by decide) [] (by decide)⟩
def arW (D : DS) (a : ByteArray) : DS := wrN (arOff D) 1 0 a 1
theorem arW_ok {a b : ByteArray} {n : Nat} {zs : List Int} {D : DS} (h : AI a b n zs n D) (ha : a.size = 64) : writeR (arOff D) 1 1 0 a = (0, arW D a) := by
  rw [writeR_way 1 (show (arOff D).on = true from rfl) (goesD_off (show (arOff D).armed = false from rfl)).2 (by decide) (by decide) (by decide) h.tab ha (by decide) (by decide) (by decide) (by show (0 : Int) + ((1 : Nat) : Int) ≤ D.sectors; rw [h.sec]; decide), (goesD_off (show (arOff D).armed = false from rfl)).1]
  rfl
theorem arW_good {a b : ByteArray} {n : Nat} {zs : List Int} {D : DS} (h : AI a b n zs n D) (ha : a.size = 64) (hn : n ≤ 10) : Good 216 (arW D a) := by
  have := (arOff_good h hn).2.write 1 1 0 a
  rw [arW_ok h ha] at this
  exact this
theorem arB_ok {a b : ByteArray} {n : Nat} {zs : List Int} {D : DS} (h : AI a b n zs n D) : barrierR (arW D a) 1 1 = (0, settle (arW D a) 1) := by
  rw [barrierR_way (show (arW D a).on = true from rfl) (goesD_off (show (arW D a).armed = false from rfl)).2 (by decide) (by decide) (by decide) h.tab, (goesD_off (show (arW D a).armed = false from rfl)).1]

end Go.Proofs.Ytkgdpmeheakdcaa
