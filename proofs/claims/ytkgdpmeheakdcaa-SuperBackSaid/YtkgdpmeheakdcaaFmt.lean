/- The disk as Format leaves it: plain laws, no program. -/
import Derived.Test.YtkgdpmeheakdcaaWays
import Derived.Test.YtkgdpmeheakdcaaSGet
namespace Go.Proofs.Ytkgdpmeheakdcaa
open Go.RowKit
set_option linter.all false

/-- A disk that is on, not armed, whose waiting sectors are all of one node; and what all of them would make last is what is read. -/
structure Lv (nd : Int) (D : DS) : Prop where
  on : D.on = true
  armed : D.armed = false
  w0 : ∀ x ∈ D.waits, x.node = nd
  sw : ∀ x ∈ D.waits, x.seq ≤ D.seq
  sl : ∀ k y, D.lasts k = some y → y.seq ≤ D.seq
  q0 : 0 ≤ D.seq
  syn : ∀ k, (settleL nd D.lasts D.waits k).map (·.data) = D.now k

theorem keepW_seq {L : Int → Option Wr} {x : Wr} {q : Int} (hL : ∀ k y, L k = some y → y.seq ≤ q) (hx : x.seq ≤ q) : ∀ k y, keepW L x k = some y → y.seq ≤ q := by
  intro k y
  unfold keepW
  split
  · intro h
    by_cases hk : k = x.pl
    · simp only [hk, if_true, Option.some.injEq] at h
      rw [← h]
      exact hx
    · simp only [if_neg hk] at h
      exact hL k y h
  · exact hL k y
theorem settleL_seq (node : Int) (q : Int) : ∀ (l : List Wr) (L : Int → Option Wr), (∀ x ∈ l, x.seq ≤ q) → (∀ k y, L k = some y → y.seq ≤ q) → ∀ k y, settleL node L l k = some y → y.seq ≤ q
  | [], _, _, hL => hL
  | x :: l, L, hl, hL => settleL_seq node q l _ (fun y hy => hl y (List.mem_cons_of_mem _ hy)) (by
      split
      · exact keepW_seq hL (hl x (List.mem_cons_self ..))
      · exact hL)
theorem seqAt_le {L : Int → Option Wr} {q : Int} (h : ∀ k y, L k = some y → y.seq ≤ q) (q0 : 0 ≤ q) (k : Int) : seqAt L k ≤ q := by
  unfold seqAt
  cases hk : L k with
  | none => exact q0
  | some y => exact h k y hk

theorem Lv.wr1 {nd : Int} {D : DS} (h : Lv nd D) (x : Wr) (hx : x.node = nd) (hs : x.seq = D.seq + 1) : Lv nd (wr1 D x) := by
  have hsl := settleL_seq nd D.seq D.waits D.lasts h.sw h.sl
  refine ⟨h.on, h.armed, ?_, ?_, ?_, ?_, ?_⟩
  · intro y hy
    rcases List.mem_append.1 hy with h1 | h1
    · exact h.w0 y h1
    · rw [List.mem_singleton.1 h1]; exact hx
  · intro y hy
    show y.seq ≤ x.seq
    rcases List.mem_append.1 hy with h1 | h1
    · have := h.sw y h1; omega
    · rw [List.mem_singleton.1 h1]; exact Int.le_refl _
  · intro k y hy
    show y.seq ≤ x.seq
    have := h.sl k y hy
    omega
  · show 0 ≤ x.seq
    have := h.q0
    omega
  · intro k
    show (settleL nd D.lasts (D.waits ++ [x]) k).map (·.data) = if k = x.pl then some x.data else D.now k
    rw [settleL_snoc, if_pos hx, keepW_at _ _ (by have := seqAt_le hsl h.q0 x.pl; omega)]
    by_cases hk : k = x.pl
    · simp [hk]
    · simp only [if_neg hk]
      exact h.syn k
theorem Lv.wrN {nd : Int} {D : DS} (h : Lv nd D) (a : Int) (data : ByteArray) : ∀ k, Lv nd (wrN D nd a data k)
  | 0 => h
  | k + 1 => (Lv.wrN h a data k).wr1 _ rfl rfl
theorem Lv.settled {nd : Int} {D : DS} (h : Lv nd D) : (settle D nd).waits = [] := by
  show D.waits.filter (fun x => !(x.node == nd)) = []
  rw [List.filter_eq_nil_iff]
  intro x hx
  rw [h.w0 x hx]
  simp
theorem Lv.settle {nd : Int} {D : DS} (h : Lv nd D) : Lv nd (settle D nd) := by
  have hw := h.settled
  refine ⟨h.on, h.armed, ?_, ?_, ?_, h.q0, ?_⟩
  · rw [hw]; intro x hx; cases hx
  · rw [hw]; intro x hx; cases hx
  · exact settleL_seq nd D.seq D.waits D.lasts h.sw h.sl
  · rw [hw]
    exact h.syn

theorem wrN_table (D : DS) (node a : Int) (data : ByteArray) : ∀ k, (wrN D node a data k).table = D.table
  | 0 => rfl
  | k + 1 => wrN_table D node a data k
theorem wrN_words (D : DS) (node a : Int) (data : ByteArray) : ∀ k, (wrN D node a data k).words = D.words
  | 0 => rfl
  | k + 1 => wrN_words D node a data k
theorem wrN_last (D : DS) (node a : Int) (data : ByteArray) : ∀ k, (wrN D node a data k).last = D.last
  | 0 => rfl
  | k + 1 => wrN_last D node a data k
theorem wrN_sectors (D : DS) (node a : Int) (data : ByteArray) : ∀ k, (wrN D node a data k).sectors = D.sectors
  | 0 => rfl
  | k + 1 => wrN_sectors D node a data k
theorem wrN_lasts (D : DS) (node a : Int) (data : ByteArray) : ∀ k, (wrN D node a data k).lasts = D.lasts
  | 0 => rfl
  | k + 1 => wrN_lasts D node a data k

/-! ### The states of Format on a new disk -/
def zb (q : Nat) : ByteArray := str (zerosL (64 * q))
theorem zb_size (q : Nat) : (zb q).size = 64 * q := by unfold zb; rw [str_size, zerosL_length]
theorem zb_part (q i : Nat) (h : i < q) : (zb q).extract (64 * i) (64 * i + 64) = zero64 := by
  unfold zb zero64
  rw [repeatL_zero]
  apply ByteArray.ext
  apply Array.ext'
  rw [ByteArray.data_extract, Array.toList_extract, List.extract_eq_drop_take]
  show ((zerosL (64 * q)).drop (64 * i)).take (64 * i + 64 - 64 * i) = zerosL 64
  unfold zerosL
  rw [List.drop_replicate, List.take_replicate]
  congr 1
  omega

def fm1 (n : Int) : DS := { newDS n with table := (List.replicate 17 (0 : Int)).set 0 1, last := 1 }
def fmZ (n : Int) : Nat → DS
  | 0 => fm1 n
  | k + 1 => wrN (fmZ n k) 0 (16 * (k : Int)) (zb (min 16 (37 - 16 * k))) (min 16 (37 - 16 * k))
/-- Behind a barrier, behind a fence of node 0. -/
def finD (D : DS) : DS := settle D 0
def fncD (D : DS) : DS := { settle D 0 with table := D.table.set 0 0 }
theorem fin_now (D : DS) : (finD D).now = D.now := rfl
theorem fin_table (D : DS) : (finD D).table = D.table := rfl
theorem fin_words (D : DS) : (finD D).words = D.words := rfl
theorem fin_last (D : DS) : (finD D).last = D.last := rfl
theorem fin_sectors (D : DS) : (finD D).sectors = D.sectors := rfl
theorem fnc_now (D : DS) : (fncD D).now = D.now := rfl
theorem fnc_table (D : DS) : (fncD D).table = D.table.set 0 0 := rfl
theorem fnc_words (D : DS) : (fncD D).words = D.words := rfl
theorem fnc_last (D : DS) : (fncD D).last = D.last := rfl
theorem fnc_sectors (D : DS) : (fncD D).sectors = D.sectors := rfl
theorem Lv.fin {D : DS} (h : Lv 0 D) : Lv 0 (finD D) := h.settle
theorem Lv.fnc {D : DS} (h : Lv 0 D) : Lv 0 (fncD D) := { h.settle with }
theorem Lv.fnc_waits {D : DS} (h : Lv 0 D) : (fncD D).waits = [] := h.settled
theorem Good.fin {N : Nat} {D : DS} (h : Good N D) : Good N (finD D) := h.settle 0
theorem Good.fnc {N : Nat} {D : DS} (h : Good N D) : Good N (fncD D) := { h.settle 0 with tl := (List.length_set ..).trans h.tl }
theorem barrier_lv {D : DS} (h : Lv 0 D) (ht : D.table.getD 0 0 = 1) : barrierR D 0 1 = (0, finD D) := by
  rw [barrierR_way (node := 0) (epoch := 1) h.on (goesD_off h.armed).2 (by decide) (by decide) (by decide) ht, (goesD_off h.armed).1]
  rfl
theorem fence_lv {D : DS} (h : Lv 0 D) : fenceR D 0 = (0, fncD D) := by
  unfold fenceR
  rw [h.on, (goesD_off h.armed).2, (goesD_off h.armed).1]
  rfl
theorem write_lv {D : DS} (h : Lv 0 D) (ht : D.table.getD 0 0 = 1) (a : Int) (data : ByteArray) (q : Nat) (hs : data.size = 64 * q) (q1 : 1 ≤ q) (q2 : q ≤ 16) (ha : 0 ≤ a) (hb : a + q ≤ D.sectors) : writeR D 0 1 a data = (0, wrN D 0 a data q) := by
  rw [writeR_way (node := 0) (epoch := 1) q h.on (goesD_off h.armed).2 (by decide) (by decide) (by decide) ht hs q1 q2 ha hb, (goesD_off h.armed).1]

def fm5 (n : Int) : DS := finD (fmZ n 3)
def fm6 (n : Int) (sb : ByteArray) : DS := wrN (fm5 n) 0 0 sb 1
def fm7 (n : Int) (sb : ByteArray) : DS := finD (fm6 n sb)
def fm8 (n : Int) (sb : ByteArray) : DS := fncD (fm7 n sb)

theorem lv_new (n : Int) : Lv 0 (newDS n) :=
  ⟨rfl, rfl, (fun _ h => by cases h), (fun _ h => by cases h), (fun _ _ h => by cases h), Int.le_refl 0, fun _ => rfl⟩
theorem fm1_lv (n : Int) : Lv 0 (fm1 n) := { lv_new n with }
theorem fmZ_lv (n : Int) : ∀ k, Lv 0 (fmZ n k)
  | 0 => fm1_lv n
  | k + 1 => (fmZ_lv n k).wrN _ _ _
theorem fm5_lv (n : Int) : Lv 0 (fm5 n) := (fmZ_lv n 3).fin
theorem fm6_lv (n : Int) (sb : ByteArray) : Lv 0 (fm6 n sb) := (fm5_lv n).wrN _ _ _
theorem fm7_lv (n : Int) (sb : ByteArray) : Lv 0 (fm7 n sb) := (fm6_lv n sb).fin
theorem fm8_lv (n : Int) (sb : ByteArray) : Lv 0 (fm8 n sb) := (fm7_lv n sb).fnc
theorem fmZ_table (n : Int) : ∀ k, (fmZ n k).table = (fm1 n).table
  | 0 => rfl
  | k + 1 => (wrN_table ..).trans (fmZ_table n k)
theorem fmZ_words (n : Int) : ∀ k, (fmZ n k).words = (fm1 n).words
  | 0 => rfl
  | k + 1 => (wrN_words ..).trans (fmZ_words n k)
theorem fmZ_last (n : Int) : ∀ k, (fmZ n k).last = 1
  | 0 => rfl
  | k + 1 => (wrN_last ..).trans (fmZ_last n k)
theorem fmZ_sectors (n : Int) : ∀ k, (fmZ n k).sectors = n
  | 0 => rfl
  | k + 1 => (wrN_sectors ..).trans (fmZ_sectors n k)
theorem fm5_table (n : Int) : (fm5 n).table = (fm1 n).table := by rw [fm5, fin_table, fmZ_table]
theorem fm5_sectors (n : Int) : (fm5 n).sectors = n := by rw [fm5, fin_sectors, fmZ_sectors]
theorem fm6_table (n : Int) (sb : ByteArray) : (fm6 n sb).table = (fm1 n).table := by rw [fm6, wrN_table, fm5_table]
theorem fm8_table (n : Int) (sb : ByteArray) : (fm8 n sb).table = List.replicate 17 0 := by
  rw [fm8, fnc_table, fm7, fin_table, fm6_table]
  rfl
theorem fm8_words (n : Int) (sb : ByteArray) : (fm8 n sb).words = List.replicate 17 0 := by
  rw [fm8, fnc_words, fm7, fin_words, fm6, wrN_words, fm5, fin_words, fmZ_words]
  rfl
theorem fm8_last (n : Int) (sb : ByteArray) : (fm8 n sb).last = 1 := by rw [fm8, fnc_last, fm7, fin_last, fm6, wrN_last, fm5, fin_last, fmZ_last]
theorem fm8_sectors (n : Int) (sb : ByteArray) : (fm8 n sb).sectors = n := by rw [fm8, fnc_sectors, fm7, fin_sectors, fm6, wrN_sectors, fm5_sectors]
theorem fm8_waits (n : Int) (sb : ByteArray) : (fm8 n sb).waits = [] := (fm7_lv n sb).fnc_waits

/-- Behind k rounds of zeros. -/
theorem fmZ_now (n : Int) : ∀ k, k ≤ 3 → ∀ j, (fmZ n k).now j = if 0 ≤ j ∧ j < 16 * (k : Int) ∧ j < 37 then some zero64 else none
  | 0, _, j => by
    show none = _
    rw [if_neg (by omega)]
  | k + 1, hk, j => by
    obtain ⟨h1, h2⟩ := now_wrN (fmZ n k) 0 (16 * (k : Int)) (zb (min 16 (37 - 16 * k))) (min 16 (37 - 16 * k))
    have hd : (fmZ n (k + 1)).now j = (wrN (fmZ n k) 0 (16 * (k : Int)) (zb (min 16 (37 - 16 * k))) (min 16 (37 - 16 * k))).now j := rfl
    rw [hd]
    by_cases hin : 16 * (k : Int) ≤ j ∧ j < 16 * (k : Int) + ((min 16 (37 - 16 * k) : Nat) : Int)
    · obtain ⟨i, hi⟩ : ∃ i : Nat, j = 16 * (k : Int) + i := ⟨(j - 16 * (k : Int)).toNat, by omega⟩
      have hil : i < min 16 (37 - 16 * k) := by omega
      rw [hi, h1 i hil, zb_part _ i hil, if_pos]
      omega
    · rw [h2 j (by omega), fmZ_now n k (by omega) j]
      by_cases hc : 0 ≤ j ∧ j < 16 * (k : Int) ∧ j < 37
      · rw [if_pos hc, if_pos]
        omega
      · rw [if_neg hc, if_neg]
        omega
theorem fm8_now (n : Int) (sb : ByteArray) (hs : sb.size = 64) (j : Int) : (fm8 n sb).now j = if j = 0 then some sb else if 0 ≤ j ∧ j < 37 then some zero64 else none := by
  obtain ⟨h1, h2⟩ := now_wrN (fm5 n) 0 0 sb 1
  rw [fm8, fnc_now, fm7, fin_now, fm6]
  by_cases hj : j = 0
  · have h3 := h1 0 (by decide)
    rw [hj, if_pos rfl]
    have e : sb.extract (64 * 0) (64 * 0 + 64) = sb := by
      have hl : sb.data.toList.length = 64 := hs
      apply ByteArray.ext
      apply Array.ext'
      rw [ByteArray.data_extract, Array.toList_extract, List.extract_eq_drop_take]
      exact List.take_of_length_le (by simp; omega)
    rw [e] at h3
    exact h3
  · rw [if_neg hj, h2 j (by omega)]
    rw [fm5, fin_now, fmZ_now n 3 (by omega) j]
    by_cases hc : 0 ≤ j ∧ j < 37
    · rw [if_pos hc, if_pos (by omega)]
    · rw [if_neg hc, if_neg (by omega)]

theorem Good.fm1 (n : Int) (h1 : 1 ≤ n) (h2 : n ≤ 20000) : Good 0 (fm1 n) := (good_new n h1 h2).admitted 0 1
theorem good_fmZ (n : Int) (h1 : 1 ≤ n) (h2 : n ≤ 20000) : ∀ k, k ≤ 3 → Good (16 * k) (fmZ n k)
  | 0, _ => Good.fm1 n h1 h2
  | k + 1, hk => ((good_fmZ n h1 h2 k (by omega)).wrN 0 _ _ _ (by rw [zb_size]; exact Nat.le_refl _)).more (by omega)
theorem good_fm5 (n : Int) (h1 : 1 ≤ n) (h2 : n ≤ 20000) : Good 48 (fm5 n) := (good_fmZ n h1 h2 3 (by omega)).fin
theorem good_fm6 (n : Int) (h1 : 1 ≤ n) (h2 : n ≤ 20000) (sb : ByteArray) (hs : sb.size = 64) : Good 49 (fm6 n sb) := (good_fm5 n h1 h2).wrN 0 0 sb 1 (by omega)
theorem good_fm7 (n : Int) (h1 : 1 ≤ n) (h2 : n ≤ 20000) (sb : ByteArray) (hs : sb.size = 64) : Good 49 (fm7 n sb) := (good_fm6 n h1 h2 sb hs).fin
theorem good_fm8 (n : Int) (h1 : 1 ≤ n) (h2 : n ≤ 20000) (sb : ByteArray) (hs : sb.size = 64) : Good 49 (fm8 n sb) := (good_fm7 n h1 h2 sb hs).fnc

/-! ### The answers of the calls in Format -/
theorem fence_new (n : Int) (k : Nat) (hk : k ≤ 16) : fenceR (newDS n) k = (0, newDS n) := by
  unfold fenceR
  rw [show (newDS n).on = true from rfl, mayE_in k (by omega) (by omega), (goesD_off (show (newDS n).armed = false from rfl)).2, (goesD_off (show (newDS n).armed = false from rfl)).1]
  have ht : (newDS n).table.set k 0 = (newDS n).table := List.set_replicate_self
  rw [Int.toNat_natCast, ht]
  rfl
theorem put_new (n : Int) (k : Nat) (hk : k ≤ 16) : putR (newDS n) k 0 = (0, newDS n) := by
  unfold putR
  rw [show (newDS n).on = true from rfl, mayE_in k (by omega) (by omega), (goesD_off (show (newDS n).armed = false from rfl)).2, (goesD_off (show (newDS n).armed = false from rfl)).1]
  have ht : (newDS n).words.set k 0 = (newDS n).words := List.set_replicate_self
  rw [Int.toNat_natCast, ht]
  rfl
theorem admit_new (n : Int) : admitR (newDS n) 0 1 = (0, fm1 n) := by kernel_rfl
theorem fmZ_succ (n : Int) (k : Nat) : fmZ n (k + 1) = wrN (fmZ n k) 0 (16 * (k : Int)) (zb (min 16 (37 - 16 * k))) (min 16 (37 - 16 * k)) := rfl
theorem fmZ_tab0 (n : Int) (k : Nat) : (fmZ n k).table.getD 0 0 = 1 := by rw [fmZ_table]; rfl
theorem write_fmZ (n : Int) (hn : 37 ≤ n) (k : Nat) (hk : k < 3) : writeR (fmZ n k) 0 1 (16 * (k : Int)) (zb (min 16 (37 - 16 * k))) = (0, fmZ n (k + 1)) := by
  rw [write_lv (fmZ_lv n k) (fmZ_tab0 n k) _ _ (min 16 (37 - 16 * k)) (zb_size _) (by omega) (by omega) (by omega) (by rw [fmZ_sectors]; omega), fmZ_succ]
theorem barrier_fmZ (n : Int) : barrierR (fmZ n 3) 0 1 = (0, fm5 n) := barrier_lv (fmZ_lv n 3) (fmZ_tab0 n 3)
theorem write_fm5 (n : Int) (hn : 37 ≤ n) (sb : ByteArray) (hs : sb.size = 64) : writeR (fm5 n) 0 1 0 sb = (0, fm6 n sb) :=
  write_lv (fm5_lv n) (by rw [fm5_table]; rfl) 0 sb 1 hs (by decide) (by decide) (by decide) (by rw [fm5_sectors]; omega)
theorem barrier_fm6 (n : Int) (sb : ByteArray) : barrierR (fm6 n sb) 0 1 = (0, fm7 n sb) := barrier_lv (fm6_lv n sb) (by rw [fm6_table]; rfl)
theorem fence_fm7 (n : Int) (sb : ByteArray) : fenceR (fm7 n sb) 0 = (0, fm8 n sb) := fence_lv (fm7_lv n sb)
theorem read_fm8 (n : Int) (hn : 37 ≤ n) (sb : ByteArray) (hs : sb.size = 64) : readR (fm8 n sb) 0 1 = (sb, 0) := by
  rw [readR_on (fm8_lv n sb).on, if_pos (by rw [fm8_sectors]; omega)]
  congr 1
  show (⟨(readL (fm8 n sb) 0 1).toArray⟩ : ByteArray) = sb
  simp only [readL, List.nil_append, secAt]
  rw [fm8_now n sb hs, if_pos (by decide)]
  simp

end Go.Proofs.Ytkgdpmeheakdcaa
