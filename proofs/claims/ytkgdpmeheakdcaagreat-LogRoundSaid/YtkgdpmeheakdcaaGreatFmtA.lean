import Derived.Test.YtkgdpmeheakdcaaGreatWays
import Derived.Test.YtkgdpmeheakdcaaGreatSGet
/- The disk as Format leaves it: plain laws, no program. -/
namespace Go.Proofs.YtkgdpmeheakdcaaGreat
open Go.RowKit
set_option linter.all false

/-- A disk that is on, not armed, whose waiting sectors are all of one node; and what all of them would make last is what is read. -/
structure Lv (nd : Int) (D : DS) : Prop where
  on : D.on = true
  armed : D.armed = false
  w0 : ∀ x ∈ D.waits, x.node = nd
  sw : ∀ x ∈ D.waits, x.seq ≤ D.seq
  sl : ∀ k y, D.lasts k = some y → y.seq ≤ D.seq
  q0 : 0 ≤ D.seq
  syn : ∀ k, (settleL nd D.lasts D.waits k).map (·.data) = D.now k

theorem keepW_seq {L : Int → Option Wr} {x : Wr} {q : Int} (hL : ∀ k y, L k = some y → y.seq ≤ q) (hx : x.seq ≤ q) : ∀ k y, keepW L x k = some y → y.seq ≤ q := by
  intro k y
  unfold keepW
  split
  · intro h
    by_cases hk : k = x.pl
    · simp only [hk, if_true, Option.some.injEq] at h
      rw [← h]
      exact hx
    · simp only [if_neg hk] at h
      exact hL k y h
  · exact hL k y
theorem settleL_seq (node : Int) (q : Int) : ∀ (l : List Wr) (L : Int → Option Wr), (∀ x ∈ l, x.seq ≤ q) → (∀ k y, L k = some y → y.seq ≤ q) → ∀ k y, settleL node L l k = some y → y.seq ≤ q
  | [], _, _, hL => hL
  | x :: l, L, hl, hL => settleL_seq node q l _ (fun y hy => hl y (List.mem_cons_of_mem _ hy)) (by
      split
      · exact keepW_seq hL (hl x (List.mem_cons_self ..))
      · exact hL)
theorem seqAt_le {L : Int → Option Wr} {q : Int} (h : ∀ k y, L k = some y → y.seq ≤ q) (q0 : 0 ≤ q) (k : Int) : seqAt L k ≤ q := by
  unfold seqAt
  cases hk : L k with
  | none => exact q0
  | some y => exact h k y hk

theorem Lv.wr1 {nd : Int} {D : DS} (h : Lv nd D) (x : Wr) (hx : x.node = nd) (hs : x.seq = D.seq + 1) : Lv nd (wr1 D x) := by
  have hsl := settleL_seq nd D.seq D.waits D.lasts h.sw h.sl
  refine ⟨h.on, h.armed, ?_, ?_, ?_, ?_, ?_⟩
  · intro y hy
    rcases List.mem_append.1 hy with h1 | h1
    · exact h.w0 y h1
    · rw [List.mem_singleton.1 h1]; exact hx
  · intro y hy
    show y.seq ≤ x.seq
    rcases List.mem_append.1 hy with h1 | h1
    · have := h.sw y h1; omega
    · rw [List.mem_singleton.1 h1]; exact Int.le_refl _
  · intro k y hy
    show y.seq ≤ x.seq
    have := h.sl k y hy
    omega
  · show 0 ≤ x.seq
    have := h.q0
    omega
  · intro k
    show (settleL nd D.lasts (D.waits ++ [x]) k).map (·.data) = if k = x.pl then some x.data else D.now k
    rw [settleL_snoc, if_pos hx, keepW_at _ _ (by have := seqAt_le hsl h.q0 x.pl; omega)]
    by_cases hk : k = x.pl
    · simp [hk]
    · simp only [if_neg hk]
      exact h.syn k
theorem Lv.wrN {nd : Int} {D : DS} (h : Lv nd D) (a : Int) (data : ByteArray) : ∀ k, Lv nd (wrN D nd a data k)
  | 0 => h
  | k + 1 => (Lv.wrN h a data k).wr1 _ rfl rfl
theorem Lv.settled {nd : Int} {D : DS} (h : Lv nd D) : (settle D nd).waits = [] := by
  show D.waits.filter (fun x => !(x.node == nd)) = []
  rw [List.filter_eq_nil_iff]
  intro x hx
  rw [h.w0 x hx]
  simp
theorem Lv.settle {nd : Int} {D : DS} (h : Lv nd D) : Lv nd (settle D nd) := by
  have hw := h.settled
  refine ⟨h.on, h.armed, ?_, ?_, ?_, h.q0, ?_⟩
  · rw [hw]; intro x hx; cases hx
  · rw [hw]; intro x hx; cases hx
  · exact settleL_seq nd D.seq D.waits D.lasts h.sw h.sl
  · rw [hw]
    exact h.syn

theorem wrN_table (D : DS) (node a : Int) (data : ByteArray) : ∀ k, (wrN D node a data k).table = D.table
  | 0 => rfl
  | k + 1 => wrN_table D node a data k
theorem wrN_words (D : DS) (node a : Int) (data : ByteArray) : ∀ k, (wrN D node a data k).words = D.words
  | 0 => rfl
  | k + 1 => wrN_words D node a data k
theorem wrN_last (D : DS) (node a : Int) (data : ByteArray) : ∀ k, (wrN D node a data k).last = D.last
  | 0 => rfl
  | k + 1 => wrN_last D node a data k
theorem wrN_sectors (D : DS) (node a : Int) (data : ByteArray) : ∀ k, (wrN D node a data k).sectors = D.sectors
  | 0 => rfl
  | k + 1 => wrN_sectors D node a data k
theorem wrN_lasts (D : DS) (node a : Int) (data : ByteArray) : ∀ k, (wrN D node a data k).lasts = D.lasts
  | 0 => rfl
  | k + 1 => wrN_lasts D node a data k

/-! ### The states of Format on a new disk -/
def zb (q : Nat) : ByteArray := str (zerosL (64 * q))
theorem zb_size (q : Nat) : (zb q).size = 64 * q := by unfold zb; rw [str_size, zerosL_length]
theorem zb_part (q i : Nat) (h : i < q) : (zb q).extract (64 * i) (64 * i + 64) = zero64 := by
  unfold zb zero64
  rw [repeatL_zero]
  apply ByteArray.ext
  apply Array.ext'
  rw [ByteArray.data_extract, Array.toList_extract, List.extract_eq_drop_take]
  show ((zerosL (64 * q)).drop (64 * i)).take (64 * i + 64 - 64 * i) = zerosL 64
  unfold zerosL
  rw [List.drop_replicate, List.take_replicate]
  congr 1
  omega

def fm1 (n : Int) : DS := { newDS n with table := (List.replicate 17 (0 : Int)).set 0 1, last := 1 }
def fmZ (n : Int) : Nat → DS
  | 0 => fm1 n
  | k + 1 => wrN (fmZ n k) 0 (16 * (k : Int)) (zb (min 16 (37 - 16 * k))) (min 16 (37 - 16 * k))
/-- Behind a barrier, behind a fence of node 0. -/
def finD (D : DS) : DS := settle D 0
def fncD (D : DS) : DS := { settle D 0 with table := D.table.set 0 0 }
theorem fin_now (D : DS) : (finD D).now = D.now := rfl
theorem fin_table (D : DS) : (finD D).table = D.table := rfl
theorem fin_words (D : DS) : (finD D).words = D.words := rfl
theorem fin_last (D : DS) : (finD D).last = D.last := rfl
theorem fin_sectors (D : DS) : (finD D).sectors = D.sectors := rfl
theorem fnc_now (D : DS) : (fncD D).now = D.now := rfl
theorem fnc_table (D : DS) : (fncD D).table = D.table.set 0 0 := rfl
theorem fnc_words (D : DS) : (fncD D).words = D.words := rfl
theorem fnc_last (D : DS) : (fncD D).last = D.last := rfl
theorem fnc_sectors (D : DS) : (fncD D).sectors = D.sectors := rfl
theorem Lv.fin {D : DS} (h : Lv 0 D) : Lv 0 (finD D) := h.settle
theorem Lv.fnc {D : DS} (h : Lv 0 D) : Lv 0 (fncD D) := { h.settle with }
theorem Lv.fnc_waits {D : DS} (h : Lv 0 D) : (fncD D).waits = [] := h.settled
theorem Good.fin {N : Nat} {D : DS} (h : Good N D) : Good N (finD D) := h.settle 0
theorem Good.fnc {N : Nat} {D : DS} (h : Good N D) : Good N (fncD D) := { h.settle 0 with tl := (List.length_set ..).trans h.tl }
theorem barrier_lv {D : DS} (h : Lv 0 D) (ht : D.table.getD 0 0 = 1) : barrierR D 0 1 = (0, finD D) := by
  rw [barrierR_way (node := 0) (epoch := 1) h.on (goesD_off h.armed).2 (by decide) (by decide) (by decide) ht, (goesD_off h.armed).1]
  rfl
theorem fence_lv {D : DS} (h : Lv 0 D) : fenceR D 0 = (0, fncD D) := by
  unfold fenceR
  rw [h.on, (goesD_off h.armed).2, (goesD_off h.armed).1]
  rfl
theorem write_lv {D : DS} (h : Lv 0 D) (ht : D.table.getD 0 0 = 1) (a : Int) (data : ByteArray) (q : Nat) (hs : data.size = 64 * q) (q1 : 1 ≤ q) (q2 : q ≤ 16) (ha : 0 ≤ a) (hb : a + q ≤ D.sectors) : writeR D 0 1 a data = (0, wrN D 0 a data q) := by
  rw [writeR_way (node := 0) (epoch := 1) q h.on (goesD_off h.armed).2 (by decide) (by decide) (by decide) ht hs q1 q2 ha hb, (goesD_off h.armed).1]

def fm5 (n : Int) : DS := finD (fmZ n 3)
def fm6 (n : Int) (sb : ByteArray) : DS := wrN (fm5 n) 0 0 sb 1
def fm7 (n : Int) (sb : ByteArray) : DS := finD (fm6 n sb)
def fm8 (n : Int) (sb : ByteArray) : DS := fncD (fm7 n sb)

theorem lv_new (n : Int) : Lv 0 (newDS n) :=
  ⟨rfl, rfl, (fun _ h => by cases h), (fun _ h => by cases h), (fun _ _ h => by cases h), Int.le_refl 0, fun _ => rfl⟩
theorem fm1_lv (n : Int) : Lv 0 (fm1 n) := { lv_new n with }
theorem fmZ_lv (n : Int) : ∀ k, Lv 0 (fmZ n k)
  | 0 => fm1_lv n
  | k + 1 => (fmZ_lv n k).wrN _ _ _
theorem fm5_lv (n : Int) : Lv 0 (fm5 n) := (fmZ_lv n 3).fin
theorem fm6_lv (n : Int) (sb : ByteArray) : Lv 0 (fm6 n sb) := (fm5_lv n).wrN _ _ _
theorem fm7_lv (n : Int) (sb : ByteArray) : Lv 0 (fm7 n sb) := (fm6_lv n sb).fin
theorem fm8_lv (n : Int) (sb : ByteArray) : Lv 0 (fm8 n sb) := (fm7_lv n sb).fnc
theorem fmZ_table (n : Int) : ∀ k, (fmZ n k).table = (fm1 n).table
  | 0 => rfl
  | k + 1 => (wrN_table ..).trans (fmZ_table n k)
theorem fmZ_words (n : Int) : ∀ k, (fmZ n k).words = (fm1 n).words
  | 0 => rfl
  | k + 1 => (wrN_words ..).trans (fmZ_words n k)
theorem fmZ_last (n : Int) : ∀ k, (fmZ n k).last = 1
  | 0 => rfl
  | k + 1 => (wrN_last ..).trans (fmZ_last n k)
theorem fmZ_sectors (n : Int) : ∀ k, (fmZ n k).sectors = n
  | 0 => rfl
  | k + 1 => (wrN_sectors ..).trans (fmZ_sectors n k)
theorem fm5_table (n : Int) : (fm5 n).table = (fm1 n).table := by rw [fm5, fin_table, fmZ_table]
theorem fm5_sectors (n : Int) : (fm5 n).sectors = n := by rw [fm5, fin_sectors, fmZ_sectors]
theorem fm6_table (n : Int) (sb : ByteArray) : (fm6 n sb).table = (fm1 n).table := by rw [fm6, wrN_table, fm5_table]
theorem fm8_table (n : Int) (sb : ByteArray) : (fm8 n sb).table = List.replicate 17 0 := by
  rw [fm8, fnc_table, fm7, fin_table, fm6_table]
  rfl
theorem fm8_words (n : Int) (sb : ByteArray) : (fm8 n sb).words = List.replicate 17 0 := by
  rw [fm8, fnc_words, fm7, fin_words, fm6, wrN_words, fm5, fin_words, fmZ_words]
  rfl
theorem fm8_last (n : Int) (sb : ByteArray) : (fm8 n sb).last = 1 := by rw [fm8, fnc_last, fm7, fin_last, fm6, wrN_last, fm5, fin_last, fmZ_last]
theorem fm8_sectors (n : Int) (sb : ByteArray) : (fm8 n sb).sectors = n := by rw [fm8, fnc_sectors, fm7, fin_sectors, fm6, wrN_sectors, fm5_sectors]
theorem fm8_waits (n : Int) (sb : ByteArray) : (fm8 n sb).waits = [] := (fm7_lv n sb).fnc_waits

/-- Behind k rounds of zeros. -/
theorem fmZ_now (n : Int) : ∀ k, k ≤ 3 → ∀ j, (fmZ n k).now j = if 0 ≤ j ∧ j < 16 * (k : Int) ∧ j < 37 then some zero64 else none
  | 0, _, j => by
    show none = _
    rw [if_neg (by omega)]
  | k + 1, hk, j => by
    obtain ⟨h1, h2⟩ := now_wrN (fmZ n k) 0 (16 * (k : Int)) (zb (min 16 (37 - 16 * k))) (min 16 (37 - 16 * k))
    have hd : (fmZ n (k + 1)).now j = (wrN (fmZ n k) 0 (16 * (k : Int)) (zb (min 16 (37 - 16 * k))) (min 16 (37 - 16 * k))).now j := rfl
    rw [hd]
    by_cases hin : 16 * (k : Int) ≤ j ∧ j < 16 * (k : Int) + ((min 16 (37 - 16 * k) : Nat) : Int)
    · obtain ⟨i, hi⟩ : ∃ i : Nat, j = 16 * (k : Int) + i := ⟨(j - 16 * (k : Int)).toNat, by omega⟩
      have hil : i < min 16 (37 - 16 * k) := by omega
      rw [hi, h1 i hil, zb_part _ i hil, if_pos]
      omega
    · rw [h2 j (by omega), fmZ_now n k (by omega) j]
      by_cases hc : 0 ≤ j ∧ j < 16 * (k : Int) ∧ j < 37
      · rw [if_pos hc, if_pos]
        omega
      · rw [if_neg hc, if_neg]
        omega
theorem fm8_now (n : Int) (sb : ByteArray) (hs : sb.size = 64) (j : Int) : (fm8 n sb).now j = if j = 0 then some sb else if 0 ≤ j ∧ j < 37 then some zero64 else none := by
  obtain ⟨h1, h2⟩ := now_wrN (fm5 n) 0 0 sb 1
  rw [fm8, fnc_now, fm7, fin_now, fm6]
  by_cases hj : j = 0
  · have h3 := h1 0 (by decide)
    rw [hj, if_pos rfl]
    have e : sb.extract (64 * 0) (64 * 0 + 64) = sb := by
      have hl : sb.data.toList.length = 64 := hs
      apply ByteArray.ext
      apply Array.ext'
      rw [ByteArray.data_extract, Array.toList_extract, List.extract_eq_drop_take]
      exact List.take_of_length_le (by simp; omega)
    rw [e] at h3
    exact h3
  · rw [if_neg hj, h2 j (by omega)]
    rw [fm5, fin_now, fmZ_now n 3 (by omega) j]
    by_cases hc : 0 ≤ j ∧ j < 37
    · rw [if_pos hc, if_pos (by omega)]
    · rw [if_neg hc, if_neg (by omega)]

theorem Good.fm1 (n : Int) (h1 : 1 ≤ n) (h2 : n ≤ 20000) : Good 0 (fm1 n) := (good_new n h1 h2).admitted 0 1
theorem good_fmZ (n : Int) (h1 : 1 ≤ n) (h2 : n ≤ 20000) : ∀ k, k ≤ 3 → Good (16 * k) (fmZ n k)
  | 0, _ => Good.fm1 n h1 h2
  | k + 1, hk => ((good_fmZ n h1 h2 k (by omega)).wrN 0 _ _ _ (by rw [zb_size]; exact Nat.le_refl _)).more (by omega)
theorem good_fm5 (n : Int) (h1 : 1 ≤ n) (h2 : n ≤ 20000) : Good 48 (fm5 n) := (good_fmZ n h1 h2 3 (by omega)).fin
theorem good_fm6 (n : Int) (h1 : 1 ≤ n) (h2 : n ≤ 20000) (sb : ByteArray) (hs : sb.size = 64) : Good 49 (fm6 n sb) := (good_fm5 n h1 h2).wrN 0 0 sb 1 (by omega)
theorem good_fm7 (n : Int) (h1 : 1 ≤ n) (h2 : n ≤ 20000) (sb : ByteArray) (hs : sb.size = 64) : Good 49 (fm7 n sb) := (good_fm6 n h1 h2 sb hs).fin
theorem good_fm8 (n : Int) (h1 : 1 ≤ n) (h2 : n ≤ 20000) (sb : ByteArray) (hs : sb.size = 64) : Good 49 (fm8 n sb) := (good_fm7 n h1 h2 sb hs).fnc

/-! ### The answers of the calls in Format -/
theorem fence_new (n : Int) (k : Nat) (hk : k ≤ 16) : fenceR (newDS n) k = (0, newDS n) := by
  unfold fenceR
  rw [show (newDS n).on = true from rfl, mayE_in k (by omega) (by omega), (goesD_off (show (newDS n).armed = false from rfl)).2, (goesD_off (show (newDS n).armed = false from rfl)).1]
  have ht : (newDS n).table.set k 0 = (newDS n).table := List.set_replicate_self
  rw [Int.toNat_natCast, ht]
  rfl
theorem put_new (n : Int) (k : Nat) (hk : k ≤ 16) : putR (newDS n) k 0 = (0, newDS n) := by
  unfold putR
  rw [show (newDS n).on = true from rfl, mayE_in k (by omega) (by omega), (goesD_off (show (newDS n).armed = false from rfl)).2, (goesD_off (show (newDS n).armed = false from rfl)).1]
  have ht : (newDS n).words.set k 0 = (newDS n).words := List.set_replicate_self
  rw [Int.toNat_natCast, ht]
  rfl
theorem admit_new (n : Int) : admitR (newDS n) 0 1 = (0, fm1 n) := by kernel_rfl
theorem fmZ_succ (n : Int) (k : Nat) : fmZ n (k + 1) = wrN (fmZ n k) 0 (16 * (k : Int)) (zb (min 16 (37 - 16 * k))) (min 16 (37 - 16 * k)) := rfl
theorem fmZ_tab0 (n : Int) (k : Nat) : (fmZ n k).table.getD 0 0 = 1 := by rw [fmZ_table]; rfl
theorem write_fmZ (n : Int) (hn : 37 ≤ n) (k : Nat) (hk : k < 3) : writeR (fmZ n k) 0 1 (16 * (k : Int)) (zb (min 16 (37 - 16 * k))) = (0, fmZ n (k + 1)) := by
  rw [write_lv (fmZ_lv n k) (fmZ_tab0 n k) _ _ (min 16 (37 - 16 * k)) (zb_size _) (by omega) (by omega) (by omega) (by rw [fmZ_sectors]; omega), fmZ_succ]
theorem barrier_fmZ (n : Int) : barrierR (fmZ n 3) 0 1 = (0, fm5 n) := barrier_lv (fmZ_lv n 3) (fmZ_tab0 n 3)
theorem write_fm5 (n : Int) (hn : 37 ≤ n) (sb : ByteArray) (hs : sb.size = 64) : writeR (fm5 n) 0 1 0 sb = (0, fm6 n sb) :=
  write_lv (fm5_lv n) (by rw [fm5_table]; rfl) 0 sb 1 hs (by decide) (by decide) (by decide) (by rw [fm5_sectors]; omega)
theorem barrier_fm6 (n : Int) (sb : ByteArray) : barrierR (fm6 n sb) 0 1 = (0, fm7 n sb) := barrier_lv (fm6_lv n sb) (by rw [fm6_table]; rfl)
theorem fence_fm7 (n : Int) (sb : ByteArray) : fenceR (fm7 n sb) 0 = (0, fm8 n sb) := fence_lv (fm7_lv n sb)
theorem read_fm8 (n : Int) (hn : 37 ≤ n) (sb : ByteArray) (hs : sb.size = 64) : readR (fm8 n sb) 0 1 = (sb, 0) := by
  rw [readR_on (fm8_lv n sb).on, if_pos (by rw [fm8_sectors]; omega)]
  congr 1
  show (⟨(readL (fm8 n sb) 0 1).toArray⟩ : ByteArray) = sb
  simp only [readL, List.nil_append, secAt]
  rw [fm8_now n sb hs, if_pos (by decide)]
  simp

end Go.Proofs.YtkgdpmeheakdcaaGreat

/- A disk whose blocks are among R: each method in one form; a block outside R stays as it was. -/
namespace Go.Proofs.YtkgdpmeheakdcaaGreat
open Go.RowKit
set_option linter.all false
set_option maxRecDepth 100000

/-- The disk at b lies in blocks of R. -/
def DiskP (R : Nat → Prop) (b : Nat) (D : DS) (w : World) : Prop := ∃ F, DiskAt F b D w ∧ ∀ k, F k → R k
/-- What a call of a disk's method leaves. -/
def AnsP (R : Nat → Prop) (b : Nat) (D : DS) (w : World) (v : Value) (e : Ending) (w' : World) : Prop := e = .returned v ∧ DiskP R b D w' ∧ Grow R w w'

section
variable {R : Nat → Prop} {b N : Nat} {D : DS} {w : World}

theorem DiskTo.diskP {F : Nat → Prop} {w' : World} (h : DiskTo F b D w w') (hF : ∀ k, F k → R k) (hR : ∀ k, w.heap.size ≤ k → R k) : DiskP R b D w' ∧ Grow R w w' := by
  obtain ⟨F', hd, hg, hF'⟩ := h
  exact ⟨⟨F', hd, fun k hk => (hF' k hk).elim (hF k) (hR k)⟩, hg.mono hF⟩
theorem DiskP.lt (h : DiskP R b D w) : b < w.heap.size := by
  obtain ⟨F, ⟨nb, lb, wv, sv, hd⟩, hF⟩ := h
  exact hd.flt b hd.fb
theorem DiskP.in (h : DiskP R b D w) : R b := by
  obtain ⟨F, ⟨nb, lb, wv, sv, hd⟩, hF⟩ := h
  exact hF b hd.fb
theorem DiskP.mono {R' : Nat → Prop} (h : DiskP R b D w) (hR : ∀ k, R k → R' k) : DiskP R' b D w := by
  obtain ⟨F, hd, hF⟩ := h
  exact ⟨F, hd, fun k hk => hR k (hF k hk)⟩
/-- Its blocks are there. -/
theorem DiskP.cap (h : DiskP R b D w) : DiskP (fun k => R k ∧ k < w.heap.size) b D w := by
  obtain ⟨F, ⟨nb, lb, wv, sv, hd⟩, hF⟩ := h
  exact ⟨F, ⟨nb, lb, wv, sv, hd⟩, fun k hk => ⟨hF k hk, hd.flt k hk⟩⟩
/-- Where the other blocks change, the disk stays. -/
theorem DiskP.grow {G : Nat → Prop} {w' : World} (h : DiskP R b D w) (hg : Grow G w w') (hG : ∀ k, G k → ¬ R k) : DiskP R b D w' := by
  obtain ⟨F, ⟨nb, lb, wv, sv, hd⟩, hF⟩ := h
  exact ⟨F, ⟨nb, lb, wv, sv, hd.grow hg (fun k hf hk => hG k hk (hF k hf))⟩, hF⟩
theorem DiskP.below {w' : World} (h : DiskP R b D w) (hg : Below w.heap.size w w') : DiskP R b D w' := h.grow (Grow.of_below (F := fun _ => False) hg) (fun _ h => h.elim)
theorem DiskP.alloc (h : DiskP R b D w) (o : Obj) : DiskP (fun k => R k ∧ k ≠ w.heap.size) b D (w.alloc o) := by
  have h1 := (h.cap.grow (Grow.alloc (F := fun _ => False) w o) (fun _ h => h.elim)).mono (R' := fun k => R k ∧ k ≠ w.heap.size) (fun k hk => ⟨hk.1, by have := hk.2; omega⟩)
  exact h1
theorem DiskP.of_S {base : Nat} (h : DiskS base b D w) : DiskP (fun k => base ≤ k) b D w := h
theorem DiskP.to_S {base : Nat} (h : DiskP R b D w) (hR : ∀ k, R k → base ≤ k) : DiskS base b D w := h.mono hR

theorem stepP_admit (h : DiskP R b D w) (g : Good N D) (hN : N ≤ 900000) (hR : ∀ k, w.heap.size ≤ k → R k) (node epoch : Int) :
    Calls Tryz.prog 36 #[.pointer (some ⟨b, 0, none⟩), .int .i64 node, .int .u64 epoch] w (AnsP R b (admitR D node epoch).2 w (.int .i64 (admitR D node epoch).1)) := by
  obtain ⟨F, ⟨nb, lb, wv, sv, hd⟩, hF⟩ := h
  refine (admit_any hd (g.ok hN) node epoch).mono ?_
  rintro e w' ⟨rfl, ht⟩
  exact ⟨rfl, ht.diskP hF hR⟩
theorem stepP_barrier (h : DiskP R b D w) (g : Good N D) (hN : N ≤ 900000) (hR : ∀ k, w.heap.size ≤ k → R k) (node epoch : Int) :
    Calls Tryz.prog 64 #[.pointer (some ⟨b, 0, none⟩), .int .i64 node, .int .u64 epoch] w (AnsP R b (barrierR D node epoch).2 w (.int .i64 (barrierR D node epoch).1)) := by
  obtain ⟨F, ⟨nb, lb, wv, sv, hd⟩, hF⟩ := h
  refine (barrier_any hd (g.ok hN) node epoch).mono ?_
  rintro e w' ⟨rfl, ht⟩
  exact ⟨rfl, ht.diskP hF hR⟩
theorem stepP_fence (h : DiskP R b D w) (g : Good N D) (hN : N ≤ 900000) (hR : ∀ k, w.heap.size ≤ k → R k) (node : Int) :
    Calls Tryz.prog 75 #[.pointer (some ⟨b, 0, none⟩), .int .i64 node] w (AnsP R b (fenceR D node).2 w (.int .i64 (fenceR D node).1)) := by
  obtain ⟨F, ⟨nb, lb, wv, sv, hd⟩, hF⟩ := h
  refine (fence_any hd (g.ok hN) node).mono ?_
  rintro e w' ⟨rfl, ht⟩
  exact ⟨rfl, ht.diskP hF hR⟩
theorem stepP_put (h : DiskP R b D w) (g : Good N D) (hN : N ≤ 900000) (hR : ∀ k, w.heap.size ≤ k → R k) (node word : Int) :
    Calls Tryz.prog 76 #[.pointer (some ⟨b, 0, none⟩), .int .i64 node, .int .u64 word] w (AnsP R b (putR D node word).2 w (.int .i64 (putR D node word).1)) := by
  obtain ⟨F, ⟨nb, lb, wv, sv, hd⟩, hF⟩ := h
  refine (put_any hd (g.ok hN) node word).mono ?_
  rintro e w' ⟨rfl, ht⟩
  exact ⟨rfl, ht.diskP hF hR⟩
theorem stepP_write (h : DiskP R b D w) (g : Good N D) (hN : N ≤ 900000) (hR : ∀ k, w.heap.size ≤ k → R k) (node epoch a : Int) (data : ByteArray) (hds : data.size ≤ 100000) :
    Calls Tryz.prog 44 #[.pointer (some ⟨b, 0, none⟩), .int .i64 node, .int .u64 epoch, .int .i64 a, .string data] w (AnsP R b (writeR D node epoch a data).2 w (.int .i64 (writeR D node epoch a data).1)) := by
  obtain ⟨F, ⟨nb, lb, wv, sv, hd⟩, hF⟩ := h
  refine (write_any hd (g.ok hN) node epoch a data hds).mono ?_
  rintro e w' ⟨rfl, ht⟩
  exact ⟨rfl, ht.diskP hF hR⟩
theorem stepP_read (h : DiskP R b D w) (g : Good N D) (hN : N ≤ 900000) (a n : Int) :
    Calls Tryz.prog 47 #[.pointer (some ⟨b, 0, none⟩), .int .i64 a, .int .i64 n] w fun e w' => e = .returned (.tuple #[.string (readR D a n).1, .int .i64 (readR D a n).2]) ∧ DiskP R b D w' ∧ Below w.heap.size w w' := by
  obtain ⟨F, ⟨nb, lb, wv, sv, hd⟩, hF⟩ := h
  refine (read_any hd (g.ok hN) g.zn a n).mono ?_
  rintro e w' ⟨rfl, hg⟩
  exact ⟨rfl, ⟨F, ⟨nb, lb, wv, sv, hd.grow hg (fun _ _ h => h)⟩, hF⟩, hg.below (Nat.le_refl _) (fun _ h => h.elim)⟩
theorem stepP_cut (h : DiskP R b D w) (g : Good N D) (hN : N ≤ 900000) (hR : ∀ k, w.heap.size ≤ k → R k) (hon : D.on = true) (ao : Option Addr) (len cap : Nat) (zs : List Int) (hk : Keep w ao len zs) (hkb : ∀ a, ao = some a → 0 < len → a.block ≠ b) :
    Calls Tryz.prog 115 #[.pointer (some ⟨b, 0, none⟩), .slice ao len cap] w (AnsP R b (cutOn D zs) w (.int .i64 D.waits.length)) := by
  obtain ⟨F, ⟨nb, lb, wv, sv, hd⟩, hF⟩ := h
  refine (cut_on hd hon ao len cap zs hk hkb (by have := g.wn; omega)).mono ?_
  rintro e w' ⟨rfl, ht⟩
  exact ⟨rfl, ht.diskP hF hR⟩
theorem stepP_last (h : DiskP R b D w) : Calls Tryz.prog 77 #[.pointer (some ⟨b, 0, none⟩)] w fun e w' => e = .returned (.int .u64 D.last) ∧ w = w' := by
  obtain ⟨F, ⟨nb, lb, wv, sv, hd⟩, hF⟩ := h
  exact last_any hd.blk
theorem stepP_sectors (h : DiskP R b D w) : Calls Tryz.prog 73 #[.pointer (some ⟨b, 0, none⟩)] w fun e w' => e = .returned (.int .i64 D.sectors) ∧ w = w' := by
  obtain ⟨F, ⟨nb, lb, wv, sv, hd⟩, hF⟩ := h
  exact sectors_any hd.blk
theorem stepP_new (s : Int) (h1 : 1 ≤ s) (h2 : s ≤ 20000) (w : World) :
    Calls Tryz.prog 32 #[.int .i64 s] w fun e w' => ∃ b, e = .returned (.pointer (some ⟨b, 0, none⟩)) ∧ DiskP (fun k => w.heap.size ≤ k) b (newDS s) w' ∧ Below w.heap.size w w' := step_new s h1 h2 w
end

end Go.Proofs.YtkgdpmeheakdcaaGreat

/- super: walks of zeros, lay, Format, Load. -/
namespace Go.Proofs.YtkgdpmeheakdcaaGreat
open Go.RowKit
set_option linter.all false
set_option maxRecDepth 100000

section
variable {R : Nat → Prop} {b : Nat} {w : World} {n : Int}

theorem zstep (hn : 37 ≤ n) (hn2 : n ≤ 20000) (k : Nat) (hk : k < 3) (d : DiskP R b (fmZ n k) w) (hR : ∀ k, w.heap.size ≤ k → R k) :
    Calls Tryz.prog 44 #[.pointer (some ⟨b, 0, none⟩), .int .i64 0, .int .u64 1, .int .i64 (16 * (k : Int)), .string (zb (min 16 (37 - 16 * k)))] w (AnsP R b (fmZ n (k + 1)) w (.int .i64 0)) := by
  have H := stepP_write d (good_fmZ n (by omega) hn2 k (by omega)) (by omega) hR 0 1 (16 * (k : Int)) (zb (min 16 (37 - 16 * k))) (by rw [zb_size]; omega)
  rw [write_fmZ n hn k hk] at H
  exact H

def zLoop (R : Nat → Prop) (b : Nat) (n : Int) (w : World) (k : Nat) (wr : World) : Prop := DiskP R b (fmZ n k) wr ∧ Grow R w wr

set_option maxHeartbeats 1000000 in
theorem zeros_any (hn : 37 ≤ n) (hn2 : n ≤ 20000) (d : DiskP R b (fmZ n 0) w) (hR : ∀ k, w.heap.size ≤ k → R k) :
    Calls Tryz.prog 111 #[.pointer (some ⟨b, 0, none⟩), .int .u64 1, .int .i64 37] w (AnsP R b (fm5 n) w (.int .i64 0)) := by
  have HD : Hid (zLoop R b n w 0 w) := Lib.hid ⟨d, Grow.refl _ _⟩
  clear d
  go_enter Tryz.func111, Tryz.ntmps111
  go_wp2
  go_loopw [7] (fun i wr => ∃ k : Nat, k ≤ 3 ∧ i = .int .i64 (16 * (k : Int)) ∧ zLoop R b n w k wr) (fun i _ => 48 - (intOf i).toNat)
  case atStart => exact ⟨0, by omega, rfl, HD.out⟩
  case round =>
    obtain ⟨k, hk, rfl, hd, hb⟩ := hrel
    have HDK := Lib.hid hd
    have HBK := Lib.hid hb
    clear hd hb
    rcases (show k = 0 ∨ k = 1 ∨ k = 2 ∨ k = 3 by omega) with rfl | rfl | rfl | rfl
    · have HR : Hid (Calls Tryz.prog 95 #[.string ⟨#[0]⟩, .int .i64 1024] wr fun e w' => e = .returned (.string (zb 16)) ∧ Below wr.heap.size wr w') := Lib.hid (repeat_zero 1024 (by decide) wr)
      go_wp2_with fail
      refine HR.out.mono ?_
      rintro e w1 ⟨rfl, hb1⟩
      have HW : Hid (Calls Tryz.prog 44 #[.pointer (some ⟨b, 0, none⟩), .int .i64 0, .int .u64 1, .int .i64 0, .string (zb 16)] w1 (AnsP R b (fmZ n 1) w1 (.int .i64 0))) := Lib.hid (zstep hn hn2 0 (by decide) (HDK.out.below hb1) (fun q hq => hR q (Nat.le_trans (Nat.le_trans HBK.out.size hb1.size) hq)))
      have HB1 := Lib.hid (HBK.out.trans (Grow.of_below (F := fun _ => False) hb1) (fun _ h => h.elim))
      clear hb1
      go_wp2_with fail
      refine HW.out.mono ?_
      rintro e w2 ⟨rfl, hd2, hb2⟩
      have hrel : zLoop R b n w 1 w2 := ⟨hd2, HB1.out.trans hb2 (fun _ h => .inl h)⟩
      have HREL := Lib.hid hrel
      clear hrel hd2 hb2
      go_wp2
      go_roundw
      case rel => exact ⟨1, by omega, rfl, HREL.out⟩
      case measure => simp [intOf]
    · have HR : Hid (Calls Tryz.prog 95 #[.string ⟨#[0]⟩, .int .i64 1024] wr fun e w' => e = .returned (.string (zb 16)) ∧ Below wr.heap.size wr w') := Lib.hid (repeat_zero 1024 (by decide) wr)
      go_wp2_with fail
      refine HR.out.mono ?_
      rintro e w1 ⟨rfl, hb1⟩
      have HW : Hid (Calls Tryz.prog 44 #[.pointer (some ⟨b, 0, none⟩), .int .i64 0, .int .u64 1, .int .i64 16, .string (zb 16)] w1 (AnsP R b (fmZ n 2) w1 (.int .i64 0))) := Lib.hid (zstep hn hn2 1 (by decide) (HDK.out.below hb1) (fun q hq => hR q (Nat.le_trans (Nat.le_trans HBK.out.size hb1.size) hq)))
      have HB1 := Lib.hid (HBK.out.trans (Grow.of_below (F := fun _ => False) hb1) (fun _ h => h.elim))
      clear hb1
      go_wp2_with fail
      refine HW.out.mono ?_
      rintro e w2 ⟨rfl, hd2, hb2⟩
      have hrel : zLoop R b n w 2 w2 := ⟨hd2, HB1.out.trans hb2 (fun _ h => .inl h)⟩
      have HREL := Lib.hid hrel
      clear hrel hd2 hb2
      go_wp2
      go_roundw
      case rel => exact ⟨2, by omega, rfl, HREL.out⟩
      case measure => simp [intOf]
    · have HR : Hid (Calls Tryz.prog 95 #[.string ⟨#[0]⟩, .int .i64 320] wr fun e w' => e = .returned (.string (zb 5)) ∧ Below wr.heap.size wr w') := Lib.hid (repeat_zero 320 (by decide) wr)
      go_wp2_with fail
      refine HR.out.mono ?_
      rintro e w1 ⟨rfl, hb1⟩
      have HW : Hid (Calls Tryz.prog 44 #[.pointer (some ⟨b, 0, none⟩), .int .i64 0, .int .u64 1, .int .i64 32, .string (zb 5)] w1 (AnsP R b (fmZ n 3) w1 (.int .i64 0))) := Lib.hid (zstep hn hn2 2 (by decide) (HDK.out.below hb1) (fun q hq => hR q (Nat.le_trans (Nat.le_trans HBK.out.size hb1.size) hq)))
      have HB1 := Lib.hid (HBK.out.trans (Grow.of_below (F := fun _ => False) hb1) (fun _ h => h.elim))
      clear hb1
      go_wp2_with fail
      refine HW.out.mono ?_
      rintro e w2 ⟨rfl, hd2, hb2⟩
      have hrel : zLoop R b n w 3 w2 := ⟨hd2, HB1.out.trans hb2 (fun _ h => .inl h)⟩
      have HREL := Lib.hid hrel
      clear hrel hd2 hb2
      go_wp2
      go_roundw
      case rel => exact ⟨3, by omega, rfl, HREL.out⟩
      case measure => simp [intOf]
    · have HW := stepP_barrier HDK.out (good_fmZ n (by omega) hn2 3 (by omega)) (by decide) (fun q hq => hR q (Nat.le_trans HBK.out.size hq)) 0 1
      rw [barrier_fmZ n] at HW
      replace HW := Lib.hid HW
      go_wp2_with fail
      refine HW.out.mono ?_
      rintro e w2 ⟨rfl, hd2, hb2⟩
      have HF := Lib.hid hd2
      have HG := Lib.hid (HBK.out.trans hb2 (fun _ h => .inl h))
      clear hd2 hb2
      go_wp2
      go_ret
      exact ⟨rfl, HF.out, HG.out⟩
end

end Go.Proofs.YtkgdpmeheakdcaaGreat

/- super: walks of lay, Format, Load at the laws' shape. -/
namespace Go.Proofs.YtkgdpmeheakdcaaGreat
open Go.RowKit
set_option linter.all false
set_option maxRecDepth 100000

def sh0 : Sh := ⟨2, 10, 8, 4, 32⟩
theorem sh0_ok : sh0.ok = true := by decide
def sb0 : ByteArray := str sh0.bytes
theorem sb0_size : sb0.size = 64 := by unfold sb0; rw [str_size, Sh.bytes_length]

theorem put0 (w : World) : Calls Tryz.prog 110 #[.agg #[.int .i64 2, .int .i64 10, .int .i64 8, .int .i64 4, .int .i64 32]] w fun e w' => e = .returned (.tuple #[.string sb0, .int .i64 0]) ∧ Below w.heap.size w w' := sput_ok sh0 sh0_ok w
theorem valid0 (w : World) : Calls Tryz.prog 72 #[.agg #[.int .i64 2, .int .i64 10, .int .i64 8, .int .i64 4, .int .i64 32]] w fun e w' => e = .returned (.bool true) ∧ Below w.heap.size w w' := by
  have h := valid_any sh0 w
  rw [sh0_ok] at h
  exact h
theorem size0 (w : World) : Calls Tryz.prog 74 #[.agg #[.int .i64 2, .int .i64 10, .int .i64 8, .int .i64 4, .int .i64 32]] w fun e w' => e = .returned (.int .i64 37) ∧ Below w.heap.size w w' := size_any sh0 sh0_ok w
theorem get0 (w : World) : Calls Tryz.prog 79 #[.string sb0] w fun e w' => e = .returned (.tuple #[.agg #[.int .i64 2, .int .i64 10, .int .i64 8, .int .i64 4, .int .i64 32], .int .i64 0]) ∧ Below w.heap.size w w' := sget_ok sh0 sh0_ok w

/-- The cells of a block of five numbers. -/
theorem five_cells {w : World} {q : Nat} {T : TypeId} {a b c d e : Value} (h : w.heap[q]? = some (.cells #[a, b, c, d, e] T (0, 0))) :
    w.cell? ⟨q, 0, none⟩ = some a ∧ w.cell? ⟨q, 1, none⟩ = some b ∧ w.cell? ⟨q, 2, none⟩ = some c ∧ w.cell? ⟨q, 3, none⟩ = some d ∧ w.cell? ⟨q, 4, none⟩ = some e := by
  simp [World.cell?, h]
def shBlk (w : World) (q : Nat) : Prop := w.heap[q]? = some (.cells #[.int .i64 2, .int .i64 10, .int .i64 8, .int .i64 4, .int .i64 32] 29 (0, 0))

/-- A disk, and a shape in a block q of the call's own. -/
structure Bx (R : Nat → Prop) (q b : Nat) (D : DS) (w0 w : World) : Prop where
  d : DiskP (fun k => R k ∧ k ≠ q) b D w
  s : shBlk w q
  g : Grow R w0 w
  r : ∀ k, w.heap.size ≤ k → R k ∧ k ≠ q

section
variable {R : Nat → Prop} {b q : Nat} {w w0 : World} {n : Int} {D : DS}

theorem Bx.start (d : DiskP R b D w) (hR : ∀ k, w.heap.size ≤ k → R k) : Bx R w.heap.size b D w (w.alloc (.cells #[.int .i64 2, .int .i64 10, .int .i64 8, .int .i64 4, .int .i64 32] 29)) :=
  ⟨d.alloc _, heap_alloc_new w _, Grow.alloc w _, fun k hk => ⟨hR k (by simp at hk; omega), by simp at hk; omega⟩⟩
theorem Bx.lt (h : Bx R q b D w0 w) : q < w.heap.size := (Array.getElem?_eq_some_iff.1 h.s).1
theorem Bx.below {w' : World} (h : Bx R q b D w0 w) (hb : Below w.heap.size w w') : Bx R q b D w0 w' :=
  ⟨h.d.below hb, (hb.block q h.lt).trans h.s, h.g.trans (Grow.of_below (F := fun _ => False) hb) (fun _ h => h.elim), fun k hk => h.r k (Nat.le_trans hb.size hk)⟩
theorem Bx.ans {D' : DS} {w' : World} (h : Bx R q b D w0 w) (hd : DiskP (fun k => R k ∧ k ≠ q) b D' w') (hg : Grow (fun k => R k ∧ k ≠ q) w w') : Bx R q b D' w0 w' :=
  ⟨hd, (hg.block q h.lt (fun h => h.2 rfl)).trans h.s, h.g.trans hg (fun k hk => .inl hk.1), fun k hk => h.r k (Nat.le_trans hg.size hk)⟩
theorem Bx.fin (h : Bx R q b D w0 w) (v : Value) : AnsP R b D w0 v (.returned v) w := ⟨rfl, h.d.mono (fun k hk => hk.1), h.g⟩

set_option maxHeartbeats 1000000 in
theorem lay_any (hn : 37 ≤ n) (hn2 : n ≤ 20000) (d : DiskP R b (fmZ n 0) w) (hR : ∀ k, w.heap.size ≤ k → R k) :
    Calls Tryz.prog 78 #[.pointer (some ⟨b, 0, none⟩), .int .u64 1, .agg #[.int .i64 2, .int .i64 10, .int .i64 8, .int .i64 4, .int .i64 32]] w (AnsP R b (fm7 n sb0) w (.int .i64 0)) := by
  have B0 := Lib.hid (Bx.start d hR)
  have HP := Lib.hid (put0 (w.alloc (.cells #[.int .i64 2, .int .i64 10, .int .i64 8, .int .i64 4, .int .i64 32] 29)))
  clear d hR
  go_enter Tryz.func78, Tryz.ntmps78
  go_wp2_with fail
  refine HP.out.mono ?_
  rintro e w1 ⟨rfl, hb⟩
  have B1 := Lib.hid (B0.out.below hb)
  obtain ⟨c0, c1, c2, c3, c4⟩ := five_cells B1.out.s
  have HS := Lib.hid (size0 w1)
  clear hb B0 HP
  go_wp2_with fail
  refine HS.out.mono ?_
  rintro e w2 ⟨rfl, hb⟩
  have B2 := Lib.hid (B1.out.below hb)
  have HZ := Lib.hid (zeros_any hn hn2 B2.out.d B2.out.r)
  clear hb B1 HS c0 c1 c2 c3 c4
  go_wp2_with fail
  refine HZ.out.mono ?_
  rintro e w3 ⟨rfl, hd, hg⟩
  have B3 := Lib.hid (B2.out.ans hd hg)
  have HW := stepP_write B3.out.d (good_fm5 n (by omega) hn2) (by decide) B3.out.r 0 1 0 sb0 (by rw [sb0_size]; decide)
  rw [write_fm5 n hn sb0 sb0_size] at HW
  replace HW := Lib.hid HW
  clear hd hg B2 HZ
  go_wp2_with fail
  refine HW.out.mono ?_
  rintro e w4 ⟨rfl, hd, hg⟩
  have B4 := Lib.hid (B3.out.ans hd hg)
  have HB := stepP_barrier B4.out.d (good_fm6 n (by omega) hn2 sb0 sb0_size) (by decide) B4.out.r 0 1
  rw [barrier_fm6 n sb0] at HB
  replace HB := Lib.hid HB
  clear hd hg B3 HW
  go_wp2_with fail
  refine HB.out.mono ?_
  rintro e w5 ⟨rfl, hd, hg⟩
  have B5 := Lib.hid (B4.out.ans hd hg)
  clear hd hg B4 HB
  go_wp2
  go_ret
  exact B5.out.fin _

theorem bool_sect (n : Int) (hn : 37 ≤ n) : decide (n < 37) = false := by simp; omega

set_option maxHeartbeats 2000000 in
theorem format_any (hn : 37 ≤ n) (hn2 : n ≤ 20000) (d : DiskP R b (newDS n) w) (hR : ∀ k, w.heap.size ≤ k → R k) :
    Calls Tryz.prog 34 #[.pointer (some ⟨b, 0, none⟩), .agg #[.int .i64 2, .int .i64 10, .int .i64 8, .int .i64 4, .int .i64 32]] w (AnsP R b (fm8 n sb0) w (.int .i64 0)) := by
  have B0 := Lib.hid (Bx.start d hR)
  have HP := Lib.hid (valid0 (w.alloc (.cells #[.int .i64 2, .int .i64 10, .int .i64 8, .int .i64 4, .int .i64 32] 29)))
  have HDS := bool_sect n hn
  clear d hR
  go_enter Tryz.func34, Tryz.ntmps34
  go_wp2_with fail
  refine HP.out.mono ?_
  rintro e w1 ⟨rfl, hb⟩
  have B1 := Lib.hid (B0.out.below hb)
  obtain ⟨c0, c1, c2, c3, c4⟩ := five_cells B1.out.s
  clear hb B0 HP
  go_wp2_with fail
  go_cut [19] from 20 to 24 (fun s wx => s = .bool false ∧ Bx R w.heap.size b (newDS n) w wx)
  case first =>
    have hx1 : ∀ wx : World, Below w1.heap.size w1 wx → Calls Tryz.prog 73 #[.pointer (some ⟨b, 0, none⟩)] wx fun e w' => e = .returned (.int .i64 n) ∧ wx = w' := fun wx hb => stepP_sectors (B1.out.below hb).d
    have HX1 := Lib.hid hx1
    clear hx1
    go_region_with (first
      | (go_at_call 73
         refine (HX1.out _ ?_).mono ?_
         · repeat (first | exact Below.refl _ _ | assumption | apply below_alloc | apply Below.drew)
         rintro e x1 ⟨rfl, rfl⟩)
      | (go_at_call 74
         refine (size0 _).mono ?_
         rintro e x1 ⟨rfl, bx⟩))
    all_goals go_wp2_with fail
    all_goals go_meet
    all_goals exact ⟨rfl, B1.out.below ((Below.refl _ _).drew.trans bx)⟩
  case rest =>
    obtain ⟨rfl, hB⟩ := hcut
    have B2 := Lib.hid hB
    clear hB B1 c0 c1 c2 c3 c4
    go_wp2
    go_loopw [5] (fun i wr => ∃ k : Nat, k ≤ 17 ∧ i = .int .i64 k ∧ Bx R w.heap.size b (newDS n) w wr) (fun i _ => 17 - (intOf i).toNat)
    case atStart => exact ⟨0, by omega, rfl, B2.out⟩
    case round =>
      obtain ⟨k, hk, rfl, hbx⟩ := hrel
      have BK := Lib.hid hbx
      clear hbx B2
      by_cases hlt : k < 17
      · have HF := stepP_fence BK.out.d (good_new n (by omega) hn2) (by decide) BK.out.r k
        rw [fence_new n k (by omega)] at HF
        replace HF := Lib.hid HF
        have hle : (k : Int) ≤ 16 := by omega
        go_wp2_with fail
        refine HF.out.mono ?_
        rintro e w3 ⟨rfl, hd, hg⟩
        have B3 := Lib.hid (BK.out.ans hd hg)
        have HQ := stepP_put B3.out.d (good_new n (by omega) hn2) (by decide) B3.out.r k 0
        rw [put_new n k (by omega)] at HQ
        replace HQ := Lib.hid HQ
        clear hd hg HF BK
        go_wp2_with fail
        refine HQ.out.mono ?_
        rintro e w4 ⟨rfl, hd, hg⟩
        have B4 := Lib.hid (B3.out.ans hd hg)
        clear hd hg HQ B3
        go_wp2
        go_roundw
        case rel => exact ⟨k + 1, by omega, by go_num, B4.out⟩
        case measure => simp [intOf]; omega
      · have hk17 : k = 17 := by omega
        subst hk17
        have HL := Lib.hid (stepP_last BK.out.d)
        have HA := stepP_admit BK.out.d (good_new n (by omega) hn2) (by decide) BK.out.r 0 1
        rw [admit_new n] at HA
        replace HA := Lib.hid HA
        go_wp2_with fail
        refine HL.out.mono ?_
        rintro e w3 ⟨rfl, rfl⟩
        go_wp2_with fail
        refine HA.out.mono ?_
        rintro e w4 ⟨rfl, hd, hg⟩
        have B4 := Lib.hid (BK.out.ans hd hg)
        obtain ⟨c0, c1, c2, c3, c4⟩ := five_cells B4.out.s
        have HY := Lib.hid (lay_any (b := b) hn hn2 B4.out.d B4.out.r)
        clear hd hg HA BK HL
        go_wp2_with fail
        refine HY.out.mono ?_
        rintro e w5 ⟨rfl, hd, hg⟩
        have B5 := Lib.hid (B4.out.ans hd hg)
        have HF := stepP_fence B5.out.d (good_fm7 n (by omega) hn2 sb0 sb0_size) (by decide) B5.out.r 0
        rw [fence_fm7 n sb0] at HF
        replace HF := Lib.hid HF
        clear hd hg HY B4 c0 c1 c2 c3 c4
        go_wp2_with fail
        refine HF.out.mono ?_
        rintro e w6 ⟨rfl, hd, hg⟩
        have B6 := Lib.hid (B5.out.ans hd hg)
        clear hd hg HF B5
        go_wp2
        go_ret
        exact B6.out.fin _

end

end Go.Proofs.YtkgdpmeheakdcaaGreat

/- super.Load: walk. -/
namespace Go.Proofs.YtkgdpmeheakdcaaGreat
open Go.RowKit
set_option linter.all false
set_option maxRecDepth 100000

def zBlk (T : TypeId) (w : World) (q : Nat) : Prop := w.heap[q]? = some (.cells #[.int .i64 0, .int .i64 0, .int .i64 0, .int .i64 0, .int .i64 0] T (0, 0))
theorem zBlk.below {T : TypeId} {w w' : World} {q : Nat} (h : zBlk T w q) (hb : Below w.heap.size w w') : zBlk T w' q := (hb.block q (Array.getElem?_eq_some_iff.1 h).1).trans h
theorem zBlk.lt {T : TypeId} {w : World} {q : Nat} (h : zBlk T w q) : q < w.heap.size := (Array.getElem?_eq_some_iff.1 h).1

set_option maxHeartbeats 2000000 in
theorem load_any {R : Nat → Prop} {b N : Nat} {D : DS} {w : World} (d : DiskP R b D w) (g : Good N D) (hN : N ≤ 900000) (hr : readR D 0 1 = (sb0, 0)) (hn : 37 ≤ D.sectors) :
    Calls Tryz.prog 35 #[.pointer (some ⟨b, 0, none⟩)] w fun e w' => e = .returned (.tuple #[.agg #[.int .i64 2, .int .i64 10, .int .i64 8, .int .i64 4, .int .i64 32], .int .i64 0]) ∧ DiskP R b D w' ∧ Below w.heap.size w w' := by
  have d0 := d.cap.below (w' := w.alloc (.cells #[.int .i64 0, .int .i64 0, .int .i64 0, .int .i64 0, .int .i64 0] 31)) ((Below.refl _ _).alloc (Nat.le_refl _) _)
  have HR := stepP_read d0 g hN 0 1
  rw [hr] at HR
  replace HR := Lib.hid HR
  have HB0 := Lib.hid ((Below.refl w.heap.size w).alloc (Nat.le_refl _) (.cells #[.int .i64 0, .int .i64 0, .int .i64 0, .int .i64 0, .int .i64 0] 31))
  have HZ0 : Hid (zBlk 31 (w.alloc (.cells #[.int .i64 0, .int .i64 0, .int .i64 0, .int .i64 0, .int .i64 0] 31)) w.heap.size) := Lib.hid (heap_alloc_new w _)
  obtain ⟨n, hsn⟩ : ∃ n, n = D.sectors := ⟨_, rfl⟩
  have HDS := bool_sect n (by omega)
  have HSN := Lib.hid hsn
  clear d d0 g hN hr hn hsn
  go_enter Tryz.func35, Tryz.ntmps35
  go_wp2_with fail
  refine HR.out.mono ?_
  rintro e w1 ⟨rfl, hd, hb⟩
  have D1 := Lib.hid hd
  have B1 := Lib.hid (HB0.out.trans (hb.mono (by simp)))
  have Z1 := Lib.hid (HZ0.out.below hb)
  have HG := Lib.hid (get0 w1)
  clear hd hb HR HB0 HZ0
  go_wp2_with fail
  refine HG.out.mono ?_
  rintro e w2 ⟨rfl, hb⟩
  have D2 := Lib.hid (D1.out.below hb)
  have B2 := Lib.hid (B1.out.trans (hb.mono B1.out.size))
  have Z2 := Lib.hid (Z1.out.below hb)
  clear hb HG D1 B1 Z1
  go_wp2_with fail
  have hS3 : shBlk (w2.alloc (.cells #[.int .i64 2, .int .i64 10, .int .i64 8, .int .i64 4, .int .i64 32] 29)) w2.heap.size := heap_alloc_new w2 _
  have hb3 : Below w2.heap.size w2 (w2.alloc (.cells #[.int .i64 2, .int .i64 10, .int .i64 8, .int .i64 4, .int .i64 32] 29)) := (Below.refl _ _).alloc (Nat.le_refl _) _
  have D3 := Lib.hid (D2.out.below hb3)
  have B3 := Lib.hid (B2.out.trans (hb3.mono B2.out.size))
  have Z3 := Lib.hid (Z2.out.below hb3)
  have S3 := Lib.hid hS3
  obtain ⟨c0, c1, c2, c3, c4⟩ := five_cells hS3
  clear hb3 hS3 D2 B2 Z2
  generalize w2.alloc (.cells #[.int .i64 2, .int .i64 10, .int .i64 8, .int .i64 4, .int .i64 32] 29) = W at *
  generalize w2.heap.size = t6 at *
  go_cut [29] from 21 to 28 (fun s wx => s = .bool false ∧ Below W.heap.size W wx)
  case first =>
    have hx1 : ∀ wx : World, Below W.heap.size W wx → Calls Tryz.prog 73 #[.pointer (some ⟨b, 0, none⟩)] wx fun e w' => e = .returned (.int .i64 n) ∧ wx = w' := fun wx hb => by
      rw [HSN.out]
      exact stepP_sectors (D3.out.below hb)
    have HX1 := Lib.hid hx1
    clear hx1
    go_region_with (first
      | (go_at_call 73
         refine (HX1.out _ ?_).mono ?_
         · repeat (first | exact Below.refl _ _ | assumption | apply below_alloc | apply Below.drew)
         rintro e x1 ⟨rfl, rfl⟩)
      | (go_at_call 74
         refine (size0 _).mono ?_
         rintro e x1 ⟨rfl, bx⟩))
    all_goals go_wp2_with fail
    all_goals go_meet
    all_goals exact ⟨rfl, (Below.refl _ _).drew.trans bx⟩
  case rest =>
    obtain ⟨rfl, hb⟩ := hcut
    have D4 := Lib.hid (D3.out.below hb)
    have B4 := Lib.hid (B3.out.trans (hb.mono B3.out.size))
    have hz := Z3.out.below hb
    have hs : shBlk wc t6 := (hb.block t6 (Array.getElem?_eq_some_iff.1 S3.out).1).trans S3.out
    have hne : t6 ≠ w.heap.size := fun e => by
      subst e
      have h1 : zBlk _ _ _ := hz
      unfold zBlk at h1
      unfold shBlk at hs
      rw [h1] at hs
      simp at hs
    obtain ⟨q0, q1, q2, q3, q4⟩ := five_cells hs
    obtain ⟨r0, r1, r2, r3, r4⟩ := five_cells hz
    have fz : ∀ i, wc.frozen? ⟨w.heap.size, i, none⟩ = false := fun i => by unfold zBlk at hz; simp [World.frozen?, hz]
    have f0 := fz 0
    have f1 := fz 1
    have f2 := fz 2
    have f3 := fz 3
    have f4 := fz 4
    have T2 := Lib.hid (five_set (a := .int .i64 2) (b := .int .i64 10) (c := .int .i64 8) (d := .int .i64 4) (e := .int .i64 32) hz)
    have hlt5 := hz.lt
    clear fz hz hs hb D3 B3 Z3 S3 c0 c1 c2 c3 c4
    go_wp2
    have t2 := T2.out
    generalize hWf : ((((wc.setCell ⟨w.heap.size, 0, none⟩ (.int .i64 2)).setCell ⟨w.heap.size, 1, none⟩ (.int .i64 10)).setCell ⟨w.heap.size, 2, none⟩ (.int .i64 8)).setCell ⟨w.heap.size, 3, none⟩ (.int .i64 4)).setCell ⟨w.heap.size, 4, none⟩ (.int .i64 32) = Wf at *
    have hgf : Grow (fun k => k = w.heap.size) wc Wf := by
      rw [← hWf]
      have gs : ∀ (v : World) (j : Nat) (x : Value), Grow (fun k => k = w.heap.size) v (v.setCell ⟨w.heap.size, j, none⟩ x) := fun v j x => Grow.setCell (F := fun k => k = w.heap.size) rfl x
      exact ((((gs _ _ _).trans (gs _ _ _) (fun _ h => .inl h)).trans (gs _ _ _) (fun _ h => .inl h)).trans (gs _ _ _) (fun _ h => .inl h)).trans (gs _ _ _) (fun _ h => .inl h)
    have hdf : DiskP R b D Wf := (D4.out.grow hgf (fun k hk h => by have := h.2; omega)).mono (fun k hk => hk.1)
    have hbf : Below w.heap.size w Wf := B4.out.trans (hgf.below B4.out.size (fun k hk => Nat.le_of_eq hk.symm))
    have HDF := Lib.hid hdf
    have HBF := Lib.hid hbf
    clear r0 r1 r2 r3 r4 T2 hWf hgf hdf hbf D4 B4
    obtain ⟨r0, r1, r2, r3, r4⟩ := five_cells t2
    exact bodyPost_ret (v := .tuple #[.agg #[.int .i64 2, .int .i64 10, .int .i64 8, .int .i64 4, .int .i64 32], .int .i64 0]) (by simp [results, Tryz.results35, go_sem, r0, r1, r2, r3, r4]) rfl ⟨rfl, HDF.out, HBF.out⟩

end Go.Proofs.YtkgdpmeheakdcaaGreat

/- law9.alive answers true: walk. -/
namespace Go.Proofs.YtkgdpmeheakdcaaGreat
open Go.RowKit
set_option linter.all false
set_option maxRecDepth 100000

theorem log0 (w : World) : Calls Tryz.prog 52 #[.agg #[.int .i64 2, .int .i64 10, .int .i64 8, .int .i64 4, .int .i64 32], .int .i64 2] w fun e w' => e = .returned (.tuple #[.int .i64 9, .int .i64 0]) ∧ Below w.heap.size w w' :=
  logat_any sh0 sh0_ok 2 (by decide) (by decide) w
theorem blk0 (w : World) : Calls Tryz.prog 42 #[.agg #[.int .i64 2, .int .i64 10, .int .i64 8, .int .i64 4, .int .i64 32], .int .i64 0] w fun e w' => e = .returned (.tuple #[.int .i64 17, .int .i64 0]) ∧ Below w.heap.size w w' :=
  blockat_any sh0 sh0_ok 0 w
theorem shape0 (w : World) : Calls Tryz.prog 31 #[] w fun e w' => e = .returned (.agg #[.int .i64 2, .int .i64 10, .int .i64 8, .int .i64 4, .int .i64 32]) ∧ Below w.heap.size w w' := by
  go_enter Tryz.func31, Tryz.ntmps31
  go_wp2
  exact bodyPost_ret (v := .agg #[.int .i64 2, .int .i64 10, .int .i64 8, .int .i64 4, .int .i64 32]) (by simp [results, Tryz.results31, go_sem]) rfl ⟨rfl, (Below.refl _ _).alloc (Nat.le_refl _) _⟩

def lyBlk (w : World) (q : Nat) : Prop := w.heap[q]? = some (.cells #[.int .i64 2, .int .i64 10, .int .i64 8, .int .i64 4, .int .i64 32] 31 (0, 0))
theorem lyBlk.lt {w : World} {q : Nat} (h : lyBlk w q) : q < w.heap.size := (Array.getElem?_eq_some_iff.1 h).1
theorem lyBlk.below {w w' : World} {q : Nat} (h : lyBlk w q) (hb : Below w.heap.size w w') : lyBlk w' q := (hb.block q h.lt).trans h
theorem lyBlk.grow {G : Nat → Prop} {w w' : World} {q : Nat} (h : lyBlk w q) (hb : Grow G w w') (hG : ¬ G q) : lyBlk w' q := (hb.block q h.lt hG).trans h

end Go.Proofs.YtkgdpmeheakdcaaGreat
