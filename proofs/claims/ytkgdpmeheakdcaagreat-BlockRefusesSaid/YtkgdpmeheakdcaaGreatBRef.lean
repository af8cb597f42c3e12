/- The program's disk and the reference's, side by side: plain laws, and what Store does to both. -/
import Derived.Test.YtkgdpmeheakdcaaGreatRef15
namespace Go.Proofs.YtkgdpmeheakdcaaGreat
open Go.RowKit
set_option linter.all false
set_option maxRecDepth 100000

theorem ratK_app (l : List RW) (x : RW) (a : Int) : ∀ k, k ≤ l.length → ratK (l ++ [x]) a k = ratK l a k
  | 0, _ => rfl
  | k + 1, hk => by
    have h1 : (l ++ [x])[k]? = l[k]? := List.getElem?_append_left (by omega)
    simp only [ratK, h1, ratK_app l x a k (by omega)]
theorem ratK_snoc (l : List RW) (x : RW) (a : Int) : ratK (l ++ [x]) a (l ++ [x]).length = if x.pl = a then x.data else ratK l a l.length := by
  have h0 : (l ++ [x]).length = l.length + 1 := by simp
  have h1 : (l ++ [x])[l.length]? = some x := by simp
  rw [h0]
  simp only [ratK, h1, ratK_app l x a l.length (Nat.le_refl _)]
theorem ratK_size (l : List RW) (h : ∀ x ∈ l, x.data.size = 64) (a : Int) : ∀ k, (ratK l a k).size = 64
  | 0 => by show (str (zerosL 64)).size = 64; rw [str_size, zerosL_length]
  | k + 1 => by
    cases hk : l[k]? with
    | none => simp only [ratK, hk]; exact ratK_size l h a k
    | some x =>
      simp only [ratK, hk]
      split
      · exact h x (List.mem_of_getElem? hk)
      · exact ratK_size l h a k
theorem rwN_all (D : RS) (n a : Int) (data : ByteArray) (h : ∀ x ∈ D.l, x.data.size = 64) : ∀ k, 64 * k ≤ data.size → ∀ x ∈ (rwN D n a data k).l, x.data.size = 64
  | 0, _ => h
  | k + 1, hk => by
    intro x hx
    have hx' : x ∈ (rwN D n a data k).l ++ [rwX n a data k] := hx
    rcases List.mem_append.1 hx' with h1 | h1
    · exact rwN_all D n a data h k (by omega) x h1
    · rw [List.mem_singleton.1 h1]
      exact extract_size data k (by omega)

/-- Both hold the same, the superblock's place left out. -/
def Agree (D : DS) (R : RS) : Prop := ∀ j : Int, 1 ≤ j → j < 37 → secAt D j = ratK R.l j R.l.length
theorem Agree.wrN {D : DS} {R : RS} (h : Agree D R) (n a : Int) (data : ByteArray) : ∀ q, Agree (wrN D n a data q) (rwN R n a data q)
  | 0 => h
  | q + 1 => fun j h0 h1 => by
    have h2 := Agree.wrN h n a data q j h0 h1
    have e1 : secAt (Go.Proofs.YtkgdpmeheakdcaaGreat.wrN D n a data (q + 1)) j = ((if j = a + q then some (data.extract (64 * q) (64 * q + 64)) else (Go.Proofs.YtkgdpmeheakdcaaGreat.wrN D n a data q).now j)).getD zero64 := rfl
    have e2 : (rwN R n a data (q + 1)).l = (rwN R n a data q).l ++ [rwX n a data q] := rfl
    rw [e1, e2, ratK_snoc]
    by_cases hj : j = a + q
    · rw [if_pos hj, if_pos (show (rwX n a data q).pl = j from hj.symm)]
      rfl
    · rw [if_neg hj, if_neg (show ¬ (rwX n a data q).pl = j from fun e => hj e.symm), ← h2]
      rfl
theorem zero64_str : zero64 = str (zerosL 64) := by rw [← zero64_list, str_list]
theorem agree9 : Agree dk9 rd5 := fun j h0 h1 => by
  have e1 : secAt dk9 j = zero64 := by
    unfold secAt
    rw [dk9_now j h0 h1]
    rfl
  have e2 : ratK rd5.l j rd5.l.length = if (0 : Int) = j then sb0 else str (zerosL 64) := rfl
  rw [e1, e2, if_neg (by omega), zero64_str]
theorem readL_rdL {D : DS} {R : RS} (h : Agree D R) (n : Int) (h0 : 0 ≤ n) (h1 : n < 10) : readL D (17 + 2 * n) 2 = rdL R.l (17 + 2 * n) 2 := by
  have e0 := h (17 + 2 * n + (0 : Nat)) (by omega) (by omega)
  have e1 := h (17 + 2 * n + (1 : Nat)) (by omega) (by omega)
  simp only [readL, rdL]
  rw [e0, e1]
theorem load_both {D : DS} {R : RS} (h : Agree D R) (hon : D.on = true) (hs : D.sectors = 37) (n : Int) : loadB D n = rloadB R n := by
  by_cases hin : 0 ≤ n ∧ n < 10
  · rw [loadB_of hon hs n hin.1 hin.2, readL_rdL h n hin.1 hin.2]
    unfold rloadB
    rw [blockAt_in n hin.1 hin.2, if_neg (fun h => h rfl)]
  · unfold loadB rloadB
    rw [blockAt_out n hin, if_pos (by decide), if_pos (by decide)]

theorem rg5 : RG rd5 := ⟨rfl, by decide, by decide, fun j => ratK_size _ (fun x hx => by
  have hx' : x ∈ [(⟨0, 0, sb0, true⟩ : RW)] := hx
  rw [List.mem_singleton.1 hx']
  exact sb0_size) j _⟩
theorem rgW (a : Int) (data : ByteArray) (h : data.size = 128) : RG (rwN rd5 1 a data 2) := by
  refine ⟨rfl, ?_, ?_, fun j => ratK_size _ (rwN_all rd5 1 a data (fun x hx => by
    have hx' : x ∈ [(⟨0, 0, sb0, true⟩ : RW)] := hx
    rw [List.mem_singleton.1 hx']
    exact sb0_size) 2 (by omega)) j _⟩
  · rw [rwN_len]; decide
  · rw [rwN_len]; decide

theorem tab9 (k : Nat) (hk : k < 17) : ((List.replicate 17 (0 : Int)).set 1 9).getD k 0 = if k = 1 then 9 else 0 := by
  have : ∀ k : Fin 17, ((List.replicate 17 (0 : Int)).set 1 9).getD k.1 0 = if k.1 = 1 then 9 else 0 := by decide
  exact this ⟨k, hk⟩
theorem rmay9 : rmayE rd5 1 9 = 0 := by decide
theorem rmay_other (node epoch : Int) (h : ¬ (node = 1 ∧ epoch = 9)) : rmayE rd5 node epoch ≠ 0 := by
  unfold rmayE
  by_cases hb : inB node 0 16 = false
  · rw [if_pos hb]; decide
  · rw [if_neg hb]
    have hb' := inB_iff.1 (by simpa using hb)
    have ht : rd5.table.getD node.toNat 0 = if node.toNat = 1 then 9 else 0 := tab9 node.toNat (by omega)
    rw [ht]
    unfold admE
    by_cases h0 : epoch = 0
    · rw [if_pos h0]; decide
    · rw [if_neg h0]
      by_cases h1 : node.toNat = 1
      · rw [if_pos h1, if_neg (fun e => h ⟨by omega, e.symm⟩)]; decide
      · rw [if_neg h1, if_neg (fun e => h0 e.symm)]; decide
theorem admE_34 (t e : Int) (h : admE t e ≠ 0) : admE t e = 34 := by
  unfold admE at h ⊢
  by_cases h0 : e = 0
  · rw [if_pos h0]
  · rw [if_neg h0] at h ⊢
    by_cases h1 : t = e
    · rw [if_pos h1] at h
      exact absurd rfl h
    · rw [if_neg h1]
theorem write_other (node epoch a : Int) (data : ByteArray) (hs : data.size = 128) (h : rmayE rd5 node epoch ≠ 0) : writeR dk9 node epoch a data = (rmayE rd5 node epoch, dk9) := by
  have hon : dk9.on = true := (dk9_lv 0).on
  have ht : dk9.table = rd5.table := by rw [dk9_table]; rfl
  have hgd : goodB data = true := goodB_size 2 (by omega) (by decide) (by decide)
  unfold writeR
  rw [hon]
  unfold rmayE at h ⊢
  by_cases hb : inB node 0 16 = false
  · have hm : mayE true node = 1 := by
      unfold mayE
      rw [if_neg (by decide)]
      by_cases h0 : node < 0
      · rw [if_pos h0]
      · rw [if_neg h0]
        by_cases h1 : 16 < node
        · rw [if_pos h1]
        · exact absurd (inB_iff.2 ⟨(by omega : 0 ≤ node), (by omega : node ≤ 16)⟩ : inB node 0 16 = true) (by rw [hb]; decide)
    rw [if_pos hb, hm, if_pos (by decide)]
  · have hb' := inB_iff.1 (show inB node 0 16 = true by simpa using hb)
    rw [if_neg hb] at h ⊢
    rw [mayE_in node hb'.1 hb'.2, hgd, ht, admE_34 _ _ h]
    simp

/-- What Store does to both disks. -/
theorem store_both (node epoch : Int) (i : Im) (hv : i.v < 18446744073709551616) (hl : i.d.length ≤ 1000) :
    ∃ c D' R', storeB dk9 node epoch i = (c, D') ∧ RG R' ∧ (∀ n, loadB D' n = rloadB R' n) ∧
      ∀ (Q : Nat → Prop) (p : Nat) (wx : World), RQ Q p rd5 wx → (∀ k, wx.heap.size ≤ k → Q k) →
        Calls Tryz.prog 10 #[.pointer (some ⟨p, 0, none⟩), .agg #[.int .i64 2, .int .i64 10, .int .i64 8, .int .i64 4, .int .i64 32], .int .i64 node, .int .u64 epoch, i.val] wx (AnsRQ Q p R' wx (.int .i64 c)) := by
  by_cases hin : 0 ≤ i.b ∧ i.b < 10
  · by_cases hok : i.ok = true
    · by_cases hne : node = 1 ∧ epoch = 9
      · obtain ⟨rfl, rfl⟩ := hne
        have hsz : (str i.bytes).size = 128 := by rw [str_size, Im.bytes_length i hok]
        refine ⟨0, _, _, storeB_ok (dk9_lv 1) dk9_sectors (by decide) (by decide) 9 (by decide) (by rw [dk9_table]; rfl) i hok hin.2, rgW (17 + 2 * i.b) (str i.bytes) hsz, fun n => ?_, fun Q p wx hx hQ => rstore_ok hx rg5 i hv hok hin.2 rmay9 hQ⟩
        exact load_both (agree9.wrN 1 _ _ 2) ((dk9_lv 1).wrN _ _ _).on (by rw [wrN_sectors, dk9_sectors]) n
      · have hm := rmay_other node epoch hne
        have hsz : (str i.bytes).size = 128 := by rw [str_size, Im.bytes_length i hok]
        have hc : rstoreC rd5 node epoch i = rmayE rd5 node epoch := by
          unfold rstoreC
          rw [blockAt_in i.b hin.1 hin.2, if_neg (fun h => h rfl), if_neg (by rw [hok]; decide)]
        refine ⟨rmayE rd5 node epoch, dk9, rd5, ?_, rg5, load_both agree9 (dk9_lv 0).on dk9_sectors, fun Q p wx hx hQ => ?_⟩
        · unfold storeB
          rw [blockAt_in i.b hin.1 hin.2, if_neg (fun h => h rfl), if_neg (by rw [hok]; decide)]
          exact write_other node epoch _ _ hsz hm
        · refine (rstore_no hx node epoch i hv hl (by rw [hc]; exact hm)).mono ?_
          rintro e w' ⟨rfl, hb⟩
          rw [hc]
          exact ⟨rfl, hx.below hb, Grow.of_below hb⟩
    · have hok' : i.ok = false := by simpa using hok
      have hc : rstoreC rd5 node epoch i = 1 := by
        unfold rstoreC
        rw [blockAt_in i.b hin.1 hin.2, if_neg (fun h => h rfl), if_pos hok']
      refine ⟨1, dk9, rd5, ?_, rg5, load_both agree9 (dk9_lv 0).on dk9_sectors, fun Q p wx hx hQ => ?_⟩
      · unfold storeB
        rw [blockAt_in i.b hin.1 hin.2, if_neg (fun h => h rfl), if_pos hok']
      · refine (rstore_no hx node epoch i hv hl (by rw [hc]; decide)).mono ?_
        rintro e w' ⟨rfl, hb⟩
        rw [hc]
        exact ⟨rfl, hx.below hb, Grow.of_below hb⟩
  · have hc : rstoreC rd5 node epoch i = 30 := by
      unfold rstoreC
      rw [blockAt_out i.b hin, if_pos (by decide)]
    refine ⟨30, dk9, rd5, ?_, rg5, load_both agree9 (dk9_lv 0).on dk9_sectors, fun Q p wx hx hQ => ?_⟩
    · unfold storeB
      rw [blockAt_out i.b hin, if_pos (by decide)]
    · refine (rstore_no hx node epoch i hv hl (by rw [hc]; decide)).mono ?_
      rintro e w' ⟨rfl, hb⟩
      rw [hc]
      exact ⟨rfl, hx.below hb, Grow.of_below hb⟩

end Go.Proofs.YtkgdpmeheakdcaaGreat
