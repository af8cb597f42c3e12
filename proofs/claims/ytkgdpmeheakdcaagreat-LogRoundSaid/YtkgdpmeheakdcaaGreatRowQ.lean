/- A row of bytes that a conversion of a string made (its end bears a mark), and 'append' onto it. -/
import Derived.Test.YtkgdpmeheakdcaaGreatBLS
import Derived.Laws.CopyRow
namespace Go.Proofs.YtkgdpmeheakdcaaGreat
open Go.RowKit
set_option linter.all false
set_option maxRecDepth 100000

/-- Cells are stored into a row whose marked range lies behind it. -/
theorem run_storeCells_behind (P : Program) (g o : Nat) (t : TypeId) (fz : Nat × Nat) : ∀ (vs : List Value) (i : Nat) (cur : Array Value) (w : World), w.heap[g]? = some (.cells cur t fz) → cur.size ≤ fz.1 → o + i + vs.length ≤ cur.size → (∀ v ∈ vs, v.oneCell' = true) →
    (storeCells ⟨g, o, none⟩ vs i).run P w = .ok () (w.setRow g (cur.toList.take (o + i) ++ vs ++ cur.toList.drop (o + i + vs.length)).toArray)
  | [], i, cur, w, hg, _, _, _ => by
    simp only [storeCells, List.append_nil, List.length_nil, Nat.add_zero, List.take_append_drop, Array.toArray_toList]
    rw [setRow_self w g cur t fz hg]
    rfl
  | v :: rest, i, cur, w, hg, hfz, hl, h1 => by
    have hi : o + i < cur.size := by simp at hl; omega
    have hadd : (⟨g, o, none⟩ : Addr).add i = ⟨g, o + i, none⟩ := by unfold Addr.add; split <;> simp_all
    have hcell : w.cell? ⟨g, o + i, none⟩ = some cur[o + i] := by simp [World.cell?, hg, hi]
    have hfro : w.frozen? ⟨g, o + i, none⟩ = false := by
      obtain ⟨lo, hi'⟩ := fz
      simp only [World.frozen?, hg, Bool.and_eq_false_iff, decide_eq_false_iff_not]
      left
      simp only at hfz
      omega
    have hst : (store ((⟨g, o, none⟩ : Addr).add i) v).run P w = .ok () (w.setRow g (cur.setIfInBounds (o + i) v)) := by
      rw [hadd, run_store P w _ v _ (h1 v (by simp)), hcell]
      simp [hfro, setCell_eq_setRow w g (o + i) cur t fz v hg]
    have ih := run_storeCells_behind P g o t fz rest (i + 1) (cur.setIfInBounds (o + i) v) (w.setRow g (cur.setIfInBounds (o + i) v)) (setRow_heap w g cur _ t _ hg) (by simpa using hfz) (by simp at hl ⊢; omega) (fun x hx => h1 x (by simp [hx]))
    simp only [storeCells, Sem.run_bind, hst, Result.andThen_ok, ih, setRow_setRow]
    congr 3
    have e := list_seg_step cur.toList (o + i) v rest (by simp at hl ⊢; omega)
    simpa [Array.toList_setIfInBounds, Nat.add_assoc] using e

/-- A row of bytes of the call's own, marked behind its end or not. -/
def rowQ (w : World) (v : Value) (n : Nat) (xs : List Value) : Prop :=
  xs.length = n ∧ ((v = .slice none 0 0 ∧ n = 0) ∨ ∃ g cap cur fz, v = .slice (some ⟨g, 0, none⟩) n cap ∧ w.heap[g]? = some (.cells cur 5 fz) ∧ (fz = (0, 0) ∨ cur.size ≤ fz.1) ∧ n ≤ cap ∧ cap ≤ maxLen ∧ cur.size = cap ∧ cur.toList.take n = xs)

theorem rowQ.of_owns {w : World} {base : Nat} {v : Value} {n : Nat} {xs : List Value} (h : w.ownsRow base 5 1 v n xs) : rowQ w v n xs := by
  refine ⟨by rw [h.1, Nat.mul_one], ?_⟩
  rcases h.2 with hn | ⟨g, cap, cur, rfl, _, hg, h1, h2, h3, h4⟩
  · exact .inl hn
  · exact .inr ⟨g, cap, cur, (0, 0), rfl, hg, .inl rfl, h1, h2, by rw [h3, Nat.mul_one], by rw [← h4, Nat.mul_one]⟩
theorem rowQ.of_same {w w' : World} {v : Value} {n : Nat} {xs : List Value} (h : rowQ w v n xs) (hs : ∀ g, v.ownBlock = some g → w'.heap[g]? = w.heap[g]?) : rowQ w' v n xs := by
  refine ⟨h.1, ?_⟩
  rcases h.2 with hn | ⟨g, cap, cur, fz, rfl, hg, rest⟩
  · exact .inl hn
  · exact .inr ⟨g, cap, cur, fz, rfl, by rw [hs g rfl]; exact hg, rest⟩
theorem rowQ.olt {w : World} {v : Value} {n : Nat} {xs : List Value} (h : rowQ w v n xs) {k : Nat} (hk : v.ownBlock = some k) : k < w.heap.size := by
  rcases h.2 with ⟨rfl, _⟩ | ⟨g, cap, cur, fz, rfl, hg, _⟩
  · cases hk
  · cases hk
    exact (Array.getElem?_eq_some_iff.1 hg).1
theorem rowQ.cells {w : World} {v : Value} {n : Nat} {xs : List Value} (h : rowQ w v n xs) {g : Nat} (hg : v.ownBlock = some g) : ∀ j u, xs[j]? = some u → w.cell? ((⟨g, 0, none⟩ : Addr).add j) = some u := by
  intro j u hu
  rcases h.2 with ⟨rfl, _⟩ | ⟨g', cap, cur, fz, rfl, hgg, _, _, _, _, htake⟩
  · cases hg
  · cases hg
    have hadd : (⟨g', 0, none⟩ : Addr).add j = ⟨g', j, none⟩ := by unfold Addr.add; split <;> simp_all
    rw [hadd, cell_of_row w g' j cur 5 fz hgg]
    rw [← htake, List.getElem?_take] at hu
    split at hu
    · simpa using hu
    · cases hu


theorem rowQ.owns {w : World} {v : Value} {n g cap : Nat} {xs : List Value} {cur : Array Value} (hl : xs.length = n) (hv : v = .slice (some ⟨g, 0, none⟩) n cap) (hg : w.heap[g]? = some (.cells cur 5 (0, 0))) (h1 : n ≤ cap) (h2 : cap ≤ maxLen) (h3 : cur.size = cap) (h4 : cur.toList.take n = xs) : w.ownsRow 0 5 1 v n xs :=
  ⟨by rw [hl, Nat.mul_one], .inr ⟨g, cap, cur, hv, Nat.zero_le _, hg, h1, h2, by rw [h3, Nat.mul_one], by rw [Nat.mul_one]; exact h4⟩⟩

theorem run_append_Q (w : World) (ty : TypeId) (v : Value) (n : Nat) (xs : List Value) (hq : rowQ w v n xs)
    (ad : Addr) (m c : Nat) (news : List Value) (hl : news.length = m) (hnews : ∀ j u, news[j]? = some u → w.cell? (ad.add j) = some u) (h1 : ∀ u ∈ news, u.oneCell' = true)
    (hm : 0 < m) (hs : n + m ≤ 1000000) :
    ∃ g cap w', (Builtin.append_ #[95, 95] ty #[v, .slice (some ad) m c]).run Tryz.prog w = .ok (.slice (some ⟨g, 0, none⟩) (n + m) cap) w' ∧
      rowQ w' (.slice (some ⟨g, 0, none⟩) (n + m) cap) (n + m) (xs ++ news) ∧ w.grownBy w' v.ownBlock ∧ (v.ownBlock = some g ∨ g = w.heap.size) ∧ g < w'.heap.size := by
  obtain ⟨i0, hi, hz0, hz1, hz2⟩ := info_parts infoBy
  have hml : maxLen = 9223372036854775807 ∨ True := .inr trivial
  have own : w.ownsRow 0 5 1 v n xs → ∃ g cap w', (Builtin.append_ #[95, 95] ty #[v, .slice (some ad) m c]).run Tryz.prog w = .ok (.slice (some ⟨g, 0, none⟩) (n + m) cap) w' ∧
      rowQ w' (.slice (some ⟨g, 0, none⟩) (n + m) cap) (n + m) (xs ++ news) ∧ w.grownBy w' v.ownBlock ∧ (v.ownBlock = some g ∨ g = w.heap.size) ∧ g < w'.heap.size := by
    intro ho
    obtain ⟨g, cap, w', hr, h2, h3, h4, h5⟩ := run_append_lies (P := Tryz.prog) w 95 ty 0 5 i0 _ 1 1 Tryz.underlying95 hi hz0 hz1 hz2 rfl (by decide) v n xs ho ad m c news (by rw [hl, Nat.mul_one]) hnews h1 hm (by unfold maxLen; omega) (by omega) (Nat.zero_le _) w.heap.size rfl
    exact ⟨g, cap, w', hr, rowQ.of_owns h2, h3, h4, h5⟩
  rcases hq.2 with ⟨rfl, rfl⟩ | ⟨g, cap, cur, fz, rfl, hg, hfz, hnc, hcm, hcs, htake⟩
  · exact own ⟨by rw [hq.1], .inl ⟨rfl, rfl⟩⟩
  · rcases hfz with rfl | hfz
    · exact own (rowQ.owns hq.1 rfl hg hnc hcm hcs htake)
    · by_cases hroom : n + m ≤ cap
      · have hfit : n + news.length ≤ cur.size := by rw [hl, hcs]; exact hroom
        have hf := run_firstCells_some (P := Tryz.prog) w i0.size m ad m c news (by rw [hl, hz1, Nat.mul_one]) hnews
        have hst := run_storeCells_behind Tryz.prog g (n * i0.size) 5 fz news 0 cur w hg hfz (by rw [hz1]; simpa using hfit) h1
        simp only [Nat.add_zero] at hst
        have hr : (Builtin.append_ #[95, 95] ty #[.slice (some ⟨g, 0, none⟩) n cap, .slice (some ad) m c]).run Tryz.prog w =
            .ok (.slice (some ⟨g, 0, none⟩) (n + m) cap) (w.setRow g (cur.toList.take (n * i0.size) ++ news ++ cur.toList.drop (n * i0.size + news.length)).toArray) := by
          simp [Builtin.append_, run_underlying Tryz.underlying95, sizeOf, typeInfo, hi, Builtin.lenOf, hroom, hf, Addr.add_lit, hst]
        rw [hz1, Nat.mul_one] at hr
        have hcl : cur.toList.length = cap := by rw [Array.length_toList]; exact hcs
        refine ⟨g, cap, _, hr, ⟨by rw [List.length_append, hq.1, hl], .inr ⟨g, cap, _, fz, rfl, setRow_heap w g cur _ 5 fz hg, .inr ?_, hroom, hcm, ?_, ?_⟩⟩, ⟨rfl, rfl, rfl, by simp, fun k _ hk => setRow_other w g k _ (fun e => hk (by simp [Value.ownBlock, e]))⟩, .inl rfl, ?_⟩
        · simp only [List.size_toArray, List.length_append, List.length_take, List.length_drop, hcl]
          omega
        · simp only [List.size_toArray, List.length_append, List.length_take, List.length_drop, hcl]
          omega
        · rw [htake]
          have : (xs ++ news).length = n + m := by rw [List.length_append, hq.1, hl]
          rw [← this]
          exact List.take_left
        · exact (Array.getElem?_eq_some_iff.1 (setRow_heap w g cur _ 5 fz hg)).1
      · have holds := hq.cells (g := g) rfl
        have hr := run_append_grow (P := Tryz.prog) w 95 ty 5 i0 _ Tryz.underlying95 hi hz0 ⟨g, 0, none⟩ n cap xs (by rw [hq.1, hz1, Nat.mul_one]) holds ad m c news (by rw [hl, hz1, Nat.mul_one]) hnews (by omega) (by omega) (growslice_fits (by omega) (by rw [hz2]; omega))
        have hge := grownCap_ge w (n + m) cap 5
        have hcm2 : grownCap w (n + m) cap 5 ≤ maxLen := grownCap_le_maxLen w (n + m) cap 5 (by unfold maxLen; omega)
        have hzc := size_zeroCells (Value.cells (.int .u8 0)) (grownCap w (n + m) cap 5 - (n + m))
        refine ⟨w.heap.size, _, _, hr, ⟨by rw [List.length_append, hq.1, hl], .inr ⟨w.heap.size, _, _, (0, 0), rfl, heap_alloc_new w.drew _, .inl rfl, hge, hcm2, ?_, ?_⟩⟩, ⟨rfl, rfl, rfl, by simp, fun k hk _ => heap_alloc_old w.drew _ hk⟩, .inr rfl, by simp⟩
        · rw [Array.size_append, Array.size_append, hzc, List.size_toArray, List.size_toArray, hq.1, hl]
          have : (Value.cells (.int .u8 0)).size = 1 := rfl
          rw [this]
          omega
        · simp only [Array.toList_append, List.append_assoc]
          rw [← List.append_assoc]
          have : (xs ++ news).length = n + m := by rw [List.length_append, hq.1, hl]
          rw [← this]
          exact List.take_left

/-- For the walk. -/
theorem wpList_append_Q {w : World} {ops : Array Oper} {rest : List Oper} {o : Oper} {a : Act} {Q : Exit → Act → World → Prop} (hgd : o.guard = none) (s x : Operand)
    (ho : o.op = .call { callee := .builtin .append, args := #[s, x], argTypes := #[95, 95] })
    (v : Value) (n : Nat) (xs : List Value) (hsv : a.eval s = v) (hq : rowQ w v n xs)
    (ad : Addr) (m c : Nat) (news : List Value) (hx : a.eval x = .slice (some ad) m c) (hl : news.length = m) (hnews : ∀ j u, news[j]? = some u → w.cell? (ad.add j) = some u) (h1 : ∀ u ∈ news, u.oneCell' = true)
    (hm : 0 < m) (hs : n + m ≤ 1000000)
    (h : ∀ g cap w', rowQ w' (.slice (some ⟨g, 0, none⟩) (n + m) cap) (n + m) (xs ++ news) → w.grownBy w' v.ownBlock → (v.ownBlock = some g ∨ g = w.heap.size) → g < w'.heap.size → wpList Tryz.prog ops Q rest (a.put o.dst (.slice (some ⟨g, 0, none⟩) (n + m) cap)) w') :
    wpList Tryz.prog ops Q (o :: rest) a w := by
  refine wpList_plain hgd fun K hK => ?_
  obtain ⟨g, cap, w', hr, h2, h3, h4, h5⟩ := run_append_Q w o.type v n xs hq ad m c news hl hnews h1 hm hs
  unfold Oper.wp execOp
  simp only [ho, resolve, invoke, builtin, Sem.run_bind, Sem.run_pure, Result.andThen_ok, List.map_toArray, List.map_cons, List.map_nil, hsv, hx, hr]
  exact hK _ _ (h g cap w' h2 h3 h4 h5)

/-- The row that a conversion of a string makes. -/
theorem rowQ_bytes (w : World) (s : List UInt8) (hs : s.length ≤ 100000) : rowQ (Lib.bytesWorld w 5 (str s)) (.slice (some ⟨w.heap.size, 0, none⟩) s.length (grownCap w s.length 0 5)) s.length (byCells s) := by
  have hsz : (str s).size = s.length := str_size s
  refine ⟨byCells_length s, .inr ⟨w.heap.size, _, _, _, rfl, Lib.bytesWorld_at_new w _ _, .inr (Nat.le_refl _), grownCap_ge w _ _ _, grownCap_le_maxLen w _ _ _ (by unfold maxLen; omega), ?_, ?_⟩⟩
  · unfold Lib.bytesCells
    rw [Array.size_append, Array.size_map, Array.size_replicate, hsz]
    have h1 := grownCap_ge w s.length 0 5
    have h2 : (str s).data.size = s.length := hsz
    omega
  · unfold Lib.bytesCells
    rw [Array.toList_append, Array.toList_map]
    have h2 : (List.map (fun b : UInt8 => Value.int .u8 (b.toNat : Int)) (str s).data.toList) = byCells s := rfl
    rw [h2]
    exact List.take_left' (byCells_length s)

end Go.Proofs.YtkgdpmeheakdcaaGreat
