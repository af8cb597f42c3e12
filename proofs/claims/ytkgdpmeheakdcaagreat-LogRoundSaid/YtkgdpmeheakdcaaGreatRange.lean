/- 'range' over a map keyed by int, its step and its entry: laws at the operations. -/
import Derived.Test.YtkgdpmeheakdcaaGreatSettle
import Derived.Maps.RangeRun
import Derived.Maps.RangeWalk
namespace Go.Proofs.YtkgdpmeheakdcaaGreat
open Go.RowKit Go.MapKept
open Go.ChangeMaps (setBlock)
set_option linter.all false
set_option maxRecDepth 100000

section
variable {P : Program} {w : World} {ops : Array Oper} {Q : Exit → Act → World → Prop} {rest : List Oper} {o : Oper} {a : Act}

theorem wpList_range_f (hg : o.guard = none) (m : Operand) (t : TypeId) (hop : o.op = .range t m) (K E : TypeId) (ht : P.underlying t = some (.map K E)) (mb : Nat) (es : Array MapEntry) (clock : Nat) (hm : a.eval m = .map (some mb))
    (hb : w.heap[mb]? = some (.map es clock)) (hW : wpList P ops Q rest (a.put o.dst (.pointer (some ⟨w.heap.size, 0, none⟩))) (w.alloc (.mapIter (some mb) clock #[] clock))) : wpList P ops Q (o :: rest) a w := by
  refine wpList_plain hg fun K' hK' => ?_
  have hrun : (Instr.range t (.map (some mb))).run P w = .ok (.pointer (some ⟨w.heap.size, 0, none⟩)) (w.alloc (.mapIter (some mb) clock #[] clock)) := by
    simp [Instr.range, run_underlying ht, Go.MapKept.run_getObj_map hb, Result.andThen]
  unfold Oper.wp
  simp [execOp, hop, hm, hrun, Result.andThen]
  exact hK' _ _ hW

theorem wpList_next_f (hg : o.guard = none) (it : Operand) (hop : o.op = .next it false) (r mb : Nat) (es : Array MapEntry) (clock : Nat) (seen : Array Nat) (hit : a.eval it = .pointer (some ⟨r, 0, none⟩))
    (hr : w.heap[r]? = some (.mapIter (some mb) clock seen clock)) (hb : w.heap[mb]? = some (.map es clock)) (hs : Stamped es clock)
    (hDone : (leftOf es seen).size = 0 → wpList P ops Q rest (a.put o.dst (.tuple #[.bool false])) w)
    (hMore : ∀ e w', e ∈ (leftOf es seen).toList → w'.heap[r]? = some (.mapIter (some mb) clock (seen.push e.born) clock) → w.grownBy w' (some r) → w'.heap.size = w.heap.size →
      (Instr.entry (.pointer (some ⟨r, 0, none⟩))).run P w' = .ok (.tuple #[e.key, e.val]) w' → wpList P ops Q rest (a.put o.dst (.tuple #[.bool true, e.key, e.val])) w') : wpList P ops Q (o :: rest) a w := by
  refine wpList_plain hg fun K' hK' => ?_
  have hne : mb ≠ r := by
    rintro rfl
    rw [hr] at hb
    cases hb
  unfold Oper.wp
  rcases run_next_at (P := P) w o.type r mb clock clock seen es clock hr hb ((stamped_iff es clock).1 hs).1 (Nat.le_refl _) with ⟨h0, hrun⟩ | ⟨e, he, w1, hw1, hrun⟩
  · simp [execOp, hop, hit, hrun, Result.andThen]
    exact hK' _ _ (hDone h0)
  · simp [execOp, hop, hit, hrun, Result.andThen]
    have hh : w1.heap = w.heap := by rcases hw1 with rfl | rfl <;> rfl
    have h1 : (setBlock w1 r (.mapIter (some mb) clock (seen.push e.born) clock)).heap = w.heap.setIfInBounds r (.mapIter (some mb) clock (seen.push e.born) clock) := by
      show w1.heap.setIfInBounds _ _ = _
      rw [hh]
    have hr' : (setBlock w1 r (.mapIter (some mb) clock (seen.push e.born) clock)).heap[r]? = some (.mapIter (some mb) clock (seen.push e.born) clock) := by
      rw [h1]; exact (heap_set hr).1
    have hb' : (setBlock w1 r (.mapIter (some mb) clock (seen.push e.born) clock)).heap[mb]? = some (.map es clock) := by
      rw [h1, (heap_set hr).2 mb hne]; exact hb
    refine hK' _ _ (hMore e _ he hr' ⟨?_, ?_, ?_, ?_, fun k hk hn => ?_⟩ ?_ (run_entry_at _ r mb clock seen es clock e hr' hb' ?_ ((stamped_iff es clock).1 hs).2.1))
    · rcases hw1 with rfl | rfl <;> rfl
    · rcases hw1 with rfl | rfl <;> rfl
    · rcases hw1 with rfl | rfl <;> rfl
    · rw [h1]; simp
    · rw [h1]; exact (heap_set hr).2 k (fun e => hn (by rw [e]))
    · rw [h1]; simp
    · simp [leftOf] at he ⊢
      exact he.1
end

/-- What the new map holds when the entries whose stamps are in 'seen' have come. -/
noncomputable def partNow (L : Int → Option Wr) (es : Array MapEntry) (seen : Array Nat) : Int → Option ByteArray :=
  fun j => open Classical in if ∃ x ∈ es.toList, x.key = .int .i64 j ∧ seen.contains x.born = true then (L j).map (·.data) else none

theorem partNow_nil (L : Int → Option Wr) (es : Array MapEntry) : partNow L es #[] = fun _ => none := by
  funext j
  unfold partNow
  rw [if_neg]
  rintro ⟨x, _, _, h⟩
  simp at h

theorem partNow_end {L : Int → Option Wr} {es : Array MapEntry} {seen : Array Nat} (hf : ∀ k v, lastV L k = some v ↔ ∃ x ∈ es.toList, x.key = .int .i64 k ∧ x.val = v) (h0 : (leftOf es seen).size = 0) : partNow L es seen = fun j => (L j).map (·.data) := by
  funext j
  unfold partNow
  have hall : ∀ x ∈ es.toList, seen.contains x.born = true := by
    intro x hx
    have he : leftOf es seen = #[] := Array.eq_empty_of_size_eq_zero h0
    unfold leftOf at he
    rw [Array.filter_eq_empty_iff] at he
    simpa using he x (by simpa using hx)
  cases hL : L j with
  | none => simp
  | some y =>
    rw [if_pos]
    obtain ⟨x, hx, hk, _⟩ := (hf j _).1 (show lastV L j = some (.agg y.cells.toArray) by simp [lastV, hL])
    exact ⟨x, hx, hk, hall x hx⟩

theorem partNow_step {L : Int → Option Wr} {es : Array MapEntry} {clock : Nat} (hs : Stamped es clock) {seen : Array Nat} {e : MapEntry} (he : e ∈ es.toList) {k : Int} (hk : e.key = .int .i64 k) {y : Wr} (hL : L k = some y) :
    partNow L es (seen.push e.born) = fun j => if j = k then some y.data else partNow L es seen j := by
  have h := (stamped_iff es clock).1 hs
  funext j
  by_cases hj : j = k
  · subst hj
    simp only [if_true]
    unfold partNow
    rw [if_pos ⟨e, he, hk, by simp⟩, hL]
    rfl
  · simp only [if_neg hj]
    unfold partNow
    congr 1
    apply propext
    constructor
    · rintro ⟨x, hx, hxk, hc⟩
      refine ⟨x, hx, hxk, ?_⟩
      simp only [Array.contains_push, Bool.or_eq_true, beq_iff_eq] at hc
      rcases hc with hc | hc
      · exact hc
      · exfalso
        have : x = e := by
          obtain ⟨i, hi⟩ := List.mem_iff_getElem?.1 hx
          obtain ⟨i', hi'⟩ := List.mem_iff_getElem?.1 he
          obtain ⟨l1, e1⟩ := List.getElem?_eq_some_iff.1 hi
          obtain ⟨l2, e2⟩ := List.getElem?_eq_some_iff.1 hi'
          have hpw := List.pairwise_iff_getElem.1 h.2.1
          rcases Nat.lt_trichotomy i i' with hl | hl | hl
          · exact absurd (by rw [List.getElem_map, List.getElem_map, e1, e2]; exact hc) (hpw i i' (by simpa using l1) (by simpa using l2) hl)
          · subst hl
            exact e1.symm.trans e2
          · exact absurd (by rw [List.getElem_map, List.getElem_map, e1, e2]; exact hc.symm) (hpw i' i (by simpa using l2) (by simpa using l1) hl)
        subst this
        rw [hk] at hxk
        simp at hxk
        exact hj hxk.symm
    · rintro ⟨x, hx, hxk, hc⟩
      exact ⟨x, hx, hxk, by simp at hc ⊢; exact .inl hc⟩

theorem leftOf_push {es : Array MapEntry} {seen : Array Nat} {e : MapEntry} (he : e ∈ (leftOf es seen).toList) : (leftOf es (seen.push e.born)).size < (leftOf es seen).size := by
  have h1 : leftOf es (seen.push e.born) = (leftOf es seen).filter (fun x => !(x.born == e.born)) := by
    unfold leftOf
    rw [Array.filter_filter]
    congr 1
    funext x
    simp only [Array.contains_push, Bool.not_or]
    rw [Bool.and_comm]
  rw [h1]
  have h2 : ((leftOf es seen).filter (fun x => !(x.born == e.born))).size = ((leftOf es seen).toList.filter (fun x => !(x.born == e.born))).length := by
    rw [← Array.toList_filter, Array.length_toList]
  rw [h2, ← Array.length_toList]
  exact List.length_filter_lt_length_iff_exists.2 ⟨e, he, by simp⟩

end Go.Proofs.YtkgdpmeheakdcaaGreat
