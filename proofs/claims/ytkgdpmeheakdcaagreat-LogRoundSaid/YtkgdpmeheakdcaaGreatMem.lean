/- Maps keyed by int, read as functions; what a run does to them. No walk. -/
import Derived.Test.YtkgdpmeheakdcaaGreatBase
import Derived.MapKept
import Derived.Maps.AppendAt
namespace Go.Proofs.YtkgdpmeheakdcaaGreat
open Go.RowKit Go.MapKept
set_option linter.all false

/-- Block m is a map keyed by int that reads as f. -/
def MapAt (w : World) (m : Nat) (f : Int → Option Value) : Prop :=
  ∃ es clock, w.heap[m]? = some (.map es clock) ∧ Stamped es clock ∧ (∀ x ∈ es.toList, IsKey (.int .i64) x.key) ∧
    ∀ k v, f k = some v ↔ ∃ x ∈ es.toList, x.key = .int .i64 k ∧ x.val = v

theorem isKey_int (k : Int) : IsKey (.int .i64) (.int .i64 k) := rfl
theorem isKey_inv {v : Value} (h : IsKey (.int .i64) v) : ∃ k, v = .int .i64 k := by
  cases v <;> simp_all [IsKey]

theorem MapAt.lt {w : World} {m : Nat} {f : Int → Option Value} (h : MapAt w m f) : m < w.heap.size := by
  obtain ⟨es, clock, hb, _⟩ := h
  exact (Array.getElem?_eq_some_iff.1 hb).1
theorem MapAt.of_same {w w' : World} {m : Nat} {f : Int → Option Value} (h : MapAt w m f) (hs : w'.heap[m]? = w.heap[m]?) : MapAt w' m f := by
  obtain ⟨es, clock, hb, r⟩ := h
  exact ⟨es, clock, by rw [hs]; exact hb, r⟩
theorem MapAt.made (w w' : World) {m : Nat} (h : w'.heap[m]? = some (.map #[] 0)) : MapAt w' m (fun _ => none) :=
  ⟨#[], 0, h, stamped_empty 0, by simp, by simp⟩

/-- What a look-up gives. -/
def lookV (ok : Bool) (z : Value) (o : Option Value) : Value := if ok then .tuple #[o.getD z, .bool o.isSome] else o.getD z

section
variable {P : Program} {w : World} {t K E : TypeId} {m : Nat} {f : Int → Option Value}

theorem MapAt.lookup (h : MapAt w m f) (ht : P.underlying t = some (.map K E)) (hK : P.underlying K = some (.int .i64)) {z : Value} (hz : (zeroValue E).run P w = .ok z w) (k : Int) (ok : Bool) :
    (Instr.lookup t (.map (some m)) (.int .i64 k) ok).run P w = .ok (lookV ok z (f k)) w := by
  obtain ⟨es, clock, hb, hs, hks, hf⟩ := h
  rcases findNow_spec (isKey_int k) es.toList 0 hks with ⟨h1, h2⟩ | ⟨j, e, h1, h2, h3⟩
  · have hn : f k = none := by
      cases hfk : f k with
      | none => rfl
      | some v => obtain ⟨x, hx, hxk, _⟩ := (hf k v).1 hfk; exact absurd hxk (h2 x hx)
    simp [Instr.lookup, run_underlying ht, Go.MapKept.run_getObj_map hb, Go.MapKept.run_checkKey hK (isKey_int k), Go.MapKept.run_findKey hK h1, hz, Result.andThen, lookV, hn]
  · have hn : f k = some e.val := (hf k e.val).2 ⟨e, List.mem_of_getElem? h2, h3, rfl⟩
    simp [Instr.lookup, run_underlying ht, Go.MapKept.run_getObj_map hb, Go.MapKept.run_checkKey hK (isKey_int k), Go.MapKept.run_findKey hK h1, Result.andThen, lookV, hn]

theorem MapAt.update (h : MapAt w m f) (ht : P.underlying t = some (.map K E)) (hK : P.underlying K = some (.int .i64)) (k : Int) (v : Value) :
    ∃ w', (Instr.mapUpdate t (.map (some m)) (.int .i64 k) v).run P w = .ok () w' ∧ MapAt w' m (fun j => if j = k then some v else f j) ∧ w.grownBy w' (some m) ∧ w'.heap.size = w.heap.size := by
  obtain ⟨es, clock, hb, hs, hks, hf⟩ := h
  rcases findNow_spec (isKey_int k) es.toList 0 hks with ⟨h1, h2⟩ | ⟨j, e, h1, h2, h3⟩
  · refine ⟨{ w with heap := w.heap.setIfInBounds m (.map (es.push { key := .int .i64 k, val := v, born := clock }) (clock + 1)) }, ?_, ?_, ⟨rfl, rfl, rfl, by simp, fun x _ hx => (heap_set hb).2 x (fun e => hx (by rw [e]))⟩, by simp⟩
    · simp [Instr.mapUpdate, run_underlying ht, Go.MapKept.run_getObj_map hb, Go.MapKept.run_checkKey hK (isKey_int k), Go.MapKept.run_findKey hK h1, Go.MapKept.run_setObj_map _ hb, Result.andThen]
    · refine ⟨_, _, (heap_set hb).1, stamped_push hs h2, ?_, ?_⟩
      · intro x hx
        simp at hx
        rcases hx with hx | rfl
        · exact hks x (by simpa using hx)
        · rfl
      · intro j u
        by_cases hj : j = k
        · subst hj
          simp only [if_true]
          constructor
          · intro hu
            exact ⟨{ key := .int .i64 j, val := v, born := clock }, by simp, rfl, by simpa using hu⟩
          · rintro ⟨x, hx, hxk, hxv⟩
            simp at hx
            rcases hx with hx | rfl
            · exact absurd hxk (h2 x (by simpa using hx))
            · simpa using hxv
        · simp only [if_neg hj]
          rw [hf j u]
          constructor
          · rintro ⟨x, hx, hxk, hxv⟩
            exact ⟨x, by simp; exact .inl (by simpa using hx), hxk, hxv⟩
          · rintro ⟨x, hx, hxk, hxv⟩
            simp at hx
            rcases hx with hx | rfl
            · exact ⟨x, by simpa using hx, hxk, hxv⟩
            · simp at hxk
              exact absurd hxk.symm hj
  · have hlt : j < es.toList.length := (List.getElem?_eq_some_iff.1 h2).1
    have hej : es[j]? = some e := by simpa using h2
    refine ⟨{ w with heap := w.heap.setIfInBounds m (.map (es.modify j fun e => { e with key := .int .i64 k, val := v }) clock) }, ?_, ?_, ⟨rfl, rfl, rfl, by simp, fun x _ hx => (heap_set hb).2 x (fun e => hx (by rw [e]))⟩, by simp⟩
    · have hkt : (Instr.keyThatStays e.key (.int .i64 k)).run P w = .ok (.int .i64 k) w := by rw [h3]; exact run_keyThatStays (isKey_int k)
      simp [Instr.mapUpdate, run_underlying ht, Go.MapKept.run_getObj_map hb, Go.MapKept.run_checkKey hK (isKey_int k), Go.MapKept.run_findKey hK h1, hej, hkt, Go.MapKept.run_setObj_map _ hb, Result.andThen]
    · have hkey : ∀ e', es[j]? = some e' → e'.key = .int .i64 k := fun e' he' => by rw [hej] at he'; cases he'; exact h3
      refine ⟨_, _, (heap_set hb).1, stamped_modify hs j _ (fun _ _ => rfl) (fun e' _ he' => (hkey e' he').symm), isKey_modify hks j _ (fun e' he' => (hkey e' he').symm), ?_⟩
      have hnd := hs.2.2
      intro i u
      have hmem : ∀ x, x ∈ (es.modify j fun e => { e with key := .int .i64 k, val := v }).toList ↔ ∃ n y, es[n]? = some y ∧ x = if n = j then { y with key := .int .i64 k, val := v } else y := by
        intro x
        rw [List.mem_iff_getElem?]
        constructor
        · rintro ⟨n, hn⟩
          rw [Array.getElem?_toList, Array.getElem?_modify] at hn
          by_cases hnj : j = n
          · subst hnj
            simp [hej] at hn
            exact ⟨j, e, hej, by simp [← hn]⟩
          · rw [if_neg hnj] at hn
            exact ⟨n, x, hn, by rw [if_neg (Ne.symm hnj)]⟩
        · rintro ⟨n, y, hn, rfl⟩
          refine ⟨n, ?_⟩
          rw [Array.getElem?_toList, Array.getElem?_modify]
          by_cases hnj : j = n
          · subst hnj
            simp [hn]
          · rw [if_neg hnj, if_neg (Ne.symm hnj)]
            exact hn
      by_cases hi : i = k
      · subst hi
        simp only [if_true]
        constructor
        · intro hu
          exact ⟨{ e with key := .int .i64 i, val := v }, (hmem _).2 ⟨j, e, hej, by simp⟩, rfl, by simpa using hu⟩
        · rintro ⟨x, hx, hxk, hxv⟩
          obtain ⟨n, y, hn, rfl⟩ := (hmem x).1 hx
          by_cases hnj : n = j
          · rw [if_pos hnj] at hxv
            simpa using hxv
          · rw [if_neg hnj] at hxk
            exfalso
            have hlt2 := (Array.getElem?_eq_some_iff.1 hn)
            obtain ⟨l1, e1⟩ := hlt2
            obtain ⟨l2, e2⟩ := (Array.getElem?_eq_some_iff.1 hej)
            have hpw := List.pairwise_iff_getElem.1 (((stamped_iff es clock).1 hs).2.2)
            rcases Nat.lt_or_gt_of_ne hnj with hl | hl
            · exact hpw n j (by simpa using l1) (by simpa using l2) hl (by simp [e1, e2, hxk, h3])
            · exact hpw j n (by simpa using l2) (by simpa using l1) hl (by simp [e1, e2, hxk, h3])
      · simp only [if_neg hi]
        rw [hf i u]
        constructor
        · rintro ⟨x, hx, hxk, hxv⟩
          obtain ⟨n, hn⟩ := List.mem_iff_getElem?.1 hx
          rw [Array.getElem?_toList] at hn
          refine ⟨x, (hmem x).2 ⟨n, x, hn, ?_⟩, hxk, hxv⟩
          rw [if_neg]
          intro hnj
          subst hnj
          rw [hej] at hn
          cases hn
          rw [h3] at hxk
          simp at hxk
          exact hi hxk.symm
        · rintro ⟨x, hx, hxk, hxv⟩
          obtain ⟨n, y, hn, rfl⟩ := (hmem x).1 hx
          by_cases hnj : n = j
          · rw [if_pos hnj] at hxk
            simp at hxk
            exact absurd hxk.symm hi
          · rw [if_neg hnj] at hxk hxv
            exact ⟨y, List.mem_of_getElem? (by rw [Array.getElem?_toList]; exact hn), hxk, hxv⟩
end

/-- 'm[k] = v' as a step of a walk. -/
theorem wpList_mapUpdate_f {P : Program} {w : World} {ops : Array Oper} {Q : Exit → Act → World → Prop} {rest : List Oper} {o : Oper} {a : Act} (hg : o.guard = none) (m k v : Operand) (t : TypeId) (hop : o.op = .mapUpdate t m k v) (K E : TypeId)
    (ht : P.underlying t = some (.map K E)) (hK : P.underlying K = some (.int .i64)) (mb : Nat) (f : Int → Option Value) (kk : Int) (vv : Value) (hm : a.eval m = .map (some mb)) (hk : a.eval k = .int .i64 kk) (hv : a.eval v = vv) (h : MapAt w mb f)
    (hW : ∀ w', MapAt w' mb (fun j => if j = kk then some vv else f j) → w.grownBy w' (some mb) → w'.heap.size = w.heap.size → wpList P ops Q rest (a.put o.dst undef) w') : wpList P ops Q (o :: rest) a w := by
  refine wpList_plain hg fun K' hK' => ?_
  obtain ⟨w', hrun, h1, h2, h3⟩ := h.update (P := P) ht hK kk vv
  unfold Oper.wp
  simp [execOp, hop, hm, hk, hv, hrun, Result.andThen]
  exact hK' _ _ (hW w' h1 h2 h3)

/-! ### A step of a walk by the operation's own run -/
theorem wpList_exec {P : Program} {ops : Array Oper} {Q : Exit → Act → World → Prop} {rest : List Oper} {o : Oper} {a : Act} {w : World} (hg : o.guard = none) (v : Value) (w' : World)
    (h : (execOp a.eval o).run P w = .ok (.value v) w') (hK : wpList P ops Q rest (a.put o.dst v) w') : wpList P ops Q (o :: rest) a w := by
  refine wpList_plain hg fun K hK' => ?_
  unfold Oper.wp
  rw [h]
  exact hK' _ _ hK

theorem exec_buildSlice {P : Program} {ρ : Operand → Value} {w w' : World} {d : Option Tmp} {t n : Nat} {parts : Array (Nat × Operand)} {ty : TypeId} {pos : String} {after : Array Edge} {g : Option (Nat × Bool)} {v : Value} {ps : Array (Nat × Value)}
    (hp : (parts.map fun (i, x) => (i, ρ x)) = ps) (h : (Instr.buildSlice t n ps).run P w = .ok v w') :
    (execOp ρ ⟨d, .buildSlice t n parts, ty, pos, after, g⟩).run P w = .ok (.value v) w' := by
  subst hp
  simp [execOp, h, Result.andThen]

end Go.Proofs.YtkgdpmeheakdcaaGreat
