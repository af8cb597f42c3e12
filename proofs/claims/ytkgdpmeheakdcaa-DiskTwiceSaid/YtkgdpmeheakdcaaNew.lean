/- New; Waiting. -/
import Derived.Test.YtkgdpmeheakdcaaCalls4
namespace Go.Proofs.Ytkgdpmeheakdcaa
open Go.RowKit
set_option linter.all false
set_option maxRecDepth 100000

def newDS (s : Int) : DS := { sectors := s, on := true, seq := 0, now := fun _ => none, lasts := fun _ => none, waits := [], table := List.replicate 17 0, words := List.replicate 17 0, last := 0, armed := false, left := 0, stays := [], nilS := true }

/-- A new disk is handed back, in new memory. -/
def RetDisk (D : DS) (w : World) (e : Ending) (w' : World) : Prop := ∃ b F, e = .returned (.pointer (some ⟨b, 0, none⟩)) ∧ DiskAt F b D w' ∧ Grow (fun _ => False) w w' ∧ ∀ k, F k → w.heap.size ≤ k

theorem newCells (s : Int) (m1 m2 : Nat) (w : World) : (Instr.build 59 #[(0, .int .i64 s), (1, .bool true), (3, .map (some m1)), (4, .map (some m2))]).run Try.prog w = .ok (.agg ((newDS s).cells (some m1) (some m2) (.slice none 0 0) (.slice none 0 0))) w := by kernel_rfl

theorem new_any (s : Int) (h1 : 1 ≤ s) (h2 : s ≤ 20000) (w : World) : Calls Try.prog 18 #[.int .i64 s] w (RetDisk (newDS s) w) := by
  have hb := newCells s
  have hmm := @run_makeMap Try.prog
  have g1 : decide (s < 1) = false := by simp; omega
  have g2 : decide (20000 < s) = false := by simp; omega
  have hfin : RetDisk (newDS s) w (.returned (.pointer (some ⟨w.heap.size + 1 + 1, 0, none⟩))) (((w.alloc (.map #[] 0)).alloc (.map #[] 0)).alloc (.cells ((newDS s).cells (some w.heap.size) (some (w.heap.size + 1)) (.slice none 0 0) (.slice none 0 0)) 59)) := by
    have e1 : (w.alloc (.map #[] 0)).heap.size = w.heap.size + 1 := by simp
    have e2 : ((w.alloc (.map #[] 0)).alloc (.map #[] 0)).heap.size = w.heap.size + 1 + 1 := by simp
    have e3 : (((w.alloc (.map #[] 0)).alloc (.map #[] 0)).alloc (.cells ((newDS s).cells (some w.heap.size) (some (w.heap.size + 1)) (.slice none 0 0) (.slice none 0 0)) 59)).heap.size = w.heap.size + 1 + 1 + 1 := by simp
    refine ⟨_, fun k => w.heap.size ≤ k ∧ k < w.heap.size + 1 + 1 + 1, rfl, ⟨w.heap.size, w.heap.size + 1, .slice none 0 0, .slice none 0 0, ⟨?_, rfl, rfl⟩, ?_, ?_, World.ownsRow_nil _ _ _ _, World.ownsRow_nil _ _ _ _, by omega, by omega, by omega, by omega, (fun g h => by cases h), (fun g h => by cases h), (fun k hk => by rw [e3]; exact hk.2), fun _ => rfl⟩, ?_, fun k hk => hk.1⟩
    · have := heap_alloc_new ((w.alloc (.map #[] 0)).alloc (.map #[] 0)) (.cells ((newDS s).cells (some w.heap.size) (some (w.heap.size + 1)) (.slice none 0 0) (.slice none 0 0)) 59)
      rw [e2] at this
      exact this
    · have := MapAt.made w (((w.alloc (.map #[] 0)).alloc (.map #[] 0)).alloc (.cells ((newDS s).cells (some w.heap.size) (some (w.heap.size + 1)) (.slice none 0 0) (.slice none 0 0)) 59)) (m := w.heap.size) (by
        rw [heap_alloc_old _ _ (by rw [e2]; omega), heap_alloc_old _ _ (by rw [e1]; omega)]
        exact heap_alloc_new w _)
      exact this
    · have := MapAt.made w (((w.alloc (.map #[] 0)).alloc (.map #[] 0)).alloc (.cells ((newDS s).cells (some w.heap.size) (some (w.heap.size + 1)) (.slice none 0 0) (.slice none 0 0)) 59)) (m := w.heap.size + 1) (by
        rw [heap_alloc_old _ _ (by rw [e2]; omega)]
        have := heap_alloc_new (w.alloc (.map #[] 0)) (.map #[] 0)
        rw [e1] at this
        exact this)
      exact this
    · exact ((Grow.alloc (F := fun _ => False) w _).trans (Grow.alloc _ _) (fun x hx => .inl hx)).trans (Grow.alloc _ _) (fun x hx => .inl hx)
  have HF := Lib.hid hfin
  clear hfin
  go_enter Try.func18, Try.ntmps18
  go_wp2
  go_ret
  exact HF.out

theorem new_nil (s : Int) (h : s < 1 ∨ 20000 < s) (w : World) : Calls Try.prog 18 #[.int .i64 s] w fun e w' => e = .returned (.pointer none) ∧ w = w' := by
  by_cases h1 : s < 1
  · have g1 : decide (s < 1) = true := by simpa using h1
    clear h
    go_enter Try.func18, Try.ntmps18
    go_wp2
    go_ret
    exact ⟨rfl, rfl⟩
  · have g1 : decide (s < 1) = false := by simpa using h1
    have h2 : 20000 < s := by omega
    clear h
    go_enter Try.func18, Try.ntmps18
    go_wp2
    go_ret
    exact ⟨rfl, rfl⟩

def waiting (D : DS) (node : Int) : Nat := if D.on = true then (D.waits.filter (fun x => x.node == node)).length else 0

theorem waiting_any {F : Nat → Prop} {b : Nat} {D : DS} {nb lb : Nat} {wv sv : Value} {w : World} (h : DiskIn F b D nb lb wv sv w) (node : Int) (hn : D.waits.length ≤ 1000000) :
    Calls Try.prog 34 #[.pointer (some ⟨b, 0, none⟩), .int .i64 node] w fun e w' => e = .returned (.int .i64 (waiting D node)) ∧ Grow (fun _ => False) w w' := by
  have HON := Lib.hid (on_any h.blk)
  unfold waiting
  cases hon : D.on with
  | false =>
    rw [hon] at HON
    clear h
    go_enter Try.func34, Try.ntmps34
    go_wp2_with fail
    refine HON.out.mono ?_
    rintro e w1 ⟨rfl, rfl⟩
    go_wp2
    go_ret
    exact ⟨rfl, Grow.refl _ _⟩
  | true =>
    rw [if_pos rfl]
    rw [hon] at HON
    have c5 := h.blk.c5
    have HD := Lib.hid h
    obtain ⟨wo, wcap, hwv, hncap, hcapm, hwno⟩ := ownsRow_shape h.waits
    subst hwv
    obtain ⟨n, hnn⟩ : ∃ n, n = D.waits.length := ⟨_, rfl⟩
    rw [← hnn] at hn hncap c5 HD
    have HN := Lib.hid hnn
    obtain ⟨q, hq⟩ : ∃ q, q = (D.waits.filter (fun x => x.node == node)).length := ⟨_, rfl⟩
    rw [← hq]
    have HQ := Lib.hid hq
    clear h hwno hnn hq hon
    go_enter Try.func34, Try.ntmps34
    go_wp2_with fail
    refine HON.out.mono ?_
    rintro e w1 ⟨rfl, rfl⟩
    go_wp2
    go_loopw [5, 16] (fun c i wr => ∃ k : Nat, k ≤ n ∧ i = .int .i64 k ∧ c = .int .i64 ((D.waits.take k).filter (fun x => x.node == node)).length ∧ Grow (fun _ => False) w wr)
      (fun _ i _ => n - (intOf i).toNat)
    case atStart => exact ⟨0, Nat.zero_le _, rfl, rfl, Grow.refl _ _⟩
    case round =>
      obtain ⟨k, hk, rfl, rfl, hgr⟩ := hrel
      have HG := Lib.hid hgr
      clear hgr c5
      by_cases hlt : k < n
      · obtain ⟨x, hx⟩ : ∃ x, D.waits[k]? = some x := ⟨_, List.getElem?_eq_getElem (show k < D.waits.length by rw [← HN.out]; exact hlt)⟩
        have hwt := (HD.out.grow HG.out (fun _ _ h => h)).waits
        obtain ⟨g, rfl⟩ : ∃ g, wo = some ⟨g, 0, none⟩ := by
          rcases hwt.2 with ⟨-, h0⟩ | ⟨g, cap', cur, he, -⟩
          · rw [← HN.out] at h0
            omega
          · simp at he
            exact ⟨g, he.1⟩
        rw [HN.out] at hwt
        have e0 := waits_cell hwt k x hx 0 (by omega)
        have e1 := waits_cell hwt k x hx 1 (by omega)
        have e2 := waits_cell hwt k x hx 2 (by omega)
        have e3 := waits_cell hwt k x hx 3 (by omega)
        simp only [Wr.cells, List.getElem?_cons_zero, List.getElem?_cons_succ, Nat.add_zero] at e0 e1 e2 e3
        have hkl : k < D.waits.length := by rw [← HN.out]; exact hlt
        have hcl : ((D.waits.take k).filter (fun x => x.node == node)).length ≤ 1000000 := by
          have h1 := List.length_filter_le (fun x : Wr => x.node == node) (D.waits.take k)
          have h2 := List.length_take_le k D.waits
          omega
        have hxk : D.waits[k] = x := by rw [List.getElem?_eq_getElem hkl] at hx; exact Option.some.inj hx
        have hsn : ((D.waits.take (k + 1)).filter (fun x => x.node == node)).length = ((D.waits.take k).filter (fun x => x.node == node)).length + (if (x.node == node) = true then 1 else 0) := by
          rw [take_succ' _ _ hkl, List.filter_append, List.length_append, hxk]
          congr 1
          cases hb : x.node == node <;> simp [List.filter_cons, hb]
        have HSN := Lib.hid hsn
        have hkc : k < wcap := by omega
        clear hx hwt hkl hxk hsn
        generalize hcn : ((D.waits.take k).filter (fun x => x.node == node)).length = cn at *
        clear hcn
        cases hnb : x.node == node with
        | true =>
          rw [hnb, if_pos rfl] at HSN
          go_wp2
          go_roundw
          case rel => exact ⟨k + 1, by omega, by go_num, by rw [HSN.out]; go_num, HG.out.trans (Grow.alloc (F := fun _ => False) _ _) (fun _ h => .inl h)⟩
          case measure => simp [intOf]; omega
        | false =>
          rw [hnb, if_neg (by simp)] at HSN
          go_wp2
          go_roundw
          case rel => exact ⟨k + 1, by omega, by go_num, by rw [HSN.out, Nat.add_zero], HG.out.trans (Grow.alloc (F := fun _ => False) _ _) (fun _ h => .inl h)⟩
          case measure => simp [intOf]; omega
      · have hkn : k = n := by omega
        subst hkn
        have hq : ((D.waits.take k).filter (fun x => x.node == node)).length = q := by rw [HQ.out, List.take_of_length_le (Nat.le_of_eq HN.out.symm)]
        rw [hq]
        clear hq
        go_wp2
        go_ret
        exact ⟨rfl, HG.out⟩

end Go.Proofs.Ytkgdpmeheakdcaa
