/- Room and Light: what Light's yes says. -/
import Derived.Test.YtkgdpmeheakdcaaAlive
import Derived.Test.YtkgdpmeheakdcaaWWords
namespace Go.Proofs.Ytkgdpmeheakdcaa
open Go.RowKit
set_option linter.all false
set_option maxRecDepth 100000

/-- How much room is left behind two parts. -/
def roomR (left a b : Int) : Int := if left < 0 ∨ a > left then -1 else if left - a < 0 ∨ b > left - a then -1 else left - a - b

theorem room_two (left a b : Int) (hl : left ≤ 20000) (hl0 : -1 ≤ left) (ha : 0 ≤ a) (ha1 : a ≤ 9223372036854775807) (hb : 0 ≤ b) (hb1 : b ≤ 9223372036854775807) (g : Nat) (w : World) (hg : w.heap[g]? = some (.cells #[.int .i64 a, .int .i64 b] 3 (0, 0))) :
    Calls Try.prog 67 #[.int .i64 left, .slice (some ⟨g, 0, none⟩) 2 2] w fun e w' => e = .returned (.int .i64 (roomR left a b)) ∧ w = w' := by
  have c0 : w.cell? ⟨g, 0, none⟩ = some (.int .i64 a) := by simp [World.cell?, hg]
  have c1 : w.cell? ⟨g, 1, none⟩ = some (.int .i64 b) := by simp [World.cell?, hg]
  clear hg
  obtain ⟨R, hR⟩ : ∃ R, R = roomR left a b := ⟨_, rfl⟩
  rw [← hR]
  have HR := Lib.hid hR
  clear hR
  go_enter Try.func67, Try.ntmps67
  go_wp2
  go_loopw [0, 5] (fun l i wr => wr = w ∧ ((l = .int .i64 left ∧ i = .int .i64 0) ∨ (0 ≤ left ∧ a ≤ left ∧ l = .int .i64 (left - a) ∧ i = .int .i64 1) ∨ (0 ≤ left ∧ a ≤ left ∧ b ≤ left - a ∧ l = .int .i64 (left - a - b) ∧ i = .int .i64 2)))
    (fun _ i _ => 2 - (intOf i).toNat)
  case atStart => exact ⟨rfl, .inl ⟨rfl, rfl⟩⟩
  case round =>
    obtain ⟨rfl, h⟩ := hrel
    rcases h with ⟨rfl, rfl⟩ | ⟨h0, h1, rfl, rfl⟩ | ⟨h0, h1, h2, rfl, rfl⟩
    · by_cases hc : left < 0 ∨ a > left
      · have hr : R = -1 := by rw [HR.out]; unfold roomR; rw [if_pos hc]
        subst hr
        by_cases hc0 : left < 0
        · clear hc HR
          go_wp2
          go_ret
          exact ⟨rfl, rfl⟩
        · have hc1 : left < a := by omega
          clear hc HR
          go_wp2
          go_ret
          exact ⟨rfl, rfl⟩
      · have q0 : ¬ left < 0 := fun h => hc (.inl h)
        have q1 : ¬ left < a := fun h => hc (.inr h)
        clear hc
        go_wp2
        go_roundw
        case rel => exact ⟨trivial, .inr (.inl ⟨by omega, by omega, by go_num, by go_num⟩)⟩
        case measure => simp [intOf]
    · by_cases hc : left - a < 0 ∨ b > left - a
      · have hr : R = -1 := by rw [HR.out]; unfold roomR; rw [if_neg (by omega), if_pos hc]
        subst hr
        have q1 : left - a < b := by omega
        have q0 : ¬ left - a < 0 := by omega
        clear hc HR
        go_wp2
        go_ret
        exact ⟨rfl, rfl⟩
      · have q0 : ¬ left - a < 0 := by omega
        have q1 : ¬ left - a < b := by omega
        clear hc
        go_wp2
        go_roundw
        case rel => exact ⟨trivial, .inr (.inr ⟨by omega, by omega, by omega, by go_num, by go_num⟩)⟩
        case measure => simp [intOf]
    · have hr : R = left - a - b := by rw [HR.out]; unfold roomR; rw [if_neg (by omega), if_neg (by omega)]
      subst hr
      clear HR
      go_wp2
      go_ret
      exact ⟨rfl, rfl⟩

/-- A step as it came in: what the code reads of it. -/
structure OpV where
  kind : Int
  node : Int
  pl : Int
  num : Int
  epoch : Int
  data : ByteArray
  ka : Option Addr
  kl : Nat
  kc : Nat
  own : Bool

structure OpAt (w : World) (kb ko i : Nat) (o : OpV) : Prop where
  c0 : w.cell? ⟨kb, ko + i * 8, none⟩ = some (.int .i64 o.kind)
  c1 : w.cell? ⟨kb, ko + i * 8 + 1, none⟩ = some (.int .i64 o.node)
  c2 : w.cell? ⟨kb, ko + i * 8 + 2, none⟩ = some (.int .i64 o.pl)
  c3 : w.cell? ⟨kb, ko + i * 8 + 3, none⟩ = some (.int .i64 o.num)
  c4 : w.cell? ⟨kb, ko + i * 8 + 4, none⟩ = some (.int .u64 o.epoch)
  c5 : w.cell? ⟨kb, ko + i * 8 + 5, none⟩ = some (.string o.data)
  c6 : w.cell? ⟨kb, ko + i * 8 + 6, none⟩ = some (.slice o.ka o.kl o.kc)
  c7 : w.cell? ⟨kb, ko + i * 8 + 7, none⟩ = some (.bool o.own)
  dm : o.data.size ≤ maxLen
  km : o.kl ≤ maxLen

/-- Steps that came in. -/
structure OpsRow (w : World) (a : Option Addr) (len cap : Nat) (os : List OpV) : Prop where
  hlen : os.length = len
  hcap : len ≤ cap
  hmax : cap ≤ maxLen
  ops : ∀ i, i < len → ∃ o kb ko, os[i]? = some o ∧ a = some ⟨kb, ko, none⟩ ∧ kb < w.heap.size ∧ OpAt w kb ko i o

theorem OpAt.below {w w' : World} {kb ko i : Nat} {o : OpV} (h : OpAt w kb ko i o) (hb : Below w.heap.size w w') (hk : kb < w.heap.size) : OpAt w' kb ko i o := by
  have hc : ∀ n, w'.cell? ⟨kb, n, none⟩ = w.cell? ⟨kb, n, none⟩ := fun n => World.cell?_of_block (hb.block kb hk)
  exact ⟨by rw [hc]; exact h.c0, by rw [hc]; exact h.c1, by rw [hc]; exact h.c2, by rw [hc]; exact h.c3, by rw [hc]; exact h.c4, by rw [hc]; exact h.c5, by rw [hc]; exact h.c6, by rw [hc]; exact h.c7, h.dm, h.km⟩

/-- What Light's yes says. -/
def lightOk (os : List OpV) (v : Bool) : Prop := v = true → os.length ≤ 80 ∧ ∀ (i : Nat) (o : OpV), os[i]? = some o → o.data.size ≤ 20000

/-- Light answers, in new memory alone. -/
def RetLight (os : List OpV) (w : World) (e : Ending) (w' : World) : Prop := ∃ v, e = .returned (.bool v) ∧ lightOk os v ∧ Below w.heap.size w w'

theorem roomR_le (l x y : Int) (hx : 0 ≤ x) (hy : 0 ≤ y) : (0 ≤ roomR l x y → x ≤ l ∧ roomR l x y ≤ l) ∧ -1 ≤ roomR l x y := by
  unfold roomR
  by_cases h1 : l < 0 ∨ x > l
  · rw [if_pos h1]
    omega
  · rw [if_neg h1]
    by_cases h2 : l - x < 0 ∨ y > l - x
    · rw [if_pos h2]
      omega
    · rw [if_neg h2]
      omega

theorem two_any (x y : Int) (w : World) : (Instr.buildSlice 34 2 #[(0, .int .i64 x), (1, .int .i64 y)]).run Try.prog w = .ok (.slice (some ⟨w.heap.size, 0, none⟩) 2 2) (w.alloc (.cells #[.int .i64 x, .int .i64 y] 3)) := by kernel_rfl

set_option maxHeartbeats 4000000 in
theorem light_any (a : Option Addr) (len cap : Nat) (os : List OpV) (w : World) (h : OpsRow w a len cap os) :
    Calls Try.prog 32 #[.slice a len cap] w (RetLight os w) := by
  have HO := Lib.hid h
  have hcap := h.hcap
  have hmax := h.hmax
  have hmx : maxLen ≤ 9223372036854775807 := by decide
  have TA := two_any
  clear h
  go_enter Try.func32, Try.ntmps32
  go_wp2
  go_loopw [3, 4] (fun l i wr => ∃ (r : Int) (k : Nat), k ≤ len ∧ k ≤ 200 ∧ l = .int .i64 r ∧ i = .int .i64 k ∧ -1 ≤ r ∧ r ≤ 20000 ∧ (0 ≤ r → ∀ (i : Nat) (o : OpV), i < k → os[i]? = some o → o.data.size ≤ 20000) ∧ Below w.heap.size w wr)
    (fun _ i _ => 200 - (intOf i).toNat)
  case atStart => exact ⟨20000, 0, Nat.zero_le _, Nat.zero_le _, rfl, rfl, by omega, by omega, fun _ i o h => by omega, Below.refl _ _⟩
  case round =>
    obtain ⟨r, k, hk, hk2, rfl, rfl, hr0, hr1, hall, hbl⟩ := hrel
    have HALL := Lib.hid hall
    have HB := Lib.hid hbl
    clear hall
    by_cases hgo : k < len ∧ k < 200 ∧ 0 ≤ r
    · obtain ⟨g1, g2, g3⟩ := hgo
      obtain ⟨o, kb, ko, ho, rfl, hkb, hat⟩ := HO.out.ops k g1
      have hat2 := hat.below hbl hkb
      have c5 := hat2.c5
      have c6 := hat2.c6
      have hdm := hat2.dm
      have hkm := hat2.km
      have hkc : k < cap := by omega
      have HOO := Lib.hid ho
      clear ho hat hat2 hbl hkb
      have p1 : (0 : Int) ≤ (o.data.size : Int) := by omega
      have p2 : (o.data.size : Int) ≤ 9223372036854775807 := by omega
      have p3 : (0 : Int) ≤ (o.kl : Int) := by omega
      have p4 : (o.kl : Int) ≤ 9223372036854775807 := by omega
      go_upto_region 5 with fail
      go_region_with (first
        | (go_at_call 67
           refine (room_two r (o.data.size : Int) (o.kl : Int) hr1 hr0 p1 p2 p3 p4 wr.heap.size _ ?_).mono ?_
           · exact heap_alloc_new wr _
           rintro e x ⟨rfl, rfl⟩))
      all_goals go_wp2
      all_goals go_roundw
      all_goals first
        | (simp [intOf]; omega)
        | (refine ⟨roomR r (o.data.size : Int) (o.kl : Int), k + 1, by omega, by omega, rfl, by go_num, (roomR_le r _ _ p1 p3).2, ?_, ?_, ?_⟩
           · by_cases hp : 0 ≤ roomR r (o.data.size : Int) (o.kl : Int)
             · have := ((roomR_le r _ _ p1 p3).1 hp).2
               omega
             · omega
           · intro h0 i o' hi ho'
             by_cases hik : i < k
             · exact HALL.out g3 i o' hik ho'
             · have : i = k := by omega
               subst this
               rw [HOO.out] at ho'
               cases ho'
               have := ((roomR_le r _ _ p1 p3).1 h0).1
               omega
           · first | exact (HB.out.alloc HB.out.size _).drew | exact HB.out.alloc HB.out.size _ | exact (HB.out.drew).alloc HB.out.size _)
    · clear hbl
      by_cases e1 : k < len
      · by_cases e2 : k < 200
        · have e3 : r < 0 := by omega
          clear hgo
          go_wp2
          all_goals go_ret
          all_goals refine ⟨_, rfl, ?_, HB.out⟩
          all_goals intro hv
          all_goals first
            | (cases hv; done)
            | (have h0 : 0 ≤ r := by first | omega | simpa using hv
               exact ⟨by rw [HO.out.hlen]; omega, fun i o ho => HALL.out h0 i o (by have := (List.getElem?_eq_some_iff.1 ho).1; rw [HO.out.hlen] at this; omega) ho⟩)

        · clear hgo
          go_wp2
          all_goals go_ret
          all_goals refine ⟨_, rfl, ?_, HB.out⟩
          all_goals intro hv
          all_goals first
            | (cases hv; done)
            | (have h0 : 0 ≤ r := by first | omega | simpa using hv
               exact ⟨by rw [HO.out.hlen]; omega, fun i o ho => HALL.out h0 i o (by have := (List.getElem?_eq_some_iff.1 ho).1; rw [HO.out.hlen] at this; omega) ho⟩)

      · clear hgo
        go_wp2
        all_goals go_ret
        all_goals refine ⟨_, rfl, ?_, HB.out⟩
        all_goals intro hv
        all_goals first
          | (cases hv; done)
          | (have h0 : 0 ≤ r := by first | omega | simpa using hv
             exact ⟨by rw [HO.out.hlen]; omega, fun i o ho => HALL.out h0 i o (by have := (List.getElem?_eq_some_iff.1 ho).1; rw [HO.out.hlen] at this; omega) ho⟩)


end Go.Proofs.Ytkgdpmeheakdcaa
