import Derived.Test.YtkgdpmeheakdcaaGreatLogG
/- law12.alive answers true: walk. -/
namespace Go.Proofs.YtkgdpmeheakdcaaGreat
open Go.RowKit
set_option linter.all false
set_option maxRecDepth 100000

theorem mkIm (b v : Int) (d : ByteArray) (w : World) : (Instr.buildSlice 41 1 #[(0, .agg #[.int .i64 b, .int .u64 v, .string d])]).run Tryz.prog w = .ok (.slice (some ⟨w.heap.size, 0, none⟩) 1 1) (w.alloc (.cells #[.int .i64 b, .int .u64 v, .string d] 24)) := by kernel_rfl
theorem ImgsRow.one {w : World} {q : Nat} {i : Im} (h : imBlk i w q) (hv : i.v < 18446744073709551616) (hd : i.d.length ≤ maxLen) : ImgsRow w (some ⟨q, 0, none⟩) 1 1 [i] := by
  refine ⟨rfl, Nat.le_refl _, by decide, fun j hj => ?_⟩
  have hj0 : j = 0 := by omega
  subst hj0
  obtain ⟨c0, c1, c2⟩ := h.cells
  exact ⟨i, q, 0, rfl, rfl, h.lt, ⟨c0, c1, c2, hv, hd⟩⟩
theorem good_L0 : LG L0 := ⟨by decide, by decide, rfl, by decide, by decide, by decide, by decide, by decide, fun i x hx => by cases hx⟩

/-- Add's answer to one right image. -/
def Add1 (R : Nat → Prop) (g r b : Nat) (L : LS) (n : Nat) (w : World) (e : Ending) (w' : World) : Prop :=
  (∃ s : ByteArray, s.size = 192 ∧ L.live.length ≤ 1 ∧ AnsL R g r b (addL L s) n w (.tuple #[.int .u64 L.next, .int .i64 0]) e w') ∨
  (2 ≤ L.live.length ∧ AnsL R g r b L n w (.tuple #[.int .u64 0, .int .i64 10]) e w')
theorem add_one {R : Nat → Prop} {g r b n : Nat} {L : LS} {w : World} (h : LP R g r b L n w) (hg : LG L) (hR : ∀ k, w.heap.size ≤ k → R k) (hnx : L.next ≤ 900) {q : Nat} {i : Im} (hq : imBlk i w q) (hi : i.ok = true) (hv : i.v < 18446744073709551616) :
    Calls Tryz.prog 16 #[.pointer (some ⟨g, 0, none⟩), .slice (some ⟨q, 0, none⟩) 1 1] w (Add1 R g r b L n w) := by
  have hd := (Im.ok_iff.1 hi).2.2
  refine (add_any h hg hR hnx _ _ _ [i] (ImgsRow.one hq hv (by rw [hd]; decide)) (by decide)).mono ?_
  rintro e w' (h1 | ⟨c, hc, h1, h2⟩)
  · exact .inl h1
  · obtain ⟨rfl, h3⟩ := h1 rfl (fun x hx => by rw [List.mem_singleton.1 hx]; exact hi)
    exact .inr ⟨h3, h2⟩
/-- The same, where there is room. -/
theorem add_room {R : Nat → Prop} {g r b n : Nat} {L : LS} {w : World} (h : LP R g r b L n w) (hg : LG L) (hR : ∀ k, w.heap.size ≤ k → R k) (hnx : L.next ≤ 900) (hl : L.live.length ≤ 1) {q : Nat} {i : Im} (hq : imBlk i w q) (hi : i.ok = true) (hv : i.v < 18446744073709551616) :
    Calls Tryz.prog 16 #[.pointer (some ⟨g, 0, none⟩), .slice (some ⟨q, 0, none⟩) 1 1] w fun e w' => ∃ s : ByteArray, s.size = 192 ∧ AnsL R g r b (addL L s) n w (.tuple #[.int .u64 L.next, .int .i64 0]) e w' := by
  refine (add_one h hg hR hnx hq hi hv).mono ?_
  rintro e w' (⟨s, h1, _, h2⟩ | ⟨h1, _⟩)
  · exact ⟨s, h1, h2⟩
  · omega

/-- A log on the disk that Ready made: what alive, LogRefuses and LogRound begin with. -/
theorem pend2 (s t : ByteArray) : pendN (addL (syncL (addL L0 s)) t).live (addL (syncL (addL L0 s)) t).live.length = 1 := rfl

set_option maxHeartbeats 4000000 in
theorem alive12_any (w : World) : Calls Tryz.prog 14 #[] w fun e w' => e = .returned (.bool true) ∧ Below w.heap.size w w' := by
  have H0 := Lib.hid (ready_any w)
  go_enter Tryz.func14, Tryz.ntmps14
  go_wp2_with fail
  refine H0.out.mono ?_
  rintro e w1 ⟨b, p, m, rfl, hd, hr, hb, hm⟩
  have hmq : m ≤ w1.heap.size := by have := hr.lt; have := hr.ge; omega
  have ha : Below w1.heap.size w1 (w1.alloc (.cells #[.int .i64 2, .int .i64 10, .int .i64 8, .int .i64 4, .int .i64 32] 31)) := (Below.refl _ _).alloc (Nat.le_refl _) _
  have hz : (w1.alloc (.cells #[.int .i64 2, .int .i64 10, .int .i64 8, .int .i64 4, .int .i64 32] 31)).heap.size = w1.heap.size + 1 := by simp
  have Y2 : Hid (lyBlk (w1.alloc (.cells #[.int .i64 2, .int .i64 10, .int .i64 8, .int .i64 4, .int .i64 32] 31)) w1.heap.size) := Lib.hid (heap_alloc_new w1 _)
  obtain ⟨R, hR⟩ : ∃ R : Nat → Prop, R = fun k => (w.heap.size ≤ k ∧ k < m) ∨ w1.heap.size < k := ⟨_, rfl⟩
  have hRb : ∀ k, R k → w.heap.size ≤ k := fun k hk => by
    rw [hR] at hk
    rcases hk with h | h
    · exact h.1
    · have := hb.size; omega
  have HRB := Lib.hid hRb
  have HRN : Hid (∀ k, w1.heap.size + 1 ≤ k → R k) := Lib.hid (fun k hk => by rw [hR]; exact .inr hk)
  have d2 : DiskP R b dk9 (w1.alloc (.cells #[.int .i64 2, .int .i64 10, .int .i64 8, .int .i64 4, .int .i64 32] 31)) := (hd.below ha).mono (fun k hk => by rw [hR]; exact .inl hk)
  have HO := Lib.hid (open_any d2 di9 (fun k hk => HRN.out k (by omega)) (by decide))
  have B2 := Lib.hid (hb.trans (ha.mono hb.size))
  have HZ := Lib.hid hz
  clear hd hr hb hm ha hz hRb d2 hR hmq H0
  go_wp2_with fail
  refine HO.out.mono ?_
  rintro e w3 ⟨g, r, rfl, hl, hg⟩
  have hs3 : w1.heap.size + 1 ≤ w3.heap.size := by rw [← HZ.out]; exact hg.size
  have B3 := Lib.hid (B2.out.trans (hg.below B2.out.size HRB.out))
  have L3 := Lib.hid hl
  have H1 := Lib.hid (one_any 1 1 (by decide) w3)
  clear hl hg HO B2
  generalize w1.alloc (.cells #[.int .i64 2, .int .i64 10, .int .i64 8, .int .i64 4, .int .i64 32] 31) = W2 at *
  unfold oneI Im.val at H1
  dsimp only at H1
  go_wp2_with fail
  refine H1.out.mono ?_
  rintro e w4 ⟨rfl, hb⟩
  have hmk := mkIm ((1 : Nat) : Int) ((1 : Nat) : Int) (str (oneL 1)) w4
  have ha : Below w4.heap.size w4 (w4.alloc (.cells #[.int .i64 ((1 : Nat) : Int), .int .u64 ((1 : Nat) : Int), .string (str (oneL 1))] 24)) := (Below.refl _ _).alloc (Nat.le_refl _) _
  have hb4 := B3.out.trans (hb.mono B3.out.size)
  have B4 := Lib.hid (hb4.trans (ha.mono hb4.size))
  have L4 := Lib.hid ((L3.out.below hb).below ha)
  have S4 : Hid (w1.heap.size + 1 ≤ (w4.alloc (.cells #[.int .i64 ((1 : Nat) : Int), .int .u64 ((1 : Nat) : Int), .string (str (oneL 1))] 24)).heap.size) := Lib.hid (Nat.le_trans (Nat.le_trans hs3 hb.size) ha.size)
  have HA := Lib.hid (add_room L4.out good_L0 (fun k hk => HRN.out k (Nat.le_trans S4.out hk)) (by decide) (by decide) (i := oneI 1 1) (heap_alloc_new w4 _) (oneI_ok 1 1 (by decide)) (by decide))
  clear hb ha hb4 L3 B3 H1 hs3
  go_wp2_with fail
  refine HA.out.mono ?_
  rintro e w5 ⟨s, hs, rfl, hl, hg⟩
  have G5 := add_good good_L0 (by decide) s hs (by decide)
  have HG5 := Lib.hid G5
  have B5 := Lib.hid (B4.out.trans (hg.below B4.out.size HRB.out))
  have S5 : Hid (w1.heap.size + 1 ≤ w5.heap.size) := Lib.hid (Nat.le_trans S4.out hg.size)
  have HS := Lib.hid (sync_any hl G5 (fun k hk => HRN.out k (Nat.le_trans S5.out hk)) (by decide))
  clear hl hg G5 hmk HA L4 B4 S4
  go_wp2_with fail
  refine HS.out.mono ?_
  rintro e w6 ⟨rfl, hl, hg⟩
  have G6 := Lib.hid (sync_good HG5.out)
  have B6 := Lib.hid (B5.out.trans (hg.below B5.out.size HRB.out))
  have S6 : Hid (w1.heap.size + 1 ≤ w6.heap.size) := Lib.hid (Nat.le_trans S5.out hg.size)
  have L6 := Lib.hid hl
  have H2 := Lib.hid (one_any 2 1 (by decide) w6)
  unfold oneI Im.val at H2
  dsimp only at H2
  clear hl hg HS B5 S5
  go_wp2_with fail
  refine H2.out.mono ?_
  rintro e w7 ⟨rfl, hb⟩
  have hmk := mkIm ((2 : Nat) : Int) ((1 : Nat) : Int) (str (oneL 2)) w7
  have ha : Below w7.heap.size w7 (w7.alloc (.cells #[.int .i64 ((2 : Nat) : Int), .int .u64 ((1 : Nat) : Int), .string (str (oneL 2))] 24)) := (Below.refl _ _).alloc (Nat.le_refl _) _
  have hb4 := B6.out.trans (hb.mono B6.out.size)
  have B7 := Lib.hid (hb4.trans (ha.mono hb4.size))
  have L7 := Lib.hid ((L6.out.below hb).below ha)
  have S7 : Hid (w1.heap.size + 1 ≤ (w7.alloc (.cells #[.int .i64 ((2 : Nat) : Int), .int .u64 ((1 : Nat) : Int), .string (str (oneL 2))] 24)).heap.size) := Lib.hid (Nat.le_trans (Nat.le_trans S6.out hb.size) ha.size)
  have HA := Lib.hid (add_room L7.out G6.out (fun k hk => HRN.out k (Nat.le_trans S7.out hk)) (by show 2 ≤ 900; decide) (by show 1 ≤ 1; decide) (i := oneI 2 1) (heap_alloc_new w7 _) (oneI_ok 2 1 (by decide)) (by decide))
  clear hb ha hb4 L6 B6 H2 S6
  go_wp2_with fail
  refine HA.out.mono ?_
  rintro e w8 ⟨t, ht, rfl, hl, hg⟩
  have G8 := add_good G6.out (by show 1 ≤ 1; decide) t ht (by show 2 ≤ 900; decide)
  have B8 := Lib.hid (B7.out.trans (hg.below B7.out.size HRB.out))
  have HSY : Hid (Calls Tryz.prog 28 #[.pointer (some ⟨g, 0, none⟩)] w8 fun e w' => e = .returned (.int .u64 1) ∧ w8 = w') := Lib.hid (synced_any hl)
  have HNX : Hid (Calls Tryz.prog 18 #[.pointer (some ⟨g, 0, none⟩)] w8 fun e w' => e = .returned (.int .u64 3) ∧ w8 = w') := Lib.hid (next_any hl)
  have hus := used_any hl (by show 2 ≤ 1000; decide) G8.n3
  rw [used3 G8 _ (Nat.le_refl _)] at hus
  have HUS : Hid (Calls Tryz.prog 19 #[.pointer (some ⟨g, 0, none⟩)] w8 fun e w' => e = .returned (.int .i64 6) ∧ Below w8.heap.size w8 w') := Lib.hid hus
  have HPE : Hid (∀ wx, Below w8.heap.size w8 wx → Calls Tryz.prog 20 #[.pointer (some ⟨g, 0, none⟩)] wx fun e w' => e = .returned (.int .i64 1) ∧ Below wx.heap.size wx w') := Lib.hid (fun wx hx => by
    have h := pending_any (hl.below hx) (by show 2 ≤ 1000; decide)
    rw [pend2] at h
    exact h)
  clear hl hg G8 hus hmk HA L7 B7 S7
  go_wp2_with fail
  refine HSY.out.mono ?_
  rintro e w9 ⟨rfl, rfl⟩
  go_wp2_with fail
  refine HNX.out.mono ?_
  rintro e w9 ⟨rfl, rfl⟩
  go_wp2_with fail
  refine HUS.out.mono ?_
  rintro e w9 ⟨rfl, hb⟩
  have B9 := Lib.hid (B8.out.trans (hb.mono B8.out.size))
  have HP9 := Lib.hid (HPE.out w9 hb)
  clear hb
  go_wp2_with fail
  refine HP9.out.mono ?_
  rintro e wA ⟨rfl, hb⟩
  have BA := Lib.hid (B9.out.trans (hb.mono B9.out.size))
  clear hb
  go_wp2
  go_ret
  exact ⟨rfl, BA.out⟩

end Go.Proofs.YtkgdpmeheakdcaaGreat

/- book.Light; LogRefuses: walks. -/
namespace Go.Proofs.YtkgdpmeheakdcaaGreat
open Go.RowKit
set_option linter.all false
set_option maxRecDepth 100000

set_option maxHeartbeats 1000000 in
theorem room_one (left a : Int) (hl : left ≤ 9000) (hl0 : 0 ≤ left) (ha : 0 ≤ a) (ha1 : a ≤ 9223372036854775807) (g : Nat) (w : World) (hg : w.heap[g]? = some (.cells #[.int .i64 a] 3 (0, 0))) :
    Calls Tryz.prog 51 #[.int .i64 left, .slice (some ⟨g, 0, none⟩) 1 1] w fun e w' => ∃ r : Int, e = .returned (.int .i64 r) ∧ -1 ≤ r ∧ r ≤ 9000 ∧ w = w' := by
  have c0 : w.cell? ⟨g, 0, none⟩ = some (.int .i64 a) := by simp [World.cell?, hg]
  clear hg
  by_cases hc : left < a
  · go_enter Tryz.func51, Tryz.ntmps51
    go_wp2
    go_loopw [0, 5] (fun l i wr => wr = w ∧ l = .int .i64 left ∧ i = .int .i64 0) (fun _ i _ => 1 - (intOf i).toNat)
    case atStart => exact ⟨rfl, rfl, rfl⟩
    case round =>
      obtain ⟨rfl, rfl, rfl⟩ := hrel
      have q0 : ¬ left < 0 := by omega
      go_wp2
      go_ret
      exact ⟨-1, rfl, by omega, by omega, rfl⟩
  · have i1 : IntKind.i64.wrap (left - a) = left - a := IntWalk.i64_in _ (by omega)
    go_enter Tryz.func51, Tryz.ntmps51
    go_wp2
    go_loopw [0, 5] (fun l i wr => wr = w ∧ ((l = .int .i64 left ∧ i = .int .i64 0) ∨ (l = .int .i64 (left - a) ∧ i = .int .i64 1))) (fun _ i _ => 1 - (intOf i).toNat)
    case atStart => exact ⟨rfl, .inl ⟨rfl, rfl⟩⟩
    case round =>
      obtain ⟨rfl, ⟨rfl, rfl⟩ | ⟨rfl, rfl⟩⟩ := hrel
      · have q0 : ¬ left < 0 := by omega
        go_wp2
        go_roundw
        case rel => exact ⟨trivial, .inr ⟨rfl, rfl⟩⟩
        case measure => simp [intOf]
      · go_wp2
        go_ret
        exact ⟨left - a, rfl, by omega, by omega, rfl⟩

/-- Light's answer. -/
def RetLi (len : Nat) (w : World) (e : Ending) (w' : World) : Prop := ∃ v, e = .returned (.bool v) ∧ (v = true → len ≤ 70) ∧ Below w.heap.size w w'
theorem one_int (x : Int) (w : World) : (Instr.buildSlice 52 1 #[(0, .int .i64 x)]).run Tryz.prog w = .ok (.slice (some ⟨w.heap.size, 0, none⟩) 1 1) (w.alloc (.cells #[.int .i64 x] 3)) := by kernel_rfl

set_option maxHeartbeats 2000000 in
theorem blight_any (a : Option Addr) (len cap : Nat) (l : List Im) (w : World) (h : ImgsRow w a len cap l) :
    Calls Tryz.prog 13 #[.int .i64 70, .int .i64 9000, .slice a len cap] w (RetLi len w) := by
  have HI := Lib.hid h
  have hcap := h.hcap
  have hmx : maxLen ≤ 9223372036854775807 := by decide
  have HTA := Lib.hid one_int
  clear h
  by_cases h70 : len ≤ 70
  case neg =>
    have g1 : (70 : Int) < (len : Int) := by omega
    go_enter Tryz.func13, Tryz.ntmps13
    go_wp2
    go_ret
    exact ⟨_, rfl, fun h => (by cases h), Below.refl _ _⟩
  have g1 : ¬ (70 : Int) < (len : Int) := by omega
  go_enter Tryz.func13, Tryz.ntmps13
  go_wp2
  go_loopw [1, 7] (fun x i wr => ∃ (k : Nat) (m : Int), k ≤ len ∧ i = .int .i64 k ∧ x = .int .i64 m ∧ -1 ≤ m ∧ m ≤ 9000 ∧ Below w.heap.size w wr) (fun _ i _ => len - (intOf i).toNat)
  case atStart => exact ⟨0, 9000, Nat.zero_le _, rfl, rfl, by omega, by omega, Below.refl _ _⟩
  case round =>
    obtain ⟨k, m, hk, rfl, rfl, hm0, hm1, hb⟩ := hrel
    have HB := Lib.hid hb
    by_cases hgo : k < len ∧ 0 ≤ m
    · obtain ⟨hlt, hm⟩ := hgo
      obtain ⟨x, kb, ko, hx, rfl, hkb, hat⟩ := HI.out.ims k hlt
      have c2 := (hat.of_same (hb.block kb hkb)).c2
      have hdm := hat.dm
      have hkc : k < cap := by omega
      have hlt' : (k : Int) < (len : Int) := by omega
      obtain ⟨xb, xv, xd⟩ := x
      dsimp only at c2 hdm
      have hsz : ((str xd).size : Int) = xd.length := by rw [str_size]
      have HR := Lib.hid (room_one m (xd.length : Int) hm1 hm (by omega) (by omega) wr.heap.size (wr.alloc (.cells #[.int .i64 (xd.length : Int)] 3)) (heap_alloc_new wr _))
      have hta := HTA.out (xd.length : Int) wr
      clear hat hx hb
      go_wp2_with fail
      refine HR.out.mono ?_
      rintro e w2 ⟨q, rfl, hq0, hq1, rfl⟩
      have HREL := Lib.hid (HB.out.alloc HB.out.size (.cells #[.int .i64 (xd.length : Int)] 3))
      clear hta
      go_wp2
      go_roundw
      case rel => exact ⟨k + 1, q, by omega, by go_num, rfl, hq0, hq1, HREL.out⟩
      case measure => simp [intOf]; omega
    · clear hb
      by_cases hlt : k < len
      · have hlt' : (k : Int) < (len : Int) := by omega
        have hm : ¬ 0 ≤ m := fun h => hgo ⟨hlt, h⟩
        clear hgo
        go_wp2
        go_ret
        exact ⟨_, rfl, fun _ => h70, HB.out⟩
      · have hlt' : ¬ (k : Int) < (len : Int) := by omega
        clear hgo
        go_wp2
        go_ret
        exact ⟨_, rfl, fun _ => h70, HB.out⟩

theorem pendN_snoc (l : List En) (x : En) (hx : x.wr = false) : pendN (l ++ [x]) (l ++ [x]).length = pendN l l.length + 1 := by
  have hl : (l ++ [x]).length = l.length + 1 := by simp
  have h1 : ∀ k, k ≤ l.length → pendN (l ++ [x]) k = pendN l k := by
    intro k
    induction k with
    | zero => intro _; rfl
    | succ k ih =>
      intro hk
      have hy : l[k]? = some l[k] := List.getElem?_eq_getElem (by omega)
      have hy2 : (l ++ [x])[k]? = some l[k] := by rw [List.getElem?_append_left (by omega)]; exact hy
      rw [pendN_succ hy, pendN_succ hy2, ih (by omega)]
  have hz : (l ++ [x])[l.length]? = some x := by simp
  rw [hl, pendN_succ hz, h1 _ (Nat.le_refl _), hx]
  rfl

end Go.Proofs.YtkgdpmeheakdcaaGreat
