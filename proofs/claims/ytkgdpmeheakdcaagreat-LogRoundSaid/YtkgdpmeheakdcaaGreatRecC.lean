import Derived.Test.YtkgdpmeheakdcaaGreatRecA
/- rec: body, wrong, Put: walks. -/
namespace Go.Proofs.YtkgdpmeheakdcaaGreat
open Go.RowKit
set_option linter.all false
set_option maxRecDepth 100000

/-- The bytes of the first k images. -/
def bodyK (l : List Im) : Nat → List UInt8
  | 0 => []
  | k + 1 => match l[k]? with
    | some x => bodyK l k ++ (tagL x.b.toNat x.v ++ x.d)
    | none => bodyK l k
theorem bodyK_succ {l : List Im} {k : Nat} {x : Im} (h : l[k]? = some x) : bodyK l (k + 1) = bodyK l k ++ (tagL x.b.toNat x.v ++ x.d) := by simp [bodyK, h]
theorem bodyK_length {l : List Im} (h : ∀ x ∈ l, x.ok = true) : ∀ k, k ≤ l.length → (bodyK l k).length = 108 * k
  | 0, _ => rfl
  | k + 1, hk => by
    have hx : l[k]? = some l[k] := List.getElem?_eq_getElem (by omega)
    rw [bodyK_succ hx, List.length_append, List.length_append, bodyK_length h k (by omega), tagL_length, (Im.ok_iff.1 (h _ (List.mem_of_getElem? hx))).2.2]
    omega

set_option maxHeartbeats 4000000 in
theorem body_any (a : Option Addr) (len cap : Nat) (l : List Im) (w : World) (h : ImgsRow w a len cap l) (hl : len ≤ 60) (hok : ∀ x ∈ l, x.ok = true) :
    Calls Tryz.prog 105 #[.slice a len cap] w fun e w' => e = .returned (.string (str (bodyK l len))) ∧ Below w.heap.size w w' := by
  have HI := Lib.hid h
  have HK := Lib.hid hok
  have hcap := h.hcap
  clear h hok
  go_enter Tryz.func105, Tryz.ntmps105
  go_wp2
  go_loopw [3, 11] (fun t i wr => ∃ k : Nat, k ≤ len ∧ i = .int .i64 k ∧ t = .string (str (bodyK l k)) ∧ Below w.heap.size w wr) (fun _ i _ => len - (intOf i).toNat)
  case atStart => exact ⟨0, Nat.zero_le _, rfl, rfl, Below.refl _ _⟩
  case round =>
    obtain ⟨k, hk, rfl, rfl, hb⟩ := hrel
    have HB := Lib.hid hb
    by_cases hlt : k < len
    · obtain ⟨x, kb, ko, hx, rfl, hkb, hat⟩ := HI.out.ims k hlt
      obtain ⟨x0, x1, x2⟩ := Im.ok_iff.1 (HK.out x (List.mem_of_getElem? hx))
      have hat2 := hat.of_same (hb.block kb hkb)
      have p0 := hat2.c0
      have p1 := hat2.c1
      have p2 := hat2.c2
      have hvm := hat.vm
      have hlen0 := bodyK_length HK.out k (by rw [HI.out.hlen]; omega)
      have HSU := Lib.hid (bodyK_succ hx)
      have hkc : k < cap := by omega
      obtain ⟨xb, xv, xd⟩ := x
      dsimp only at p0 p1 p2 hvm x0 x1 x2 HSU
      obtain ⟨xb, rfl⟩ := Int.eq_ofNat_of_zero_le x0
      rw [Int.toNat_natCast] at HSU
      have HA1 : Hid (str (tagL xb xv) ++ str xd = str (tagL xb xv ++ xd)) := Lib.hid (str_app _ _)
      have HA2 : Hid (str (bodyK l k) ++ str (tagL xb xv ++ xd) = str (bodyK l (k + 1))) := Lib.hid (by rw [HSU.out, str_app])
      have HB1 : Hid (¬ 9223372036854775807 < (str (tagL xb xv)).size + (str xd).size) := Lib.hid (by rw [str_size, str_size, tagL_length]; omega)
      have HB2 : Hid (¬ 9223372036854775807 < (str (bodyK l k)).size + (str (tagL xb xv ++ xd)).size) := Lib.hid (by rw [str_size, str_size, List.length_append, tagL_length]; omega)
      have HS0 := Lib.hid (BoxSt.start (.cells #[.int .i64 xb, .int .u64 xv, .string (str xd)] 24) hb)
      have HV : Hid (xv < 256 ^ 8) := Lib.hid hvm
      have hwb : IntKind.u64.wrap (xb : Int) = (xb : Int) := by rw [IntKind.wrap_u64, Int.emod_eq_of_lt (by omega) (by omega)]
      clear hb hat hat2 hx hvm HSU hlen0
      go_upto_region 6 with fail
      generalize hWW : (wr.alloc (.cells #[.int .i64 xb, .int .u64 xv, .string (str xd)] 24)).alloc (.cells #[.slice none 0 0, .int .i64 0] 161) = W at *
      obtain ⟨O, hO⟩ : ∃ O, O = Obj.cells #[.int .i64 xb, .int .u64 xv, .string (str xd)] 24 (0, 0) := ⟨_, rfl⟩
      rw [← hO] at HS0
      have CELLS : Hid (∀ wx bs, BoxSt O wr.heap.size (wr.heap.size + 1) w bs wx → wx.cell? ⟨wr.heap.size, 0, none⟩ = some (.int .i64 xb) ∧ wx.cell? ⟨wr.heap.size, 1, none⟩ = some (.int .u64 xv) ∧ wx.cell? ⟨wr.heap.size, 2, none⟩ = some (.string (str xd))) := Lib.hid (fun wx bs h => three_cells (h.box.trans (by rw [hO])))
      have N1 : Hid (∀ wx, BoxSt O wr.heap.size (wr.heap.size + 1) w [] wx → Calls Tryz.prog 120 #[.pointer (some ⟨wr.heap.size + 1, 0, none⟩), .int .u64 xb, .int .i64 4] wx fun e w' => e = .returned (.pointer (some ⟨wr.heap.size + 1, 0, none⟩)) ∧ BoxSt O wr.heap.size (wr.heap.size + 1) w (leN 4 xb) w') := Lib.hid (fun wx h => h.num 4 (.inr (.inl rfl)) xb (by omega) (by decide))
      have N2 : Hid (∀ wx, BoxSt O wr.heap.size (wr.heap.size + 1) w (leN 4 xb) wx → Calls Tryz.prog 120 #[.pointer (some ⟨wr.heap.size + 1, 0, none⟩), .int .u64 xv, .int .i64 8] wx fun e w' => e = .returned (.pointer (some ⟨wr.heap.size + 1, 0, none⟩)) ∧ BoxSt O wr.heap.size (wr.heap.size + 1) w (tagL xb xv) w') := Lib.hid (fun wx h => h.num 8 (.inr (.inr rfl)) xv HV.out (by rw [leN_length]; decide))
      have N3 : Hid (∀ wx, BoxSt O wr.heap.size (wr.heap.size + 1) w (tagL xb xv) wx → Calls Tryz.prog 121 #[.pointer (some ⟨wr.heap.size + 1, 0, none⟩)] wx fun e w' => e = .returned (.tuple #[.string (str (tagL xb xv)), .int .i64 0]) ∧ wx = w') := Lib.hid (fun wx h => h.bytes)
      have hSd := HS0.out.drew
      obtain ⟨c0, c1, c2⟩ := CELLS.out _ _ hSd
      have HW1 := Lib.hid hWW
      clear hO p0 p1 p2 hWW
      go_cut [7, 8] from 15 to 25 (fun s7 s8 wx => s7 = .string (str (tagL xb xv)) ∧ s8 = .int .i64 0 ∧ BoxSt O wr.heap.size (wr.heap.size + 1) w (tagL xb xv) wx)
      case first =>
        go_region_held3 (fun w' => w'.cell? ⟨wr.heap.size, 0, none⟩ = some (.int .i64 xb) ∧ w'.cell? ⟨wr.heap.size, 1, none⟩ = some (.int .u64 xv) ∧ w'.cell? ⟨wr.heap.size, 2, none⟩ = some (.string (str xd)))
          (first | exact ⟨c0, c1, c2⟩ | exact ⟨d0, d1, d2⟩ | exact ⟨k0, k1, k2⟩ | go_keep)
          (first
            | (go_at_call 120
               with_reducible refine (N1.out _ hSd).mono ?_
               rintro e x1 ⟨rfl, g1⟩
               obtain ⟨d0, d1, d2⟩ := CELLS.out _ _ g1)
            | (go_at_call 120
               with_reducible refine (N2.out _ g1).mono ?_
               rintro e x2 ⟨rfl, g2⟩
               obtain ⟨k0, k1, k2⟩ := CELLS.out _ _ g2)
            | (go_at_call 121
               with_reducible refine (N3.out _ g2).mono ?_
               rintro e x3 ⟨rfl, rfl⟩))
        all_goals go_wp2_with fail
        all_goals go_meet
        all_goals exact ⟨rfl, rfl, g2⟩
      case rest =>
        obtain ⟨rfl, rfl, hs⟩ := hcut
        obtain ⟨d0, d1, d2⟩ := CELLS.out _ _ hs
        have HS := Lib.hid hs.bel
        have a1 := HA1.out
        have a2 := HA2.out
        have b1 := HB1.out
        have b2 := HB2.out
        clear hs hSd c0 c1 c2 hwb HW1
        go_wp2
        go_roundw
        case rel => exact ⟨k + 1, by omega, by go_num, rfl, HS.out⟩
        case measure => simp [intOf]; omega
    · have hkn : k = len := by omega
      subst hkn
      clear hb
      go_wp2
      go_ret
      exact ⟨rfl, HB.out⟩

theorem right_big (i : Im) (w : World) : Calls Tryz.prog 89 #[i.val] w fun e w' => e = .returned (.bool i.ok) ∧ Below w.heap.size w w' := by
  have hsz : ((str i.d).size : Int) = i.d.length := by rw [str_size]
  have HB := Lib.hid ((Below.refl w.heap.size w).alloc (Nat.le_refl _) (.cells #[.int .i64 i.b, .int .u64 i.v, .string (str i.d)] 24))
  unfold Im.ok Im.val
  obtain ⟨b, v, d⟩ := i
  dsimp only at *
  by_cases h1 : 0 ≤ b
  · have e1 : decide (0 ≤ b) = true := by simpa using h1
    by_cases h2 : b < 4096
    · have e2 : decide (b < 4096) = true := by simpa using h2
      by_cases h3 : d.length = 96
      · have e3 : ((d.length : Int) == 96) = true := by simp [h3]
        have HG : Hid (decide (0 ≤ b ∧ b < 4096 ∧ d.length = 96) = true) := Lib.hid (by simp [h1, h2, h3])
        rw [HG.out]
        clear h3
        go_enter Tryz.func89, Tryz.ntmps89
        go_wp2
        go_ret
        exact ⟨rfl, HB.out⟩
      · have e3 : ((d.length : Int) == 96) = false := by simp; omega
        have HG : Hid (decide (0 ≤ b ∧ b < 4096 ∧ d.length = 96) = false) := Lib.hid (by simp [h3])
        rw [HG.out]
        go_enter Tryz.func89, Tryz.ntmps89
        go_wp2
        go_ret
        exact ⟨rfl, HB.out⟩
    · have e2 : decide (b < 4096) = false := by simpa using h2
      have HG : Hid (decide (0 ≤ b ∧ b < 4096 ∧ d.length = 96) = false) := Lib.hid (by simp [h2])
      rw [HG.out]
      go_enter Tryz.func89, Tryz.ntmps89
      go_wp2
      go_ret
      exact ⟨rfl, HB.out⟩
  · have e1 : decide (0 ≤ b) = false := by simpa using h1
    have HG : Hid (decide (0 ≤ b ∧ b < 4096 ∧ d.length = 96) = false) := Lib.hid (by simp [h1])
    rw [HG.out]
    go_enter Tryz.func89, Tryz.ntmps89
    go_wp2
    go_ret
    exact ⟨rfl, HB.out⟩

end Go.Proofs.YtkgdpmeheakdcaaGreat

/- rec: wrong, Put: walks. -/
namespace Go.Proofs.YtkgdpmeheakdcaaGreat
open Go.RowKit
set_option linter.all false
set_option maxRecDepth 100000

/-- What wrong tells. -/
def WrongTo (l : List Im) (w : World) (e : Ending) (w' : World) : Prop :=
  ∃ c : Int, e = .returned (.int .i64 c) ∧ (c = 0 ∨ c = 1 ∨ c = 2) ∧ (c = 0 → 1 ≤ l.length ∧ l.length ≤ 60 ∧ ∀ x ∈ l, x.ok = true) ∧ (l.length = 1 → (∀ x ∈ l, x.ok = true) → c = 0) ∧ Below w.heap.size w w'

theorem WrongTo.one {l : List Im} {w w' : World} (h : ∀ x ∈ l, l.length = 1 → ¬ x.ok = true) (hb : Below w.heap.size w w') : WrongTo l w (.returned (.int .i64 1)) w' := by
  refine ⟨1, rfl, .inr (.inl rfl), fun h => (by cases h), fun h1 h2 => ?_, hb⟩
  cases l with
  | nil => cases h1
  | cons x t => exact absurd (h2 x (List.mem_cons_self ..)) (h x (List.mem_cons_self ..) h1)

set_option maxHeartbeats 4000000 in
theorem wrong_any (lsn : Nat) (a : Option Addr) (len cap : Nat) (l : List Im) (w : World) (h : ImgsRow w a len cap l) (hl : len ≤ 1000) (h1 : 1 ≤ lsn) :
    Calls Tryz.prog 104 #[.agg #[.int .u64 9, .int .u64 lsn, .slice a len cap]] w (WrongTo l w) := by
  have HI := Lib.hid h
  have hcap := h.hcap
  have hll := h.hlen
  have e1 : ((lsn : Int) == 0) = false := by simp; omega
  have HB0 : Hid (Below w.heap.size w (w.alloc (.cells #[.int .u64 9, .int .u64 lsn, .slice a len cap] 93))) := Lib.hid ((Below.refl _ _).alloc (Nat.le_refl _) _)
  have HX0 : Hid ((w.alloc (.cells #[.int .u64 9, .int .u64 lsn, .slice a len cap] 93)).heap[w.heap.size]? = some (.cells #[.int .u64 9, .int .u64 lsn, .slice a len cap] 93 (0, 0))) := Lib.hid (heap_alloc_new w _)
  clear h
  by_cases hz : len = 0
  · have e2 : ((len : Int) == 0) = true := by simp; omega
    have HF : Hid (WrongTo l w (.returned (.int .i64 1)) (w.alloc (.cells #[.int .u64 9, .int .u64 lsn, .slice a len cap] 93))) := Lib.hid (WrongTo.one (fun x hx h => by omega) HB0.out)
    clear hz
    go_enter Tryz.func104, Tryz.ntmps104
    go_wp2
    go_ret
    exact HF.out
  · have e2 : ((len : Int) == 0) = false := by simp; omega
    go_enter Tryz.func104, Tryz.ntmps104
    go_wp2
    go_loopw [22] (fun i wr => ∃ k : Nat, k ≤ len ∧ i = .int .i64 k ∧ Below w.heap.size w wr ∧ wr.heap[w.heap.size]? = some (.cells #[.int .u64 9, .int .u64 lsn, .slice a len cap] 93 (0, 0)) ∧ ∀ j x, j < k → l[j]? = some x → x.ok = true) (fun i _ => len - (intOf i).toNat)
    case atStart => exact ⟨0, Nat.zero_le _, rfl, HB0.out, HX0.out, fun j x h => by omega⟩
    case round =>
      obtain ⟨k, hk, rfl, hb, hx0, hall⟩ := hrel
      have HB := Lib.hid hb
      have HX := Lib.hid hx0
      have HALL := Lib.hid hall
      by_cases hlt : k < len
      · obtain ⟨x, kb, ko, hx, rfl, hkb, hat⟩ := HI.out.ims k hlt
        have hat2 := hat.of_same (hb.block kb hkb)
        have p0 := hat2.c0
        have p1 := hat2.c1
        have p2 := hat2.c2
        have hkc : k < cap := by omega
        have HXK := Lib.hid hx
        have hR := Lib.hid (right_big x)
        have hbn := hb.alloc hb.size (.cells #[.int .i64 x.b, .int .u64 x.v, .string (str x.d)] 24)
        have BN := Lib.hid hbn
        have hz2 : w.heap.size < wr.heap.size := (Array.getElem?_eq_some_iff.1 hx0).1
        have XN : Hid ((wr.alloc (.cells #[.int .i64 x.b, .int .u64 x.v, .string (str x.d)] 24)).heap[w.heap.size]? = some (.cells #[.int .u64 9, .int .u64 lsn, .slice (some ⟨kb, ko, none⟩) len cap] 93 (0, 0))) := Lib.hid ((heap_alloc_old wr _ hz2).trans hx0)
        have IN : Hid ((wr.alloc (.cells #[.int .i64 x.b, .int .u64 x.v, .string (str x.d)] 24)).heap[wr.heap.size]? = some (.cells #[.int .i64 x.b, .int .u64 x.v, .string (str x.d)] 24 (0, 0))) := Lib.hid (heap_alloc_new wr _)
        obtain ⟨ok, hok⟩ : ∃ ok, ok = x.ok := ⟨_, rfl⟩
        rw [← hok] at hR
        have HOK := Lib.hid hok
        obtain ⟨xb, xv, xd⟩ := x
        dsimp only at *
        unfold Im.val at hR
        dsimp only at hR
        clear hb hx0 hall hat hat2 hx hbn hok
        go_upto_region 6 with fail
        generalize wr.alloc (.cells #[.int .i64 xb, .int .u64 xv, .string (str xd)] 24) = V at *
        obtain ⟨c0, c1, c2⟩ := three_cells (show V.drew.heap[wr.heap.size]? = _ from IN.out)
        obtain ⟨r0, r1, r2⟩ := three_cells (show V.drew.heap[w.heap.size]? = _ from XN.out)
        have VZ : Hid (wr.heap.size < V.drew.heap.size) := Lib.hid (Array.getElem?_eq_some_iff.1 (show V.drew.heap[wr.heap.size]? = _ from IN.out)).1
        clear p0 p1 p2
        have HR := Lib.hid (hR.out V.drew)
        clear hR
        cases ok with
        | false =>
          have HF : Hid (∀ w', Below w.heap.size w w' → WrongTo l w (.returned (.int .i64 1)) w') := Lib.hid (fun w' hb => WrongTo.one (fun y hy h1 => by
            have hk0 : k = 0 := by omega
            subst hk0
            have : y = ⟨xb, xv, xd⟩ := by
              obtain ⟨j, hj⟩ := List.mem_iff_getElem?.1 hy
              have hj0 : j = 0 := by have := (List.getElem?_eq_some_iff.1 hj).1; omega
              subst hj0
              rw [HXK.out] at hj
              exact (Option.some.inj hj).symm
            rw [this, ← HOK.out]
            decide) hb)
          go_cut [45] from 27 to 44 (fun s45 wx => s45 = .bool true ∧ Below w.heap.size w wx)
          case first =>
            refine wp_region_any (by kernel_rfl) ?_
            change wpAny _ _ _ _ _ _ _ (World.drew _)
            refine wpAny_ready (rs := [0]) (by kernel_rfl) (by simp) (AllReady.cons rfl (fun K hK => ?_) AllReady.nil)
            go_simp
            refine hK _ _ ?_
            clear hK K
            refine wpAny_ready (rs := [1]) (by kernel_rfl) (by simp) (AllReady.cons rfl (fun K hK => ?_) AllReady.nil)
            go_simp
            go_wp2_with (first | (go_at_call 89; refine HR.out.mono ?_; rintro e x1 ⟨rfl, b1⟩))
            refine wpAny_ready (rs := [2]) (by kernel_rfl) (by simp) (AllReady.cons rfl (fun K hK => ?_) AllReady.nil)
            go_simp
            refine hK _ _ ?_
            clear hK K
            refine wpAny_ready (rs := [3]) (by kernel_rfl) (by simp) (AllReady.cons rfl (fun K hK => ?_) AllReady.nil)
            go_simp
            refine hK _ _ ?_
            clear hK K
            refine wpAny_take (i := 4) (v := undef) rfl (by kernel_rfl) (by kernel_rfl) (by kernel_rfl) (fun _ _ _ h => h) (Or.inr ⟨by kernel_rfl, rfl⟩) ?_
            simp only [Act.put, List.setIfInBounds_toArray, List.set_cons_zero, List.set_cons_succ]
            refine wpAny_take (i := 5) (v := undef) rfl (by kernel_rfl) (by kernel_rfl) (by kernel_rfl) (fun _ _ _ h => h) (Or.inr ⟨by kernel_rfl, rfl⟩) ?_
            simp only [Act.put, List.setIfInBounds_toArray, List.set_cons_zero, List.set_cons_succ]
            refine wpAny_take (i := 6) (v := undef) rfl (by kernel_rfl) (by kernel_rfl) (by kernel_rfl) (fun _ _ _ h => h) (Or.inr ⟨by kernel_rfl, rfl⟩) ?_
            simp only [Act.put, List.setIfInBounds_toArray, List.set_cons_zero, List.set_cons_succ]
            refine wpAny_take (i := 7) (v := undef) rfl (by kernel_rfl) (by kernel_rfl) (by kernel_rfl) (fun _ _ _ h => h) (Or.inr ⟨by kernel_rfl, rfl⟩) ?_
            simp only [Act.put, List.setIfInBounds_toArray, List.set_cons_zero, List.set_cons_succ]
            refine wpAny_take (i := 8) (v := undef) rfl (by kernel_rfl) (by kernel_rfl) (by kernel_rfl) (fun _ _ _ h => h) (Or.inr ⟨by kernel_rfl, rfl⟩) ?_
            simp only [Act.put, List.setIfInBounds_toArray, List.set_cons_zero, List.set_cons_succ]
            refine wpAny_take (i := 9) (v := undef) rfl (by kernel_rfl) (by kernel_rfl) (by kernel_rfl) (fun _ _ _ h => h) (Or.inr ⟨by kernel_rfl, rfl⟩) ?_
            simp only [Act.put, List.setIfInBounds_toArray, List.set_cons_zero, List.set_cons_succ]
            refine wpAny_take (i := 10) (v := undef) rfl (by kernel_rfl) (by kernel_rfl) (by kernel_rfl) (fun _ _ _ h => h) (Or.inr ⟨by kernel_rfl, rfl⟩) ?_
            simp only [Act.put, List.setIfInBounds_toArray, List.set_cons_zero, List.set_cons_succ]
            refine wpAny_take (i := 11) (v := undef) rfl (by kernel_rfl) (by kernel_rfl) (by kernel_rfl) (fun _ _ _ h => h) (Or.inr ⟨by kernel_rfl, rfl⟩) ?_
            simp only [Act.put, List.setIfInBounds_toArray, List.set_cons_zero, List.set_cons_succ]
            refine wpAny_take (i := 12) (v := undef) rfl (by kernel_rfl) (by kernel_rfl) (by kernel_rfl) (fun _ _ _ h => h) (Or.inr ⟨by kernel_rfl, rfl⟩) ?_
            simp only [Act.put, List.setIfInBounds_toArray, List.set_cons_zero, List.set_cons_succ]
            refine wpAny_take (i := 13) (v := undef) rfl (by kernel_rfl) (by kernel_rfl) (by kernel_rfl) (fun _ _ _ h => h) (Or.inr ⟨by kernel_rfl, rfl⟩) ?_
            simp only [Act.put, List.setIfInBounds_toArray, List.set_cons_zero, List.set_cons_succ]
            refine wpAny_take (i := 14) (v := undef) rfl (by kernel_rfl) (by kernel_rfl) (by kernel_rfl) (fun _ _ _ h => h) (Or.inr ⟨by kernel_rfl, rfl⟩) ?_
            simp only [Act.put, List.setIfInBounds_toArray, List.set_cons_zero, List.set_cons_succ]
            refine wpAny_take (i := 15) (v := undef) rfl (by kernel_rfl) (by kernel_rfl) (by kernel_rfl) (fun _ _ _ h => h) (Or.inr ⟨by kernel_rfl, rfl⟩) ?_
            simp only [Act.put, List.setIfInBounds_toArray, List.set_cons_zero, List.set_cons_succ]
            refine wpAny_take (i := 16) (v := undef) rfl (by kernel_rfl) (by kernel_rfl) (by kernel_rfl) (fun _ _ _ h => h) (Or.inr ⟨by kernel_rfl, rfl⟩) ?_
            simp only [Act.put, List.setIfInBounds_toArray, List.set_cons_zero, List.set_cons_succ]
            refine wpAny_take (i := 17) (v := undef) rfl (by kernel_rfl) (by kernel_rfl) (by kernel_rfl) (fun _ _ _ h => h) (Or.inr ⟨by kernel_rfl, rfl⟩) ?_
            simp only [Act.put, List.setIfInBounds_toArray, List.set_cons_zero, List.set_cons_succ]
            refine wpAny_ready (rs := [18]) (by kernel_rfl) (by simp) (AllReady.cons rfl (fun K hK => ?_) AllReady.nil)
            go_simp
            refine hK _ _ ?_
            clear hK K
            refine wpAny_done (by kernel_rfl) ?_ _
            all_goals go_wp2_with fail
            all_goals go_meet
            all_goals exact ⟨rfl, BN.out.drew.trans (b1.mono BN.out.drew.size)⟩
          case rest =>
            obtain ⟨rfl, hs⟩ := hcut
            have HS := Lib.hid (HF.out _ hs)
            clear hs
            go_wp2
            go_ret
            exact HS.out
        | true =>
          have HA2 : Hid (∀ j y, j < k + 1 → l[j]? = some y → y.ok = true) := Lib.hid (fun j y hj hy => by
            by_cases hjk : j = k
            · subst hjk
              rw [HXK.out] at hy
              rw [← Option.some.inj hy, ← HOK.out]
            · exact HALL.out j y (by omega) hy)
          by_cases hk0 : k = 0
          · subst hk0
            go_cut [45] from 27 to 44 (fun s45 wx => s45 = .bool false ∧ Below w.heap.size w wx ∧ wx.heap[w.heap.size]? = some (.cells #[.int .u64 9, .int .u64 lsn, .slice (some ⟨kb, ko, none⟩) len cap] 93 (0, 0)))
            case first =>
              refine wp_region_any (by kernel_rfl) ?_
              change wpAny _ _ _ _ _ _ _ (World.drew _)
              refine wpAny_ready (rs := [0]) (by kernel_rfl) (by simp) (AllReady.cons rfl (fun K hK => ?_) AllReady.nil)
              go_simp
              refine hK _ _ ?_
              clear hK K
              refine wpAny_ready (rs := [1]) (by kernel_rfl) (by simp) (AllReady.cons rfl (fun K hK => ?_) AllReady.nil)
              go_simp
              go_wp2_with (first | (go_at_call 89; refine HR.out.mono ?_; rintro e x1 ⟨rfl, b1⟩))
              refine wpAny_ready (rs := [2]) (by kernel_rfl) (by simp) (AllReady.cons rfl (fun K hK => ?_) AllReady.nil)
              go_simp
              refine hK _ _ ?_
              clear hK K
              refine wpAny_ready (rs := [3]) (by kernel_rfl) (by simp) (AllReady.cons rfl (fun K hK => ?_) AllReady.nil)
              go_simp
              refine hK _ _ ?_
              clear hK K
              refine wpAny_ready (rs := [4]) (by kernel_rfl) (by simp) (AllReady.cons rfl (fun K hK => ?_) AllReady.nil)
              go_simp
              refine hK _ _ ?_
              clear hK K
              refine wpAny_ready (rs := [5]) (by kernel_rfl) (by simp) (AllReady.cons rfl (fun K hK => ?_) AllReady.nil)
              go_simp
              refine hK _ _ ?_
              clear hK K
              refine wpAny_ready (rs := [6]) (by kernel_rfl) (by simp) (AllReady.cons rfl (fun K hK => ?_) AllReady.nil)
              go_simp
              refine hK _ _ ?_
              clear hK K
              refine wpAny_take (i := 7) (v := undef) rfl (by kernel_rfl) (by kernel_rfl) (by kernel_rfl) (fun _ _ _ h => h) (Or.inr ⟨by kernel_rfl, rfl⟩) ?_
              simp only [Act.put, List.setIfInBounds_toArray, List.set_cons_zero, List.set_cons_succ]
              refine wpAny_take (i := 8) (v := undef) rfl (by kernel_rfl) (by kernel_rfl) (by kernel_rfl) (fun _ _ _ h => h) (Or.inr ⟨by kernel_rfl, rfl⟩) ?_
              simp only [Act.put, List.setIfInBounds_toArray, List.set_cons_zero, List.set_cons_succ]
              refine wpAny_take (i := 9) (v := undef) rfl (by kernel_rfl) (by kernel_rfl) (by kernel_rfl) (fun _ _ _ h => h) (Or.inr ⟨by kernel_rfl, rfl⟩) ?_
              simp only [Act.put, List.setIfInBounds_toArray, List.set_cons_zero, List.set_cons_succ]
              refine wpAny_take (i := 10) (v := undef) rfl (by kernel_rfl) (by kernel_rfl) (by kernel_rfl) (fun _ _ _ h => h) (Or.inr ⟨by kernel_rfl, rfl⟩) ?_
              simp only [Act.put, List.setIfInBounds_toArray, List.set_cons_zero, List.set_cons_succ]
              refine wpAny_take (i := 11) (v := undef) rfl (by kernel_rfl) (by kernel_rfl) (by kernel_rfl) (fun _ _ _ h => h) (Or.inr ⟨by kernel_rfl, rfl⟩) ?_
              simp only [Act.put, List.setIfInBounds_toArray, List.set_cons_zero, List.set_cons_succ]
              refine wpAny_take (i := 12) (v := undef) rfl (by kernel_rfl) (by kernel_rfl) (by kernel_rfl) (fun _ _ _ h => h) (Or.inr ⟨by kernel_rfl, rfl⟩) ?_
              simp only [Act.put, List.setIfInBounds_toArray, List.set_cons_zero, List.set_cons_succ]
              refine wpAny_take (i := 13) (v := undef) rfl (by kernel_rfl) (by kernel_rfl) (by kernel_rfl) (fun _ _ _ h => h) (Or.inr ⟨by kernel_rfl, rfl⟩) ?_
              simp only [Act.put, List.setIfInBounds_toArray, List.set_cons_zero, List.set_cons_succ]
              refine wpAny_take (i := 14) (v := undef) rfl (by kernel_rfl) (by kernel_rfl) (by kernel_rfl) (fun _ _ _ h => h) (Or.inr ⟨by kernel_rfl, rfl⟩) ?_
              simp only [Act.put, List.setIfInBounds_toArray, List.set_cons_zero, List.set_cons_succ]
              refine wpAny_take (i := 15) (v := undef) rfl (by kernel_rfl) (by kernel_rfl) (by kernel_rfl) (fun _ _ _ h => h) (Or.inr ⟨by kernel_rfl, rfl⟩) ?_
              simp only [Act.put, List.setIfInBounds_toArray, List.set_cons_zero, List.set_cons_succ]
              refine wpAny_take (i := 16) (v := undef) rfl (by kernel_rfl) (by kernel_rfl) (by kernel_rfl) (fun _ _ _ h => h) (Or.inr ⟨by kernel_rfl, rfl⟩) ?_
              simp only [Act.put, List.setIfInBounds_toArray, List.set_cons_zero, List.set_cons_succ]
              refine wpAny_ready (rs := [17]) (by kernel_rfl) (by simp) (AllReady.cons rfl (fun K hK => ?_) AllReady.nil)
              go_simp
              refine hK _ _ ?_
              clear hK K
              refine wpAny_ready (rs := [18]) (by kernel_rfl) (by simp) (AllReady.cons rfl (fun K hK => ?_) AllReady.nil)
              go_simp
              refine hK _ _ ?_
              clear hK K
              refine wpAny_done (by kernel_rfl) ?_ _
              all_goals go_wp2_with fail
              all_goals go_meet
              all_goals exact ⟨rfl, BN.out.drew.trans (b1.mono BN.out.drew.size), (b1.block _ (by have := VZ.out; omega)).trans XN.out⟩
            case rest =>
              obtain ⟨rfl, hs, hxx⟩ := hcut
              have HS := Lib.hid hs
              have HXX := Lib.hid hxx
              clear hs hxx
              go_wp2
              go_roundw
              case rel => exact ⟨1, by omega, by go_num, HS.out, HXX.out, HA2.out⟩
              case measure => simp [intOf]; omega
          · have hkp : 0 < k := by omega
            have hkq : (0 : Int) < (k : Int) := by omega
            obtain ⟨y, kb', ko', hy, hkk, hkb', haty⟩ := HI.out.ims (k - 1) (by omega)
            obtain ⟨rfl, rfl⟩ : kb' = kb ∧ ko' = ko := by cases hkk; exact ⟨rfl, rfl⟩
            have hyv : V.drew.cell? ⟨kb', ko' + (k - 1) * 3, none⟩ = some (.int .i64 y.b) := by
              have h1 : V.drew.heap[kb']? = w.heap[kb']? := BN.out.block kb' hkb
              exact (World.cell?_of_block h1).trans haty.c0
            have i1 : IntKind.i64.wrap ((k : Int) - 1) = ((k - 1 : Nat) : Int) := by rw [IntWalk.i64_in _ (by omega)]; omega
            have i2 : (k : Int) - 1 = ((k - 1 : Nat) : Int) := by omega
            have hkl : k - 1 < len := by omega
            have hlen2 : l.length ≠ 1 := by omega
            have YV := Lib.hid hyv
            have hkbz : kb' < V.drew.heap.size := by have := VZ.out; omega
            obtain ⟨yb, yv, yd⟩ := y
            dsimp only at hyv YV
            obtain ⟨m, hm⟩ : ∃ m, m = k - 1 := ⟨_, rfl⟩
            rw [← hm] at i1 i2 hkl hyv YV
            have i3 : IntKind.i64.wrap (m : Int) = (m : Int) := IntWalk.i64_in _ (by omega)
            have i4 : (0 : Int) ≤ (m : Int) := by omega
            have i5 : (m : Int) < (len : Int) := by omega
            have i6 : m < cap := by omega
            go_cut [45] from 27 to 44 (fun s45 wx => s45 = .bool (decide (xb ≤ yb)) ∧ Below w.heap.size w wx ∧ wx.heap[w.heap.size]? = some (.cells #[.int .u64 9, .int .u64 lsn, .slice (some ⟨kb', ko', none⟩) len cap] 93 (0, 0)))
            case first =>
              clear hk0 hy haty hm hlen2
              go_region_held3 (fun w' => (w'.cell? ⟨wr.heap.size, 0, none⟩ = some (.int .i64 xb) ∧ w'.cell? ⟨wr.heap.size, 1, none⟩ = some (.int .u64 xv) ∧ w'.cell? ⟨wr.heap.size, 2, none⟩ = some (.string (str xd))) ∧ w'.cell? ⟨w.heap.size, 2, none⟩ = some (.slice (some ⟨kb', ko', none⟩) len cap) ∧ w'.cell? ⟨kb', ko' + m * 3, none⟩ = some (.int .i64 yb))
                (first | exact ⟨⟨c0, c1, c2⟩, r2, hyv⟩ | exact ⟨⟨d0, d1, d2⟩, s2, y2⟩ | go_keep)
                (first
                  | (go_at_call 89
                     refine HR.out.mono ?_
                     rintro e x1 ⟨rfl, b1⟩
                     have d0 := (b1.cell (p := ⟨wr.heap.size, 0, none⟩) VZ.out).trans c0
                     have d1 := (b1.cell (p := ⟨wr.heap.size, 1, none⟩) VZ.out).trans c1
                     have d2 := (b1.cell (p := ⟨wr.heap.size, 2, none⟩) VZ.out).trans c2
                     have s2 := (b1.cell (p := ⟨w.heap.size, 2, none⟩) (Nat.lt_trans hz2 VZ.out)).trans r2
                     have y2 := (b1.cell (p := ⟨kb', ko' + m * 3, none⟩) hkbz).trans hyv))
              all_goals go_wp2_with fail
              all_goals go_meet
              all_goals exact ⟨by rfl, BN.out.drew.trans (b1.mono BN.out.drew.size), (b1.block _ (by have := VZ.out; omega)).trans XN.out⟩
            case rest =>
              obtain ⟨rfl, hs, hxx⟩ := hcut
              have HS := Lib.hid hs
              have HXX := Lib.hid hxx
              by_cases hxy : xb ≤ yb
              · have q1 : decide (xb ≤ yb) = true := by simpa using hxy
                have HF : Hid (WrongTo l w (.returned (.int .i64 1)) wc) := Lib.hid (WrongTo.one (fun _ _ h => absurd h hlen2) hs)
                rw [q1]
                clear hs hxx hk0 hy haty hm hlen2 hyv i1 i2 hxy q1
                go_wp2
                go_ret
                exact HF.out
              · have q1 : decide (xb ≤ yb) = false := by simpa using hxy
                rw [q1]
                clear hs hxx hk0 hy haty hm hlen2 hyv i1 i2 hxy q1
                go_wp2
                go_roundw
                case rel => exact ⟨k + 1, by omega, by go_num, HS.out, HXX.out, HA2.out⟩
                case measure => simp [intOf]; omega
      · have hkn : k = len := by omega
        subst hkn
        have hall2 : ∀ x ∈ l, x.ok = true := fun x hx => by
          obtain ⟨j, hj⟩ := List.mem_iff_getElem?.1 hx
          exact hall j x (by have := (List.getElem?_eq_some_iff.1 hj).1; omega) hj
        obtain ⟨r0, r1, r2⟩ := three_cells hx0
        by_cases h60 : k ≤ 60
        · have e3 : decide (60 < (k : Int)) = false := by simp; omega
          have HF : Hid (WrongTo l w (.returned (.int .i64 0)) wr) := Lib.hid ⟨0, rfl, .inl rfl, fun _ => ⟨by omega, by omega, hall2⟩, fun _ _ => rfl, hb⟩
          clear hall2 hall hb hx0
          go_wp2
          go_ret
          exact HF.out
        · have e3 : decide (60 < (k : Int)) = true := by simp; omega
          have HF : Hid (WrongTo l w (.returned (.int .i64 2)) wr) := Lib.hid ⟨2, rfl, .inr (.inr rfl), fun h => (by cases h), fun h => by omega, hb⟩
          clear hall2 hall hb hx0
          go_wp2
          go_ret
          exact HF.out

end Go.Proofs.YtkgdpmeheakdcaaGreat

/- rec.Put: walk. -/
namespace Go.Proofs.YtkgdpmeheakdcaaGreat
open Go.RowKit
set_option linter.all false
set_option maxRecDepth 100000

/-- What Put tells: an error, or so many sectors. -/
def PutTo (l : List Im) (w : World) (e : Ending) (w' : World) : Prop :=
  ∃ (s : ByteArray) (c : Int), e = .returned (.tuple #[.string s, .int .i64 c]) ∧ (c = 0 ∨ c = 1 ∨ c = 2) ∧ (c = 0 → 1 ≤ l.length ∧ l.length ≤ 60 ∧ s.size = 64 * secs l.length) ∧ (l.length = 1 → (∀ x ∈ l, x.ok = true) → c = 0) ∧ Below w.heap.size w w'

set_option maxHeartbeats 4000000 in
theorem recput_any (lsn : Nat) (a : Option Addr) (len cap : Nat) (l : List Im) (w : World) (h : ImgsRow w a len cap l) (hl : len ≤ 1000) (h1 : 1 ≤ lsn) (h2 : lsn < 18446744073709551616) :
    Calls Tryz.prog 56 #[.agg #[.int .u64 9, .int .u64 lsn, .slice a len cap]] w (PutTo l w) := by
  have HW := Lib.hid (fun w (h : ImgsRow w a len cap l) => wrong_any lsn a len cap l w h hl h1)
  have HI := Lib.hid h
  have hll := h.hlen
  have HX0 : Hid ((w.alloc (.cells #[.int .u64 9, .int .u64 lsn, .slice a len cap] 93)).heap[w.heap.size]? = some (.cells #[.int .u64 9, .int .u64 lsn, .slice a len cap] 93 (0, 0))) := Lib.hid (heap_alloc_new w _)
  have hb0 : Below w.heap.size w (w.alloc (.cells #[.int .u64 9, .int .u64 lsn, .slice a len cap] 93)) := (Below.refl _ _).alloc (Nat.le_refl _) _
  have HB0 := Lib.hid hb0
  have HI0 := Lib.hid (h.below hb0)
  have HW0 := Lib.hid (HW.out _ HI0.out)
  have H2 := Lib.hid h2
  clear h hb0 h2
  go_enter Tryz.func56, Tryz.ntmps56
  go_wp2_with fail
  refine HW0.out.mono ?_
  rintro e w1 ⟨c, rfl, hc, hc0, hc1, hb⟩
  have hb1 := HB0.out.trans (hb.mono HB0.out.size)
  have B1 := Lib.hid hb1
  have X1 := Lib.hid ((hb.block _ (Array.getElem?_eq_some_iff.1 HX0.out).1).trans HX0.out)
  have I1 := Lib.hid (HI.out.below hb1)
  have C1 := Lib.hid hc1
  clear hb hb1 HW0
  by_cases hz : c = 0
  case neg =>
    have e1 : (c != 0) = true := by simpa using hz
    have e1' : (c == 0) = false := by simpa using hz
    have HF : Hid (PutTo l w (.returned (.tuple #[.string ⟨#[]⟩, .int .i64 c])) w1) := Lib.hid ⟨_, c, rfl, hc, fun h => absurd h hz, fun p q => C1.out p q, B1.out⟩
    clear hc hc0 hc1 hz
    go_wp2
    go_ret2
    exact HF.out
  subst hz
  obtain ⟨l1, l60, hok⟩ := hc0 rfl
  have HK := Lib.hid hok
  have HBD := Lib.hid (body_any a len cap l w1 I1.out (by omega) hok)
  have hlen108 := bodyK_length hok len (by omega)
  obtain ⟨S, hS⟩ : ∃ S, S = secs len := ⟨_, rfl⟩
  have HSC : Hid (∀ w, Calls Tryz.prog 58 #[.int .i64 len] w fun e w' => e = .returned (.int .i64 S) ∧ w = w') := Lib.hid (fun w => by rw [hS]; exact sectors_rec len (by omega) w)
  have hSv : S = (108 * len + 41) / 42 := by rw [hS]; exact secs_in (by omega) (by omega)
  have HS := Lib.hid hS
  have hS155 : S ≤ 155 := by omega
  have HSV := Lib.hid hSv
  clear hSv
  obtain ⟨r0, r1, r2⟩ := three_cells X1.out
  obtain ⟨B, hBB⟩ : ∃ B, B = bodyK l len := ⟨_, rfl⟩
  rw [← hBB] at HBD hlen108
  have HL108 := Lib.hid hlen108
  clear hc hc0 hc1 hok hS hBB
  go_wp2_with fail
  refine HBD.out.mono ?_
  rintro e w2 ⟨rfl, hb⟩
  have B2 := Lib.hid (B1.out.trans (hb.mono B1.out.size))
  have x2 := (hb.block _ (Array.getElem?_eq_some_iff.1 X1.out).1).trans X1.out
  have X2 := Lib.hid x2
  clear r0 r1 r2
  obtain ⟨r0, r1, r2⟩ := three_cells x2
  clear hb x2 hlen108
  go_wp2_with fail
  refine (HSC.out _).mono ?_
  rintro e w3 ⟨rfl, rfl⟩
  clear r0 r1 r2
  go_wp2
  go_loopw [6, 22] (fun t i wr => ∃ (k : Nat) (O : List UInt8), k ≤ S ∧ i = .int .i64 k ∧ t = .string (str O) ∧ O.length = 64 * k ∧ Below w.heap.size w wr ∧ wr.heap[w.heap.size]? = some (.cells #[.int .u64 9, .int .u64 lsn, .slice a len cap] 93 (0, 0))) (fun _ i _ => S - (intOf i).toNat)
  case atStart => exact ⟨0, [], Nat.zero_le _, rfl, rfl, rfl, B2.out, X2.out⟩
  case round =>
    obtain ⟨k, O, hk, rfl, rfl, hO, hb, hx⟩ := hrel
    have HB := Lib.hid hb
    have HX := Lib.hid hx
    have HO := Lib.hid hO
    by_cases hlt : k < S
    · have hBL := HL108.out
      have hSv := HSV.out
      obtain ⟨hi, hhi⟩ : ∃ hi, hi = min ((k + 1) * 42) B.length := ⟨_, rfl⟩
      have hhi1 : hi ≤ B.length := by omega
      have hhi2 : k * 42 ≤ hi := by omega
      have hhi3 : hi - k * 42 ≤ 42 := by omega
      have hBs : ((str B).size : Int) = B.length := by rw [str_size]
      obtain ⟨P, hP⟩ : ∃ P, P = (B.drop (k * 42)).take (hi - k * 42) := ⟨_, rfl⟩
      have hPl : P.length ≤ 42 := by rw [hP, List.length_take]; omega
      have hsl : ∀ wx : World, (Instr.slice 9 (.string (str B)) (some (.int .i64 ((k : Int) * 42))) (some (.int .i64 (min (((k : Int) + 1) * 42) (B.length : Int)))) none).run Tryz.prog wx = .ok (.string (str P)) wx := fun wx => by
        have h := str_mid B (k * 42) hi wx hhi2 hhi1
        rw [show ((k : Int) * 42) = ((k * 42 : Nat) : Int) by omega, show min (((k : Int) + 1) * 42) (B.length : Int) = (hi : Int) by omega, hP]
        exact h
      have i1 : IntKind.i64.wrap ((k : Int) * 42) = (k : Int) * 42 := IntWalk.i64_in _ (by omega)
      have i2 : IntKind.i64.wrap ((k : Int) + 1) = (k : Int) + 1 := IntWalk.i64_in _ (by omega)
      have i3 : IntKind.i64.wrap (((k : Int) + 1) * 42) = ((k : Int) + 1) * 42 := IntWalk.i64_in _ (by omega)
      have HLB := Lib.hid (fun wx => label_any lsn k len (.slice a len cap) ⟨a, len, cap, rfl⟩ H2.out (by omega) (by omega) wx)
      have hap : str (labTag lsn k len) ++ str P = str (labTag lsn k len ++ P) := str_app _ _
      have hbig : ¬ 9223372036854775807 < (str (labTag lsn k len)).size + (str P).size := by rw [str_size, str_size, labTag_length]; omega
      obtain ⟨T, hT⟩ : ∃ T, T = stampL (labTag lsn k len ++ P) 64 := ⟨_, rfl⟩
      have hTl : T.length = 64 := by rw [hT]; exact stampL_length (by rw [List.length_append, labTag_length]; omega)
      have HST : Hid (∀ wx, Calls Tryz.prog 106 #[.string (str (labTag lsn k len ++ P)), .int .i64 64] wx fun e w' => e = .returned (.tuple #[.string (str T), .int .i64 0]) ∧ Below wx.heap.size wx w') := Lib.hid (fun wx => by rw [hT]; exact stamp_any _ (by rw [List.length_append, labTag_length]; omega) wx)
      have HA : Hid (str O ++ str T = str (O ++ T)) := Lib.hid (str_app _ _)
      have HG : Hid (¬ 9223372036854775807 < (str O).size + (str T).size) := Lib.hid (by rw [str_size, str_size, hO, hTl]; omega)
      have HTL : Hid ((O ++ T).length = 64 * (k + 1)) := Lib.hid (by rw [List.length_append, hO, hTl]; omega)
      have hz2 : w.heap.size < wr.heap.size := (Array.getElem?_eq_some_iff.1 hx).1
      obtain ⟨c0, c1, c2⟩ := three_cells (show wr.drew.heap[w.heap.size]? = _ from hx)
      clear hb hx hO hP hT hTl hhi hhi1 hhi2 hhi3 hBL hPl hSv
      generalize labTag lsn k len = LT at *
      generalize hLP : LT ++ P = LP at *
      go_upto_region 8 with fail
      go_cut [8, 9] from 25 to 45 (fun s8 s9 wx => s8 = .string (str T) ∧ s9 = .int .i64 0 ∧ Below w.heap.size w wx ∧ wx.heap[w.heap.size]? = some (.cells #[.int .u64 9, .int .u64 lsn, .slice a len cap] 93 (0, 0)))
      case first =>
        have hz3 : w.heap.size < wr.drew.heap.size := hz2
        go_region_held3 (fun w' => w'.cell? ⟨w.heap.size, 0, none⟩ = some (.int .u64 9) ∧ w'.cell? ⟨w.heap.size, 1, none⟩ = some (.int .u64 lsn) ∧ w'.cell? ⟨w.heap.size, 2, none⟩ = some (.slice a len cap))
          (first | exact ⟨c0, c1, c2⟩ | exact ⟨d0, d1, d2⟩ | exact ⟨k0, k1, k2⟩ | go_keep)
          (first
            | (go_at_call 107
               refine (HLB.out _).mono ?_
               rintro e x1 ⟨rfl, b1⟩
               have d0 := (b1.cell (p := ⟨w.heap.size, 0, none⟩) hz3).trans c0
               have d1 := (b1.cell (p := ⟨w.heap.size, 1, none⟩) hz3).trans c1
               have d2 := (b1.cell (p := ⟨w.heap.size, 2, none⟩) hz3).trans c2)
            | (go_at_call 106
               refine (HST.out _).mono ?_
               rintro e x2 ⟨rfl, b2⟩
               have k0 := (b2.cell (p := ⟨w.heap.size, 0, none⟩) (Nat.lt_of_lt_of_le hz3 b1.size)).trans d0
               have k1 := (b2.cell (p := ⟨w.heap.size, 1, none⟩) (Nat.lt_of_lt_of_le hz3 b1.size)).trans d1
               have k2 := (b2.cell (p := ⟨w.heap.size, 2, none⟩) (Nat.lt_of_lt_of_le hz3 b1.size)).trans d2))
        all_goals go_wp2_with fail
        all_goals go_meet
        all_goals exact ⟨rfl, rfl, (HB.out.drew.trans (b1.mono HB.out.drew.size)).trans (b2.mono (Nat.le_trans HB.out.drew.size b1.size)), (b2.block _ (Nat.lt_of_lt_of_le hz3 b1.size)).trans ((b1.block _ hz3).trans HX.out)⟩
      case rest =>
        obtain ⟨rfl, rfl, hs, hxx⟩ := hcut
        have HSS := Lib.hid hs
        have HXX := Lib.hid hxx
        have a1 := HA.out
        have g1 := HG.out
        clear hs hxx i1 i3 hap hbig c0 c1 c2 hLP
        go_wp2
        go_roundw
        case rel => exact ⟨k + 1, O ++ T, by omega, by go_num, rfl, HTL.out, HSS.out, HXX.out⟩
        case measure => simp [intOf]; omega
    · have hkn : k = S := by omega
      have HF : Hid (PutTo l w (.returned (.tuple #[.string (str O), .int .i64 0])) wr) := Lib.hid ⟨_, 0, rfl, .inl rfl, fun _ => ⟨l1, l60, by rw [str_size, hO, hkn, HS.out, hll]⟩, fun _ _ => rfl, hb⟩
      clear hb hx hO
      subst hkn
      go_wp2
      go_ret2
      exact HF.out

end Go.Proofs.YtkgdpmeheakdcaaGreat
