/- The freed log; ring.Drop; the reference's Most; a slice of bools that came in. -/
import Derived.Test.YtkgdpmeheakdcaaGreatLogH
import Derived.Deep.Grids
namespace Go.Proofs.YtkgdpmeheakdcaaGreat
open Go.RowKit
set_option linter.all false
set_option maxRecDepth 100000

/-- The log whose records below one are free. -/
def freeL (L : LS) (below : Nat) : LS := { L with live := L.live.drop (below - L.first), first := below, synced := max L.synced L.written }
theorem free_good {L : LS} (h : LG L) (below : Nat) (h1 : L.first ≤ below) (h2 : below ≤ L.synced + 1) : LG (freeL L below) := by
  have hfl := h.fl
  have hsw := h.sw
  have hwn := h.wn
  have hll := h.ll
  refine ⟨h.nx, ?_, ?_, ?_, h.pl, h.wn, ?_, ?_, ?_⟩
  · have := h.f1
    exact Nat.le_trans this h1
  · show below + (L.live.drop (below - L.first)).length = L.next
    rw [List.length_drop]; omega
  · show (L.live.drop (below - L.first)).length ≤ 2
    rw [List.length_drop]; omega
  · show max L.synced L.written ≤ L.written
    omega
  · show below ≤ max L.synced L.written + 1
    omega
  · intro i x hx
    have hx' : (L.live.drop (below - L.first))[i]? = some x := hx
    rw [List.getElem?_drop] at hx'
    obtain ⟨q1, q2, q3, q4, q5⟩ := h.en _ x hx'
    refine ⟨?_, q2, q3, q4, q5⟩
    show x.lsn = below + i
    omega

/-- The reference's Most of a log of eight sectors. -/
theorem rsectors (n : Nat) (h1 : 1 ≤ n) (h2 : n ≤ 60) (w : World) : Calls Tryz.prog 63 #[.int .i64 n] w fun e w' => e = .returned (.int .i64 ((108 * n + 41) / 42 : Nat)) ∧ w = w' := by
  have e1 : decide ((n : Int) < 1) = false := by simp; omega
  have e2 : decide (60 < (n : Int)) = false := by simp; omega
  have i1 : IntKind.i64.wrap (108 * (n : Int)) = 108 * (n : Int) := IntWalk.i64_in _ (by omega)
  have i3 : IntKind.i64.wrap (108 * (n : Int) + 41) = 108 * (n : Int) + 41 := IntWalk.i64_in _ (by omega)
  obtain ⟨q, hq⟩ : ∃ q, q = (108 * n + 41) / 42 := ⟨_, rfl⟩
  rw [← hq]
  have i4 : (108 * (n : Int) + 41).tdiv 42 = (q : Int) := by rw [Int.tdiv_eq_ediv_of_nonneg (by omega)]; omega
  have i6 : (108 * (n : Int) + 41) / 42 = (q : Int) := by omega
  have i5 : IntKind.i64.wrap (q : Int) = (q : Int) := IntWalk.i64_in _ (by omega)
  clear h1 h2 hq
  go_enter Tryz.func63, Tryz.ntmps63
  go_wp2
  go_ret
  exact ⟨rfl, rfl⟩
set_option maxHeartbeats 2000000 in
theorem rmost8 (w : World) : Calls Tryz.prog 22 #[.int .i64 8] w fun e w' => e = .returned (.int .i64 1) ∧ w = w' := by
  have HS : Hid (∀ (n : Nat) w, 1 ≤ n → n ≤ 60 → Calls Tryz.prog 63 #[.int .i64 n] w fun e w' => e = .returned (.int .i64 ((108 * n + 41) / 42 : Nat)) ∧ w = w') := Lib.hid (fun n w h1 h2 => rsectors n h1 h2 w)
  go_enter Tryz.func22, Tryz.ntmps22
  go_wp2
  go_loopw [3, 4] (fun m i wr => ∃ k : Nat, 1 ≤ k ∧ k ≤ 61 ∧ i = .int .i64 k ∧ ((k = 1 ∧ m = .int .i64 0) ∨ (2 ≤ k ∧ m = .int .i64 1)) ∧ wr = w) (fun _ i _ => 61 - (intOf i).toNat)
  case atStart => exact ⟨1, by omega, by omega, rfl, .inl ⟨rfl, rfl⟩, rfl⟩
  case round =>
    obtain ⟨k, hk1, hk2, rfl, hm, rfl⟩ := hrel
    rcases hm with ⟨rfl, rfl⟩ | ⟨h2, rfl⟩
    · have H : Hid (Calls Tryz.prog 63 #[.int .i64 ((1 : Nat) : Int)] wr fun e w' => e = .returned (.int .i64 3) ∧ wr = w') := Lib.hid (HS.out 1 wr (by omega) (by omega))
      go_wp2_with fail
      refine H.out.mono ?_
      rintro e w1 ⟨rfl, rfl⟩
      go_wp2
      go_roundw
      case rel => exact ⟨2, by omega, by omega, rfl, .inr ⟨by omega, rfl⟩, trivial⟩
      case measure => simp [intOf]
    · by_cases hlt : k ≤ 60
      · have g0 : (k : Int) ≤ 60 := by omega
        have H := HS.out k wr hk1 hlt
        obtain ⟨q, hq⟩ : ∃ q, q = (108 * k + 41) / 42 := ⟨_, rfl⟩
        rw [← hq] at H
        replace H := Lib.hid H
        have hq3 : ¬ (q : Int) ≤ 3 := by omega
        have hw : IntKind.i64.wrap ((k : Int) + 1) = (k : Int) + 1 := IntWalk.i64_in _ (by omega)
        clear hq HS
        go_wp2_with fail
        refine H.out.mono ?_
        rintro e w1 ⟨rfl, rfl⟩
        go_wp2
        go_roundw
        case rel => exact ⟨k + 1, by omega, by omega, by go_num, .inr ⟨by omega, rfl⟩, trivial⟩
        case measure => simp [intOf]; omega
      · have hk : ¬ (k : Int) ≤ 60 := by omega
        go_wp2
        go_ret
        exact ⟨rfl, rfl⟩

/-- A slice of bools that came in. -/
def BoolRow (w : World) (a : Option Addr) (len cap : Nat) (B : Nat → Bool) : Prop :=
  (a = none ∧ len = 0 ∧ cap = 0) ∨ ∃ x, a = some x ∧ len ≤ cap ∧ cap ≤ maxLen ∧ ∀ i, i < cap → w.cell? (x.add i) = some (.bool (B i))
theorem open_bools {H : Type} {enc : TypeId × Value → H} {W : World} {base fuel : Nat} {x : DataW H × List MemPlace} {a : Option Addr} {len cap : Nat} (h : DataW.trod enc Tryz.prog W base (fun _ => true) true fuel 53 [Value.slice a len cap] = some x) : ∃ B, BoolRow W a len cap B := by
  rcases Go.Deep.open_bools Tryz.underlying53 Tryz.underlying4 (by kernel_rfl) h with ⟨hcs, _⟩ | ⟨a', len', cap', B, hcs, _, h1, h2, _, h3⟩
  · simp at hcs
    exact ⟨fun _ => false, .inl hcs⟩
  · simp at hcs
    obtain ⟨rfl, rfl, rfl⟩ := hcs
    exact ⟨B, .inr ⟨_, rfl, h1, h2, h3⟩⟩

section
variable {R F : Nat → Prop} {g r b n : Nat} {v : Value} {D : DS} {L : LS} {w w' : World}

set_option maxHeartbeats 2000000 in
theorem drop_any (h : LP R g r b L n w) (hR : ∀ k, w.heap.size ≤ k → R k) (hl : L.live.length ≤ 900) (m : Nat) (h0 : 1 ≤ m) (hm : m ≤ L.live.length) :
    Calls Tryz.prog 66 #[.pointer (some ⟨r, 0, none⟩), .int .i64 m] w (AnsL R g r b { L with live := L.live.drop m } n w (.int .i64 m)) := by
  have HLE := Lib.hid (len_any h (by omega))
  obtain ⟨F, v, D, h⟩ := h
  have HS := Lib.hid h
  have HR := Lib.hid hR
  obtain ⟨q, cap, rfl⟩ : ∃ q cap, v = .slice (some ⟨q, 0, none⟩) L.live.length cap := by
    rcases h.own.2 with ⟨rfl, h0⟩ | ⟨q, cap', cur, he, -⟩
    · omega
    · exact ⟨q, cap', he⟩
  have hc0 := rcell0 h
  have hrl := h.rlt
  have hfr : w.frozen? ⟨r, 0, none⟩ = false := by simp [World.frozen?, h.ring]
  have hne := h.rv
  obtain ⟨_, cap', hsh, hncap, hcapm, -⟩ := ownsRow_shape h.own
  have hcc : cap = cap' := by
    simp at hsh
    exact hsh.2
  subst hcc
  have XL : Hid ((enCells (L.live.drop m)).length = (L.live.length - m) * 5) := Lib.hid (by rw [enCells_length, List.length_drop])
  have X1 := Lib.hid (enCells_one (L.live.drop m))
  have XC : Hid (∀ j u, (enCells (L.live.drop m))[j]? = some u → w.cell? ⟨q, m * 5 + j, none⟩ = some u) := Lib.hid (fun j u hj => by
    rw [← enCells_drop, List.getElem?_drop] at hj
    have := h.own.cells (g := q) rfl _ u hj
    rw [Addr.add_lit, Nat.zero_add] at this
    exact this)
  obtain ⟨len, hlen⟩ : ∃ len, len = L.live.length := ⟨_, rfl⟩
  rw [← hlen] at HLE hl hm hc0 hncap XL hne
  have HLN := Lib.hid hlen
  obtain ⟨i0, hi, hz0, hz1, hz2⟩ := info_parts infoEn
  have hmx : 1000 ≤ maxLen := by decide
  have hmax : max (m : Int) 0 = (m : Int) := by omega
  have hmin : min (m : Int) (len : Int) = (m : Int) := by omega
  have hfin : ∀ v' w', w'.ownsRow w.heap.size 89 5 v' (0 + (len - m)) ([] ++ enCells (L.live.drop m)) → w.grownBy w' none → (v'.ownBlock = none ∨ v'.ownBlock = some w.heap.size) → AnsL R g r b { L with live := L.live.drop m } n w (.int .i64 m) (.returned (.int .i64 m)) (w'.setCell ⟨r, 0, none⟩ v') := by
    intro v' w' ho hg hb
    have ho' : w'.ownsRow 0 89 5 v' (L.live.drop m).length (enCells (L.live.drop m)) := by
      have e1 : 0 + (len - m) = (L.live.drop m).length := by rw [List.length_drop, HLN.out, Nat.zero_add]
      rw [e1, List.nil_append] at ho
      exact ⟨ho.1, ho.2.imp id (fun ⟨g, c, cur, h1, h2, h3⟩ => ⟨g, c, cur, h1, Nat.zero_le _, h3⟩)⟩
    obtain ⟨h1, h2⟩ := HS.out.ringSet (Grow.of_grownBy hg (fun _ h => by cases h)) ho' (fun k hk => by
      rcases hb with e | e
      · rw [e] at hk; cases hk
      · rw [e] at hk; cases hk; exact .inr (Nat.le_refl _)) HR.out
    exact ⟨rfl, ⟨F, _, D, h1⟩, h2⟩
  have HF := Lib.hid hfin
  have HC : Hid (∀ w', w.grownBy w' none → w'.cell? ⟨r, 0, none⟩ = some (.slice (some ⟨q, 0, none⟩) len cap) ∧ w'.frozen? ⟨r, 0, none⟩ = false) := Lib.hid (fun w' hg => ⟨(hg.cell_far ⟨r, 0, none⟩ (cell_lt hc0) (fun e => by cases e)).trans hc0, (hg.frozen_far ⟨r, 0, none⟩ (cell_lt hc0) (fun e => by cases e)).trans hfr⟩)
  clear h hR hsh hlen hfin hne hrl
  generalize enCells (L.live.drop m) = XS at *
  by_cases hlm : len = m
  · have hx0 : XS = [] := List.eq_nil_of_length_eq_zero (by rw [XL.out, hlm]; omega)
    have HFF : Hid (AnsL R g r b { L with live := L.live.drop m } n w (.int .i64 m) (.returned (.int .i64 m)) (w.setCell ⟨r, 0, none⟩ (.slice none 0 0))) := Lib.hid (HF.out (.slice none 0 0) w (by
      have e1 : 0 + (len - m) = 0 := by omega
      rw [e1, hx0]
      exact World.ownsRow_nil _ _ _ _) (World.grownBy.refl _ _) (.inl rfl))
    clear hx0 XC X1 XL HF HC
    by_cases hcm : cap = m
    all_goals
      go_enter Tryz.func66, Tryz.ntmps66
      go_wp2_with fail
      refine HLE.out.mono ?_
      rintro e w1 ⟨rfl, rfl⟩
      go_wp2
      go_ret
      exact HFF.out
  · have hcm : ¬ cap = m := by omega
    have hlt : 0 < len - m := by omega
    go_enter Tryz.func66, Tryz.ntmps66
    go_wp2_with fail
    refine HLE.out.mono ?_
    rintro e w1 ⟨rfl, rfl⟩
    have XC' : Hid (∀ j u, XS[j]? = some u → w.cell? ((⟨q, m * 5, none⟩ : Addr).add j) = some u) := Lib.hid (fun j u hj => by rw [Addr.add_lit]; exact XC.out j u hj)
    go_wp2_with (at_builtin; (refine wpList_append_own_at _ rfl _ _ 96 rfl w.heap.size 89 i0 _ 5 48 Tryz.underlying96 hi hz0 hz1 hz2 rfl (by decide) (.slice none 0 0) 0 [] rfl (World.ownsRow_nil _ _ _ _) ⟨q, m * 5, none⟩ (len - m) (cap - m) XS rfl XL.out XC'.out X1.out (by omega) (by omega) (Nat.le_refl _) ?_; intro v' w' hown' hgrow' hnil' hloc'; obtain ⟨uo, ucap, hu, hnc, hcm', huno⟩ := ownsRow_shape hown'; subst hu; have HFF := Lib.hid (HF.out _ w' hown' hgrow' hloc'); obtain ⟨k0, f0⟩ := HC.out w' hgrow'; clear hown' hgrow' hnil' hloc' huno))
    go_ret
    have hff := HFF.out
    rw [Nat.zero_add] at hff
    exact hff
end

end Go.Proofs.YtkgdpmeheakdcaaGreat
