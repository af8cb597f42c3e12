/- What LogRound's walk uses of a log, in one form each. -/
import Derived.Test.YtkgdpmeheakdcaaGreatLogK
namespace Go.Proofs.YtkgdpmeheakdcaaGreat
open Go.RowKit
set_option linter.all false
set_option maxRecDepth 100000

theorem RowOf.at {k : IntKind} {w : World} {a : Option Addr} {len cap : Nat} {zs : List Int} (h : RowOf k w a len cap zs) (j : Nat) (hj : j < len) :
    ∃ kb ko, a = some ⟨kb, ko, none⟩ ∧ w.cell? ⟨kb, ko + j, none⟩ = some (.int k (zs.getD j 0)) ∧ kb < w.heap.size := by
  rcases h with ⟨rfl, rfl, rfl, rfl⟩ | ⟨x, rfl, h1, h2, h3, h4, h5⟩
  · omega
  · obtain ⟨kb, ko, spot⟩ := x
    have hs : spot = none := by
      have hc0 := h4 0 (by omega)
      simpa [Addr.add] using World.cell?_spot hc0
    subst hs
    have hc : w.cell? ⟨kb, ko + j, none⟩ = some (.int k (zs.getD j 0)) := by
      have hc := h4 j (by omega)
      simpa [Addr.add_lit] using hc
    exact ⟨kb, ko, rfl, hc, cell_lt hc⟩
theorem RowOf.capOk {k : IntKind} {w : World} {a : Option Addr} {len cap : Nat} {zs : List Int} (h : RowOf k w a len cap zs) : len ≤ cap := by
  rcases h with ⟨rfl, rfl, rfl, rfl⟩ | ⟨x, rfl, h1, h2, h3, h4, h5⟩
  · exact Nat.le_refl _
  · exact h1
theorem BoolRow.at {w : World} {a : Option Addr} {len cap : Nat} {B : Nat → Bool} (h : BoolRow w a len cap B) (j : Nat) (hj : j < len) :
    ∃ kb ko, a = some ⟨kb, ko, none⟩ ∧ w.cell? ⟨kb, ko + j, none⟩ = some (.bool (B j)) ∧ kb < w.heap.size := by
  rcases h with ⟨rfl, rfl, rfl⟩ | ⟨x, rfl, h1, h2, h3⟩
  · omega
  · obtain ⟨kb, ko, spot⟩ := x
    have hs : spot = none := by
      have hc0 := h3 0 (by omega)
      simpa [Addr.add] using World.cell?_spot hc0
    subst hs
    have hc : w.cell? ⟨kb, ko + j, none⟩ = some (.bool (B j)) := by
      have hc := h3 j (by omega)
      simpa [Addr.add_lit] using hc
    exact ⟨kb, ko, rfl, hc, cell_lt hc⟩
theorem BoolRow.capOk {w : World} {a : Option Addr} {len cap : Nat} {B : Nat → Bool} (h : BoolRow w a len cap B) : len ≤ cap := by
  rcases h with ⟨rfl, rfl, rfl⟩ | ⟨x, rfl, h1, h2, h3⟩
  · exact Nat.le_refl _
  · exact h1

theorem Below.of_heap' {w w' : World} (h : w'.heap = w.heap) (h1 : w'.os = w.os) (h2 : w'.tape = w.tape) (h3 : w'.output = w.output) : Below w.heap.size w w' := ⟨h1, h2, h3, by rw [h]; exact Nat.le_refl _, fun k _ => by rw [h]⟩
/-- The blocks that the log may use: new ones, not the layout's box. -/
structure RNew (R : Nat → Prop) (P : Nat) (w : World) : Prop where
  rb : ∀ k, R k → w.heap.size ≤ k
  rp : ¬ R P
  rn : ∀ k, P + 1 ≤ k → R k
/-- The state between two calls. -/
structure RSt (R : Nat → Prop) (g r b P : Nat) (w : World) (L : LS) (n : Nat) (x : World) : Prop where
  re : RNew R P w
  lg : LG L
  lp : LP R g r b L n x
  bl : Below w.heap.size w x
  ly : lyBlk x P

section
variable {R : Nat → Prop} {g r b P n : Nat} {w x y : World} {L : LS}
theorem RSt.low (h : RSt R g r b P w L n x) (hb : Below x.heap.size x y) : RSt R g r b P w L n y := ⟨h.re, h.lg, h.lp.below hb, h.bl.trans (hb.mono h.bl.size), h.ly.below hb⟩
theorem RSt.drew (h : RSt R g r b P w L n x) : RSt R g r b P w L n x.drew := h.low ((Below.refl _ _).drew)
theorem RSt.drewN (h : RSt R g r b P w L n x) (m : Nat) : RSt R g r b P w L n (x.drewN m) := h.low (Below.of_heap' (w := x) (w' := x.drewN m) rfl rfl rfl rfl)
theorem RSt.new (h : RSt R g r b P w L n x) : ∀ k, x.heap.size ≤ k → R k := fun k hk => h.re.rn k (Nat.le_trans h.ly.lt hk)
theorem RSt.step {L' : LS} {n' : Nat} {v : Value} {e : Ending} (h : RSt R g r b P w L n x) (ha : AnsL R g r b L' n' x v e y) (hl : LG L') : e = .returned v ∧ RSt R g r b P w L' n' y :=
  ⟨ha.1, h.re, hl, ha.2.1, h.bl.trans (ha.2.2.below h.bl.size h.re.rb), h.ly.grow ha.2.2 h.re.rp⟩
theorem RSt.more {m : Nat} (h : RSt R g r b P w L n x) (hm : n ≤ m) : RSt R g r b P w L m x := ⟨h.re, h.lg, h.lp.more hm, h.bl, h.ly⟩
theorem rs_sync (h : RSt R g r b P w L n x) (hn : n ≤ 600000) : Calls Tryz.prog 24 #[.pointer (some ⟨g, 0, none⟩)] x fun e y => e = .returned (.int .i64 0) ∧ RSt R g r b P w (syncL L) (n + 96) y :=
  (sync_any h.lp h.lg h.new hn).mono fun e y ha => h.step ha (sync_good h.lg)
theorem rs_free (h : RSt R g r b P w L n x) (hn : n ≤ 600000) (q : Nat) (hq : q ≤ L.synced + 1) : Calls Tryz.prog 25 #[.pointer (some ⟨g, 0, none⟩), .int .u64 q] x fun e y => e = .returned (.int .i64 0) ∧ RSt R g r b P w (freeR L q) (n + 16) y :=
  (free_any h.lp h.lg h.new hn q hq).mono fun e y ha => h.step ha (freeR_good h.lg q hq)
theorem rs_used (h : RSt R g r b P w L n x) : Calls Tryz.prog 19 #[.pointer (some ⟨g, 0, none⟩)] x fun e y => e = .returned (.int .i64 (3 * L.live.length : Nat)) ∧ RSt R g r b P w L n y := by
  have hu := used_any h.lp (by have := h.lg.ll; omega) h.lg.n3
  rw [used3 h.lg _ (Nat.le_refl _)] at hu
  exact hu.mono fun e y ha => ⟨ha.1, h.low ha.2⟩
theorem rs_fits (h : RSt R g r b P w L n x) (v : Bool) (hv : v = decide (L.live.length ≤ 1)) : Calls Tryz.prog 23 #[.pointer (some ⟨g, 0, none⟩), .int .i64 1] x fun e y => e = .returned (.bool v) ∧ RSt R g r b P w L n y ∧ Below x.heap.size x y := by
  have hu := fits_one h.lp (by have := h.lg.ll; omega) h.lg.n3
  rw [used3 h.lg _ (Nat.le_refl _)] at hu
  have he : decide ((3 : Int) ≤ 7 - ((3 * L.live.length : Nat) : Int)) = v := by
    rw [hv]
    have := h.lg.ll
    by_cases h1 : L.live.length ≤ 1
    · rw [decide_eq_true h1, decide_eq_true (by omega)]
    · rw [decide_eq_false h1, decide_eq_false (by omega)]
  rw [he] at hu
  exact hu.mono fun e y ha => ⟨ha.1, h.low ha.2, ha.2⟩
theorem rs_next (h : RSt R g r b P w L n x) (N : Nat) (hN : L.next = N) : Calls Tryz.prog 18 #[.pointer (some ⟨g, 0, none⟩)] x fun e y => e = .returned (.int .u64 N) ∧ x = y := by
  subst hN
  exact next_any h.lp
theorem rs_add1 (h : RSt R g r b P w L n x) (N : Nat) (hN : L.next = N) (hl : L.live.length ≤ 1) (hx : N ≤ 900) (a : Option Addr) (cap : Nat) (i : Im) (hi : ImgsRow x a 1 cap [i]) (ho : i.ok = true) :
    Calls Tryz.prog 16 #[.pointer (some ⟨g, 0, none⟩), .slice a 1 cap] x fun e y => e = .returned (.tuple #[.int .u64 N, .int .i64 0]) ∧ ∃ s : ByteArray, s.size = 192 ∧ RSt R g r b P w (addL L s) n y := by
  subst hN
  refine (add_any h.lp h.lg h.new hx a 1 cap [i] hi (by decide)).mono ?_
  rintro e y (⟨s, hs, h1, h2⟩ | ⟨c, hc, h1, h2⟩)
  · obtain ⟨q1, q2⟩ := h.step h2 (add_good h.lg hl s hs hx)
    exact ⟨q1, s, hs, q2⟩
  · have := (h1 rfl (fun z hz => by rw [List.mem_singleton.1 hz]; exact ho)).2
    omega
theorem rs_add0 (h : RSt R g r b P w L n x) (hl : 2 ≤ L.live.length) (hx : L.next ≤ 900) (a : Option Addr) (cap : Nat) (i : Im) (hi : ImgsRow x a 1 cap [i]) (ho : i.ok = true) :
    Calls Tryz.prog 16 #[.pointer (some ⟨g, 0, none⟩), .slice a 1 cap] x fun e y => e = .returned (.tuple #[.int .u64 0, .int .i64 10]) ∧ RSt R g r b P w L n y := by
  refine (add_any h.lp h.lg h.new hx a 1 cap [i] hi (by decide)).mono ?_
  rintro e y (⟨s, hs, h1, h2⟩ | ⟨c, hc, h1, h2⟩)
  · omega
  · have := (h1 rfl (fun z hz => by rw [List.mem_singleton.1 hz]; exact ho)).1
    subst this
    exact h.step h2 h.lg
end
theorem infoImg : (Tryz.prog.info? 24).map (fun i => (i.zero, i.size, i.bytes)) = some (some (.agg #[.int .i64 0, .int .u64 0, .string ByteArray.empty]), 3, 32) := by kernel_rfl
theorem ImgsRow.own1 {x : World} {base cap : Nat} {a : Option Addr} {i : Im} (h : x.ownsRow base 24 3 (.slice a 1 cap) 1 [.int .i64 i.b, .int .u64 i.v, .string (str i.d)]) (hv : i.v < 18446744073709551616) (hd : i.d.length ≤ maxLen) (hc : 1 ≤ cap) (hm : cap ≤ maxLen) : ImgsRow x a 1 cap [i] := by
  refine ⟨rfl, hc, hm, fun j hj => ?_⟩
  have hj0 : j = 0 := by omega
  subst hj0
  rcases h.2 with ⟨_, h0⟩ | ⟨q, c', cur, he, -⟩
  · omega
  · simp at he
    obtain ⟨rfl, -⟩ := he
    obtain ⟨_, cur', hq⟩ := ownsRow_block h (g := q) rfl
    have c := fun j u hj => h.cells (g := q) rfl j u hj
    have c0 := c 0 _ rfl
    have c1 := c 1 _ rfl
    have c2 := c 2 _ rfl
    rw [Addr.add_lit] at c0 c1 c2
    exact ⟨i, q, 0, rfl, rfl, (Array.getElem?_eq_some_iff.1 hq).1, ⟨c0, c1, c2, hv, hd⟩⟩

end Go.Proofs.YtkgdpmeheakdcaaGreat
