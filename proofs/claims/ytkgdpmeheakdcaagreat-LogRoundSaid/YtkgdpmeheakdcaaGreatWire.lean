/- wire's writer: walks of wrongNum, fails, Num, Bytes. -/
import Derived.Test.YtkgdpmeheakdcaaGreatCrc
import Derived.Test.YtkgdpmeheakdcaaGreatDisk
import Derived.BigQuiet
import Derived.Deep.QuietTactic
import Derived.Deep.AppendLies
import Derived.Deep.DeepCutAuto
import Derived.Deep.CutRange
import Derived.Outline
namespace Go.Proofs.YtkgdpmeheakdcaaGreat
open Go.RowKit
set_option linter.all false
set_option maxRecDepth 100000

theorem wrongNum4 (v : Int) (h0 : 0 ≤ v) (h1 : v < 4294967296) (w : World) :
    Calls Tryz.prog 133 #[.int .u64 v, .int .i64 4] w fun e w' => e = .returned (.int .i64 0) ∧ w = w' := by
  have hz : v / 4294967296 = 0 := by omega
  go_enter Tryz.func133, Tryz.ntmps133
  go_wp2
  go_ret
  exact ⟨rfl, rfl⟩
theorem wrongNum8 (v : Int) (w : World) :
    Calls Tryz.prog 133 #[.int .u64 v, .int .i64 8] w fun e w' => e = .returned (.int .i64 0) ∧ w = w' := by
  go_enter Tryz.func133, Tryz.ntmps133
  go_wp2
  go_ret
  exact ⟨rfl, rfl⟩
theorem wrongNum1 (v : Int) (h0 : 0 ≤ v) (h1 : v < 256) (w : World) :
    Calls Tryz.prog 133 #[.int .u64 v, .int .i64 1] w fun e w' => e = .returned (.int .i64 0) ∧ w = w' := by
  have hz : v / 256 = 0 := by omega
  go_enter Tryz.func133, Tryz.ntmps133
  go_wp2
  go_ret
  exact ⟨rfl, rfl⟩
theorem wrongNum_of (n : Nat) (v : Int) (hn : n = 1 ∨ n = 4 ∨ n = 8) (h0 : 0 ≤ v) (h1 : v < (256 ^ n : Nat)) (w : World) :
    Calls Tryz.prog 133 #[.int .u64 v, .int .i64 n] w fun e w' => e = .returned (.int .i64 0) ∧ w = w' := by
  rcases hn with rfl | rfl | rfl
  · exact wrongNum1 v h0 h1 w
  · exact wrongNum4 v h0 h1 w
  · exact wrongNum8 v w

/-- The bytes of a list as a block's cells. -/
def byV (c : UInt8) : Value := .int .u8 c.toNat
def byCells (l : List UInt8) : List Value := l.map byV
theorem byCells_length (l : List UInt8) : (byCells l).length = l.length := by simp [byCells]

/-- A writer at p, its bytes in v, without an error. -/
structure WIn (p : Nat) (v : Value) (bs : List UInt8) (w : World) : Prop where
  blk : w.heap[p]? = some (.cells #[v, .int .i64 0] 161 (0, 0))
  own : w.ownsRow 0 5 1 v bs.length (byCells bs)
  ne : v.ownBlock ≠ some p
  small : bs.length ≤ 100000

theorem WIn.lt {p : Nat} {v : Value} {bs : List UInt8} {w : World} (h : WIn p v bs w) : p < w.heap.size := (Array.getElem?_eq_some_iff.1 h.blk).1

theorem fails_ok {p : Nat} {v : Value} {w : World} (h : w.heap[p]? = some (.cells #[v, .int .i64 0] 161 (0, 0))) :
    Calls Tryz.prog 137 #[.pointer (some ⟨p, 0, none⟩), .int .i64 0] w fun e w' => e = .returned (.bool false) ∧ w' = w.setCell ⟨p, 1, none⟩ (.int .i64 0) := by
  have c1 : w.cell? ⟨p, 1, none⟩ = some (.int .i64 0) := by simp [World.cell?, h]
  have f1 : w.frozen? ⟨p, 1, none⟩ = false := by simp [World.frozen?, h]
  clear h
  go_enter Tryz.func137, Tryz.ntmps137
  go_wp2
  go_ret
  exact ⟨rfl, rfl⟩

theorem cell_keep {w : World} {a : Addr} {v : Value} {o : Obj} (h : w.cell? a = some v) : (w.alloc o).cell? a = some v := by
  rw [World.cell?_of_block (heap_alloc_old w o (cell_lt h))]
  exact h

theorem infoBy : (Tryz.prog.info? 5).map (fun i => (i.zero, i.size, i.bytes)) = some (some (.int .u8 0), 1, 1) := by kernel_rfl

theorem Grow.mono' {F G : Nat → Prop} {w w' : World} (h : Grow F w w') (hF : ∀ k, F k → G k) : Grow G w w' := ⟨h.os, h.tape, h.output, h.size, fun k hk hn => h.block k hk (fun hf => hn (hF k hf))⟩

/-- What a call leaves of the writer. -/
def WTo (p : Nat) (v : Value) (bs : List UInt8) (w w' : World) : Prop :=
  ∃ v', WIn p v' bs w' ∧ Grow (fun k => k = p ∨ v.ownBlock = some k) w w' ∧ ∀ k, v'.ownBlock = some k → v.ownBlock = some k ∨ w.heap.size ≤ k

theorem two_set0 {w : World} {g : Nat} {a b x : Value} {T : TypeId} {fz : Nat × Nat} (h : w.heap[g]? = some (.cells #[a, b] T fz)) :
    (w.setCell ⟨g, 0, none⟩ x).heap[g]? = some (.cells #[x, b] T fz) := by rw [block_setCell h]; rfl
theorem two_set1 {w : World} {g : Nat} {a b x : Value} {T : TypeId} {fz : Nat × Nat} (h : w.heap[g]? = some (.cells #[a, b] T fz)) :
    (w.setCell ⟨g, 1, none⟩ x).heap[g]? = some (.cells #[a, x] T fz) := by rw [block_setCell h]; rfl

/-- The error's cell is written as it was. -/
theorem WIn.set1 {p : Nat} {v : Value} {bs : List UInt8} {w : World} (h : WIn p v bs w) : WIn p v bs (w.setCell ⟨p, 1, none⟩ (.int .i64 0)) :=
  ⟨two_set1 h.blk, ownsRow_of_same h.own (fun g hg => block_setCell_ne (fun e => h.ne (by rw [hg, e])) _), h.ne, h.small⟩
theorem WTo.self {p : Nat} {v : Value} {bs : List UInt8} {w w' : World} (h : WIn p v bs w') (hg : Grow (fun k => k = p) w w') : WTo p v bs w w' :=
  ⟨v, h, hg.mono' (fun _ h => .inl h), fun _ h => .inl h⟩
theorem WTo.trans {p : Nat} {v v' : Value} {bs : List UInt8} {a b c : World} (hg : Grow (fun k => k = p ∨ v.ownBlock = some k) a b) (hv : ∀ k, v'.ownBlock = some k → v.ownBlock = some k ∨ a.heap.size ≤ k) (k : WTo p v' bs b c) : WTo p v bs a c := by
  obtain ⟨u, h1, h2, h3⟩ := k
  refine ⟨u, h1, hg.trans h2 (fun x hx => ?_), fun x hx => ?_⟩
  · rcases hx with hx | hx
    · exact .inl (.inl hx)
    · rcases hv x hx with h | h
      · exact .inl (.inr h)
      · exact .inr h
  · rcases h3 x hx with h | h
    · exact hv x h
    · exact .inr (Nat.le_trans hg.size h)

/-- A byte is appended. -/
theorem WIn.app {p : Nat} {v v' : Value} {bs : List UInt8} {c : UInt8} {w w1 w2 : World} (h : WIn p v bs w) (hw : Grow (fun _ => False) w w1) (hg : w1.grownBy w2 v.ownBlock)
    (ho : w2.ownsRow 0 5 1 v' (bs.length + 1) (byCells bs ++ [byV c])) (hv : ∀ k, v'.ownBlock = some k → v.ownBlock = some k ∨ w.heap.size ≤ k) (hs : bs.length + 1 ≤ 100000) :
    WTo p v (bs ++ [c]) w (w2.setCell ⟨p, 0, none⟩ v') := by
  have hlt := h.lt
  have hb2 : w2.heap[p]? = some (.cells #[v, .int .i64 0] 161 (0, 0)) := by
    rw [hg.block p (Nat.lt_of_lt_of_le hlt hw.size) (fun e => h.ne e.symm), hw.block p hlt (fun h => h)]
    exact h.blk
  have hne : v'.ownBlock ≠ some p := fun e => by
    rcases hv p e with h1 | h1
    · exact h.ne h1
    · omega
  refine ⟨v', ⟨two_set0 hb2, ?_, hne, by simp; omega⟩, ?_, hv⟩
  · have h1 : (bs ++ [c]).length = bs.length + 1 := by simp
    have h2 : byCells (bs ++ [c]) = byCells bs ++ [byV c] := by simp [byCells]
    rw [h1, h2]
    exact ownsRow_of_same ho (fun g hg' => block_setCell_ne (fun e => hne (by rw [hg', e])) _)
  · exact ((hw.mono' (fun _ h => h.elim)).trans (Grow.of_grownBy (F := fun k => k = p ∨ v.ownBlock = some k) hg (fun g hg' => .inr hg')) (fun x hx => .inl hx)).trans (Grow.setCell (F := fun k => k = p ∨ v.ownBlock = some k) (.inl rfl) _) (fun x hx => .inl hx)

theorem mkByte (n : Int) (w : World) : (Instr.buildSlice 95 1 #[(0, .int .u8 n)]).run Tryz.prog w = .ok (.slice (some ⟨w.heap.size, 0, none⟩) 1 1) (w.alloc (.cells #[.int .u8 n] 5)) := by kernel_rfl

def numLoop (p : Nat) (v : Value) (bs : List UInt8) (x : Nat) (w : World) (k : Nat) (wr : World) : Prop := WTo p v (bs ++ leN k x) w wr

set_option maxHeartbeats 1000000 in
theorem num_any {p : Nat} {v : Value} {bs : List UInt8} {w : World} (h : WIn p v bs w) (n : Nat) (hn : n = 1 ∨ n = 4 ∨ n = 8) (x : Nat) (hx : x < 256 ^ n) (hs : bs.length + n ≤ 100000) :
    Calls Tryz.prog 120 #[.pointer (some ⟨p, 0, none⟩), .int .u64 x, .int .i64 n] w fun e w' => e = .returned (.pointer (some ⟨p, 0, none⟩)) ∧ WTo p v (bs ++ leN n x) w w' := by
  have HW := Lib.hid (wrongNum_of n x hn (by omega) (by exact_mod_cast hx) w)
  have HF := Lib.hid (fails_ok h.blk)
  have HN := Lib.hid hn
  have hn9 : n ≤ 8 := by omega
  have hx64 : x < 18446744073709551616 := by
    rcases hn with rfl | rfl | rfl
    · exact Nat.lt_trans hx (by decide)
    · exact Nat.lt_trans hx (by decide)
    · exact hx
  have HI := Lib.hid (WTo.self h.set1 (Grow.setCell (F := fun k => k = p) rfl _))
  clear hn hx h
  go_enter Tryz.func120, Tryz.ntmps120
  go_wp2_with fail
  refine HW.out.mono ?_
  rintro e w1 ⟨rfl, rfl⟩
  go_wp2_with fail
  refine HF.out.mono ?_
  rintro e w1 ⟨rfl, hw1⟩
  have HW1 := Lib.hid hw1
  clear hw1
  go_wp2
  go_loopw [1, 18] (fun t i wr => ∃ k : Nat, k ≤ n ∧ i = .int .i64 k ∧ t = .int .u64 ((x / 256 ^ k : Nat) : Int) ∧ numLoop p v bs x w k wr)
      (fun _ i _ => n - (intOf i).toNat)
  case atStart => exact ⟨0, Nat.zero_le _, rfl, by simp, by unfold numLoop; rw [HW1.out]; simpa [leN] using HI.out⟩
  case round =>
    obtain ⟨k, hk, rfl, rfl, v', hwi, hgr, hvv⟩ := hrel
    have HWI := Lib.hid hwi
    have HGR := Lib.hid hgr
    have HVV := Lib.hid hvv
    have c0 : wr.cell? ⟨p, 0, none⟩ = some v' := by simp [World.cell?, hwi.blk]
    have f0 : wr.frozen? ⟨p, 0, none⟩ = false := by simp [World.frozen?, hwi.blk]
    have hplt := hwi.lt
    have hlen : (bs ++ leN k x).length = bs.length + k := by simp [leN_length]
    have HL := Lib.hid hlen
    have hsn : bs ++ leN (k + 1) x = (bs ++ leN k x) ++ [UInt8.ofNat (x / 256 ^ k)] := by rw [leN_snoc, List.append_assoc]
    have HSN := Lib.hid hsn
    clear hwi hgr hvv hlen hsn
    by_cases hlt : k < n
    · have hdv : x / 256 ^ (k + 1) = x / 256 ^ k / 256 := by rw [Nat.pow_succ, Nat.div_div_eq_div_mul]
      have HDV := Lib.hid hdv
      clear hdv
      generalize hy : x / 256 ^ k = y at *
      generalize hLL : bs ++ leN k x = L at *
      have hy64 : y < 18446744073709551616 := by have := Nat.div_le_self x (256 ^ k); omega
      have HY := Lib.hid hy
      have HLL := Lib.hid hLL
      have hsm := HWI.out.small
      have hL := HL.out
      have hL2 : L.length + 1 ≤ 100000 := by omega
      have hbv : byV (UInt8.ofNat y) = .int .u8 ((y : Int) % 256) := by
        unfold byV
        rw [UInt8.toNat_ofNat']
        simp
      have HBV := Lib.hid hbv
      clear hy hLL hL hbv
      obtain ⟨i0, hi, hz0, hz1, hz2⟩ := info_parts infoBy
      have hne : v'.ownBlock ≠ some p := HWI.out.ne
      go_wp2_with (at_builtin; refine wpList_append_lies _ rfl (.tmp 24) (.tmp 27) 95 (by rfl) 0 5 i0 _ 1 1 Tryz.underlying95 hi hz0 hz1 hz2 rfl (by omega) v' L.length (byCells L) (by rfl) (World.ownsRow.alloc HWI.out.own _) ⟨wr.heap.size, 0, none⟩ 1 1 [.int .u8 ((y : Int) % 256)] (by rfl) rfl (World.news_of_block (cs := #[.int .u8 ((y : Int) % 256)]) (t := 5) (fr := (0, 0)) (heap_alloc_new wr _)) (by simp [Value.oneCell']) (by omega) (by unfold maxLen; omega) (by omega) (by simp) (wr.heap.size + 1) (by simp) ?_)
      intro g cap w2 hown hgrow hat hlt2
      have k0 : w2.cell? ⟨p, 0, none⟩ = some v' := by
        rw [hgrow.cell_far ⟨p, 0, none⟩ (by simp; omega) (fun e => hne e.symm)]
        exact cell_keep c0
      have f2 : w2.frozen? ⟨p, 0, none⟩ = false := by
        rw [hgrow.frozen_far ⟨p, 0, none⟩ (by simp; omega) (fun e => hne e.symm)]
        exact (World.frozen?_of_block (heap_alloc_old wr _ hplt)).trans f0
      have hfin := HWI.out.app (c := UInt8.ofNat y) (v' := .slice (some ⟨g, 0, none⟩) (L.length + 1) cap) (Grow.alloc wr _) hgrow (by rw [HBV.out]; exact hown) (fun q hq => by
        cases hq
        rcases hat with h1 | h1
        · exact .inl h1
        · right
          have h2 : g = wr.heap.size + 1 := h1
          show wr.heap.size ≤ g
          omega) hL2
      have hrel : numLoop p v bs x w (k + 1) (w2.setCell ⟨p, 0, none⟩ (.slice (some ⟨g, 0, none⟩) (L.length + 1) cap)) := by
        unfold numLoop
        rw [HSN.out]
        exact WTo.trans HGR.out HVV.out hfin
      have HREL := Lib.hid hrel
      clear hown hgrow hat hlt2 hfin hrel hi hz0 hz1 hz2 hne c0 f0
      go_wp2
      go_roundw
      case rel => exact ⟨k + 1, by omega, by go_num, by rw [HDV.out]; go_num, HREL.out⟩
      case measure => simp [intOf]; omega
    · have hkn : k = n := by omega
      subst hkn
      have hfin : WTo p v (bs ++ leN k x) w wr := ⟨v', HWI.out, HGR.out, HVV.out⟩
      have HFIN := Lib.hid hfin
      clear hfin
      go_wp2
      go_ret
      exact ⟨rfl, HFIN.out⟩

end Go.Proofs.YtkgdpmeheakdcaaGreat
