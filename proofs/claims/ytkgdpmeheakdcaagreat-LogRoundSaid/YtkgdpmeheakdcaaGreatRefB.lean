import Derived.Test.YtkgdpmeheakdcaaGreatRefA
import Derived.Test.YtkgdpmeheakdcaaGreatRegion
/- The reference's disk, on and not armed: walks of node, spend, May, Admit. -/
namespace Go.Proofs.YtkgdpmeheakdcaaGreat
open Go.RowKit
set_option linter.all false
set_option maxRecDepth 100000

/-- A sector that was written. -/
structure RW where
  node : Int
  pl : Int
  data : ByteArray
  lasts : Bool
def RW.cells (x : RW) : List Value := [.int .i64 x.node, .int .i64 x.pl, .string x.data, .bool x.lasts]
def rwCells (l : List RW) : List Value := l.flatMap RW.cells
structure RS where
  room : Int
  l : List RW
  table : List Int
  words : List Int
  last : Int
def RS.cells (D : RS) (v : Value) : Array Value :=
  (.int .i64 D.room :: v :: .bool false :: (ints64 D.table ++ (ints64 D.words ++ [.int .u64 D.last, .bool false, .int .i64 0, .slice none 0 0]))).toArray

structure RBlk (p : Nat) (D : RS) (v : Value) (w : World) : Prop where
  blk : w.heap[p]? = some (.cells (D.cells v) 77 (0, 0))
  lt : D.table.length = 17
  lw : D.words.length = 17

namespace RBlk
variable {p : Nat} {D : RS} {v : Value} {w : World}
theorem cell (h : RBlk p D v w) (i : Nat) : w.cell? ⟨p, i, none⟩ = (D.cells v)[i]? := by simp [World.cell?, h.blk]
theorem c0 (h : RBlk p D v w) : w.cell? ⟨p, 0, none⟩ = some (.int .i64 D.room) := by rw [h.cell]; rfl
theorem c1 (h : RBlk p D v w) : w.cell? ⟨p, 1, none⟩ = some v := by rw [h.cell]; rfl
theorem c2 (h : RBlk p D v w) : w.cell? ⟨p, 2, none⟩ = some (.bool false) := by rw [h.cell]; rfl
theorem tab (h : RBlk p D v w) (i : Nat) (hi : i < 17) : w.cell? ⟨p, 3 + i, none⟩ = some (.int .u64 (D.table.getD i 0)) := by
  have hl := h.lt
  rw [h.cell]
  simp only [RS.cells, List.getElem?_toArray, show 3 + i = i + 3 from by omega, List.getElem?_cons_succ]
  rw [List.getElem?_append_left (by rw [ints64_length]; omega)]
  simp [ints64, List.getElem?_eq_getElem (show i < D.table.length by omega)]
theorem tail (h : RBlk p D v w) (i : Nat) : w.cell? ⟨p, 37 + i, none⟩ = [Value.int .u64 D.last, .bool false, .int .i64 0, .slice none 0 0][i]? := by
  have hl := h.lt
  have hw := h.lw
  rw [h.cell]
  simp only [RS.cells, List.getElem?_toArray, show 37 + i = (34 + i) + 3 from by omega, List.getElem?_cons_succ]
  rw [List.getElem?_append_right (by rw [ints64_length]; omega), ints64_length, hl, show 34 + i - 17 = 17 + i by omega,
    List.getElem?_append_right (by rw [ints64_length]; omega), ints64_length, hw, show 17 + i - 17 = i by omega]
theorem c37 (h : RBlk p D v w) : w.cell? ⟨p, 37, none⟩ = some (.int .u64 D.last) := h.tail 0
theorem c38 (h : RBlk p D v w) : w.cell? ⟨p, 38, none⟩ = some (.bool false) := h.tail 1
theorem fz (h : RBlk p D v w) (i : Nat) : w.frozen? ⟨p, i, none⟩ = false := by simp [World.frozen?, h.blk]
theorem plt (h : RBlk p D v w) : p < w.heap.size := (Array.getElem?_eq_some_iff.1 h.blk).1
theorem of_same (h : RBlk p D v w) {w' : World} (hs : w'.heap[p]? = w.heap[p]?) : RBlk p D v w' := ⟨hs.trans h.blk, h.lt, h.lw⟩
theorem set1 (h : RBlk p D v w) (x : Value) : RBlk p D x (w.setCell ⟨p, 1, none⟩ x) := ⟨by rw [block_setCell h.blk]; rfl, h.lt, h.lw⟩
theorem setTab (h : RBlk p D v w) (i : Nat) (hi : i < 17) (x : Int) : RBlk p { D with table := D.table.set i x } v (w.setCell ⟨p, 3 + i, none⟩ (.int .u64 x)) := by
  refine ⟨?_, by simp [h.lt], h.lw⟩
  have hl := h.lt
  rw [block_setCell h.blk]
  simp only [RS.cells, List.setIfInBounds_toArray, show 3 + i = i + 3 from by omega, List.set_cons_succ]
  rw [List.set_append_left _ _ (by rw [ints64_length]; omega)]
  simp [ints64, List.map_set]
theorem set37 (h : RBlk p D v w) (x : Int) : RBlk p { D with last := x } v (w.setCell ⟨p, 37, none⟩ (.int .u64 x)) := by
  refine ⟨?_, h.lt, h.lw⟩
  have hl := h.lt
  have hw := h.lw
  rw [block_setCell h.blk]
  simp only [RS.cells, List.setIfInBounds_toArray, show (37 : Nat) = 34 + 3 from rfl, List.set_cons_succ]
  rw [List.set_append_right _ _ (by rw [ints64_length]; omega), ints64_length, hl, List.set_append_right _ _ (by rw [ints64_length]; omega), ints64_length, hw]
  rfl
end RBlk

theorem rnode_any (n : Int) (w : World) : Calls Tryz.prog 84 #[.int .i64 n] w fun e w' => e = .returned (.bool (inB n 0 16)) ∧ w = w' := by
  unfold inB
  by_cases h1 : 0 ≤ n
  · have e1 : decide (0 ≤ n) = true := by simpa using h1
    by_cases h2 : n ≤ 16
    all_goals
      go_enter Tryz.func84, Tryz.ntmps84
      go_wp2
      go_ret
    · exact ⟨ret_bool' (by simp [h1, h2]), rfl⟩
    · exact ⟨ret_bool' (by simp [h2]), rfl⟩
  · have e1 : decide (0 ≤ n) = false := by simpa using h1
    go_enter Tryz.func84, Tryz.ntmps84
    go_wp2
    go_ret
    exact ⟨ret_bool' (by simp [h1]), rfl⟩

section
variable {p : Nat} {D : RS} {v : Value} {w : World}
theorem spend_any (h : RBlk p D v w) : Calls Tryz.prog 85 #[.pointer (some ⟨p, 0, none⟩)] w fun e w' => e = .returned (.int .i64 0) ∧ w = w' := by
  have c := h.c38
  clear h
  go_enter Tryz.func85, Tryz.ntmps85
  go_wp2
  go_ret
  exact ⟨rfl, rfl⟩

/-- May a node of an epoch write? -/
def rmayE (D : RS) (n epoch : Int) : Int := if inB n 0 16 = false then 1 else admE (D.table.getD n.toNat 0) epoch

theorem rmay_any (h : RBlk p D v w) (n epoch : Int) : Calls Tryz.prog 86 #[.pointer (some ⟨p, 0, none⟩), .int .i64 n, .int .u64 epoch] w fun e w' => e = .returned (.int .i64 (rmayE D n epoch)) ∧ w = w' := by
  have HN := Lib.hid (rnode_any n w)
  have c2 := h.c2
  unfold rmayE
  cases hb : inB n 0 16 with
  | false =>
    rw [hb] at HN
    rw [if_pos rfl]
    clear h hb
    go_enter Tryz.func86, Tryz.ntmps86
    go_wp2_with fail
    refine HN.out.mono ?_
    rintro e w1 ⟨rfl, rfl⟩
    go_wp2
    go_ret
    exact ⟨rfl, rfl⟩
  | true =>
    rw [hb] at HN
    rw [if_neg (by decide)]
    obtain ⟨h0, h1⟩ := inB_iff.1 hb
    obtain ⟨n, rfl⟩ := Int.eq_ofNat_of_zero_le h0
    have ct := h.tab n (by omega)
    rw [Int.toNat_natCast]
    have hn17 : (n : Int) < 17 := by omega
    clear h hb
    generalize D.table.getD n 0 = t at *
    by_cases he : epoch = 0
    · subst he
      have hr : admE t 0 = 34 := by unfold admE; simp
      rw [hr]
      clear hr
      go_enter Tryz.func86, Tryz.ntmps86
      go_wp2_with fail
      refine HN.out.mono ?_
      rintro e w1 ⟨rfl, rfl⟩
      go_wp2
      go_ret
      exact ⟨rfl, rfl⟩
    · have he1 : (epoch == 0) = false := by simpa using he
      by_cases ht : t = epoch
      · subst ht
        have hr : admE t t = 0 := by unfold admE; simp [he]
        rw [hr]
        clear hr
        go_enter Tryz.func86, Tryz.ntmps86
        go_wp2_with fail
        refine HN.out.mono ?_
        rintro e w1 ⟨rfl, rfl⟩
        go_wp2
        go_ret
        exact ⟨rfl, rfl⟩
      · have hr : admE t epoch = 34 := by unfold admE; simp [he, ht]
        have ht1 : (epoch != t) = true := by simpa using fun e => ht e.symm
        rw [hr]
        clear hr
        go_enter Tryz.func86, Tryz.ntmps86
        go_wp2_with fail
        refine HN.out.mono ?_
        rintro e w1 ⟨rfl, rfl⟩
        go_wp2
        go_ret
        exact ⟨rfl, rfl⟩

theorem radmit_ok (h : RBlk p D v w) (n : Nat) (hn : n < 17) (epoch : Int) (he : D.last < epoch) : Calls Tryz.prog 38 #[.pointer (some ⟨p, 0, none⟩), .int .i64 n, .int .u64 epoch] w fun e w' => e = .returned (.int .i64 0) ∧ RBlk p { D with table := D.table.set n epoch, last := epoch } v w' ∧ Grow (fun k => k = p) w w' := by
  have HN := rnode_any n w
  rw [inB_iff.2 ⟨by omega, by omega⟩] at HN
  replace HN := Lib.hid HN
  have HS := Lib.hid (spend_any h)
  have c2 := h.c2
  have ct := h.tab n hn
  have ft := h.fz (3 + n)
  have c37 := h.c37
  have f37 := h.fz 37
  have h1 := h.setTab n hn epoch
  have h2 := h1.set37 epoch
  have k37 := h1.c37
  have HF : Hid _ := Lib.hid h2
  have hn17 : (n : Int) < 17 := by omega
  have hle : ¬ epoch ≤ D.last := by omega
  clear h h1 h2
  generalize D.table.getD n 0 = t at ct
  go_enter Tryz.func38, Tryz.ntmps38
  go_wp2_with fail
  refine HN.out.mono ?_
  rintro e w1 ⟨rfl, rfl⟩
  go_wp2_with fail
  refine HS.out.mono ?_
  rintro e w1 ⟨rfl, rfl⟩
  go_wp2
  go_ret
  exact ⟨rfl, HF.out, (Grow.setCell (F := fun k => k = p) rfl _).trans (Grow.setCell (F := fun k => k = p) rfl _) (fun _ h => .inl h)⟩
end

end Go.Proofs.YtkgdpmeheakdcaaGreat

/- The reference's disk: walk of Write. -/
namespace Go.Proofs.YtkgdpmeheakdcaaGreat
open Go.RowKit
set_option linter.all false
set_option maxRecDepth 100000

structure RIn8 (p : Nat) (v : Value) (D : RS) (w : World) : Prop where
  blk : RBlk p D v w
  own : w.ownsRow 0 117 4 v D.l.length (rwCells D.l)
  ne : v.ownBlock ≠ some p
theorem RIn8.olt {p : Nat} {v : Value} {D : RS} {w : World} (h : RIn8 p v D w) {k : Nat} (hk : v.ownBlock = some k) : k < w.heap.size := by
  obtain ⟨_, cur, hh⟩ := ownsRow_block h.own hk
  exact (Array.getElem?_eq_some_iff.1 hh).1
theorem RIn8.grow {F : Nat → Prop} {p : Nat} {v : Value} {D : RS} {w w' : World} (h : RIn8 p v D w) (hg : Grow F w w') (hp : ¬ F p) (hv : ∀ k, v.ownBlock = some k → ¬ F k) : RIn8 p v D w' :=
  ⟨h.blk.of_same (hg.block p h.blk.plt hp), ownsRow_of_same h.own (fun g hg' => hg.block g (h.olt hg') (hv g hg')), h.ne⟩
/-- What a call leaves of the reference's disk. -/
def RTo8 (p : Nat) (v : Value) (D : RS) (w w' : World) : Prop :=
  ∃ v', RIn8 p v' D w' ∧ Grow (fun k => k = p ∨ v.ownBlock = some k) w w' ∧ ∀ k, v'.ownBlock = some k → v.ownBlock = some k ∨ w.heap.size ≤ k
theorem RTo8.trans {p : Nat} {v v' : Value} {D : RS} {a b c : World} (hg : Grow (fun k => k = p ∨ v.ownBlock = some k) a b) (hv : ∀ k, v'.ownBlock = some k → v.ownBlock = some k ∨ a.heap.size ≤ k) (k : RTo8 p v' D b c) : RTo8 p v D a c := by
  obtain ⟨u, h1, h2, h3⟩ := k
  refine ⟨u, h1, hg.trans h2 (fun x hx => ?_), fun x hx => ?_⟩
  · rcases hx with hx | hx
    · exact .inl (.inl hx)
    · rcases hv x hx with h | h
      · exact .inl (.inr h)
      · exact .inr h
  · rcases h3 x hx with h | h
    · exact hv x h
    · exact .inr (Nat.le_trans hg.size h)

def rwX (n a : Int) (data : ByteArray) (i : Nat) : RW := ⟨n, a + i, data.extract (64 * i) (64 * i + 64), false⟩
def rwN (D : RS) (n a : Int) (data : ByteArray) : Nat → RS
  | 0 => D
  | k + 1 => { rwN D n a data k with l := (rwN D n a data k).l ++ [rwX n a data k] }
theorem rwN_len (D : RS) (n a : Int) (data : ByteArray) (k : Nat) : (rwN D n a data k).l.length = D.l.length + k := by
  induction k with
  | zero => rfl
  | succ k ih => show ((rwN D n a data k).l ++ [_]).length = _; simp [ih]; omega
theorem rwCells_snoc (l : List RW) (x : RW) : rwCells (l ++ [x]) = rwCells l ++ x.cells := by simp [rwCells]

theorem infoRW : (Tryz.prog.info? 117).map (fun i => (i.zero, i.size, i.bytes)) = some (some (.agg #[.int .i64 0, .int .i64 0, .string ByteArray.empty, .bool false]), 4, 40) := by kernel_rfl
theorem mkRW (n1 n2 : Int) (s : ByteArray) (t : Bool) (w : World) : (Instr.buildSlice 74 1 #[(0, .agg #[.int .i64 n1, .int .i64 n2, .string s, .bool t])]).run Tryz.prog w = .ok (.slice (some ⟨w.heap.size, 0, none⟩) 1 1) (w.alloc (.cells #[.int .i64 n1, .int .i64 n2, .string s, .bool t] 117)) := by kernel_rfl

/-- A write is appended. -/
theorem RIn8.app {p : Nat} {v v' : Value} {D : RS} {x : RW} {w w1 w2 : World} (h : RIn8 p v D w) (hw : Grow (fun _ => False) w w1) (hg : w1.grownBy w2 v.ownBlock)
    (ho : w2.ownsRow 0 117 4 v' (D.l.length + 1) (rwCells D.l ++ x.cells)) (hv : ∀ k, v'.ownBlock = some k → v.ownBlock = some k ∨ w.heap.size ≤ k) :
    RTo8 p v { D with l := D.l ++ [x] } w (w2.setCell ⟨p, 1, none⟩ v') := by
  have hlt := h.blk.plt
  have hb2 : RBlk p D v w2 := h.blk.of_same ((hg.block p (Nat.lt_of_lt_of_le hlt hw.size) (fun e => h.ne e.symm)).trans (hw.block p hlt (fun h => h)))
  have hne : v'.ownBlock ≠ some p := fun e => by
    rcases hv p e with h1 | h1
    · exact h.ne h1
    · omega
  have hb3 := hb2.set1 v'
  refine ⟨v', ⟨⟨hb3.blk, hb3.lt, hb3.lw⟩, ?_, hne⟩, ?_, hv⟩
  · have : ({ D with l := D.l ++ [x] } : RS).l = D.l ++ [x] := rfl
    rw [this, List.length_append, rwCells_snoc]
    exact ownsRow_of_same ho (fun g hg' => block_setCell_ne (fun e => hne (by rw [hg', e])) _)
  · exact ((hw.mono (fun _ h => h.elim)).trans (Grow.of_grownBy (F := fun k => k = p ∨ v.ownBlock = some k) hg (fun g hg' => .inr hg')) (fun x hx => .inl hx)).trans (Grow.setCell (F := fun k => k = p ∨ v.ownBlock = some k) (.inl rfl) _) (fun x hx => .inl hx)

set_option maxHeartbeats 2000000 in
theorem rwrite_ok {p : Nat} {v : Value} {D : RS} {w : World} (h : RIn8 p v D w) (n : Nat) (hn : n < 17) (epoch a : Int) (data : ByteArray) (m : Nat) (hm1 : 1 ≤ m) (hm2 : m ≤ 16) (hsz : data.size = m * 64)
    (hmay : rmayE D n epoch = 0) (ha0 : 0 ≤ a) (ha1 : a + m ≤ D.room) (hrm : D.room ≤ 20000) (hll : D.l.length ≤ 100000) :
    Calls Tryz.prog 39 #[.pointer (some ⟨p, 0, none⟩), .int .i64 n, .int .u64 epoch, .int .i64 a, .string data] w fun e w' => e = .returned (.int .i64 0) ∧ RTo8 p v (rwN D n a data m) w w' := by
  have HN := rnode_any n w
  rw [inB_iff.2 ⟨by omega, by omega⟩] at HN
  replace HN := Lib.hid HN
  have HM := rmay_any h.blk n epoch
  rw [hmay] at HM
  replace HM := Lib.hid HM
  have HS := Lib.hid (spend_any h.blk)
  have c2 := h.blk.c2
  have c0 := h.blk.c0
  have HD : Hid (RTo8 p v (rwN D n a data 0) w w) := Lib.hid ⟨v, h, Grow.refl _ _, fun _ h => .inl h⟩
  have HSZ := Lib.hid hsz
  have hs1 : ((data.size : Int)).tdiv 64 = m := by rw [hsz, Int.tdiv_eq_ediv_of_nonneg (by omega)]; omega
  have hs2 : ((data.size : Int)).tmod 64 = 0 := by rw [hsz, Int.tmod_eq_emod_of_nonneg (by omega)]; omega
  have hs1e : (data.size : Int) / 64 = m := by rw [hsz]; omega
  have hs2e : (data.size : Int) % 64 = 0 := by rw [hsz]; omega
  have hs3 : data.size ≤ 1024 := by omega
  have hdm1 : decide ((m : Int) < 1) = false := by simp; omega
  have hdm2 : decide (16 < (m : Int)) = false := by simp; omega
  have hda : decide (a < 0) = false := by simp; omega
  have hdr : decide (D.room - (m : Int) < a) = false := by simp; omega
  have hmi1 : (1 : Int) ≤ (m : Int) := by omega
  have hmi2 : (m : Int) ≤ 16 := by omega
  clear h hsz hmay
  generalize hRM : D.room = rm at *
  clear hRM
  go_enter Tryz.func39, Tryz.ntmps39
  go_wp2_with fail
  refine HN.out.mono ?_
  rintro e w1 ⟨rfl, rfl⟩
  go_wp2_with fail
  refine HM.out.mono ?_
  rintro e w1 ⟨rfl, rfl⟩
  go_wp2_with fail
  refine HS.out.mono ?_
  rintro e w1 ⟨rfl, rfl⟩
  go_wp2
  go_loopw [13] (fun i wr => ∃ k : Nat, k ≤ m ∧ i = .int .i64 k ∧ RTo8 p v (rwN D n a data k) w wr) (fun i _ => m - (intOf i).toNat)
  case atStart => exact ⟨0, Nat.zero_le _, rfl, HD.out⟩
  case round =>
    obtain ⟨k, hk, rfl, v', hri, hgr, hvv⟩ := hrel
    by_cases hlt : k < m
    · have hlen := rwN_len D n a data k
      have HR := Lib.hid hri
      have HG := Lib.hid hgr
      have HV := Lib.hid hvv
      have c1 := hri.blk.c1
      have f1 := hri.blk.fz 1
      have hplt := hri.blk.plt
      have hne := hri.ne
      have holt : ∀ j, v'.ownBlock = some j → j < wr.heap.size := fun j hj => hri.olt hj
      have HOLT := Lib.hid holt
      have HSUC : Hid (rwN D n a data (k + 1) = { rwN D n a data k with l := (rwN D n a data k).l ++ [rwX n a data k] }) := Lib.hid rfl
      generalize rwN D n a data k = E at *
      have hel : E.l.length ≤ 100016 := by omega
      have i1 : IntKind.i64.wrap (64 * (k : Int)) = 64 * (k : Int) := IntWalk.i64_in _ (by omega)
      have i2 : IntKind.i64.wrap (64 * (k : Int) + 64) = 64 * (k : Int) + 64 := IntWalk.i64_in _ (by omega)
      have i3 : IntKind.i64.wrap (a + (k : Int)) = a + (k : Int) := IntWalk.i64_in _ (by omega)
      have hsl : ∀ wx : World, (Instr.slice 9 (.string data) (some (.int .i64 (64 * (k : Int)))) (some (.int .i64 (64 * (k : Int) + 64))) none).run Tryz.prog wx = .ok (.string (data.extract (64 * k) (64 * k + 64))) wx := by
        intro wx
        have := HSZ.out
        exact slice_nat data _ _ (64 * k) (64 * k + 64) (by omega) (by omega) (by omega) (by omega) wx
      obtain ⟨i0, hi, hz0, hz1, hz2⟩ := info_parts infoRW
      clear hri hgr hvv holt hlen
      go_wp2_with fail
      have hS0 : wr.drew.cell? ⟨p, 1, none⟩ = some v' := c1
      refine wp_region_T (fun w' => w'.cell? ⟨p, 1, none⟩ = some v') 21 (by kernel_rfl) ?_
      refine wpAnyT_take (i := 0) (.pointer (some ⟨p, 0, none⟩)) rfl (by kernel_rfl) (by kernel_rfl) (by kernel_rfl) (fun _ _ _ h => h) (by kernel_rfl) rfl (by intro wq hS; go_simp) hS0 ?_
      refine wpAnyT_take (i := 1) (.pointer (some ⟨p, 0, none⟩)) rfl (by kernel_rfl) (by kernel_rfl) (by kernel_rfl) (fun _ _ _ h => h) (by kernel_rfl) rfl (by intro wq hS; go_simp) hS0 ?_
      refine wpAnyT_take (i := 2) (.pointer (some ⟨p, 0, none⟩)) rfl (by kernel_rfl) (by kernel_rfl) (by kernel_rfl) (fun _ _ _ h => h) (by kernel_rfl) rfl (by intro wq hS; go_simp) hS0 ?_
      refine wpAnyT_take (i := 3) (.pointer (some ⟨p, 1, none⟩)) rfl (by kernel_rfl) (by kernel_rfl) (by kernel_rfl) (fun _ _ _ h => h) (by kernel_rfl) rfl (by intro wq hS; go_simp) hS0 ?_
      refine wpAnyT_take (i := 4) (v') rfl (by kernel_rfl) (by kernel_rfl) (by kernel_rfl) (fun _ _ _ h => h) (by kernel_rfl) rfl (by intro wq hS; go_simp) hS0 ?_
      refine wpAnyT_take (i := 5) (.int .i64 (n : Int)) rfl (by kernel_rfl) (by kernel_rfl) (by kernel_rfl) (fun _ _ _ h => h) (by kernel_rfl) rfl (by intro wq hS; go_simp) hS0 ?_
      refine wpAnyT_take (i := 6) (.int .i64 a) rfl (by kernel_rfl) (by kernel_rfl) (by kernel_rfl) (fun _ _ _ h => h) (by kernel_rfl) rfl (by intro wq hS; go_simp) hS0 ?_
      refine wpAnyT_take (i := 7) (.int .i64 (k : Int)) rfl (by kernel_rfl) (by kernel_rfl) (by kernel_rfl) (fun _ _ _ h => h) (by kernel_rfl) rfl (by intro wq hS; go_simp) hS0 ?_
      refine wpAnyT_take (i := 8) (.int .i64 (a + (k : Int))) rfl (by kernel_rfl) (by kernel_rfl) (by kernel_rfl) (fun _ _ _ h => h) (by kernel_rfl) rfl (by intro wq hS; go_simp) hS0 ?_
      refine wpAnyT_take (i := 9) (.string data) rfl (by kernel_rfl) (by kernel_rfl) (by kernel_rfl) (fun _ _ _ h => h) (by kernel_rfl) rfl (by intro wq hS; go_simp) hS0 ?_
      refine wpAnyT_take (i := 10) (.int .i64 (k : Int)) rfl (by kernel_rfl) (by kernel_rfl) (by kernel_rfl) (fun _ _ _ h => h) (by kernel_rfl) rfl (by intro wq hS; go_simp) hS0 ?_
      refine wpAnyT_take (i := 11) (.int .i64 (64 * (k : Int))) rfl (by kernel_rfl) (by kernel_rfl) (by kernel_rfl) (fun _ _ _ h => h) (by kernel_rfl) rfl (by intro wq hS; go_simp) hS0 ?_
      refine wpAnyT_take (i := 12) (.int .i64 (k : Int)) rfl (by kernel_rfl) (by kernel_rfl) (by kernel_rfl) (fun _ _ _ h => h) (by kernel_rfl) rfl (by intro wq hS; go_simp) hS0 ?_
      refine wpAnyT_take (i := 13) (.int .i64 (64 * (k : Int))) rfl (by kernel_rfl) (by kernel_rfl) (by kernel_rfl) (fun _ _ _ h => h) (by kernel_rfl) rfl (by intro wq hS; go_simp) hS0 ?_
      refine wpAnyT_take (i := 14) (.int .i64 (64 * (k : Int) + 64)) rfl (by kernel_rfl) (by kernel_rfl) (by kernel_rfl) (fun _ _ _ h => h) (by kernel_rfl) rfl (by intro wq hS; go_simp) hS0 ?_
      refine wpAnyT_take (i := 15) (.string (data.extract (64 * k) (64 * k + 64))) rfl (by kernel_rfl) (by kernel_rfl) (by kernel_rfl) (fun _ _ _ h => h) (by kernel_rfl) rfl (by intro wq hS; go_simp) hS0 ?_
      refine wpAnyT_take (i := 16) (.agg #[.int .i64 (n : Int), .int .i64 (a + (k : Int)), .string (data.extract (64 * k) (64 * k + 64)), .bool false]) rfl (by kernel_rfl) (by kernel_rfl) (by kernel_rfl) (fun _ _ _ h => h) (by kernel_rfl) rfl (by intro wq hS; go_simp) hS0 ?_
      have hS1 : (wr.drew.alloc (.cells #[.int .i64 (n : Int), .int .i64 (a + (k : Int)), .string (data.extract (64 * k) (64 * k + 64)), .bool false] 117)).cell? ⟨p, 1, none⟩ = some v' := alloc_keep hS0
      refine wpAnyT_exec (i := 17) (oi := ⟨some 84, .buildSlice 74 1 #[(0, .tmp 83)], _, _, _, _⟩) (.slice (some ⟨wr.heap.size, 0, none⟩) 1 1) _ (by kernel_rfl) rfl rfl (exec_buildSlice (ps := #[(0, .agg #[.int .i64 (n : Int), .int .i64 (a + (k : Int)), .string (data.extract (64 * k) (64 * k + 64)), .bool false])]) (by go_simp) (mkRW (n : Int) (a + (k : Int)) (data.extract (64 * k) (64 * k + 64)) false wr.drew)) (.inr hS1) ?_
      simp only [Act.put, List.setIfInBounds_toArray, List.set_cons_succ, List.set_cons_zero]
      refine wpAnyT_only (i := 18) (oi := ⟨some 85, .call { callee := .builtin .append, args := #[.tmp 71, .tmp 84], argTypes := #[74, 74] }, _, _, _, _⟩) (by kernel_rfl) rfl rfl (wp_append_lies _ _ _ 74 rfl 0 117 i0 _ 4 40 Tryz.underlying74 hi hz0 hz1 hz2 rfl (by omega) v' E.l.length (rwCells E.l) (by simp [Act.eval]) (World.ownsRow.alloc (w := wr.drew) HR.out.own _) ⟨wr.heap.size, 0, none⟩ 1 1 [.int .i64 (n : Int), .int .i64 (a + (k : Int)), .string (data.extract (64 * k) (64 * k + 64)), .bool false] (by simp [Act.eval]) rfl (World.news_of_block (cs := #[.int .i64 (n : Int), .int .i64 (a + (k : Int)), .string (data.extract (64 * k) (64 * k + 64)), .bool false]) (t := 117) (fr := (0, 0)) (heap_alloc_new wr.drew _)) (by simp [Value.oneCell']) (by omega) (by unfold maxLen; omega) (by omega) (by simp) (wr.heap.size + 1) (by simp) ?_)
      intro gg cap w6 hown6 hgrow hat hlt6
      have hS2 : w6.cell? ⟨p, 1, none⟩ = some v' := by
        rw [hgrow.cell_far ⟨p, 1, none⟩ (cell_lt hS1) (fun e => hne e.symm)]
        exact hS1
      refine ⟨.inr hS2, ?_⟩
      have f6 : w6.frozen? ⟨p, 1, none⟩ = false := by
        rw [hgrow.frozen_far ⟨p, 1, none⟩ (cell_lt hS1) (fun e => hne e.symm)]
        exact (World.frozen?_of_block (heap_alloc_old wr.drew _ hplt)).trans f1
      replace hown6 := Lib.hid hown6
      replace hgrow := Lib.hid hgrow
      replace hat := Lib.hid hat
      clear hS1 hS0 c1 f1
      simp only [Act.put, List.setIfInBounds_toArray, List.set_cons_succ, List.set_cons_zero]
      refine wpAnyT_exec (i := 19) (oi := ⟨some 86, .nilCheck (.tmp 67), _, _, _, _⟩) (.pointer (some ⟨p, 0, none⟩)) w6 (by kernel_rfl) rfl rfl (by go_simp) (.inr hS2) ?_
      simp only [Act.put, List.setIfInBounds_toArray, List.set_cons_succ, List.set_cons_zero]
      refine wpAnyT_exec (i := 20) (oi := ⟨some 87, .fieldAddr 77 (.tmp 86) 1, _, _, _, _⟩) (.pointer (some ⟨p, 1, none⟩)) w6 (by kernel_rfl) rfl rfl (by go_simp) (.inr hS2) ?_
      simp only [Act.put, List.setIfInBounds_toArray, List.set_cons_succ, List.set_cons_zero]
      refine wpAnyT_skip (i := 21) (oi := ⟨none, .store 74 (.tmp 87) (.tmp 85), _, _, _, _⟩) (w6.setCell ⟨p, 1, none⟩ (.slice (some ⟨gg, 0, none⟩) (E.l.length + 1) cap)) (by kernel_rfl) rfl rfl (by go_simp) (.inl rfl) ?_
      refine wpAnyT_done (by kernel_rfl) ?_
      simp only [Act.put, List.setIfInBounds_toArray, List.set_cons_succ, List.set_cons_zero]
      have hfin := HR.out.app (x := rwX n a data k) (v' := .slice (some ⟨gg, 0, none⟩) (E.l.length + 1) cap) ((Grow.drew (F := fun _ => False) wr).trans (F' := fun _ => False) (Grow.alloc _ _) (fun _ h => h.elim)) hgrow.out hown6.out (fun q hq => by
        cases hq
        rcases hat.out with h1 | h1
        · exact .inl h1
        · right
          have h2 : gg = wr.heap.size + 1 := h1
          show wr.heap.size ≤ gg
          omega)
      have hrel := RTo8.trans HG.out HV.out hfin
      rw [← HSUC.out] at hrel
      have HREL := Lib.hid hrel
      clear hfin hrel hown6 hgrow hat hlt6 hS2 f6 hi hz0 hz1 hz2 hne HR HG HV hsl i1 i2 i3
      go_wp2
      go_roundw
      case rel => exact ⟨k + 1, by omega, by go_num, HREL.out⟩
      case measure => simp [intOf]; omega
    · have hkm : k = m := by omega
      subst hkm
      have HFIN : Hid (RTo8 p v (rwN D n a data k) w wr) := Lib.hid ⟨v', hri, hgr, hvv⟩
      clear hri hgr hvv
      go_wp2
      go_ret
      exact ⟨rfl, HFIN.out⟩

end Go.Proofs.YtkgdpmeheakdcaaGreat

/- The reference's disk: walks of keep, Barrier, Fence. -/
namespace Go.Proofs.YtkgdpmeheakdcaaGreat
open Go.RowKit
set_option linter.all false
set_option maxRecDepth 100000

def keepR (n : Int) (x : RW) : RW := if x.node = n then { x with lasts := true } else x
def keepK (n : Int) (l : List RW) (k : Nat) : List RW := (l.take k).map (keepR n) ++ l.drop k

theorem keepK_zero (n : Int) (l : List RW) : keepK n l 0 = l := by simp [keepK]
theorem keepK_all (n : Int) (l : List RW) : keepK n l l.length = l.map (keepR n) := by simp [keepK]
theorem keepK_length (n : Int) (l : List RW) (k : Nat) : (keepK n l k).length = l.length := by simp [keepK]; omega
theorem keepK_at (n : Int) (l : List RW) (k : Nat) (hk : k < l.length) : (keepK n l k)[k]? = some l[k] := by
  unfold keepK
  rw [List.getElem?_append_right (by simp; omega)]
  simp only [List.length_map, List.length_take]
  rw [List.getElem?_drop, show k + (k - min k l.length) = k by omega, List.getElem?_eq_getElem hk]
theorem keepK_succ (n : Int) (l : List RW) (k : Nat) (hk : k < l.length) : keepK n l (k + 1) = (keepK n l k).set k (keepR n l[k]) := by
  unfold keepK
  rw [List.set_append_right _ _ (by simp; omega)]
  have h1 : k - ((l.take k).map (keepR n)).length = 0 := by simp; omega
  rw [h1, List.take_succ_eq_append_getElem hk, List.map_append, List.drop_eq_getElem_cons hk, List.set_cons_zero]
  simp

theorem rwCells_length (l : List RW) : (rwCells l).length = l.length * 4 := by
  induction l with
  | nil => rfl
  | cons x l ih =>
    have : rwCells (x :: l) = x.cells ++ rwCells l := rfl
    rw [this, List.length_append, ih]
    simp [RW.cells]
    omega
theorem rwCells_get (l : List RW) (k j : Nat) (hk : k < l.length) (hj : j < 4) : (rwCells l)[k * 4 + j]? = l[k].cells[j]? := by
  induction l generalizing k with
  | nil => simp at hk
  | cons x l ih =>
    have e : rwCells (x :: l) = x.cells ++ rwCells l := rfl
    have hx : x.cells.length = 4 := rfl
    rw [e]
    cases k with
    | zero =>
      rw [Nat.zero_mul, Nat.zero_add, List.getElem?_append_left (by rw [hx]; exact hj)]
      rfl
    | succ k =>
      rw [List.getElem?_append_right (by rw [hx]; omega), hx, show (k + 1) * 4 + j - 4 = k * 4 + j by omega, ih k (by simpa using hk)]
      rfl
theorem rwCells_set (l : List RW) (k : Nat) (hk : k < l.length) : (rwCells l).set (k * 4 + 3) (.bool true) = rwCells (l.set k { l[k] with lasts := true }) := by
  induction l generalizing k with
  | nil => simp at hk
  | cons x l ih =>
    have e : rwCells (x :: l) = x.cells ++ rwCells l := rfl
    have hx : x.cells.length = 4 := rfl
    rw [e]
    cases k with
    | zero => rfl
    | succ k =>
      rw [List.set_append_right _ _ (by rw [hx]; omega), hx, show (k + 1) * 4 + 3 - 4 = k * 4 + 3 by omega, ih k (by simpa using hk)]
      rfl

section
variable {w : World} {g cap : Nat} {l : List RW}
theorem rrow_cell (h : w.ownsRow 0 117 4 (.slice (some ⟨g, 0, none⟩) l.length cap) l.length (rwCells l)) (k : Nat) (x : RW) (hx : l[k]? = some x) (j : Nat) (hj : j < 4) :
    w.cell? ⟨g, k * 4 + j, none⟩ = x.cells[j]? := by
  obtain ⟨hk, rfl⟩ := List.getElem?_eq_some_iff.1 hx
  have hl : k * 4 + j < (rwCells l).length := by rw [rwCells_length]; omega
  have hc := h.cells (g := g) rfl (k * 4 + j) ((rwCells l)[k * 4 + j]) (List.getElem?_eq_getElem hl)
  rw [Addr.add_lit, Nat.zero_add] at hc
  rw [hc, ← rwCells_get l k j hk hj, List.getElem?_eq_getElem hl]
theorem rrow_fz (h : w.ownsRow 0 117 4 (.slice (some ⟨g, 0, none⟩) l.length cap) l.length (rwCells l)) (i : Nat) : w.frozen? ⟨g, i, none⟩ = false := by
  obtain ⟨_, cur, hg⟩ := ownsRow_block h rfl
  simp [World.frozen?, hg]
theorem rrow_set (h : w.ownsRow 0 117 4 (.slice (some ⟨g, 0, none⟩) l.length cap) l.length (rwCells l)) (k : Nat) (hk : k < l.length) :
    (w.setCell ⟨g, k * 4 + 3, none⟩ (.bool true)).ownsRow 0 117 4 (.slice (some ⟨g, 0, none⟩) l.length cap) l.length (rwCells (l.set k { l[k] with lasts := true })) := by
  rcases h.2 with ⟨h0, _⟩ | ⟨g', cap', cur, h0, h1, h2, h3, h4, h5, h6⟩
  · cases h0
  · injection h0 with e1 _ e3
    injection e1 with e1
    injection e1 with e1
    subst e1; subst e3
    refine ⟨by rw [rwCells_length]; simp, .inr ⟨g, cap, _, rfl, h1, block_setCell h2 _, h3, h4, by simpa using h5, ?_⟩⟩
    rw [← rwCells_set l k hk, ← h6, Array.toList_setIfInBounds, List.take_set]
end

theorem RIn8.form {p : Nat} {v : Value} {D : RS} {w : World} (h : RIn8 p v D w) (hn : 0 < D.l.length) : ∃ g cap, v = .slice (some ⟨g, 0, none⟩) D.l.length cap := by
  obtain ⟨g, cap, hv, _⟩ := h.own.form hn
  exact ⟨g, cap, hv⟩
/-- A write lasts. -/
theorem RIn8.lastsAt {p g cap : Nat} {D : RS} {w : World} (h : RIn8 p (.slice (some ⟨g, 0, none⟩) D.l.length cap) D w) (k : Nat) (hk : k < D.l.length) :
    RIn8 p (.slice (some ⟨g, 0, none⟩) D.l.length cap) { D with l := D.l.set k { D.l[k] with lasts := true } } (w.setCell ⟨g, k * 4 + 3, none⟩ (.bool true)) := by
  have hne : g ≠ p := fun e => h.ne (by rw [e]; rfl)
  refine ⟨h.blk.of_same (block_setCell_ne (fun e => hne e.symm) _) |> fun hb => ⟨hb.blk, hb.lt, hb.lw⟩, ?_, h.ne⟩
  have := rrow_set h.own k hk
  simpa using this

theorem rnews {w : World} {v : Value} {l : List RW} {g cap : Nat} (h : w.ownsRow 0 117 4 v l.length (rwCells l)) (hv : v = .slice (some ⟨g, 0, none⟩) l.length cap) :
    ∀ j u, (rwCells l)[j]? = some u → w.cell? ((⟨g, 0, none⟩ : Addr).add j) = some u := by
  subst hv
  exact fun j u hu => h.cells (g := g) rfl j u hu
theorem rone (l : List RW) : ∀ u ∈ rwCells l, u.oneCell' = true := by
  intro u hu
  simp only [rwCells, List.mem_flatMap] at hu
  obtain ⟨x, _, hx⟩ := hu
  simp [RW.cells] at hx
  rcases hx with rfl | rfl | rfl | rfl <;> rfl

/-- The copy of the list. -/
theorem RIn8.copied {p : Nat} {v : Value} {D : RS} {w w2 : World} (h : RIn8 p v D w) (hg : w.grownBy w2 none) {g cap : Nat} (hgs : g = w.heap.size)
    (ho : w2.ownsRow w.heap.size 117 4 (.slice (some ⟨g, 0, none⟩) D.l.length cap) D.l.length (rwCells D.l)) :
    RIn8 p (.slice (some ⟨g, 0, none⟩) D.l.length cap) D (w2.setCell ⟨p, 1, none⟩ (.slice (some ⟨g, 0, none⟩) D.l.length cap)) ∧ Grow (fun k => k = p) w (w2.setCell ⟨p, 1, none⟩ (.slice (some ⟨g, 0, none⟩) D.l.length cap)) := by
  have hlt := h.blk.plt
  have hne : (Value.slice (some ⟨g, 0, none⟩) D.l.length cap).ownBlock ≠ some p := fun e => by
    have e1 : some g = some p := e
    injection e1
    omega
  have hG := Grow.of_grownBy (F := fun k => k = p) hg (fun _ h => by cases h)
  refine ⟨⟨?_, ?_, hne⟩, hG.trans (Grow.setCell (F := fun k => k = p) rfl _) (fun x hx => .inl hx)⟩
  · exact (h.blk.of_same (hg.block p hlt (by simp))).set1 _
  · exact ownsRow_of_same (ownsRow_base ho 0 (fun _ _ => Nat.zero_le _)) (fun k hk => block_setCell_ne (fun e => hne (by rw [hk, e])) _)

def keepD (D : RS) (n : Int) (k : Nat) : RS := { D with l := keepK n D.l k }

/-- The loop of keep. -/
def KSt (p g cap : Nat) (D : RS) (n : Int) (w : World) (k : Nat) (wr : World) : Prop :=
  RIn8 p (.slice (some ⟨g, 0, none⟩) D.l.length cap) (keepD D n k) wr ∧ Grow (fun j => j = p) w wr

theorem KSt.next {p g cap : Nat} {D : RS} {n : Int} {w wr : World} {k : Nat} (h : KSt p g cap D n w k wr) (hg : w.heap.size ≤ g) (hk : k < D.l.length) (hn : D.l[k].node = n) :
    KSt p g cap D n w (k + 1) (wr.setCell ⟨g, k * 4 + 3, none⟩ (.bool true)) := by
  have hl := keepK_length n D.l k
  have hat := keepK_at n D.l k hk
  refine ⟨?_, ?_⟩
  · have h1 := h.1
    have hl' : D.l.length = (keepD D n k).l.length := hl.symm
    rw [hl'] at h1 ⊢
    have h2 := h1.lastsAt k (by omega)
    have h3 : ({ (keepD D n k) with l := (keepD D n k).l.set k { (keepD D n k).l[k]'(by omega) with lasts := true } } : RS) = keepD D n (k + 1) := by
      unfold keepD
      simp only [RS.mk.injEq, true_and, and_true]
      rw [keepK_succ n D.l k hk]
      have e1 : (keepK n D.l k)[k]'(by omega) = D.l[k] := (List.getElem?_eq_some_iff.1 hat).2
      rw [e1]
      simp [keepR, hn]
    rw [h3] at h2
    exact h2
  · refine ⟨h.2.os, h.2.tape, h.2.output, ?_, fun j hj hne => ?_⟩
    · rw [size_setCell]; exact h.2.size
    · exact (block_setCell_ne (by omega) _).trans (h.2.block j hj hne)
theorem KSt.stay {p g cap : Nat} {D : RS} {n : Int} {w wr : World} {k : Nat} (h : KSt p g cap D n w k wr) (hk : k < D.l.length) (hn : ¬ D.l[k].node = n) :
    KSt p g cap D n w (k + 1) wr := by
  have h3 : keepD D n (k + 1) = keepD D n k := by
    unfold keepD
    simp only [RS.mk.injEq, true_and, and_true]
    rw [keepK_succ n D.l k hk]
    have hat := keepK_at n D.l k hk
    have e1 := (List.getElem?_eq_some_iff.1 hat).2
    simp only [keepR, if_neg hn]
    rw [← e1, List.set_getElem_self]
  unfold KSt
  rw [h3]
  exact h

set_option maxHeartbeats 2000000 in
theorem rkeep_any {p : Nat} {v : Value} {D : RS} {w : World} (h : RIn8 p v D w) (n : Int) (hn0 : 0 < D.l.length) (hn : D.l.length ≤ 200000) :
    Calls Tryz.prog 87 #[.pointer (some ⟨p, 0, none⟩), .int .i64 n] w fun e w' => e = .returned (.tuple #[]) ∧ ∃ v', RIn8 p v' { D with l := D.l.map (keepR n) } w' ∧ Grow (fun j => j = p) w w' ∧ ∀ k, v'.ownBlock = some k → w.heap.size ≤ k := by
  obtain ⟨g0, cap0, hv⟩ := h.form hn0
  have hnews := rnews h.own hv
  subst hv
  have c1 := h.blk.c1
  have f1 := h.blk.fz 1
  have HR := Lib.hid h
  have HNW := Lib.hid hnews
  have hplt := h.blk.plt
  obtain ⟨i0, hi, hz0, hz1, hz2⟩ := info_parts infoRW
  obtain ⟨L, hL⟩ : ∃ L, L = D.l.length := ⟨_, rfl⟩
  have hLn : L ≤ 200000 := by omega
  have hL0 : 0 < L := by omega
  clear h hnews
  rw [← hL] at c1
  have HL := Lib.hid hL
  clear hL hn hn0
  go_enter Tryz.func87, Tryz.ntmps87
  go_wp2_with (at_builtin; refine wpList_append_lies _ rfl (.const (.slice none 0 0)) (.tmp 9) 74 (by rfl) w.heap.size 117 i0 _ 4 40 Tryz.underlying74 hi hz0 hz1 hz2 rfl (by omega) (.slice none 0 0) 0 [] (by rfl) (World.ownsRow_nil _ _ _ _) ⟨g0, 0, none⟩ L cap0 (rwCells D.l) (by rfl) (by rw [rwCells_length, HL.out]) HNW.out (rone _) (by omega) (by unfold maxLen; omega) (by omega) (by simp) w.heap.size (by simp) ?_)
  intro g cap w2 hown hgrow hat hlt2
  have hgs : g = w.heap.size := by
    rcases hat with h1 | h1
    · cases h1
    · exact h1
  rw [HL.out] at hown
  obtain ⟨h1, h2⟩ := HR.out.copied hgrow hgs hown
  have k1 : w2.cell? ⟨p, 1, none⟩ = some (.slice (some ⟨g0, 0, none⟩) L cap0) := by
    rw [hgrow.cell_far ⟨p, 1, none⟩ hplt (fun h => by cases h)]; exact c1
  have kf : w2.frozen? ⟨p, 1, none⟩ = false := by
    rw [hgrow.frozen_far ⟨p, 1, none⟩ hplt (fun h => by cases h)]; exact f1
  have hK : KSt p g cap D n w 0 (w2.setCell ⟨p, 1, none⟩ (.slice (some ⟨g, 0, none⟩) D.l.length cap)) := by
    refine ⟨?_, h2⟩
    unfold keepD
    rw [keepK_zero]
    exact h1
  rw [← HL.out] at hK
  have HK := Lib.hid hK
  have hgw : w.heap.size ≤ g := by omega
  clear hgs hK h1 h2 hown hgrow hat hlt2 c1 f1 hi hz0 hz1 hz2 HNW HR
  go_wp2
  go_loopw [4] (fun i wr => ∃ k : Nat, k ≤ L ∧ i = .int .i64 k ∧ KSt p g cap D n w k wr) (fun i _ => L - (intOf i).toNat)
  case atStart => exact ⟨0, Nat.zero_le _, rfl, HK.out⟩
  case round =>
    obtain ⟨k, hk, rfl, hst⟩ := hrel
    have c1 := hst.1.blk.c1
    rw [← HL.out] at c1
    by_cases hlt : k < L
    · have hkl : k < D.l.length := by rw [← HL.out]; exact hlt
      have hat := keepK_at n D.l k hkl
      have hlen := keepK_length n D.l k
      have hr := hst.1.own
      rw [show D.l.length = (keepD D n k).l.length from hlen.symm] at hr
      have d0 := rrow_cell hr k _ hat 0 (by omega)
      have f3 := rrow_fz hr (k * 4 + 3)
      have d3 := rrow_cell hr k _ hat 3 (by omega)
      simp only [RW.cells, List.getElem?_cons_zero, List.getElem?_cons_succ, Nat.add_zero] at d0 d3
      have HST := Lib.hid hst
      clear hst hr hat hlen
      by_cases hnn : D.l[k].node = n
      · have HN := Lib.hid (HST.out.next (by omega) hkl hnn)
        clear HST
        generalize D.l[k] = X at *
        obtain ⟨x1, x2, x3, x4⟩ := X
        simp only at hnn d0 d3
        subst hnn
        go_wp2
        go_roundw
        case rel => exact ⟨k + 1, by omega, by go_num, HN.out⟩
        case measure => simp [intOf]; omega
      · have HN := Lib.hid (HST.out.stay hkl hnn)
        clear HST
        generalize D.l[k] = X at *
        obtain ⟨x1, x2, x3, x4⟩ := X
        simp only at hnn d0 d3
        have hb : (x1 == n) = false := by simpa using hnn
        go_wp2
        go_roundw
        case rel => exact ⟨k + 1, by omega, by go_num, HN.out⟩
        case measure => simp [intOf]; omega
    · have hkl : k = L := by omega
      subst hkl
      have HST := Lib.hid hst
      clear hst
      go_wp2
      go_end0
      obtain ⟨s1, s2⟩ := HST.out
      refine ⟨rfl, .slice (some ⟨g, 0, none⟩) D.l.length cap, ?_, s2, fun j hj => by
        have e1 : some g = some j := hj
        injection e1 with e1
        omega⟩
      unfold keepD at s1
      rw [HL.out, keepK_all] at s1
      exact s1

theorem rbarrier_ok {p : Nat} {v : Value} {D : RS} {w : World} (h : RIn8 p v D w) (n epoch : Int) (hmay : rmayE D n epoch = 0) (hn0 : 0 < D.l.length) (hn : D.l.length ≤ 200000) :
    Calls Tryz.prog 40 #[.pointer (some ⟨p, 0, none⟩), .int .i64 n, .int .u64 epoch] w fun e w' => e = .returned (.int .i64 0) ∧ RTo8 p v { D with l := D.l.map (keepR n) } w w' := by
  have HM := rmay_any h.blk n epoch
  rw [hmay] at HM
  replace HM := Lib.hid HM
  have HS := Lib.hid (spend_any h.blk)
  have HK := Lib.hid (rkeep_any h n hn0 hn)
  clear h hmay hn0 hn
  go_enter Tryz.func40, Tryz.ntmps40
  go_wp2_with fail
  refine HM.out.mono ?_
  rintro e w1 ⟨rfl, rfl⟩
  go_wp2_with fail
  refine HS.out.mono ?_
  rintro e w1 ⟨rfl, rfl⟩
  go_wp2_with fail
  refine HK.out.mono ?_
  rintro e w1 ⟨rfl, v', h1, h2, h3⟩
  have HF : Hid (RTo8 p v { D with l := D.l.map (keepR n) } w w1) := Lib.hid ⟨v', h1, h2.mono (fun _ h => .inl h), fun k hk => .inr (h3 k hk)⟩
  clear h1 h2 h3
  go_wp2
  go_ret
  exact ⟨rfl, HF.out⟩

theorem rfence_ok {p : Nat} {v : Value} {D : RS} {w : World} (h : RIn8 p v D w) (n : Nat) (hn17 : n < 17) (hn0 : 0 < D.l.length) (hn : D.l.length ≤ 200000) :
    Calls Tryz.prog 41 #[.pointer (some ⟨p, 0, none⟩), .int .i64 n] w fun e w' => e = .returned (.int .i64 0) ∧ RTo8 p v { D with l := D.l.map (keepR n), table := D.table.set n 0 } w w' := by
  have HN := rnode_any n w
  rw [inB_iff.2 ⟨by omega, by omega⟩] at HN
  replace HN := Lib.hid HN
  have HS := Lib.hid (spend_any h.blk)
  have HK := Lib.hid (rkeep_any h n hn0 hn)
  have c2 := h.blk.c2
  have hni : (n : Int) < 17 := by omega
  clear h hn0 hn
  go_enter Tryz.func41, Tryz.ntmps41
  go_wp2_with fail
  refine HN.out.mono ?_
  rintro e w1 ⟨rfl, rfl⟩
  go_wp2_with fail
  refine HS.out.mono ?_
  rintro e w1 ⟨rfl, rfl⟩
  go_wp2_with fail
  refine HK.out.mono ?_
  rintro e w1 ⟨rfl, v', h1, h2, h3⟩
  have cw := h1.blk.tab n hn17
  have fw := h1.blk.fz (3 + n)
  have hset := h1.blk.setTab n hn17 0
  have HF : Hid (RTo8 p v { D with l := D.l.map (keepR n), table := D.table.set n 0 } w (w1.setCell ⟨p, 3 + n, none⟩ (.int .u64 0))) := Lib.hid ⟨v', ⟨⟨hset.blk, hset.lt, hset.lw⟩, ownsRow_of_same h1.own (fun g hg => block_setCell_ne (fun e => h1.ne (by rw [hg, e])) _), h1.ne⟩, (h2.mono (fun _ h => .inl h)).trans (Grow.setCell (F := fun k => k = p ∨ v.ownBlock = some k) (.inl rfl) _) (fun x hx => .inl hx), fun k hk => .inr (h3 k hk)⟩
  clear h1 h2 h3 hset
  generalize List.getD _ n 0 = t at cw
  go_wp2
  go_ret
  exact ⟨rfl, HF.out⟩

end Go.Proofs.YtkgdpmeheakdcaaGreat
