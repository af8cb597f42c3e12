import Derived.Test.YtkgdpmeheakdcaaGreatRowQ
import Derived.Lib.SlBytesConst
/- The reference's writer: walks of fail, Num. -/
namespace Go.Proofs.YtkgdpmeheakdcaaGreat
open Go.RowKit
set_option linter.all false
set_option maxRecDepth 100000

/-- The reference's writer at p, its bytes in v, without an error. -/
structure XIn (p : Nat) (v : Value) (bs : List UInt8) (w : World) : Prop where
  blk : w.heap[p]? = some (.cells #[v, .int .i64 0] 113 (0, 0))
  own : rowQ w v bs.length (byCells bs)
  ne : v.ownBlock ≠ some p
  small : bs.length ≤ 100000
theorem XIn.lt {p : Nat} {v : Value} {bs : List UInt8} {w : World} (h : XIn p v bs w) : p < w.heap.size := (Array.getElem?_eq_some_iff.1 h.blk).1
theorem XIn.olt {p : Nat} {v : Value} {bs : List UInt8} {w : World} (h : XIn p v bs w) {k : Nat} (hk : v.ownBlock = some k) : k < w.heap.size := h.own.olt hk
theorem XIn.set1 {p : Nat} {v : Value} {bs : List UInt8} {w : World} (h : XIn p v bs w) : XIn p v bs (w.setCell ⟨p, 1, none⟩ (.int .i64 0)) :=
  ⟨two_set1 h.blk, h.own.of_same (fun g hg => block_setCell_ne (fun e => h.ne (by rw [hg, e])) _), h.ne, h.small⟩
theorem XIn.grow {F : Nat → Prop} {p : Nat} {v : Value} {bs : List UInt8} {w w' : World} (h : XIn p v bs w) (hg : Grow F w w') (hp : ¬ F p) (hv : ∀ k, v.ownBlock = some k → ¬ F k) : XIn p v bs w' :=
  ⟨(hg.block p h.lt hp).trans h.blk, h.own.of_same (fun g hg' => hg.block g (h.olt hg') (hv g hg')), h.ne, h.small⟩
def XTo (p : Nat) (v : Value) (bs : List UInt8) (w w' : World) : Prop :=
  ∃ v', XIn p v' bs w' ∧ Grow (fun k => k = p ∨ v.ownBlock = some k) w w' ∧ ∀ k, v'.ownBlock = some k → v.ownBlock = some k ∨ w.heap.size ≤ k

theorem xfail_ok {p : Nat} {v : Value} {w : World} (h : w.heap[p]? = some (.cells #[v, .int .i64 0] 113 (0, 0))) :
    Calls Tryz.prog 116 #[.pointer (some ⟨p, 0, none⟩), .int .i64 0] w fun e w' => e = .returned (.bool false) ∧ w' = w.setCell ⟨p, 1, none⟩ (.int .i64 0) := by
  have c1 : w.cell? ⟨p, 1, none⟩ = some (.int .i64 0) := by simp [World.cell?, h]
  have f1 : w.frozen? ⟨p, 1, none⟩ = false := by simp [World.frozen?, h]
  clear h
  go_enter Tryz.func116, Tryz.ntmps116
  go_wp2
  go_ret
  exact ⟨rfl, rfl⟩

/-- The bytes that are being made: the row u, in blocks from B on. -/
structure UIn (B : Nat) (u : Value) (bs : List UInt8) (w : World) : Prop where
  own : w.ownsRow B 5 1 u bs.length (byCells bs)
theorem UIn.ge {B : Nat} {u : Value} {bs : List UInt8} {w : World} (h : UIn B u bs w) {k : Nat} (hk : u.ownBlock = some k) : B ≤ k := (ownsRow_block h.own hk).1

/-- Where a row that is not empty lies, and its cells. -/
theorem row_at {B : Nat} {u : Value} {bs : List UInt8} {w : World} (h : w.ownsRow B 5 1 u bs.length (byCells bs)) (hn : 0 < bs.length) :
    ∃ g cap, u = .slice (some ⟨g, 0, none⟩) bs.length cap ∧ B ≤ g ∧ g < w.heap.size ∧ bs.length ≤ cap ∧ cap ≤ maxLen ∧ ∀ j v, (byCells bs)[j]? = some v → w.cell? ((⟨g, 0, none⟩ : Addr).add j) = some v := by
  rcases h.2 with ⟨_, h0⟩ | ⟨g, cap, cur, rfl, hb, hg, h1, h2, h3, h4⟩
  · omega
  · refine ⟨g, cap, rfl, hb, (Array.getElem?_eq_some_iff.1 hg).1, h1, h2, fun j v hj => ?_⟩
    have hjl : j < bs.length := by
      have := (List.getElem?_eq_some_iff.1 hj).1
      rwa [byCells_length] at this
    have hadd : (Addr.add ⟨g, 0, none⟩ j) = ⟨g, j, none⟩ := by
      by_cases hj0 : j = 0
      · subst hj0; rfl
      · simp [Addr.add, hj0]
    rw [hadd]
    simp only [World.cell?, hg]
    rw [← h4, List.getElem?_take, if_pos (by omega), Array.getElem?_toList] at hj
    exact hj

/-- Bytes are appended to the writer's. -/
theorem XIn.app {p : Nat} {v v' : Value} {bs cs : List UInt8} {w w1 w2 : World} (h : XIn p v bs w1) (hw : Grow (fun k => k = p ∨ v.ownBlock = some k) w w1) (hz : w.heap.size ≤ w1.heap.size) (hg : w1.grownBy w2 v.ownBlock)
    (ho : rowQ w2 v' (bs.length + cs.length) (byCells bs ++ byCells cs)) (hv : ∀ k, v'.ownBlock = some k → v.ownBlock = some k ∨ w1.heap.size ≤ k) (hs : bs.length + cs.length ≤ 100000) :
    XTo p v (bs ++ cs) w (w2.setCell ⟨p, 0, none⟩ v') := by
  have hlt := h.lt
  have hb2 : w2.heap[p]? = some (.cells #[v, .int .i64 0] 113 (0, 0)) := by
    rw [hg.block p hlt (fun e => h.ne e.symm)]
    exact h.blk
  have hne : v'.ownBlock ≠ some p := fun e => by
    rcases hv p e with h1 | h1
    · exact h.ne h1
    · omega
  refine ⟨v', ⟨two_set0 hb2, ?_, hne, by simp; omega⟩, ?_, fun k hk => (hv k hk).imp id (fun h => Nat.le_trans hz h)⟩
  · have h1 : (bs ++ cs).length = bs.length + cs.length := by simp
    have h2 : byCells (bs ++ cs) = byCells bs ++ byCells cs := by simp [byCells]
    rw [h1, h2]
    exact ho.of_same (fun g hg' => block_setCell_ne (fun e => hne (by rw [hg', e])) _)
  · exact (hw.trans (Grow.of_grownBy (F := fun k => k = p ∨ v.ownBlock = some k) hg (fun g hg' => .inr hg')) (fun x hx => .inl hx)).trans (Grow.setCell (F := fun k => k = p ∨ v.ownBlock = some k) (.inl rfl) _) (fun x hx => .inl hx)

/-- The loop of Num: k bytes are made. -/
def xLoop (p : Nat) (v : Value) (bs : List UInt8) (x : Nat) (w : World) (k : Nat) (u : Value) (wr : World) : Prop :=
  XIn p v bs wr ∧ UIn w.heap.size u (leN k x) wr ∧ Grow (fun j => j = p) w wr

set_option maxHeartbeats 2000000 in
theorem xnum_any {p : Nat} {v : Value} {bs : List UInt8} {w : World} (h : XIn p v bs w) (n : Nat) (hn1 : 1 ≤ n) (hn8 : n ≤ 8) (x : Nat) (hx : x < 256 ^ n) (hx64 : x < 18446744073709551616) (hs : bs.length + n ≤ 100000) :
    Calls Tryz.prog 82 #[.pointer (some ⟨p, 0, none⟩), .int .u64 x, .int .i64 n] w fun e w' => e = .returned (.tuple #[]) ∧ XTo p v (bs ++ leN n x) w w' := by
  have HF := Lib.hid (xfail_ok h.blk)
  have HI : Hid (xLoop p v bs x w 0 (.slice none 0 0) (w.setCell ⟨p, 1, none⟩ (.int .i64 0))) := Lib.hid ⟨h.set1, ⟨rfl, .inl ⟨rfl, rfl⟩⟩, Grow.setCell (F := fun j => j = p) rfl _⟩
  have HXN := Lib.hid (show x / 256 ^ n = 0 from Nat.div_eq_of_lt hx)
  have holt : ∀ k, v.ownBlock = some k → k < w.heap.size := fun k hk => h.olt hk
  have HOLT := Lib.hid holt
  have hplt := h.lt
  have hni1 : (1 : Int) ≤ (n : Int) := by omega
  have hni8 : (n : Int) ≤ 8 := by omega
  have hd1 : decide ((n : Int) < 1) = false := by simp; omega
  have hd8 : decide (8 < (n : Int)) = false := by simp; omega
  clear h hx holt
  go_enter Tryz.func82, Tryz.ntmps82
  go_wp2_with fail
  refine HF.out.mono ?_
  rintro e w1 ⟨rfl, hw1⟩
  have HW1 := Lib.hid hw1
  clear hw1
  go_wp2
  go_loopw [1, 6, 7] (fun t u i wr => ∃ k : Nat, k ≤ n ∧ i = .int .i64 k ∧ t = .int .u64 ((x / 256 ^ k : Nat) : Int) ∧ xLoop p v bs x w k u wr) (fun _ _ i _ => n - (intOf i).toNat)
  case atStart => exact ⟨0, Nat.zero_le _, rfl, by simp, by rw [HW1.out]; exact HI.out⟩
  case round =>
    obtain ⟨k, hk, rfl, rfl, hxi, hui, hgr⟩ := hrel
    by_cases hlt : k < n
    · have hdv : x / 256 ^ (k + 1) = x / 256 ^ k / 256 := by rw [Nat.pow_succ, Nat.div_div_eq_div_mul]
      have HDV := Lib.hid hdv
      have HSN := Lib.hid (leN_snoc k x)
      clear hdv
      generalize hy : x / 256 ^ k = y at *
      have hy64 : y < 18446744073709551616 := by have := Nat.div_le_self x (256 ^ k); omega
      have hLl := leN_length k x
      have HLL := Lib.hid hLl
      clear hy hLl
      have hbv : byV (UInt8.ofNat y) = .int .u8 ((y : Int) % 256) := by
        unfold byV
        rw [UInt8.toNat_ofNat']
        simp
      have HBV := Lib.hid hbv
      have XI := Lib.hid hxi
      have UI := Lib.hid hui
      have GR := Lib.hid hgr
      have hge := hgr.size
      obtain ⟨i0, hi, hz0, hz1, hz2⟩ := info_parts infoBy
      clear hbv hxi hui hgr
      have hL2 : (leN k x).length + 1 ≤ 10 := by rw [HLL.out]; omega
      generalize leN k x = M at *
      go_wp2_with (at_builtin; refine wpList_append_lies _ rfl (.tmp 23) (.tmp 27) 95 (by rfl) w.heap.size 5 i0 _ 1 1 Tryz.underlying95 hi hz0 hz1 hz2 rfl (by omega) u6 M.length (byCells M) (by rfl) (World.ownsRow.alloc UI.out.own _) ⟨wr.heap.size, 0, none⟩ 1 1 [.int .u8 ((y : Int) % 256)] (by rfl) rfl (World.news_of_block (cs := #[.int .u8 ((y : Int) % 256)]) (t := 5) (fr := (0, 0)) (heap_alloc_new wr _)) (by simp [Value.oneCell']) (by omega) (by unfold maxLen; omega) (by omega) (by simp; omega) (wr.heap.size + 1) (by simp) ?_)
      intro g cap w2 hown hgrow hat hlt2
      have hu : u6.ownBlock ≠ some p := fun e => by have := UI.out.ge e; omega
      have hgg : Grow (fun j => j = p ∨ u6.ownBlock = some j) w w2 := (GR.out.mono (fun _ h => .inl h)).trans ((Grow.alloc wr _).trans (F' := fun j => u6.ownBlock = some j) (Grow.of_grownBy hgrow (fun _ h => h)) (fun _ h => .inl h)) (fun j hj => .inl (.inr hj))
      have hrel : xLoop p v bs x w (k + 1) (.slice (some ⟨g, 0, none⟩) (M.length + 1) cap) w2 := by
        refine ⟨?_, ⟨?_⟩, ?_⟩
        · exact (XI.out.grow (Grow.alloc (F := fun _ => False) wr _) (fun h => h) (fun _ _ h => h)).grow (Grow.of_grownBy (F := fun j => u6.ownBlock = some j) hgrow (fun _ h => h)) hu (fun j hj hf => by have := UI.out.ge hf; have := HOLT.out j hj; omega)
        · rw [HSN.out]
          have e1 : (M ++ [UInt8.ofNat y]).length = M.length + 1 := by simp
          have e2 : byCells (M ++ [UInt8.ofNat y]) = byCells M ++ [byV (UInt8.ofNat y)] := by simp [byCells]
          rw [e1, e2, HBV.out]
          exact hown
        · exact ⟨hgg.os, hgg.tape, hgg.output, hgg.size, fun j hj hn => hgg.block j hj (fun hf => by
            rcases hf with hf | hf
            · exact hn hf
            · have := UI.out.ge hf
              omega)⟩
      have HREL := Lib.hid hrel
      clear hown hgrow hat hlt2 hu hgg hrel hi hz0 hz1 hz2 XI UI GR
      go_wp2
      go_roundw
      case rel => exact ⟨k + 1, by omega, by go_num, by rw [HDV.out]; go_num, HREL.out⟩
      case measure => simp [intOf]; omega
    · have hkn : k = n := by omega
      subst hkn
      have hx0 := HXN.out
      rw [hx0]
      clear hx0
      obtain ⟨ug, ucap, rfl, hub, huw, huc, hucm, hucell⟩ := row_at hui.own (by rw [leN_length]; omega)
      have XI := Lib.hid hxi
      have GR := Lib.hid hgr
      have UC := Lib.hid hucell
      have c0 : wr.cell? ⟨p, 0, none⟩ = some v := by simp [World.cell?, hxi.blk]
      have f0 : wr.frozen? ⟨p, 0, none⟩ = false := by simp [World.frozen?, hxi.blk]
      have hlw := hxi.lt
      have hne := hxi.ne
      have hlen := leN_length k x
      have HLEN := Lib.hid hlen
      have hlk1 : 1 ≤ (leN k x).length := by omega
      have hlk2 : (leN k x).length ≤ 8 := by omega
      have hlk3 : bs.length + (leN k x).length ≤ 100000 := by omega
      have hge := hgr.size
      obtain ⟨i0, hi, hz0, hz1, hz2⟩ := info_parts infoBy
      clear hxi hui hgr hucell hlen
      generalize hM : leN k x = M at *
      have HM := Lib.hid hM
      clear hM
      go_wp2_with (at_builtin; refine wpList_append_Q rfl (.tmp 39) (.tmp 40) (by rfl) v bs.length (byCells bs) (by rfl) XI.out.own ⟨ug, 0, none⟩ M.length ucap (byCells M) (by rfl) (byCells_length M) UC.out (by simp [byCells, byV, Value.oneCell']) (by omega) (by omega) ?_)
      intro g cap w2 hown hgrow hat hlt2
      have k0 : w2.cell? ⟨p, 0, none⟩ = some v := by
        rw [hgrow.cell_far ⟨p, 0, none⟩ hlw (fun e => hne e.symm)]
        exact c0
      have f2 : w2.frozen? ⟨p, 0, none⟩ = false := by
        rw [hgrow.frozen_far ⟨p, 0, none⟩ hlw (fun e => hne e.symm)]
        exact f0
      have hfin := XIn.app (v' := .slice (some ⟨g, 0, none⟩) (bs.length + M.length) cap) XI.out (GR.out.mono (fun _ h => .inl h)) hge hgrow hown (fun q hq => by
        cases hq
        exact hat.imp id (fun h => by
          have h2 : g = wr.heap.size := h
          show wr.heap.size ≤ g
          omega)) hlk3
      have HFIN := Lib.hid hfin
      clear hown hgrow hat hlt2 hfin hi hz0 hz1 hz2 hne c0 f0 XI GR UC
      go_wp2
      go_end0
      exact ⟨rfl, by rw [HM.out]; exact HFIN.out⟩

end Go.Proofs.YtkgdpmeheakdcaaGreat

/- The reference's Sum, four, Stamp, Read: walks. -/
namespace Go.Proofs.YtkgdpmeheakdcaaGreat
open Go.RowKit
set_option linter.all false
set_option maxRecDepth 100000

set_option maxHeartbeats 1000000 in
theorem rsum_any (s : ByteArray) (w : World) (hs : s.size ≤ 100000) :
    Calls Tryz.prog 118 #[.string s] w fun e w' => e = .returned (.int .u32 (crc s.data.toList)) ∧ w = w' := by
  go_enter Tryz.func118, Tryz.ntmps118
  go_wp2
  go_loop [3, 4] (fun t i => ∃ k : Nat, k ≤ s.size ∧ i = .int .i64 k ∧ t = .int .u32 ((crcL 4294967295 (s.data.toList.take k) : Nat) : Int)) (fun _ i => s.size - (intOf i).toNat)
  case atStart => exact ⟨0, Nat.zero_le _, rfl, by simp [crcL]⟩
  case round =>
    obtain ⟨k, hk2, rfl, rfl⟩ := hrel
    by_cases hlt : k < s.size
    · have hts := take_snoc' s k hlt
      have hCl := crcL_lt (s.data.toList.take k) (x := 4294967295) (by decide)
      have HTS : Hid (crcL 4294967295 (s.data.toList.take (k + 1)) = crcK 8 (crcL 4294967295 (s.data.toList.take k) ^^^ s[k].toNat)) := Lib.hid (by rw [hts, crcL_snoc]; rfl)
      have hX := crcX_lt hCl s[k]
      have hxor : bits BinOp.xor IntKind.u32 ((crcL 4294967295 (s.data.toList.take k) : Nat) : Int) ((s[k].toNat : Int) % 4294967296) = ((crcL 4294967295 (s.data.toList.take k) ^^^ s[k].toNat : Nat) : Int) := by
        have := s[k].toNat_lt
        rw [Int.emod_eq_of_lt (by omega) (by omega)]
        exact u32_xor_nat _ _ hCl (by omega)
      clear hts hCl
      go_wp2
      clear hxor
      generalize crcL 4294967295 (s.data.toList.take k) ^^^ s[k].toNat = X at *
      go_loop [3, 5] (fun t i => ∃ j : Nat, j ≤ 8 ∧ i = .int .i64 j ∧ t = .int .u32 ((crcK j X : Nat) : Int)) (fun _ i => 8 - (intOf i).toNat)
      case atStart => exact ⟨0, by omega, rfl, rfl⟩
      case round =>
        obtain ⟨j, hj, rfl, rfl⟩ := hrel
        by_cases hj8 : j < 8
        · have hY := crcK_lt hX j
          have HK : Hid (crcK (j + 1) X = crc1 (crcK j X)) := Lib.hid rfl
          generalize crcK j X = Y at *
          by_cases hodd : Y % 2 = 1
          · have hxp : bits BinOp.xor IntKind.u32 ((Y : Int) / 2) 3988292384 = ((Y / 2 ^^^ 3988292384 : Nat) : Int) := by
              rw [show ((Y : Int) / 2) = ((Y / 2 : Nat) : Int) from by omega]
              exact u32_xor_nat (Y / 2) 3988292384 (by omega) (by decide)
            have hm2 : (Y : Int) % 2 = 1 := by omega
            have HC : Hid (crc1 Y = (Y / 2) ^^^ 3988292384) := Lib.hid (by unfold crc1; rw [if_pos hodd])
            clear hodd
            go_wp2
            go_round
            case rel => exact ⟨j + 1, by omega, by go_num, by rw [HK.out, HC.out]⟩
            case measure => simp [intOf]; omega
          · have hz : Y % 2 = 0 := by omega
            have hm2 : (Y : Int) % 2 = 0 := by omega
            have HC : Hid (crc1 Y = Y / 2) := Lib.hid (by unfold crc1; rw [if_neg hodd])
            clear hodd hz
            go_wp2
            go_round
            case rel => exact ⟨j + 1, by omega, by go_num, by rw [HK.out, HC.out]; go_num⟩
            case measure => simp [intOf]; omega
        · have hj8' : j = 8 := by omega
          subst hj8'
          go_wp2
          go_round
          case rel => exact ⟨k + 1, by omega, by go_num, by rw [HTS.out]⟩
          case measure => simp [intOf]; omega
    · have hks : k = s.size := by omega
      subst hks
      have hta : s.data.toList.take s.size = s.data.toList := List.take_of_length_le (Nat.le_refl _)
      have hCl := crcL_lt s.data.toList (x := 4294967295) (by decide)
      rw [hta]
      clear hta
      have HCR : Hid (crc s.data.toList = 4294967295 - crcL 4294967295 s.data.toList) := Lib.hid rfl
      generalize crcL 4294967295 s.data.toList = C at *
      go_wp2
      go_ret
      exact ⟨ret_int' (a := (4294967295 : Int) - (C : Int)) (by rw [HCR.out]; omega), rfl⟩

end Go.Proofs.YtkgdpmeheakdcaaGreat

/- The reference's four, Stamp, Read: walks. -/
namespace Go.Proofs.YtkgdpmeheakdcaaGreat
open Go.RowKit
set_option linter.all false
set_option maxRecDepth 100000

theorem leN4 (c : Nat) : leN 4 c = [UInt8.ofNat c, UInt8.ofNat (c / 256), UInt8.ofNat (c / 65536), UInt8.ofNat (c / 16777216)] := by
  simp only [leN, Nat.div_div_eq_div_mul]
theorem four_bytes (c : Nat) (hc : c < 4294967296) (w : World) : (convert 95 9 (.slice (some ⟨w.heap.size, 0, none⟩) 4 4)).run Tryz.prog (w.alloc (.cells #[.int .u8 ((c : Int) % 256), .int .u8 ((c : Int) / 256 % 256), .int .u8 ((c : Int) / 65536 % 256), .int .u8 ((c : Int) / 16777216)] 5)) = .ok (.string (str (leN 4 c))) (w.alloc (.cells #[.int .u8 ((c : Int) % 256), .int .u8 ((c : Int) / 256 % 256), .int .u8 ((c : Int) / 65536 % 256), .int .u8 ((c : Int) / 16777216)] 5)) := by
  have h := back_conv (B := w.heap.size) (cap := 4) (L := leN 4 c) (w := w.alloc (.cells #[.int .u8 ((c : Int) % 256), .int .u8 ((c : Int) / 256 % 256), .int .u8 ((c : Int) / 65536 % 256), .int .u8 ((c : Int) / 16777216)] 5)) (fun j hj => by
    simp only [World.cell?, heap_alloc_new]
    have hj4 : j < 4 := by rw [leN_length] at hj; exact hj
    have e : ∀ y : Nat, ((UInt8.ofNat y).toNat : Int) = (y : Int) % 256 := fun y => by rw [UInt8.toNat_ofNat']; simp
    simp only [leN4]
    match j, hj4 with
    | 0, _ => simp [e]
    | 1, _ => simp [e]
    | 2, _ => simp [e]
    | 3, _ => simp [e]; omega)
  rw [leN_length] at h
  exact h

theorem rfour_any (c : Nat) (hc : c < 4294967296) (w : World) : Calls Tryz.prog 117 #[.int .u32 c] w fun e w' => e = .returned (.string (str (leN 4 c))) ∧ Below w.heap.size w w' := by
  have hb := four_bytes c hc w
  go_enter Tryz.func117, Tryz.ntmps117
  go_wp2
  go_ret
  exact ⟨rfl, (Below.refl _ _).alloc (Nat.le_refl _) _⟩

theorem zconv_new (w : World) (m : Nat) : (convert 95 9 (.slice (some ⟨w.heap.size, 0, none⟩) m m)).run Tryz.prog (w.alloc (.cells (fillRow 0 m 0) 5)) = .ok (.string (str (zerosL m))) (w.alloc (.cells (fillRow 0 m 0) 5)) := zero_conv' m (heap_alloc_new w _)

set_option maxHeartbeats 1000000 in
theorem rstamp_any (l : List UInt8) (hl : l.length ≤ 60) (w : World) :
    Calls Tryz.prog 83 #[.string (str l), .int .i64 64] w fun e w' => e = .returned (.tuple #[.string (str (stampL l 64)), .int .i64 0]) ∧ Below w.heap.size w w' := by
  obtain ⟨m, hm⟩ : ∃ m, m = 60 - l.length := ⟨_, rfl⟩
  have hm1 : m + l.length = 60 := by omega
  have hsz : ((str l).size : Int) = l.length := by rw [str_size]
  have hle : (l.length : Int) ≤ 60 := by omega
  have hle2 : ¬ (60 : Int) < l.length := by omega
  have hmi : (60 : Int) - (l.length : Int) = (m : Int) := by omega
  have HMK := made_u8 w m (by omega)
  have HCV := zconv_new w m
  have HM1 := Lib.hid hm1
  have HST : Hid (stampL l 64 = (l ++ zerosL m) ++ four (l ++ zerosL m)) := Lib.hid (by unfold stampL; rw [hm])
  clear hm1 hm
  have hbig : ¬ 9223372036854775807 < (str l).size + (str (zerosL m)).size := by have := HM1.out; rw [str_size, str_size, zerosL_length]; omega
  have hap : str l ++ str (zerosL m) = str (l ++ zerosL m) := str_app l (zerosL m)
  have hL : (l ++ zerosL m).length = 60 := by have := HM1.out; simp [zerosL_length]; omega
  have HS : Hid (four (l ++ zerosL m) = leN 4 (crc (l ++ zerosL m))) := Lib.hid rfl
  generalize l ++ zerosL m = L at *
  generalize fillRow 0 m 0 = FR at *
  have HL := Lib.hid hL
  clear hL
  have HO := Lib.hid (rsum_any (str L) (w.alloc (.cells FR 5)) (by rw [str_size]; have := HL.out; omega))
  have H4 := Lib.hid (rfour_any (crc L) (crc_lt L) (w.alloc (.cells FR 5)))
  go_enter Tryz.func83, Tryz.ntmps83
  go_wp2_with fail
  refine HO.out.mono ?_
  rintro e w2 ⟨rfl, rfl⟩
  go_wp2_with fail
  refine H4.out.mono ?_
  rintro e w3 ⟨rfl, hb3⟩
  have hbel : Below w.heap.size w w3 := ((Below.refl _ _).alloc (Nat.le_refl _) _).trans (hb3.mono (by simp))
  have HBE := Lib.hid hbel
  clear hb3 hbel HMK HCV
  have hbig2 : ¬ 9223372036854775807 < (str L).size + (str (leN 4 (crc L))).size := by have := HL.out; rw [str_size, str_size, leN_length]; omega
  have hap2 : str L ++ str (leN 4 (crc L)) = str (stampL l 64) := by rw [HST.out, HS.out, str_app]
  go_wp2
  go_ret2
  exact ⟨rfl, HBE.out⟩

set_option maxHeartbeats 1000000 in
theorem rread_any (L : List UInt8) (h4 : 4 ≤ L.length) (hL : L.length ≤ 100000) (w : World) :
    Calls Tryz.prog 100 #[.string (str L)] w fun e w' => e = .returned (.tuple #[.string (if sumOk L = true then str (L.take (L.length - 4)) else ⟨#[]⟩), .int .i64 (if sumOk L = true then 0 else 6)]) ∧ Below w.heap.size w w' := by
  obtain ⟨n, hn⟩ : ∃ n, n = L.length - 4 := ⟨_, rfl⟩
  have hni : (L.length : Int) - 4 = (n : Int) := by omega
  have hsz : ((str L).size : Int) = L.length := by rw [str_size]
  have hge4 : ¬ (L.length : Int) < 4 := by omega
  have hge4b : (4 : Int) ≤ (L.length : Int) := by omega
  have hn0 : (0 : Int) ≤ (n : Int) := by omega
  have hn1 : (n : Int) ≤ L.length := by omega
  have s1 := fun wx => str_drop L n wx (by omega)
  have s2 := fun wx => str_take L n wx (by omega)
  have hok : sumOk L = decide (L.drop n = leN 4 (crc (L.take n))) := by unfold sumOk four; rw [hn]
  have hT : (L.take n).length ≤ 100000 := by rw [List.length_take]; omega
  rw [← hn]
  have HOK := Lib.hid hok
  have HT := Lib.hid hT
  clear hok hn hT
  generalize sumOk L = ok at *
  go_enter Tryz.func100, Tryz.ntmps100
  go_wp2_with fail
  go_cut [19] from 11 to 18 (fun s19 wx => s19 = .bool (!ok) ∧ Below w.heap.size w wx)
  case first =>
    go_region_with (first
      | (go_at_call 118
         with_reducible refine (rsum_any _ _ (by rw [str_size]; exact HT.out)).mono ?_
         rintro e x1 ⟨rfl, rfl⟩)
      | (go_at_call 117
         with_reducible refine (rfour_any _ (crc_lt _) _).mono ?_
         rintro e x1 ⟨rfl, bx⟩))
    all_goals go_wp2_with fail
    all_goals go_meet
    all_goals (refine ⟨?_, ?_⟩)
    all_goals first
      | exact (Below.refl _ _).drew.trans bx
      | (rw [ByteArray.toList_eq, ByteArray.toList_eq]
         show Value.bool (!(leN 4 (crc (L.take n)) == L.drop n)) = _
         rw [HOK.out, beq_dec]
         congr 2
         exact decide_eq_decide.2 eq_comm)
  case rest =>
    obtain ⟨rfl, hb⟩ := hcut
    have HB := Lib.hid hb
    clear hb
    cases ok with
    | true =>
      go_wp2
      go_ret2
      exact ⟨rfl, HB.out⟩
    | false =>
      go_wp2
      go_ret2
      exact ⟨rfl, HB.out⟩

end Go.Proofs.YtkgdpmeheakdcaaGreat

/- The reference's reader: walks of take, Num. -/
namespace Go.Proofs.YtkgdpmeheakdcaaGreat
open Go.RowKit
set_option linter.all false
set_option maxRecDepth 100000

/-- The reference's reader at p. -/
def YIn (p : Nat) (bs : List UInt8) (w : World) : Prop := w.heap[p]? = some (.cells #[.string (str bs), .int .i64 0] 140 (0, 0))
theorem YIn.lt {p : Nat} {bs : List UInt8} {w : World} (h : YIn p bs w) : p < w.heap.size := (Array.getElem?_eq_some_iff.1 h).1
theorem YIn.set0 {p : Nat} {bs cs : List UInt8} {w : World} (h : YIn p bs w) : YIn p cs (w.setCell ⟨p, 0, none⟩ (.string (str cs))) := two_set0 h

theorem ytake_any {p : Nat} {bs : List UInt8} {w : World} (h : YIn p bs w) (n : Nat) (hn : n ≤ bs.length) (hl : bs.length ≤ 100000) :
    Calls Tryz.prog 129 #[.pointer (some ⟨p, 0, none⟩), .int .i64 n] w fun e w' => e = .returned (.tuple #[.string (str (bs.take n)), .bool true]) ∧ w' = w.setCell ⟨p, 0, none⟩ (.string (str (bs.drop n))) := by
  have c0 : w.cell? ⟨p, 0, none⟩ = some (.string (str bs)) := by unfold YIn at h; simp [World.cell?, h]
  have c1 : w.cell? ⟨p, 1, none⟩ = some (.int .i64 0) := by unfold YIn at h; simp [World.cell?, h]
  have f0 : w.frozen? ⟨p, 0, none⟩ = false := by unfold YIn at h; simp [World.frozen?, h]
  have s1 := fun wx => str_drop bs n wx (by omega)
  have s2 := fun wx => str_take bs n wx (by omega)
  have hsz : ((str bs).size : Int) = bs.length := by rw [str_size]
  have hlt : ¬ (bs.length : Int) < (n : Int) := by omega
  have hle : (n : Int) ≤ bs.length := by omega
  clear h
  go_enter Tryz.func129, Tryz.ntmps129
  go_wp2
  go_ret2
  exact ⟨rfl, rfl⟩

theorem unLe_drop (M : List UInt8) (j : Nat) (h : j < M.length) : unLe (M.drop j) = unLe (M.drop (j + 1)) * 256 + M[j].toNat := by
  rw [List.drop_eq_getElem_cons h, unLe]
  omega

set_option maxHeartbeats 1000000 in
theorem ynum_any {p : Nat} {bs : List UInt8} {w : World} (h : YIn p bs w) (n : Nat) (hn1 : 1 ≤ n) (hn8 : n ≤ 8) (hl : n ≤ bs.length) (hl2 : bs.length ≤ 100000) :
    Calls Tryz.prog 101 #[.pointer (some ⟨p, 0, none⟩), .int .i64 n] w fun e w' => e = .returned (.int .u64 (unLe (bs.take n))) ∧ YIn p (bs.drop n) w' ∧ Grow (fun k => k = p) w w' := by
  have HT := Lib.hid (ytake_any h n hl hl2)
  have HF : Hid (YIn p (bs.drop n) (w.setCell ⟨p, 0, none⟩ (.string (str (bs.drop n)))) ∧ Grow (fun k => k = p) w (w.setCell ⟨p, 0, none⟩ (.string (str (bs.drop n))))) := Lib.hid ⟨h.set0, Grow.setCell (F := fun k => k = p) rfl _⟩
  have hlen : (bs.take n).length = n := by rw [List.length_take]; omega
  obtain ⟨M, hM⟩ : ∃ M, M = bs.take n := ⟨_, rfl⟩
  rw [← hM] at hlen HT
  have HM := Lib.hid hM
  have HL := Lib.hid hlen
  have hszM : (str M).size = n := by rw [str_size]; exact hlen
  have hd1 : decide ((n : Int) < 1) = false := by simp; omega
  have hd8 : decide (8 < (n : Int)) = false := by simp; omega
  have hni1 : (1 : Int) ≤ (n : Int) := by omega
  have hni8 : (n : Int) ≤ 8 := by omega
  clear h hM hlen
  go_enter Tryz.func101, Tryz.ntmps101
  go_wp2_with fail
  refine HT.out.mono ?_
  rintro e w1 ⟨rfl, hw1⟩
  have HW1 := Lib.hid hw1
  clear hw1
  go_wp2
  go_loop [7, 8] (fun t i => ∃ j : Nat, j ≤ n ∧ i = .int .i64 ((j : Int) - 1) ∧ t = .int .u64 ((unLe (M.drop j) : Nat) : Int)) (fun _ i => (intOf i + 1).toNat)
  case atStart => exact ⟨n, Nat.le_refl _, rfl, by rw [List.drop_of_length_le (by rw [HL.out]; exact Nat.le_refl _)]; rfl⟩
  case round =>
    obtain ⟨j, hj, rfl, rfl⟩ := hrel
    cases j with
    | succ j =>
      rw [show (((j + 1 : Nat) : Int) - 1) = (j : Int) by omega]
      have hjl : j < M.length := by rw [HL.out]; omega
      have hjs : j < (str M).size := by rw [hszM]; omega
      have hun := unLe_lt (M.drop (j + 1))
      have hdl : (M.drop (j + 1)).length ≤ 7 := by rw [List.length_drop, HL.out]; omega
      have hp : (256 : Nat) ^ (M.drop (j + 1)).length ≤ 256 ^ 7 := Nat.pow_le_pow_right (by decide) hdl
      have h7 : (256 : Nat) ^ 7 = 72057594037927936 := by decide
      have hub : unLe (M.drop (j + 1)) < 72057594037927936 := by omega
      have HS : Hid (unLe (M.drop j) = unLe (M.drop (j + 1)) * 256 + ((str M)[j]'hjs).toNat) := Lib.hid (unLe_drop M j hjl)
      have hcb := ((str M)[j]'hjs).toNat_lt
      have hji : (0 : Int) ≤ (j : Int) := by omega
      clear hun hdl hp h7
      generalize unLe (M.drop (j + 1)) = V0 at *
      go_wp2
      go_round
      case rel =>
        refine ⟨j, by omega, rfl, ?_⟩
        rw [HS.out]
        go_num
      case measure => simp [intOf]
    | zero =>
      have e0 : (((0 : Nat) : Int) - 1) = -1 := by decide
      rw [e0, List.drop_zero]
      have HMU : Hid (unLe M = unLe (bs.take n)) := Lib.hid (by rw [HM.out])
      generalize unLe M = V0 at *
      go_wp2
      go_ret
      refine ⟨ret_int' (a := (V0 : Int)) (by rw [HMU.out]), ?_, ?_⟩
      · rw [HW1.out]; exact HF.out.1
      · rw [HW1.out]; exact HF.out.2

end Go.Proofs.YtkgdpmeheakdcaaGreat

/- The reference's ValidShape, Size, PutShape at the laws' shape: walks. -/
namespace Go.Proofs.YtkgdpmeheakdcaaGreat
open Go.RowKit
set_option linter.all false
set_option maxRecDepth 100000

theorem rowQ_conv {v : Value} {bs : List UInt8} {w : World} (h : rowQ w v bs.length (byCells bs)) :
    (convert 95 9 v).run Tryz.prog w = .ok (.string (str bs)) w := by
  rcases h.2 with ⟨rfl, h0⟩ | ⟨g, cap, cur, fz, rfl, hg, _, h1, h2, h3, h4⟩
  · have := List.eq_nil_of_length_eq_zero h0
    subst this
    exact run_convert_bytes_nil w 95 5 Tryz.underlying95 Tryz.underlying5 0 0 9 Tryz.underlying9
  · refine back_conv (fun j hj => ?_)
    have h5 : (byCells bs)[j]? = some (byV bs[j]) := by simp [byCells, List.getElem?_eq_getElem hj]
    have h6 := h.cells (g := g) rfl j _ h5
    have hadd : (Addr.add ⟨g, 0, none⟩ j) = ⟨g, j, none⟩ := by
      by_cases hj0 : j = 0
      · subst hj0; rfl
      · simp [Addr.add, hj0]
    rw [hadd] at h6
    exact h6

/-- A writer at p, and another block q of the call's own that stays. -/
structure XSt (q p : Nat) (o : Obj) (w0 : World) (bs : List UInt8) (wx : World) : Prop where
  wr : ∃ v, XIn p v bs wx ∧ ∀ k, v.ownBlock = some k → q < k
  keep : wx.heap[q]? = some o
  bel : Below w0.heap.size w0 wx
  qp : w0.heap.size ≤ q ∧ q < p
theorem XSt.drew {q p : Nat} {o : Obj} {w0 wx : World} {bs : List UInt8} (h : XSt q p o w0 bs wx) : XSt q p o w0 bs wx.drew := by
  obtain ⟨v, h1, h2⟩ := h.wr
  exact ⟨⟨v, h1.grow (Grow.drew (F := fun _ => False) wx) (fun h => h) (fun _ _ h => h), h2⟩, h.keep, h.bel.drew, h.qp⟩
theorem XSt.num {q p : Nat} {o : Obj} {w0 wx : World} {bs : List UInt8} (h : XSt q p o w0 bs wx) (n : Nat) (hn1 : 1 ≤ n) (hn8 : n ≤ 8) (x : Nat) (hx : x < 256 ^ n) (hx64 : x < 18446744073709551616) (hs : bs.length + n ≤ 100000) :
    Calls Tryz.prog 82 #[.pointer (some ⟨p, 0, none⟩), .int .u64 x, .int .i64 n] wx fun e w' => e = .returned (.tuple #[]) ∧ XSt q p o w0 (bs ++ leN n x) w' := by
  obtain ⟨v, h1, h2⟩ := h.wr
  have hq := h.qp
  have hlt : q < wx.heap.size := (Array.getElem?_eq_some_iff.1 h.keep).1
  refine (xnum_any h1 n hn1 hn8 x hx hx64 hs).mono ?_
  rintro e w' ⟨rfl, v', g1, g2, g3⟩
  have hne : ∀ k, (k = p ∨ v.ownBlock = some k) → q < k := fun k hk => by
    rcases hk with rfl | hk
    · exact hq.2
    · exact h2 k hk
  refine ⟨rfl, ⟨v', g1, fun k hk => ?_⟩, ?_, h.bel.trans (g2.below h.bel.size (fun k hk => by have := hne k hk; omega)), hq⟩
  · rcases g3 k hk with g4 | g4
    · exact h2 k g4
    · omega
  · exact (g2.block q hlt (fun hf => by have := hne q hf; omega)).trans h.keep
/-- The bytes, as a string. -/
theorem XSt.val {q p : Nat} {o : Obj} {w0 wx : World} {bs : List UInt8} (h : XSt q p o w0 bs wx) : ∃ v, wx.cell? ⟨p, 0, none⟩ = some v ∧ (convert 95 9 v).run Tryz.prog wx = .ok (.string (str bs)) wx := by
  obtain ⟨v, h1, h2⟩ := h.wr
  exact ⟨v, by simp [World.cell?, h1.blk], rowQ_conv h1.own⟩

theorem rvalid0 (w : World) : Calls Tryz.prog 71 #[.agg #[.int .i64 2, .int .i64 10, .int .i64 8, .int .i64 4, .int .i64 32]] w fun e w' => e = .returned (.bool true) ∧ Below w.heap.size w w' := by
  go_enter Tryz.func71, Tryz.ntmps71
  go_wp2
  go_ret
  exact ⟨rfl, (Below.refl _ _).alloc (Nat.le_refl _) _⟩
theorem rsize0 (w : World) : Calls Tryz.prog 33 #[.agg #[.int .i64 2, .int .i64 10, .int .i64 8, .int .i64 4, .int .i64 32]] w fun e w' => e = .returned (.int .i64 37) ∧ Below w.heap.size w w' := by
  have HV := Lib.hid rvalid0
  go_enter Tryz.func33, Tryz.ntmps33
  go_wp2_with fail
  refine (HV.out _).mono ?_
  rintro e w1 ⟨rfl, hb⟩
  obtain ⟨hc, hf⟩ := bcell hb
  have HB := Lib.hid hb
  clear hb
  go_wp2
  go_ret
  exact ⟨rfl, ((Below.refl _ _).alloc (Nat.le_refl _) _).trans (HB.out.mono (by simp))⟩

def shObj : Obj := .cells #[.int .i64 2, .int .i64 10, .int .i64 8, .int .i64 4, .int .i64 32] 29 (0, 0)
theorem shObj_cells {w : World} {q : Nat} (h : w.heap[q]? = some shObj) : w.cell? ⟨q, 0, none⟩ = some (.int .i64 2) ∧ w.cell? ⟨q, 1, none⟩ = some (.int .i64 10) ∧ w.cell? ⟨q, 2, none⟩ = some (.int .i64 8) ∧ w.cell? ⟨q, 3, none⟩ = some (.int .i64 4) ∧ w.cell? ⟨q, 4, none⟩ = some (.int .i64 32) := five_cells (T := 29) h

set_option maxHeartbeats 2000000 in
theorem rputshape0 (w : World) : Calls Tryz.prog 37 #[.agg #[.int .i64 2, .int .i64 10, .int .i64 8, .int .i64 4, .int .i64 32]] w fun e w' => e = .returned (.tuple #[.string sb0, .int .i64 0]) ∧ Below w.heap.size w w' := by
  have HV := Lib.hid rvalid0
  have kc := fun (w : World) (C : Array Value) (n c : Nat) => Lib.run_convert_bytes_const (P := Tryz.prog) w 95 5 C n c Tryz.underlying95 Tryz.underlying5
  go_enter Tryz.func37, Tryz.ntmps37
  go_wp2_with fail
  refine (HV.out _).mono ?_
  rintro e w1 ⟨rfl, hb⟩
  have hq : w1.heap[w.heap.size]? = some shObj := (hb.block _ (by simp)).trans (heap_alloc_new w _)
  obtain ⟨c0, c1, c2, c3, c4⟩ := shObj_cells hq
  have hz : w.heap.size < w1.heap.size := (Array.getElem?_eq_some_iff.1 hq).1
  have HQ := Lib.hid hq
  have HB := Lib.hid (((Below.refl w.heap.size w).alloc (Nat.le_refl _) _).trans (hb.mono (by simp)))
  clear hb hq
  go_upto_region 4 with fail
  have hX : XSt w.heap.size (w1.heap.size + 1) shObj w magicL ((w1.alloc (.cells #[.int .u8 67, .int .u8 79, .int .u8 77, .int .u8 77, .int .u8 79, .int .u8 78, .int .u8 83, .int .u8 49] 5 (8, 9))).alloc (.cells #[.slice (some ⟨w1.heap.size, 0, none⟩) 8 8, .int .i64 0] 113)) := by
    have h1 : (w1.alloc (.cells #[.int .u8 67, .int .u8 79, .int .u8 77, .int .u8 77, .int .u8 79, .int .u8 78, .int .u8 83, .int .u8 49] 5 (8, 9))).heap.size = w1.heap.size + 1 := by simp
    have h2 := heap_alloc_new (w1.alloc (.cells #[.int .u8 67, .int .u8 79, .int .u8 77, .int .u8 77, .int .u8 79, .int .u8 78, .int .u8 83, .int .u8 49] 5 (8, 9))) (.cells #[.slice (some ⟨w1.heap.size, 0, none⟩) 8 8, .int .i64 0] 113)
    rw [h1] at h2
    have h3 : ((w1.alloc (.cells #[.int .u8 67, .int .u8 79, .int .u8 77, .int .u8 77, .int .u8 79, .int .u8 78, .int .u8 83, .int .u8 49] 5 (8, 9))).alloc (.cells #[.slice (some ⟨w1.heap.size, 0, none⟩) 8 8, .int .i64 0] 113)).heap[w1.heap.size]? = some (.cells #[.int .u8 67, .int .u8 79, .int .u8 77, .int .u8 77, .int .u8 79, .int .u8 78, .int .u8 83, .int .u8 49] 5 (8, 9)) := (heap_alloc_old _ _ (by omega)).trans (heap_alloc_new w1 _)
    refine ⟨⟨_, ⟨h2, ⟨rfl, .inr ⟨w1.heap.size, 8, _, _, rfl, h3, .inr (Nat.le_refl _), Nat.le_refl _, by decide, rfl, rfl⟩⟩, fun h => by simp [Value.ownBlock] at h, by decide⟩, fun k hk => by cases hk; exact hz⟩, ?_, ((HB.out.alloc HB.out.size _).alloc (by have := HB.out.size; omega) _), Nat.le_refl _, by omega⟩
    exact (heap_alloc_old _ _ (by omega)).trans ((heap_alloc_old w1 _ hz).trans HQ.out)
  obtain ⟨p, hp⟩ : ∃ p, p = w1.heap.size + 1 := ⟨_, rfl⟩
  rw [← hp] at hX
  rw [← hp]
  have X0 := Lib.hid hX
  clear hX HQ HB hz c0 c1 c2 c3 c4 kc hp
  generalize (w1.alloc (.cells #[.int .u8 67, .int .u8 79, .int .u8 77, .int .u8 77, .int .u8 79, .int .u8 78, .int .u8 83, .int .u8 49] 5 (8, 9))).alloc (.cells #[.slice (some ⟨w1.heap.size, 0, none⟩) 8 8, .int .i64 0] 113) = W0 at *
  obtain ⟨c0, c1, c2, c3, c4⟩ := shObj_cells X0.out.keep
  have N0 : Hid (Calls Tryz.prog 82 #[.pointer (some ⟨p, 0, none⟩), .int .u64 2, .int .i64 4] W0 fun e w' => e = .returned (.tuple #[]) ∧ XSt w.heap.size p shObj w (magicL ++ leN 4 2) w') := Lib.hid (X0.out.num 4 (by decide) (by decide) 2 (by decide) (by decide) (by decide))
  go_wp2_with fail
  refine N0.out.mono ?_
  rintro e W1 ⟨rfl, hx⟩
  have X1 := Lib.hid hx
  clear hx X0 N0 c0 c1 c2 c3 c4
  obtain ⟨c0, c1, c2, c3, c4⟩ := shObj_cells X1.out.keep
  have N1 : Hid (Calls Tryz.prog 82 #[.pointer (some ⟨p, 0, none⟩), .int .u64 10, .int .i64 4] W1 fun e w' => e = .returned (.tuple #[]) ∧ XSt w.heap.size p shObj w ((magicL ++ leN 4 2) ++ leN 4 10) w') := Lib.hid (X1.out.num 4 (by decide) (by decide) 10 (by decide) (by decide) (by decide))
  go_wp2_with fail
  refine N1.out.mono ?_
  rintro e W2 ⟨rfl, hx⟩
  have X2 := Lib.hid hx
  clear hx X1 N1 c0 c1 c2 c3 c4
  obtain ⟨c0, c1, c2, c3, c4⟩ := shObj_cells X2.out.keep
  have N2 : Hid (Calls Tryz.prog 82 #[.pointer (some ⟨p, 0, none⟩), .int .u64 8, .int .i64 4] W2 fun e w' => e = .returned (.tuple #[]) ∧ XSt w.heap.size p shObj w (((magicL ++ leN 4 2) ++ leN 4 10) ++ leN 4 8) w') := Lib.hid (X2.out.num 4 (by decide) (by decide) 8 (by decide) (by decide) (by decide))
  go_wp2_with fail
  refine N2.out.mono ?_
  rintro e W3 ⟨rfl, hx⟩
  have X3 := Lib.hid hx
  clear hx X2 N2 c0 c1 c2 c3 c4
  obtain ⟨c0, c1, c2, c3, c4⟩ := shObj_cells X3.out.keep
  have N3 : Hid (Calls Tryz.prog 82 #[.pointer (some ⟨p, 0, none⟩), .int .u64 4, .int .i64 4] W3 fun e w' => e = .returned (.tuple #[]) ∧ XSt w.heap.size p shObj w ((((magicL ++ leN 4 2) ++ leN 4 10) ++ leN 4 8) ++ leN 4 4) w') := Lib.hid (X3.out.num 4 (by decide) (by decide) 4 (by decide) (by decide) (by decide))
  go_wp2_with fail
  refine N3.out.mono ?_
  rintro e W4 ⟨rfl, hx⟩
  have X4 := Lib.hid hx
  clear hx X3 N3 c0 c1 c2 c3 c4
  obtain ⟨c0, c1, c2, c3, c4⟩ := shObj_cells X4.out.keep
  have N4 : Hid (Calls Tryz.prog 82 #[.pointer (some ⟨p, 0, none⟩), .int .u64 32, .int .i64 4] W4 fun e w' => e = .returned (.tuple #[]) ∧ XSt w.heap.size p shObj w (((((magicL ++ leN 4 2) ++ leN 4 10) ++ leN 4 8) ++ leN 4 4) ++ leN 4 32) w') := Lib.hid (X4.out.num 4 (by decide) (by decide) 32 (by decide) (by decide) (by decide))
  go_wp2_with fail
  refine N4.out.mono ?_
  rintro e W5 ⟨rfl, hx⟩
  have X5 := Lib.hid hx
  clear hx X4 N4 c0 c1 c2 c3 c4
  have hbody : (((((magicL ++ leN 4 2) ++ leN 4 10) ++ leN 4 8) ++ leN 4 4) ++ leN 4 32) = sh0.body := by decide
  rw [hbody] at X5
  obtain ⟨v, hv, hcv⟩ := X5.out.val
  have ST : Hid (Calls Tryz.prog 83 #[.string (str sh0.body), .int .i64 64] W5 fun e w' => e = .returned (.tuple #[.string sb0, .int .i64 0]) ∧ Below W5.heap.size W5 w') := Lib.hid (rstamp_any sh0.body (by rw [Sh.body_length]; decide) W5)
  clear hbody
  generalize sh0.body = BD at *
  go_wp2_with fail
  refine ST.out.mono ?_
  rintro e w9 ⟨rfl, hb⟩
  have HF := Lib.hid (X5.out.bel.trans (hb.mono X5.out.bel.size))
  clear hb
  go_wp2
  go_ret2
  exact ⟨rfl, HF.out⟩

end Go.Proofs.YtkgdpmeheakdcaaGreat
