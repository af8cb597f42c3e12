/- How each call of a disk answers where its way is open: plain laws. -/
import Derived.Test.YtkgdpmeheakdcaaGreatPlain
namespace Go.Proofs.YtkgdpmeheakdcaaGreat
open Go.RowKit
set_option linter.all false

theorem mayE_in (node : Int) (h0 : 0 ≤ node) (h1 : node ≤ 16) : mayE true node = 0 := by
  unfold mayE
  simp
  omega
theorem admE_same (e : Int) (h : e ≠ 0) : admE e e = 0 := by
  unfold admE
  simp [h]
theorem admE_other (t e : Int) (h : t ≠ e) : admE t e = 34 := by
  unfold admE
  by_cases h0 : e = 0
  · simp [h0]
  · simp [h0, h]
theorem goodB_size {data : ByteArray} (q : Nat) (h : data.size = 64 * q) (h1 : 1 ≤ q) (h2 : q ≤ 16) : goodB data = true := by
  unfold goodB
  simp
  omega
theorem thereB_in {s a n : Int} (h0 : 0 ≤ a) (h1 : a + n ≤ s) (hn : 0 ≤ n) : thereB s a n = true := by
  unfold thereB
  simp
  omega

/-- Write where all is well; a disk that is not armed, or armed with calls left. -/
theorem writeR_way {D : DS} {node epoch a : Int} {data : ByteArray} (q : Nat) (hon : D.on = true) (hg : goesB D = false) (h0 : 0 ≤ node) (h1 : node ≤ 16) (he : epoch ≠ 0) (ht : D.table.getD node.toNat 0 = epoch) (hs : data.size = 64 * q) (q1 : 1 ≤ q) (q2 : q ≤ 16)
    (ha : 0 ≤ a) (hb : a + q ≤ D.sectors) : writeR D node epoch a data = (0, wrN (goesD D) node a data q) := by
  have hq : data.size / 64 = q := by omega
  unfold writeR
  rw [hon, mayE_in node h0 h1, goodB_size q hs q1 q2, ht, admE_same epoch he, hq, thereB_in ha hb (by omega), hg]
  simp
theorem barrierR_way {D : DS} {node epoch : Int} (hon : D.on = true) (hg : goesB D = false) (h0 : 0 ≤ node) (h1 : node ≤ 16) (he : epoch ≠ 0) (ht : D.table.getD node.toNat 0 = epoch) :
    barrierR D node epoch = (0, settle (goesD D) node) := by
  unfold barrierR
  rw [hon, mayE_in node h0 h1, ht, admE_same epoch he, hg]
  simp

theorem keepW_at (L : Int → Option Wr) (x : Wr) (h : seqAt L x.pl < x.seq) (j : Int) : keepW L x j = if j = x.pl then some x else L j := by
  unfold keepW
  rw [if_pos h]

end Go.Proofs.YtkgdpmeheakdcaaGreat
