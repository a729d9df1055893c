/- A part of the proof: SortSmallStr, BreakPatStr, HeapSortStr, PartitionStr, PartInsStr, PdqStr, SortStrsStr, SortStrings, Same, RefSymbols, NextBoth, RefNext, IsOver, IsLong, DataIn. -/
import Derived.Test.YtfcmpclbhnjkgaaGreatMClose2AutoGoesOn3
import Derived.Test.YtfcmpclbhnjkgaaGreatMClose2AutoGoesOn5
import Derived.Test.YtfcmpclbhnjkgaaGreatMClose2AutoGoesOn7
import Derived.Test.YtfcmpclbhnjkgaaGreatMClose2AutoGoesOn6
import Derived.Test.YtfcmpclbhnjkgaaGreatRows
set_option linter.unusedVariables false
set_option linter.unusedSimpArgs false
/- Small parts of the sort: reverseRange, order2, median, choosePivot. -/
set_option maxHeartbeats 4000000
set_option maxRecDepth 20000
set_option linter.unusedSimpArgs false
set_option linter.unusedVariables false
set_option pp.deepTerms.threshold 8
namespace Go.Proofs.YtfcmpclbhnjkgaaGreat
open Go Go.Proofs Go.Proofs.Sh
section
variable {H : AH} {g k n cap a b : Nat} {l : List ByteArray}
theorem reverseRangeStr (hv : VecStr H g k n l) (hw : Wf H) (hl : l.length ≤ 1048576) (hab : a < b) (hb : b ≤ l.length) :
    Sh.Call Tryz.prog (knows 10) 145 [.slice (some ⟨g, 0, some k⟩) l.length cap, .int .i64 (a : Int), .int .i64 (b : Int)] H
      (fun r H' => ∃ l', Mix a b l l' ∧ VecStr H' g k n l' ∧ Chg (fun y => y = g) H H') := by
  refine call_of rfl Tryz.func145 rfl (Nat.le_of_ble_eq_true rfl) ?_
  have hres : Tryz.f145.results.toList = [] := rfl
  have w1 : IntKind.wrap .i64 ((b : Int) - 1) = ((b - 1 : Nat) : Int) := by rw [wrap64 (by omega) (by omega)]; omega
  simp only [↓Sh.dn, sx, Nat.reduceBEq, reduceCtorEq, Nat.reduceEqDiff, w1]
  refine wp_while (fun m F H' => ∃ (i j : Nat) (l1 : List ByteArray), m = b - i ∧ a ≤ i ∧ i + j + 1 = a + b ∧ i ≤ b ∧ Mix a b l l1 ∧ VecStr H' g k n l1 ∧ Chg (fun y => y = g) H H' ∧
      F.get 0 = some (.slice (some ⟨g, 0, some k⟩) l.length cap) ∧ F.get 6 = some (.int .i64 (i : Int)) ∧ F.get 7 = some (.int .i64 (j : Int))) (m := b - a)
    ⟨a, b - 1, l, rfl, by omega, by omega, by omega, .refl l, hv, Chg.refl hw, by simp only [↓Sh.dn, sx, Nat.reduceBEq, reduceCtorEq, Nat.reduceEqDiff], by simp only [↓Sh.dn, sx, Nat.reduceBEq, reduceCtorEq, Nat.reduceEqDiff], by simp only [↓Sh.dn, sx, Nat.reduceBEq, reduceCtorEq, Nat.reduceEqDiff]⟩ ?_
  rintro m F H' ⟨i, j, l1, rfl, hai, hij, hib, hm, hv1, hc1, f0, f6, f7⟩ kk
  have hlen := hm.length
  by_cases hlt : i < j
  · have hi : i < l1.length := by omega
    have hj : j < l1.length := by omega
    have wi : IntKind.wrap .i64 ((i : Int) + 1) = ((i + 1 : Nat) : Int) := by rw [wrap64 (by omega) (by omega)]; rfl
    have wj : IntKind.wrap .i64 ((j : Int) - 1) = ((j - 1 : Nat) : Int) := by rw [wrap64 (by omega) (by omega)]; omega
    have i1 := vIdxStr (g := g) (k := k) (cap := cap) (m := l.length) (i := i) (j := .i64) (by omega)
    have i2 := vIdxStr (g := g) (k := k) (cap := cap) (m := l.length) (i := j) (j := .i64) (by omega)
    have r1 := vGetStr hv1 hi
    have r2 := vGetStr hv1 hj
    obtain ⟨K1, K2, e1, e2, e3, e4, e5⟩ := vSwapStr hv1 hc1.wf hi hj
    simp only [↓Sh.dn, sx, Nat.reduceBEq, reduceCtorEq, Nat.reduceEqDiff, f6, f7, nat_lt, hlt, decide_true]
    refine (wp_free (by kernel_rfl)).2 ?_
    simp only [↓Sh.dn, sx, Nat.reduceBEq, reduceCtorEq, Nat.reduceEqDiff, f0, f6, f7, i1, i2, r1, r2, vStoStr, e1, e2, wi, wj]
    exact kk (b - (i + 1)) _ _ (by omega) ⟨i + 1, j - 1, swp l1 i j, rfl, by omega, by omega, by omega, hm.swap (by omega) (by omega) (by omega) (by omega), e3, hc1.trans e4, by simp only [↓Sh.dn, sx, Nat.reduceBEq, reduceCtorEq, Nat.reduceEqDiff, f0], by simp only [↓Sh.dn, sx, Nat.reduceBEq, reduceCtorEq, Nat.reduceEqDiff], by simp only [↓Sh.dn, sx, Nat.reduceBEq, reduceCtorEq, Nat.reduceEqDiff]⟩
  · simp only [↓Sh.dn, sx, Nat.reduceBEq, reduceCtorEq, Nat.reduceEqDiff, f6, f7, nat_lt, hlt, decide_false, hres]
    exact ⟨l1, hm, hv1, hc1⟩
/-- A cell that holds a count of swaps. -/
def CntStr (H : AH) (p : Nat) (c : Int) : Prop := Arr H p 0 1 [.int .i64 c]
theorem order2Str {i j p : Nat} {c : Int} (hv : VecStr H g k n l) (hp : CntStr H p c) (hpg : p ≠ g) (hw : Wf H) (hi : i < l.length) (hj : j < l.length) :
    Sh.Call Tryz.prog (knows 10) 169 [.slice (some ⟨g, 0, some k⟩) l.length cap, .int .i64 (i : Int), .int .i64 (j : Int), .pointer (some ⟨p, 0, some 0⟩)] H
      (fun r H' => ∃ i' j' : Nat, r = .tuple #[.int .i64 (i' : Int), .int .i64 (j' : Int)] ∧ (i' = i ∧ j' = j ∨ i' = j ∧ j' = i) ∧ VecStr H' g k n l ∧ ∃ c', CntStr H' p c' ∧ Chg (fun y => y = p) H H') := by
  refine call_of rfl Tryz.func169 rfl (Nat.le_of_ble_eq_true rfl) ?_
  have hres : Tryz.f169.results.toList = [.tmp 8, .tmp 9] := rfl
  have i1 := vIdxStr (g := g) (k := k) (cap := cap) (m := l.length) (i := i) (j := .i64) hi
  have i2 := vIdxStr (g := g) (k := k) (cap := cap) (m := l.length) (i := j) (j := .i64) hj
  have r1 := vGetStr hv hi
  have r2 := vGetStr hv hj
  have r3 : H.cell ⟨p, 0, some 0⟩ = some (.int .i64 c) := hp.cell 0
  simp only [↓Sh.dn, sx, Nat.reduceBEq, reduceCtorEq, Nat.reduceEqDiff]
  refine (wp_free (by kernel_rfl)).2 ?_
  simp only [↓Sh.dn, sx, Nat.reduceBEq, reduceCtorEq, Nat.reduceEqDiff, i1, i2, r1, r2]
  refine ⟨_, _, cmpLessDoesStr, ?_⟩
  cases hc : strLt l[j] l[i] with
  | true =>
    obtain ⟨K1, e1, e2, e3, e4⟩ := hp.write hw (i := 0) (vs := [.int .i64 (IntKind.wrap .i64 (c + 1))]) (by simp)
    have st : astore Tryz.prog 3 H (.int .i64 (IntKind.wrap .i64 (c + 1))) (.pointer (some ⟨p, 0, some 0⟩)) = H.write ⟨p, 0, some 0⟩ [.int .i64 (IntKind.wrap .i64 (c + 1))] := store_cell size_3 rfl
    simp only [↓Sh.dn, sx, Nat.reduceBEq, reduceCtorEq, Nat.reduceEqDiff, r3, st, e1, hres]
    exact ⟨j, i, rfl, .inr ⟨rfl, rfl⟩, hv.chg hw e4 (fun h => hpg h.symm), _, e2, e4⟩
  | false =>
    simp only [↓Sh.dn, sx, Nat.reduceBEq, reduceCtorEq, Nat.reduceEqDiff, hres]
    exact ⟨i, j, rfl, .inl ⟨rfl, rfl⟩, hv, c, hp, Chg.refl hw⟩
theorem medianStr {i j m p : Nat} {c : Int} (hv : VecStr H g k n l) (hp : CntStr H p c) (hpg : p ≠ g) (hw : Wf H) (hi : i < l.length) (hj : j < l.length) (hm : m < l.length) :
    Sh.Call Tryz.prog (knows 10) 164 [.slice (some ⟨g, 0, some k⟩) l.length cap, .int .i64 (i : Int), .int .i64 (j : Int), .int .i64 (m : Int), .pointer (some ⟨p, 0, some 0⟩)] H
      (fun r H' => ∃ q : Nat, r = .int .i64 (q : Int) ∧ (q = i ∨ q = j ∨ q = m) ∧ VecStr H' g k n l ∧ ∃ c', CntStr H' p c' ∧ Chg (fun y => y = p) H H') := by
  refine call_of rfl Tryz.func164 rfl (Nat.le_of_ble_eq_true rfl) ?_
  have hres : Tryz.f164.results.toList = [.tmp 10] := rfl
  obtain ⟨r, H1, hd1, i1, j1, rfl, h1, hv1, c1, hp1, hc1⟩ := order2Str (cap := cap) hv hp hpg hw hi hj
  have hi1 : i1 < l.length := by omega
  have hj1 : j1 < l.length := by omega
  obtain ⟨r, H2, hd2, j2, m2, rfl, h2, hv2, c2, hp2, hc2⟩ := order2Str (cap := cap) hv1 hp1 hpg hc1.wf hj1 hm
  have hj2 : j2 < l.length := by omega
  obtain ⟨r, H3, hd3, i3, j3, rfl, h3, hv3, c3, hp3, hc3⟩ := order2Str (cap := cap) hv2 hp2 hpg hc2.wf hi1 hj2
  simp only [↓Sh.dn, sx, Nat.reduceBEq, reduceCtorEq, Nat.reduceEqDiff]
  refine ⟨_, _, hd1, ?_⟩
  simp only [↓Sh.dn, sx, Nat.reduceBEq, reduceCtorEq, Nat.reduceEqDiff]
  refine ⟨_, _, hd2, ?_⟩
  simp only [↓Sh.dn, sx, Nat.reduceBEq, reduceCtorEq, Nat.reduceEqDiff]
  refine ⟨_, _, hd3, ?_⟩
  simp only [↓Sh.dn, sx, Nat.reduceBEq, reduceCtorEq, Nat.reduceEqDiff, hres]
  exact ⟨j3, rfl, by omega, hv3, c3, hp3, (hc1.trans hc2).trans hc3⟩
theorem medianAdjacentStr {i p : Nat} {c : Int} (hv : VecStr H g k n l) (hp : CntStr H p c) (hpg : p ≠ g) (hw : Wf H) (hl : l.length ≤ 1048576) (h0 : 1 ≤ i) (hi : i + 1 < l.length) :
    Sh.Call Tryz.prog (knows 10) 163 [.slice (some ⟨g, 0, some k⟩) l.length cap, .int .i64 (i : Int), .pointer (some ⟨p, 0, some 0⟩)] H
      (fun r H' => ∃ q : Nat, r = .int .i64 (q : Int) ∧ (i ≤ q + 1 ∧ q ≤ i + 1) ∧ VecStr H' g k n l ∧ ∃ c', CntStr H' p c' ∧ Chg (fun y => y = p) H H') := by
  refine call_of rfl Tryz.func163 rfl (Nat.le_of_ble_eq_true rfl) ?_
  have hres : Tryz.f163.results.toList = [.tmp 6] := rfl
  have w1 : IntKind.wrap .i64 ((i : Int) - 1) = ((i - 1 : Nat) : Int) := by rw [wrap64 (by omega) (by omega)]; omega
  have w2 : IntKind.wrap .i64 ((i : Int) + 1) = ((i + 1 : Nat) : Int) := by rw [wrap64 (by omega) (by omega)]; rfl
  obtain ⟨r, H1, hd1, q, rfl, h1, hv1, c1, hp1, hc1⟩ := medianStr (cap := cap) (i := i - 1) (j := i) (m := i + 1) hv hp hpg hw (by omega) (by omega) hi
  simp only [↓Sh.dn, sx, Nat.reduceBEq, reduceCtorEq, Nat.reduceEqDiff, w1, w2]
  refine ⟨_, _, hd1, ?_⟩
  simp only [↓Sh.dn, sx, Nat.reduceBEq, reduceCtorEq, Nat.reduceEqDiff, hres]
  exact ⟨q, rfl, by omega, by omega, hv1, c1, hp1, hc1⟩
theorem choosePivotStr (hv : VecStr H g k n l) (hw : Wf H) (hl : l.length ≤ 1048576) (hab : a + 12 < b) (hb : b ≤ l.length) :
    Sh.Call Tryz.prog (knows 10) 144 [.slice (some ⟨g, 0, some k⟩) l.length cap, .int .i64 (a : Int), .int .i64 (b : Int)] H
      (fun r H' => ∃ q : Nat, ∃ h : Int, r = .tuple #[.int .i64 (q : Int), .int .i64 h] ∧ a ≤ q ∧ q < b ∧ VecStr H' g k n l ∧ Kept H H') := by
  refine call_of rfl Tryz.func144 rfl (Nat.le_of_ble_eq_true rfl) ?_
  have hres : Tryz.f144.results.toList = [.tmp 6, .tmp 7] := rfl
  have al : anew Tryz.prog 3 H (.int .i64 0) = some (.pointer (some ⟨H.next, 0, some 0⟩), (H.new 1 [.int .i64 0]).2) := new_cell size_3 rfl
  have w0 : IntKind.wrap .i64 ((b : Int) - (a : Int)) = ((b - a : Nat) : Int) := by rw [wrap64 (by omega) (by omega)]; omega
  have hq4 : (Int.tdiv ((b - a : Nat) : Int) 4) = (((b - a) / 4 : Nat) : Int) := by rw [Int.tdiv_eq_ediv_of_nonneg (by omega)]; rfl
  have b_quo : ∀ {t : TypeId} {c : Bool} {x y : Int}, y ≠ 0 → abin Tryz.prog t c .quo (.int .i64 x) (.int .i64 y) = some (.int .i64 (IntKind.wrap .i64 (x.tdiv y))) := by
    intro t c x y h
    simp only [abin, kindEq_self, cond_true, aint, intEq_eq, show (y == 0) = false from by simpa using h, cond_false]
  have wq : IntKind.wrap .i64 (((b - a) / 4 : Nat) : Int) = (((b - a) / 4 : Nat) : Int) := wrap64 (by omega) (by omega)
  have m1 : IntKind.wrap .i64 ((((b - a) / 4 : Nat) : Int) * 1) = (((b - a) / 4 * 1 : Nat) : Int) := by rw [wrap64 (by omega) (by omega)]; omega
  have m2 : IntKind.wrap .i64 ((((b - a) / 4 : Nat) : Int) * 2) = (((b - a) / 4 * 2 : Nat) : Int) := by rw [wrap64 (by omega) (by omega)]; omega
  have m3 : IntKind.wrap .i64 ((((b - a) / 4 : Nat) : Int) * 3) = (((b - a) / 4 * 3 : Nat) : Int) := by rw [wrap64 (by omega) (by omega)]; omega
  have p1 : IntKind.wrap .i64 ((a : Int) + (((b - a) / 4 * 1 : Nat) : Int)) = ((a + (b - a) / 4 * 1 : Nat) : Int) := by rw [wrap64 (by omega) (by omega)]; rfl
  have p2 : IntKind.wrap .i64 ((a : Int) + (((b - a) / 4 * 2 : Nat) : Int)) = ((a + (b - a) / 4 * 2 : Nat) : Int) := by rw [wrap64 (by omega) (by omega)]; rfl
  have p3 : IntKind.wrap .i64 ((a : Int) + (((b - a) / 4 * 3 : Nat) : Int)) = ((a + (b - a) / 4 * 3 : Nat) : Int) := by rw [wrap64 (by omega) (by omega)]; rfl
  have d8 : decide ((8 : Int) ≤ ((b - a : Nat) : Int)) = true := by simp; omega
  have hk1 : Kept H (H.new 1 [.int .i64 0]).2 := Kept.new hw 1 _
  have hv0 : VecStr (H.new 1 [.int .i64 0]).2 g k n l := hv.kept hw hk1
  have hp0 : CntStr (H.new 1 [.int .i64 0]).2 H.next 0 := (Obj.new (H := H) 1 [.int .i64 0]).arr
  have hpg : H.next ≠ g := by have := hv.lt hw; omega
  simp only [↓Sh.dn, sx, Nat.reduceBEq, reduceCtorEq, Nat.reduceEqDiff, al, w0, b_quo (show (4 : Int) ≠ 0 by decide), hq4, wq, m1, m2, m3, p1, p2, p3, d8]
  generalize (H.new 1 [.int .i64 0]).2 = H1 at hk1 hv0 hp0 ⊢
  by_cases h50 : 50 ≤ b - a
  · have d50 : decide ((50 : Int) ≤ ((b - a : Nat) : Int)) = true := by simp; omega
    obtain ⟨r, H2, hd2, q1, rfl, h1, hv1, c1, hp1, hc1⟩ := medianAdjacentStr (cap := cap) (i := a + (b - a) / 4 * 1) hv0 hp0 hpg hk1.wf hl (by omega) (by omega)
    obtain ⟨r, H3, hd3, q2, rfl, h2, hv2, c2, hp2, hc2⟩ := medianAdjacentStr (cap := cap) (i := a + (b - a) / 4 * 2) hv1 hp1 hpg hc1.wf hl (by omega) (by omega)
    obtain ⟨r, H4, hd4, q3, rfl, h3, hv3, c3, hp3, hc3⟩ := medianAdjacentStr (cap := cap) (i := a + (b - a) / 4 * 3) hv2 hp2 hpg hc2.wf hl (by omega) (by omega)
    obtain ⟨r, H5, hd5, q4, rfl, h4, hv4, c4, hp4, hc4⟩ := medianStr (cap := cap) (i := q1) (j := q2) (m := q3) hv3 hp3 hpg hc3.wf (by omega) (by omega) (by omega)
    have r9 : H5.cell ⟨H.next, 0, some 0⟩ = some (.int .i64 c4) := hp4.cell 0
    have hkk : Kept H H5 := (((hk1.chg.trans hc1).trans hc2).trans hc3 |>.trans hc4).kept fun x hx => by omega
    simp only [↓Sh.dn, sx, Nat.reduceBEq, reduceCtorEq, Nat.reduceEqDiff, d50]
    refine ⟨_, _, hd2, ?_⟩
    try simp only [↓Sh.dn, sx, Nat.reduceBEq, reduceCtorEq, Nat.reduceEqDiff]
    refine ⟨_, _, hd3, ?_⟩
    try simp only [↓Sh.dn, sx, Nat.reduceBEq, reduceCtorEq, Nat.reduceEqDiff]
    refine ⟨_, _, hd4, ?_⟩
    try simp only [↓Sh.dn, sx, Nat.reduceBEq, reduceCtorEq, Nat.reduceEqDiff]
    refine ⟨_, _, hd5, ?_⟩
    simp only [↓Sh.dn, sx, Nat.reduceBEq, reduceCtorEq, Nat.reduceEqDiff, r9]
    by_cases z0 : c4 = 0
    · simp only [↓Sh.dn, sx, Nat.reduceBEq, reduceCtorEq, Nat.reduceEqDiff, z0, decide_true, hres]
      exact ⟨q4, 1, rfl, by omega, by omega, hv4, hkk⟩
    · simp only [↓Sh.dn, sx, Nat.reduceBEq, reduceCtorEq, Nat.reduceEqDiff, z0, decide_false]
      by_cases z1 : c4 = 12
      · simp only [↓Sh.dn, sx, Nat.reduceBEq, reduceCtorEq, Nat.reduceEqDiff, z1, decide_true, hres]
        exact ⟨q4, 2, rfl, by omega, by omega, hv4, hkk⟩
      · simp only [↓Sh.dn, sx, Nat.reduceBEq, reduceCtorEq, Nat.reduceEqDiff, z1, decide_false, hres]
        exact ⟨q4, 0, rfl, by omega, by omega, hv4, hkk⟩
  · have d50 : decide ((50 : Int) ≤ ((b - a : Nat) : Int)) = false := by simp; omega
    obtain ⟨r, H5, hd5, q4, rfl, h4, hv4, c4, hp4, hc4⟩ := medianStr (cap := cap) (i := a + (b - a) / 4 * 1) (j := a + (b - a) / 4 * 2) (m := a + (b - a) / 4 * 3) hv0 hp0 hpg hk1.wf (by omega) (by omega) (by omega)
    have r9 : H5.cell ⟨H.next, 0, some 0⟩ = some (.int .i64 c4) := hp4.cell 0
    have hkk : Kept H H5 := (hk1.chg.trans hc4).kept fun x hx => by omega
    simp only [↓Sh.dn, sx, Nat.reduceBEq, reduceCtorEq, Nat.reduceEqDiff, d50]
    refine ⟨_, _, hd5, ?_⟩
    simp only [↓Sh.dn, sx, Nat.reduceBEq, reduceCtorEq, Nat.reduceEqDiff, r9]
    by_cases z0 : c4 = 0
    · simp only [↓Sh.dn, sx, Nat.reduceBEq, reduceCtorEq, Nat.reduceEqDiff, z0, decide_true, hres]
      exact ⟨q4, 1, rfl, by omega, by omega, hv4, hkk⟩
    · simp only [↓Sh.dn, sx, Nat.reduceBEq, reduceCtorEq, Nat.reduceEqDiff, z0, decide_false]
      by_cases z1 : c4 = 12
      · simp only [↓Sh.dn, sx, Nat.reduceBEq, reduceCtorEq, Nat.reduceEqDiff, z1, decide_true, hres]
        exact ⟨q4, 2, rfl, by omega, by omega, hv4, hkk⟩
      · simp only [↓Sh.dn, sx, Nat.reduceBEq, reduceCtorEq, Nat.reduceEqDiff, z1, decide_false, hres]
        exact ⟨q4, 0, rfl, by omega, by omega, hv4, hkk⟩
end
end Go.Proofs.YtfcmpclbhnjkgaaGreat
/- breakPatternsOrdered. -/
set_option maxHeartbeats 4000000
set_option maxRecDepth 20000
set_option linter.unusedSimpArgs false
set_option linter.unusedVariables false
set_option pp.deepTerms.threshold 8
namespace Go.Proofs.YtfcmpclbhnjkgaaGreat
open Go Go.Proofs Go.Proofs.Sh
section
variable {H : AH} {g k n cap a b : Nat} {l : List ByteArray}
theorem xorNextStr {p : Nat} {z : Int} (hp : Arr H p 0 1 [.int .u64 z]) (hw : Wf H) :
    Sh.Call Tryz.prog (knows 10) 162 [.pointer (some ⟨p, 0, some 0⟩)] H (fun r H' => ∃ z', r = .int .u64 z' ∧ Arr H' p 0 1 [.int .u64 z'] ∧ Chg (fun y => y = p) H H') := by
  refine call_of rfl Tryz.func162 rfl (Nat.le_of_ble_eq_true rfl) ?_
  have hres : Tryz.f162.results.toList = [.tmp 2] := rfl
  have st : ∀ (H : AH) (z : Int), astore Tryz.prog 180 H (.int .u64 z) (.pointer (some ⟨p, 0, some 0⟩)) = H.write ⟨p, 0, some 0⟩ [.int .u64 z] := fun H z => store_cell size_180 rfl
  obtain ⟨s1, h1⟩ : ∃ s, ashift true .u64 z 13 = some (.int .u64 s) := ash_some (b := 13)
  have r0 : H.cell ⟨p, 0, some 0⟩ = some (.int .u64 z) := hp.cell 0
  obtain ⟨K1, e1, a1, n1, c1⟩ := hp.write hw (i := 0) (vs := [.int .u64 (IntKind.wrap .u64 ((BitVec.ofInt IntKind.u64.bits z) ^^^ (BitVec.ofInt IntKind.u64.bits s1)).toNat)]) (by simp)
  simp only [↓Sh.dn, sx, Nat.reduceBEq, reduceCtorEq, Nat.reduceEqDiff]
  refine (wp_free (by kernel_rfl)).2 ?_
  simp only [↓Sh.dn, sx, Nat.reduceBEq, reduceCtorEq, Nat.reduceEqDiff, r0, b_shl, h1, b_xor, st, e1]
  generalize IntKind.wrap .u64 ((BitVec.ofInt IntKind.u64.bits z) ^^^ (BitVec.ofInt IntKind.u64.bits s1)).toNat = z1 at a1 e1 ⊢
  obtain ⟨s2, h2⟩ : ∃ s, ashift false .u64 z1 7 = some (.int .u64 s) := ash_some (b := 7)
  have r1 : K1.cell ⟨p, 0, some 0⟩ = some (.int .u64 z1) := a1.cell 0
  obtain ⟨K2, e2, a2, n2, c2⟩ := a1.write c1.wf (i := 0) (vs := [.int .u64 (IntKind.wrap .u64 ((BitVec.ofInt IntKind.u64.bits z1) ^^^ (BitVec.ofInt IntKind.u64.bits s2)).toNat)]) (by simp [setCells])
  refine (wp_free (by kernel_rfl)).2 ?_
  simp only [↓Sh.dn, sx, Nat.reduceBEq, reduceCtorEq, Nat.reduceEqDiff, r1, b_shr, h2, b_xor, st, e2]
  generalize IntKind.wrap .u64 ((BitVec.ofInt IntKind.u64.bits z1) ^^^ (BitVec.ofInt IntKind.u64.bits s2)).toNat = z2 at a2 e2 ⊢
  obtain ⟨s3, h3⟩ : ∃ s, ashift true .u64 z2 17 = some (.int .u64 s) := ash_some (b := 17)
  have r2 : K2.cell ⟨p, 0, some 0⟩ = some (.int .u64 z2) := a2.cell 0
  obtain ⟨K3, e3, a3, n3, c3⟩ := a2.write c2.wf (i := 0) (vs := [.int .u64 (IntKind.wrap .u64 ((BitVec.ofInt IntKind.u64.bits z2) ^^^ (BitVec.ofInt IntKind.u64.bits s3)).toNat)]) (by simp [setCells])
  refine (wp_free (by kernel_rfl)).2 ?_
  simp only [↓Sh.dn, sx, Nat.reduceBEq, reduceCtorEq, Nat.reduceEqDiff, r2, b_shl, h3, b_xor, st, e3]
  generalize IntKind.wrap .u64 ((BitVec.ofInt IntKind.u64.bits z2) ^^^ (BitVec.ofInt IntKind.u64.bits s3)).toNat = z3 at a3 e3 ⊢
  have r3 : K3.cell ⟨p, 0, some 0⟩ = some (.int .u64 z3) := a3.cell 0
  simp only [↓Sh.dn, sx, Nat.reduceBEq, reduceCtorEq, Nat.reduceEqDiff, r3, hres]
  exact ⟨z3, rfl, a3, (c1.trans c2).trans c3⟩
theorem breakPatternsStr (hv : VecStr H g k n l) (hw : Wf H) (hl : l.length ≤ 1048576) (hab : a + 12 < b) (hb : b ≤ l.length) :
    Sh.Call Tryz.prog (knows 10) 143 [.slice (some ⟨g, 0, some k⟩) l.length cap, .int .i64 (a : Int), .int .i64 (b : Int)] H
      (fun r H' => ∃ l', Mix a b l l' ∧ VecStr H' g k n l' ∧ Chg (fun y => y = g) H H') := by
  refine call_of rfl Tryz.func143 rfl (Nat.le_of_ble_eq_true rfl) ?_
  have hres : Tryz.f143.results.toList = [] := rfl
  have w0 : IntKind.wrap .i64 ((b : Int) - (a : Int)) = ((b - a : Nat) : Int) := by rw [wrap64 (by omega) (by omega)]; omega
  have d8 : decide ((8 : Int) ≤ ((b - a : Nat) : Int)) = true := by simp; omega
  have wu : IntKind.wrap .u64 ((b - a : Nat) : Int) = ((b - a : Nat) : Int) := wrapU64 (by omega) (by omega)
  have al : anew Tryz.prog 180 H (.int .u64 0) = some (.pointer (some ⟨H.next, 0, some 0⟩), (H.new 1 [.int .u64 0]).2) := new_cell size_180 rfl
  have st : ∀ (H : AH) (p : Addr) (z : Int), astore Tryz.prog 180 H (.int .u64 z) (.pointer (some p)) = H.write p [.int .u64 z] := fun H p z => store_cell size_180 rfl
  have ov : (H.new 1 [.int .u64 0]).2.write ⟨H.next, 0, some 0⟩ [.int .u64 ((b - a : Nat) : Int)] = some (H.new 1 [.int .u64 ((b - a : Nat) : Int)]).2 := write_new rfl
  have hq4 : (Int.tdiv ((b - a : Nat) : Int) 4) = (((b - a) / 4 : Nat) : Int) := by rw [Int.tdiv_eq_ediv_of_nonneg (by omega)]; rfl
  have wq : IntKind.wrap .i64 (((b - a) / 4 : Nat) : Int) = (((b - a) / 4 : Nat) : Int) := wrap64 (by omega) (by omega)
  have m2 : IntKind.wrap .i64 ((((b - a) / 4 : Nat) : Int) * 2) = (((b - a) / 4 * 2 : Nat) : Int) := by rw [wrap64 (by omega) (by omega)]; omega
  have p2 : IntKind.wrap .i64 ((a : Int) + (((b - a) / 4 * 2 : Nat) : Int)) = ((a + (b - a) / 4 * 2 : Nat) : Int) := by rw [wrap64 (by omega) (by omega)]; rfl
  have q1 : IntKind.wrap .i64 (((a + (b - a) / 4 * 2 : Nat) : Int) - 1) = ((a + (b - a) / 4 * 2 - 1 : Nat) : Int) := by rw [wrap64 (by omega) (by omega)]; omega
  have q2 : IntKind.wrap .i64 (((a + (b - a) / 4 * 2 : Nat) : Int) + 1) = ((a + (b - a) / 4 * 2 + 1 : Nat) : Int) := by rw [wrap64 (by omega) (by omega)]; rfl
  have hk1 : Kept H (H.new 1 [.int .u64 ((b - a : Nat) : Int)]).2 := Kept.new hw 1 _
  have hp0 : Arr (H.new 1 [.int .u64 ((b - a : Nat) : Int)]).2 H.next 0 1 [.int .u64 ((b - a : Nat) : Int)] := (Obj.new (H := H) 1 _).arr
  have hv0 := hv.kept hw hk1
  have hpg : H.next ≠ g := by have := hv.lt hw; omega
  simp only [↓Sh.dn, sx, Nat.reduceBEq, reduceCtorEq, Nat.reduceEqDiff, w0, d8, wu, al, st, ov]
  generalize (H.new 1 [.int .u64 ((b - a : Nat) : Int)]).2 = H1 at hk1 hv0 hp0 ⊢
  obtain ⟨r, H2, hd, rfl, c, rfl, hc1, hc2, hc3⟩ := nextPow (H := H1) (x := b - a) (by omega)
  refine ⟨_, _, hd, ?_⟩
  simp only [↓Sh.dn, sx, Nat.reduceBEq, reduceCtorEq, Nat.reduceEqDiff, w0, b_quo (show (4 : Int) ≠ 0 by decide), hq4, wq, m2, p2, q1]
  have hc2' := hc2 (by omega)
  have hpos : 0 < 2 ^ c := Nat.two_pow_pos c
  have wc : IntKind.wrap .u64 (((2 ^ c : Nat) : Int) - 1) = ((2 ^ c - 1 : Nat) : Int) := by
    rw [wrapU64 (by omega) (by omega)]; omega
  generalize hM : 2 ^ c = M at *
  refine wp_while (fun m F H' => ∃ (i : Nat) (z : Int) (l1 : List ByteArray), m = a + (b - a) / 4 * 2 + 2 - i ∧ a + (b - a) / 4 * 2 - 1 ≤ i ∧ Mix a b l l1 ∧ VecStr H' g k n l1 ∧ Arr H' H.next 0 1 [.int .u64 z] ∧ Chg (fun y => y = g ∨ y = H.next) H2 H' ∧
      F.get 0 = some (.slice (some ⟨g, 0, some k⟩) l.length cap) ∧ F.get 1 = some (.int .i64 (a : Int)) ∧ F.get 6 = some (.int .i64 ((b - a : Nat) : Int)) ∧ F.get 7 = some (.pointer (some ⟨H.next, 0, some 0⟩)) ∧ F.get 8 = some (.int .u64 (M : Int)) ∧ F.get 9 = some (.int .i64 (i : Int))) (m := a + (b - a) / 4 * 2 + 2 - (a + (b - a) / 4 * 2 - 1))
    ⟨a + (b - a) / 4 * 2 - 1, _, l, rfl, by omega, .refl l, hv0, hp0, Chg.refl hk1.wf, by simp only [↓Sh.dn, sx, Nat.reduceBEq, reduceCtorEq, Nat.reduceEqDiff], by simp only [↓Sh.dn, sx, Nat.reduceBEq, reduceCtorEq, Nat.reduceEqDiff], by simp only [↓Sh.dn, sx, Nat.reduceBEq, reduceCtorEq, Nat.reduceEqDiff], by simp only [↓Sh.dn, sx, Nat.reduceBEq, reduceCtorEq, Nat.reduceEqDiff], by simp only [↓Sh.dn, sx, Nat.reduceBEq, reduceCtorEq, Nat.reduceEqDiff], by simp only [↓Sh.dn, sx, Nat.reduceBEq, reduceCtorEq, Nat.reduceEqDiff]⟩ ?_
  rintro m F H' ⟨i, z, l1, rfl, hai, hm, hv1, hp1, hch, f0, f1, f6, f7, f8, f9⟩ kk
  have hlen := hm.length
  by_cases hlt : i ≤ a + (b - a) / 4 * 2 + 1
  · have dl : decide ((i : Int) ≤ ((a + (b - a) / 4 * 2 + 1 : Nat) : Int)) = true := by simp; omega
    obtain ⟨r, H3, hd3, z', rfl, hp2, hc3'⟩ := xorNextStr hp1 hch.wf
    have hv2 := hv1.chg hch.wf hc3' (fun h => hpg h.symm)
    obtain ⟨o, ho1, ho2⟩ := and_le z' (m := M - 1) (by omega)
    have wo : IntKind.wrap .i64 (o : Int) = (o : Int) := wrap64 (by omega) (by omega)
    simp only [↓Sh.dn, sx, Nat.reduceBEq, reduceCtorEq, Nat.reduceEqDiff, f1, f6, f9, b_quo (show (4 : Int) ≠ 0 by decide), hq4, wq, m2, p2, q2, dl, f7]
    refine ⟨_, _, hd3, ?_⟩
    simp only [↓Sh.dn, sx, Nat.reduceBEq, reduceCtorEq, Nat.reduceEqDiff, f8, wc, b_and, ho2, wo, f6]
    -- the other place
    have key : ∀ (o' : Nat) (F' : Fr), o' < b - a → F'.get 0 = some (.slice (some ⟨g, 0, some k⟩) l.length cap) → F'.get 1 = some (.int .i64 (a : Int)) → F'.get 6 = some (.int .i64 ((b - a : Nat) : Int)) → F'.get 7 = some (.pointer (some ⟨H.next, 0, some 0⟩)) → F'.get 8 = some (.int .u64 (M : Int)) → F'.get 9 = some (.int .i64 (i : Int)) → F'.get 10 = some (.int .i64 (o' : Int)) → True := fun _ _ _ _ _ _ _ _ _ _ => trivial
    have wi : IntKind.wrap .i64 ((i : Int) + 1) = ((i + 1 : Nat) : Int) := by rw [wrap64 (by omega) (by omega)]; rfl
    by_cases hbig : b - a ≤ o
    · have db : decide (((b - a : Nat) : Int) ≤ (o : Int)) = true := by simp; omega
      have ws : IntKind.wrap .i64 ((o : Int) - ((b - a : Nat) : Int)) = ((o - (b - a) : Nat) : Int) := by rw [wrap64 (by omega) (by omega)]; omega
      have wa : IntKind.wrap .i64 ((a : Int) + ((o - (b - a) : Nat) : Int)) = ((a + (o - (b - a)) : Nat) : Int) := by rw [wrap64 (by omega) (by omega)]; rfl
      have hi : i < l1.length := by omega
      have hj : a + (o - (b - a)) < l1.length := by omega
      have i1 := vIdxStr (g := g) (k := k) (cap := cap) (m := l.length) (i := i) (j := .i64) (by omega)
      have i2 := vIdxStr (g := g) (k := k) (cap := cap) (m := l.length) (i := a + (o - (b - a))) (j := .i64) (by omega)
      have r1 := vGetStr hv2 hi
      have r2 := vGetStr hv2 hj
      obtain ⟨K1, K2, e1, e2, e3, e4, e5⟩ := vSwapStr hv2 hc3'.wf hi hj
      simp only [↓Sh.dn, sx, Nat.reduceBEq, reduceCtorEq, Nat.reduceEqDiff, db, f6, ws]
      refine (wp_free (by kernel_rfl)).2 ?_
      simp only [↓Sh.dn, sx, Nat.reduceBEq, reduceCtorEq, Nat.reduceEqDiff, f0, f1, f9, wa, i1, i2, r1, r2, vStoStr, e1, e2, wi]
      exact kk (a + (b - a) / 4 * 2 + 2 - (i + 1)) _ _ (by omega) ⟨i + 1, z', swp l1 i (a + (o - (b - a))), rfl, by omega, hm.swap (by omega) (by omega) (by omega) (by omega), e3, hp2.keep (e4.old _ (hp2.lt hc3'.wf) hpg), (hch.trans (hc3'.weak fun _ h => .inr h)).trans (e4.weak fun _ h => .inl h), by simp only [↓Sh.dn, sx, Nat.reduceBEq, reduceCtorEq, Nat.reduceEqDiff, f0], by simp only [↓Sh.dn, sx, Nat.reduceBEq, reduceCtorEq, Nat.reduceEqDiff, f1], by simp only [↓Sh.dn, sx, Nat.reduceBEq, reduceCtorEq, Nat.reduceEqDiff, f6], by simp only [↓Sh.dn, sx, Nat.reduceBEq, reduceCtorEq, Nat.reduceEqDiff, f7], by simp only [↓Sh.dn, sx, Nat.reduceBEq, reduceCtorEq, Nat.reduceEqDiff, f8], by simp only [↓Sh.dn, sx, Nat.reduceBEq, reduceCtorEq, Nat.reduceEqDiff]⟩
    · have db : decide (((b - a : Nat) : Int) ≤ (o : Int)) = false := by simp; omega
      have wa : IntKind.wrap .i64 ((a : Int) + (o : Int)) = ((a + o : Nat) : Int) := by rw [wrap64 (by omega) (by omega)]; rfl
      have hi : i < l1.length := by omega
      have hj : a + o < l1.length := by omega
      have i1 := vIdxStr (g := g) (k := k) (cap := cap) (m := l.length) (i := i) (j := .i64) (by omega)
      have i2 := vIdxStr (g := g) (k := k) (cap := cap) (m := l.length) (i := a + o) (j := .i64) (by omega)
      have r1 := vGetStr hv2 hi
      have r2 := vGetStr hv2 hj
      obtain ⟨K1, K2, e1, e2, e3, e4, e5⟩ := vSwapStr hv2 hc3'.wf hi hj
      simp only [↓Sh.dn, sx, Nat.reduceBEq, reduceCtorEq, Nat.reduceEqDiff, db]
      refine (wp_free (by kernel_rfl)).2 ?_
      simp only [↓Sh.dn, sx, Nat.reduceBEq, reduceCtorEq, Nat.reduceEqDiff, f0, f1, f9, wa, i1, i2, r1, r2, vStoStr, e1, e2, wi]
      exact kk (a + (b - a) / 4 * 2 + 2 - (i + 1)) _ _ (by omega) ⟨i + 1, z', swp l1 i (a + o), rfl, by omega, hm.swap (by omega) (by omega) (by omega) (by omega), e3, hp2.keep (e4.old _ (hp2.lt hc3'.wf) hpg), (hch.trans (hc3'.weak fun _ h => .inr h)).trans (e4.weak fun _ h => .inl h), by simp only [↓Sh.dn, sx, Nat.reduceBEq, reduceCtorEq, Nat.reduceEqDiff, f0], by simp only [↓Sh.dn, sx, Nat.reduceBEq, reduceCtorEq, Nat.reduceEqDiff, f1], by simp only [↓Sh.dn, sx, Nat.reduceBEq, reduceCtorEq, Nat.reduceEqDiff, f6], by simp only [↓Sh.dn, sx, Nat.reduceBEq, reduceCtorEq, Nat.reduceEqDiff, f7], by simp only [↓Sh.dn, sx, Nat.reduceBEq, reduceCtorEq, Nat.reduceEqDiff, f8], by simp only [↓Sh.dn, sx, Nat.reduceBEq, reduceCtorEq, Nat.reduceEqDiff]⟩
  · have dl : decide ((i : Int) ≤ ((a + (b - a) / 4 * 2 + 1 : Nat) : Int)) = false := by simp; omega
    simp only [↓Sh.dn, sx, Nat.reduceBEq, reduceCtorEq, Nat.reduceEqDiff, f1, f6, f9, b_quo (show (4 : Int) ≠ 0 by decide), hq4, wq, m2, p2, q2, dl, hres]
    refine ⟨l1, hm, hv1, ?_⟩
    exact ⟨fun x hx hxg => (hch.old x (Nat.lt_of_lt_of_le hx hk1.next) (fun h => by rcases h with h | h; exact hxg h; omega)).trans (hk1.old x hx), Nat.le_trans hk1.next hch.next, hch.wf⟩
end
end Go.Proofs.YtfcmpclbhnjkgaaGreat
/- siftDownOrdered, heapSortOrdered. -/
set_option maxHeartbeats 4000000
set_option maxRecDepth 20000
set_option linter.unusedSimpArgs false
set_option linter.unusedVariables false
set_option pp.deepTerms.threshold 8
namespace Go.Proofs.YtfcmpclbhnjkgaaGreat
open Go Go.Proofs Go.Proofs.Sh
/-- No child is behind its parent, of parents from lo on. -/
def HeapStr (l : List ByteArray) (f lo hi : Nat) : Prop := ∀ (q r : Nat) x y, lo ≤ r → (q = 2 * r + 1 ∨ q = 2 * r + 2) → q < hi → l[f + r]? = some x → l[f + q]? = some y → strLt x y = false
theorem heapMaxStr {l : List ByteArray} {f hi : Nat} (h : HeapStr l f 0 hi) (hl : f + hi ≤ l.length) : ∀ (q : Nat) x y, q < hi → l[f]? = some x → l[f + q]? = some y → strLt x y = false := by
  intro q
  induction q using Nat.strongRecOn with
  | _ q ih =>
    intro x y hq hx hy
    by_cases h0 : q = 0
    · subst h0
      rw [Nat.add_zero, hx] at hy
      rw [← Option.some.inj hy]; exact strTO.irrefl x
    · have hr : (q - 1) / 2 < q := by omega
      have hz : l[f + (q - 1) / 2]? = some (l[f + (q - 1) / 2]'(by omega)) := List.getElem?_eq_getElem (by omega)
      exact strTO.le_trans (h q ((q - 1) / 2) _ _ (Nat.zero_le _) (by omega) hq hz hy) (ih _ hr x _ (by omega) hx hz)
section
variable {H : AH} {g k n cap : Nat} {l : List ByteArray}
theorem siftDownStr {lo hi f : Nat} (hv : VecStr H g k n l) (hw : Wf H) (hl : l.length ≤ 1048576) (hlo : lo ≤ hi) (hb : f + hi ≤ l.length) (hh : HeapStr l f (lo + 1) hi) :
    Sh.Call Tryz.prog (knows 10) 160 [.slice (some ⟨g, 0, some k⟩) l.length cap, .int .i64 (lo : Int), .int .i64 (hi : Int), .int .i64 (f : Int)] H
      (fun r H' => ∃ l', Mix (f + lo) (f + hi) l l' ∧ HeapStr l' f lo hi ∧ VecStr H' g k n l' ∧ Chg (fun y => y = g) H H') := by
  refine call_of rfl Tryz.func160 rfl (Nat.le_of_ble_eq_true rfl) ?_
  have hres : Tryz.f160.results.toList = [] := rfl
  have hTO := strTO
  simp only [↓Sh.dn, sx, Nat.reduceBEq, reduceCtorEq, Nat.reduceEqDiff]
  refine wp_while (fun m F H' => ∃ (r : Nat) (l1 : List ByteArray), m = hi - r ∧ lo ≤ r ∧ r ≤ hi ∧ Mix (f + lo) (f + hi) l l1 ∧
      (∀ (q p : Nat) x y, lo ≤ p → p ≠ r → (q = 2 * p + 1 ∨ q = 2 * p + 2) → q < hi → l1[f + p]? = some x → l1[f + q]? = some y → strLt x y = false) ∧
      (∀ (q p : Nat) x y, lo ≤ p → (r = 2 * p + 1 ∨ r = 2 * p + 2) → (q = 2 * r + 1 ∨ q = 2 * r + 2) → q < hi → l1[f + p]? = some x → l1[f + q]? = some y → strLt x y = false) ∧
      VecStr H' g k n l1 ∧ Chg (fun y => y = g) H H' ∧
      F.get 0 = some (.slice (some ⟨g, 0, some k⟩) l.length cap) ∧ F.get 2 = some (.int .i64 (hi : Int)) ∧ F.get 3 = some (.int .i64 (f : Int)) ∧ F.get 8 = some (.int .i64 (r : Int))) (m := hi - lo)
    ⟨lo, l, rfl, Nat.le_refl _, hlo, .refl l, fun q p x y h1 h2 h3 h4 hx hy => hh q p x y (by omega) h3 h4 hx hy, fun q p x y h1 h2 => by omega, hv, Chg.refl hw, by simp only [↓Sh.dn, sx, Nat.reduceBEq, reduceCtorEq, Nat.reduceEqDiff], by simp only [↓Sh.dn, sx, Nat.reduceBEq, reduceCtorEq, Nat.reduceEqDiff], by simp only [↓Sh.dn, sx, Nat.reduceBEq, reduceCtorEq, Nat.reduceEqDiff], by simp only [↓Sh.dn, sx, Nat.reduceBEq, reduceCtorEq, Nat.reduceEqDiff]⟩ ?_
  rintro m F H' ⟨r, l1, rfl, hr, hrh, hm, hA, hB, hv1, hc1, f0, f2, f3, f8⟩ kk
  have hlen := hm.length
  have w1 : IntKind.wrap .i64 ((2 : Int) * (r : Int)) = ((2 * r : Nat) : Int) := by rw [wrap64 (by omega) (by omega)]; rfl
  have w2 : IntKind.wrap .i64 (((2 * r : Nat) : Int) + 1) = ((2 * r + 1 : Nat) : Int) := by rw [wrap64 (by omega) (by omega)]; rfl
  have w3 : IntKind.wrap .i64 (((2 * r + 1 : Nat) : Int) + 1) = ((2 * r + 1 + 1 : Nat) : Int) := by rw [wrap64 (by omega) (by omega)]; rfl
  simp only [↓Sh.dn, sx, Nat.reduceBEq, reduceCtorEq, Nat.reduceEqDiff, f2, f8, w1, w2]
  by_cases hend : hi ≤ 2 * r + 1
  · have d : decide ((hi : Int) ≤ ((2 * r + 1 : Nat) : Int)) = true := by simp; omega
    simp only [↓Sh.dn, sx, Nat.reduceBEq, reduceCtorEq, Nat.reduceEqDiff, d, hres]
    exact ⟨l1, hm, fun q p x y h1 h2 h3 hx hy => hA q p x y h1 (by omega) h2 h3 hx hy, hv1, hc1⟩
  have d : decide ((hi : Int) ≤ ((2 * r + 1 : Nat) : Int)) = false := by simp; omega
  simp only [↓Sh.dn, sx, Nat.reduceBEq, reduceCtorEq, Nat.reduceEqDiff, d]
  have jr : f + r < l1.length := by omega
  have ir := vIdxStr (g := g) (k := k) (cap := cap) (m := l.length) (i := f + r) (j := .i64) (by omega)
  have gr := vGetStr hv1 jr
  have qr : l1[f + r]? = some l1[f + r] := List.getElem?_eq_getElem jr
  have wfr : IntKind.wrap .i64 ((f : Int) + (r : Int)) = ((f + r : Nat) : Int) := by rw [wrap64 (by omega) (by omega)]; rfl
  refine wp_mid (fun F' H2 => H2 = H' ∧ F'.get 0 = some (.slice (some ⟨g, 0, some k⟩) l.length cap) ∧ F'.get 2 = some (.int .i64 (hi : Int)) ∧ F'.get 3 = some (.int .i64 (f : Int)) ∧ F'.get 8 = some (.int .i64 (r : Int)) ∧ F'.get 9 = some (.int .i64 ((2 * r + 1 : Nat) : Int)) ∧
    ∃ bb : Bool, F'.get 36 = some (.bool bb) ∧ (bb = true → 2 * r + 2 < hi ∧ ∀ y z, l1[f + (2 * r + 1)]? = some y → l1[f + (2 * r + 2)]? = some z → strLt y z = true) ∧ (bb = false → 2 * r + 2 < hi → ∀ y z, l1[f + (2 * r + 1)]? = some y → l1[f + (2 * r + 2)]? = some z → strLt y z = false)) rfl ?_ ?_
  · refine (wp_free (by kernel_rfl)).2 ?_
    by_cases h2 : 2 * r + 1 + 1 < hi
    · have j1 : f + (2 * r + 1) < l1.length := by omega
      have j2 : f + (2 * r + 1) + 1 < l1.length := by omega
      have i1 := vIdxStr (g := g) (k := k) (cap := cap) (m := l.length) (i := f + (2 * r + 1)) (j := .i64) (by omega)
      have i2 := vIdxStr (g := g) (k := k) (cap := cap) (m := l.length) (i := f + (2 * r + 1) + 1) (j := .i64) (by omega)
      have g1 := vGetStr hv1 j1
      have g2 := vGetStr hv1 j2
      have u1 : IntKind.wrap .i64 ((f : Int) + ((2 * r + 1 : Nat) : Int)) = ((f + (2 * r + 1) : Nat) : Int) := by rw [wrap64 (by omega) (by omega)]; rfl
      have u2 : IntKind.wrap .i64 (((f + (2 * r + 1) : Nat) : Int) + 1) = ((f + (2 * r + 1) + 1 : Nat) : Int) := by rw [wrap64 (by omega) (by omega)]; rfl
      simp only [↓Sh.dn, sx, Nat.reduceBEq, reduceCtorEq, Nat.reduceEqDiff, f0, f2, f3, w3, nat_lt, h2, decide_true, u1, u2, i1, i2, g1, g2]
      refine ⟨_, _, cmpLessDoesStr, ?_⟩
      simp only [↓Sh.dn, sx, Nat.reduceBEq, reduceCtorEq, Nat.reduceEqDiff, f0, f2, f3, f8]
      have e1 : l1[f + (2 * r + 1)]? = some l1[f + (2 * r + 1)] := List.getElem?_eq_getElem j1
      have e2 : l1[f + (2 * r + 2)]? = some l1[f + (2 * r + 1) + 1] := List.getElem?_eq_getElem j2
      refine ⟨fun hb y z hy hz => ?_, fun hb y z hy hz => ?_⟩
      · rw [e1] at hy; rw [e2] at hz; rw [← Option.some.inj hy, ← Option.some.inj hz]; exact hb
      · rw [e1] at hy; rw [e2] at hz; rw [← Option.some.inj hy, ← Option.some.inj hz]; exact hb
    · simp only [↓Sh.dn, sx, Nat.reduceBEq, reduceCtorEq, Nat.reduceEqDiff, f0, f2, f3, f8, w3, nat_lt, h2, decide_false]
      try (refine fun h => by omega)
  rintro F1 H2 ⟨rfl, x0, x2, x3, x8, x9, bb, x36, hb1, hb2⟩
  refine wp_if (fun F' H3 => H3 = H2 ∧ F'.get 0 = some (.slice (some ⟨g, 0, some k⟩) l.length cap) ∧ F'.get 2 = some (.int .i64 (hi : Int)) ∧ F'.get 3 = some (.int .i64 (f : Int)) ∧ F'.get 8 = some (.int .i64 (r : Int)) ∧
    ∃ c : Nat, F'.get 9 = some (.int .i64 (c : Int)) ∧ (c = 2 * r + 1 ∨ c = 2 * r + 2) ∧ c < hi ∧ (∀ (q : Nat) y z, (q = 2 * r + 1 ∨ q = 2 * r + 2) → q < hi → l1[f + c]? = some y → l1[f + q]? = some z → strLt y z = false)) rfl ?_ ?_
  · cases bb with
    | true =>
      obtain ⟨h1, h2⟩ := hb1 rfl
      simp only [↓Sh.dn, sx, Nat.reduceBEq, reduceCtorEq, Nat.reduceEqDiff, x0, x2, x3, x8, x9, x36, w3]
      refine ⟨2 * r + 2, rfl, .inr rfl, h1, fun q y z hq hqh hy hz => ?_⟩
      rcases hq with rfl | rfl
      · exact hTO.asymm (h2 z y hz hy)
      · rw [hy] at hz; rw [← Option.some.inj hz]; exact hTO.irrefl y
    | false =>
      simp only [↓Sh.dn, sx, Nat.reduceBEq, reduceCtorEq, Nat.reduceEqDiff, x0, x2, x3, x8, x9, x36]
      refine ⟨2 * r + 1, rfl, .inl rfl, by omega, fun q y z hq hqh hy hz => ?_⟩
      rcases hq with rfl | rfl
      · rw [hy] at hz; rw [← Option.some.inj hz]; exact hTO.irrefl y
      · exact hb2 rfl hqh y z hy hz
  rintro F' H3 ⟨rfl, g0, g2, g3, g8, c, g9, hc, hch, hmax⟩
  have jc : f + c < l1.length := by omega
  have ic := vIdxStr (g := g) (k := k) (cap := cap) (m := l.length) (i := f + c) (j := .i64) (by omega)
  have gc := vGetStr hv1 jc
  have qc : l1[f + c]? = some l1[f + c] := List.getElem?_eq_getElem jc
  have wfc : IntKind.wrap .i64 ((f : Int) + (c : Int)) = ((f + c : Nat) : Int) := by rw [wrap64 (by omega) (by omega)]; rfl
  simp only [↓Sh.dn, sx, Nat.reduceBEq, reduceCtorEq, Nat.reduceEqDiff]
  refine (wp_free (by kernel_rfl)).2 ?_
  simp only [↓Sh.dn, sx, Nat.reduceBEq, reduceCtorEq, Nat.reduceEqDiff, g0, g3, g8, g9, wfr, wfc, ir, ic, gr, gc]
  refine ⟨_, _, cmpLessDoesStr, ?_⟩
  cases hlt : strLt l1[f + r] l1[f + c] with
  | false =>
    simp only [↓Sh.dn, sx, Nat.reduceBEq, reduceCtorEq, Nat.reduceEqDiff, hres]
    refine ⟨l1, hm, fun q p x y h1 h2 h3 hx hy => ?_, hv1, hc1⟩
    by_cases hp : p = r
    · subst hp
      rw [qr] at hx
      rw [← Option.some.inj hx]
      exact hTO.le_trans (hmax q _ _ h2 h3 qc hy) hlt
    · exact hA q p x y h1 hp h2 h3 hx hy
  | true =>
    obtain ⟨K1, K2, e1, e2, e3, e4, e5⟩ := vSwapStr hv1 hc1.wf jr jc
    simp only [↓Sh.dn, sx, Nat.reduceBEq, reduceCtorEq, Nat.reduceEqDiff]
    refine (wp_free (by kernel_rfl)).2 ?_
    simp only [↓Sh.dn, sx, Nat.reduceBEq, reduceCtorEq, Nat.reduceEqDiff, g0, g3, g8, g9, wfr, wfc, ir, ic, gr, gc, vStoStr, e1, e2]
    refine kk (hi - c) _ _ (by omega) ⟨c, swp l1 (f + r) (f + c), rfl, by omega, by omega, hm.swap (by omega) (by omega) (by omega) (by omega), fun q p x y h1 h2 h3 h4 hx hy => ?_, fun q p x y h1 h2 h3 h4 hx hy => ?_, e3, hc1.trans e4, by simp only [↓Sh.dn, sx, Nat.reduceBEq, reduceCtorEq, Nat.reduceEqDiff, g0], by simp only [↓Sh.dn, sx, Nat.reduceBEq, reduceCtorEq, Nat.reduceEqDiff, g2], by simp only [↓Sh.dn, sx, Nat.reduceBEq, reduceCtorEq, Nat.reduceEqDiff, g3], by simp only [↓Sh.dn, sx, Nat.reduceBEq, reduceCtorEq, Nat.reduceEqDiff]⟩
    · rw [swp_get jr jc] at hx hy
      by_cases hp : p = r
      · subst hp
        rw [if_neg (by omega), if_pos rfl, qc] at hx
        rw [← Option.some.inj hx]
        by_cases hq : q = c
        · subst hq
          rw [if_pos rfl, qr] at hy
          rw [← Option.some.inj hy]; exact hTO.asymm hlt
        · rw [if_neg (by omega), if_neg (by omega)] at hy
          exact hmax q _ _ h3 h4 qc hy
      · rw [if_neg (by omega), if_neg (by omega)] at hx
        by_cases hq : q = r
        · subst hq
          rw [if_neg (by omega), if_pos rfl] at hy
          exact hB c p x _ h1 (by omega) hc hch hx hy
        · by_cases hq2 : q = c
          · omega
          · rw [if_neg (by omega), if_neg (by omega)] at hy
            exact hA q p x y h1 hp h3 h4 hx hy
    · have hpr : p = r := by omega
      subst hpr
      rw [swp_get jr jc] at hx hy
      rw [if_neg (by omega), if_pos rfl, qc] at hx
      rw [if_neg (by omega), if_neg (by omega)] at hy
      rw [← Option.some.inj hx]
      exact hA q c _ _ (by omega) (by omega) h3 h4 qc hy
theorem heapSortStr {a b : Nat} (hv : VecStr H g k n l) (hw : Wf H) (hl : l.length ≤ 1048576) (hab : a < b) (hb : b ≤ l.length) :
    Sh.Call Tryz.prog (knows 10) 142 [.slice (some ⟨g, 0, some k⟩) l.length cap, .int .i64 (a : Int), .int .i64 (b : Int)] H
      (fun r H' => ∃ l', Mix a b l l' ∧ Srt strLt a b l' ∧ VecStr H' g k n l' ∧ Chg (fun y => y = g) H H') := by
  refine call_of rfl Tryz.func142 rfl (Nat.le_of_ble_eq_true rfl) ?_
  have hres : Tryz.f142.results.toList = [] := rfl
  have hTO := strTO
  obtain ⟨hi, rfl⟩ : ∃ hi, b = a + hi := ⟨b - a, by omega⟩
  have w0 : IntKind.wrap .i64 (((a + hi : Nat) : Int) - (a : Int)) = (hi : Int) := by rw [wrap64 (by omega) (by omega)]; omega
  have w1 : IntKind.wrap .i64 ((hi : Int) - 1) = ((hi - 1 : Nat) : Int) := by rw [wrap64 (by omega) (by omega)]; omega
  have hq2 : (Int.tdiv ((hi - 1 : Nat) : Int) 2) = (((hi - 1) / 2 : Nat) : Int) := by rw [Int.tdiv_eq_ediv_of_nonneg (by omega)]; rfl
  have wq : IntKind.wrap .i64 (((hi - 1) / 2 : Nat) : Int) = (((hi - 1) / 2 : Nat) : Int) := wrap64 (by omega) (by omega)
  simp only [↓Sh.dn, sx, Nat.reduceBEq, reduceCtorEq, Nat.reduceEqDiff, w0, w1, b_quo (show (2 : Int) ≠ 0 by decide), hq2, wq]
  refine wp_lp (fun F' H2 => ∃ l1 : List ByteArray, Mix a (a + hi) l l1 ∧ HeapStr l1 a 0 hi ∧ VecStr H2 g k n l1 ∧ Chg (fun y => y = g) H H2 ∧
      F'.get 0 = some (.slice (some ⟨g, 0, some k⟩) l.length cap) ∧ F'.get 6 = some (.int .i64 (a : Int)) ∧ F'.get 7 = some (.int .i64 0) ∧ F'.get 8 = some (.int .i64 (hi : Int))) (by rfl) ?_ ?_
  · refine wp_while (fun m F H' => ∃ l1 : List ByteArray, m ≤ (hi - 1) / 2 + 1 ∧ Mix a (a + hi) l l1 ∧ HeapStr l1 a m hi ∧ VecStr H' g k n l1 ∧ Chg (fun y => y = g) H H' ∧
      F.get 0 = some (.slice (some ⟨g, 0, some k⟩) l.length cap) ∧ F.get 6 = some (.int .i64 (a : Int)) ∧ F.get 7 = some (.int .i64 0) ∧ F.get 8 = some (.int .i64 (hi : Int)) ∧ F.get 9 = some (.int .i64 ((m : Int) - 1))) (m := (hi - 1) / 2 + 1)
      ⟨l, Nat.le_refl _, .refl l, fun q r x y h1 h2 h3 => by omega, hv, Chg.refl hw, by simp only [↓Sh.dn, sx, Nat.reduceBEq, reduceCtorEq, Nat.reduceEqDiff], by simp only [↓Sh.dn, sx, Nat.reduceBEq, reduceCtorEq, Nat.reduceEqDiff], by simp only [↓Sh.dn, sx, Nat.reduceBEq, reduceCtorEq, Nat.reduceEqDiff], by simp only [↓Sh.dn, sx, Nat.reduceBEq, reduceCtorEq, Nat.reduceEqDiff], by simp only [↓Sh.dn, sx, Nat.reduceBEq, reduceCtorEq, Nat.reduceEqDiff]; congr 2; omega⟩ ?_
    rintro m F H' ⟨l1, hmh, hm, hh, hv1, hc1, f0, f6, f7, f8, f9⟩ kk
    have hlen := hm.length
    cases m with
    | zero =>
      have d : decide ((0 : Int) ≤ ((0 : Nat) : Int) - 1) = false := by simp
      simp only [↓Sh.dn, sx, Nat.reduceBEq, reduceCtorEq, Nat.reduceEqDiff, f9, d, f0, f6, f7, f8]
      exact ⟨l1, hm, hh, hv1, hc1⟩
    | succ m =>
      have e9 : ((m + 1 : Nat) : Int) - 1 = (m : Int) := by omega
      rw [e9] at f9
      have d : decide ((0 : Int) ≤ (m : Int)) = true := by simp
      obtain ⟨r, H2, hd, l2, hm2, hh2, hv2, hc2⟩ := siftDownStr (cap := cap) (lo := m) (hi := hi) (f := a) hv1 hc1.wf (by omega) (by omega) (by omega) hh
      have wm : IntKind.wrap .i64 ((m : Int) - 1) = (m : Int) - 1 := wrap64 (by omega) (by omega)
      rw [hlen] at hd
      simp only [↓Sh.dn, sx, Nat.reduceBEq, reduceCtorEq, Nat.reduceEqDiff, f9, d, f0, f6, f8]
      refine ⟨_, _, hd, ?_⟩
      simp only [↓Sh.dn, sx, Nat.reduceBEq, reduceCtorEq, Nat.reduceEqDiff, f9, wm]
      exact kk m _ _ (by omega) ⟨l2, by omega, hm.trans (hm2.wide (by omega) (Nat.le_refl _)), hh2, hv2, hc1.trans hc2, by simp only [↓Sh.dn, sx, Nat.reduceBEq, reduceCtorEq, Nat.reduceEqDiff, f0], by simp only [↓Sh.dn, sx, Nat.reduceBEq, reduceCtorEq, Nat.reduceEqDiff, f6], by simp only [↓Sh.dn, sx, Nat.reduceBEq, reduceCtorEq, Nat.reduceEqDiff, f7], by simp only [↓Sh.dn, sx, Nat.reduceBEq, reduceCtorEq, Nat.reduceEqDiff, f8], by simp only [↓Sh.dn, sx, Nat.reduceBEq, reduceCtorEq, Nat.reduceEqDiff]⟩
  rintro F1 H1 ⟨l1, hm1, hh1, hv1, hc1, f0, f6, f7, f8⟩
  have hlen1 := hm1.length
  simp only [↓Sh.dn, sx, Nat.reduceBEq, reduceCtorEq, Nat.reduceEqDiff, f8, w1]
  refine wp_while (fun m F H' => ∃ l2 : List ByteArray, m ≤ hi ∧ Mix a (a + hi) l l2 ∧ HeapStr l2 a 0 m ∧ (∀ (p q : Nat) x y, p < q → m ≤ q → q < hi → l2[a + p]? = some x → l2[a + q]? = some y → strLt y x = false) ∧ VecStr H' g k n l2 ∧ Chg (fun y => y = g) H H' ∧
      F.get 0 = some (.slice (some ⟨g, 0, some k⟩) l.length cap) ∧ F.get 6 = some (.int .i64 (a : Int)) ∧ F.get 7 = some (.int .i64 0) ∧ F.get 10 = some (.int .i64 ((m : Int) - 1))) (m := hi)
    ⟨l1, Nat.le_refl _, hm1, hh1, fun p q x y h1 h2 h3 => by omega, hv1, hc1, by simp only [↓Sh.dn, sx, Nat.reduceBEq, reduceCtorEq, Nat.reduceEqDiff, f0], by simp only [↓Sh.dn, sx, Nat.reduceBEq, reduceCtorEq, Nat.reduceEqDiff, f6], by simp only [↓Sh.dn, sx, Nat.reduceBEq, reduceCtorEq, Nat.reduceEqDiff, f7], by simp only [↓Sh.dn, sx, Nat.reduceBEq, reduceCtorEq, Nat.reduceEqDiff]; congr 2; omega⟩ ?_
  rintro m F H' ⟨l2, hmh, hm, hh, hT, hv2, hc2, f0, f6, f7, f10⟩ kk
  have hlen := hm.length
  cases m with
  | zero =>
    have d : decide ((0 : Int) ≤ ((0 : Nat) : Int) - 1) = false := by simp
    simp only [↓Sh.dn, sx, Nat.reduceBEq, reduceCtorEq, Nat.reduceEqDiff, f10, d, hres]
    refine ⟨l2, hm, fun i j x y h1 h2 h3 hx hy => ?_, hv2, hc2⟩
    by_cases hij : i = j
    · subst hij
      rw [hx] at hy
      rw [← Option.some.inj hy]; exact hTO.irrefl x
    · exact hT (i - a) (j - a) x y (by omega) (Nat.zero_le _) (by omega) (by rw [show a + (i - a) = i by omega]; exact hx) (by rw [show a + (j - a) = j by omega]; exact hy)
  | succ m =>
    have e10 : ((m + 1 : Nat) : Int) - 1 = (m : Int) := by omega
    rw [e10] at f10
    have d : decide ((0 : Int) ≤ (m : Int)) = true := by simp
    have ja : a < l2.length := by omega
    have jm : a + m < l2.length := by omega
    have i1 := vIdxStr (g := g) (k := k) (cap := cap) (m := l.length) (i := a) (j := .i64) (by omega)
    have i2 := vIdxStr (g := g) (k := k) (cap := cap) (m := l.length) (i := a + m) (j := .i64) (by omega)
    have g1 := vGetStr hv2 ja
    have g2 := vGetStr hv2 jm
    have wam : IntKind.wrap .i64 ((a : Int) + (m : Int)) = ((a + m : Nat) : Int) := by rw [wrap64 (by omega) (by omega)]; rfl
    have wm : IntKind.wrap .i64 ((m : Int) - 1) = (m : Int) - 1 := wrap64 (by omega) (by omega)
    obtain ⟨K1, K2, e1, e2, e3, e4, e5⟩ := vSwapStr hv2 hc2.wf ja jm
    have hsw : Mix a (a + (m + 1)) l2 (swp l2 a (a + m)) := (Mix.refl l2).swap (by omega) (by omega) (by omega) (by omega)
    obtain ⟨r, H3, hd, l3, hm3, hh3, hv3, hc3⟩ := siftDownStr (cap := cap) (lo := 0) (hi := m) (f := a) e3 e4.wf (by rw [swp_length]; omega) (by omega) (by rw [swp_length]; omega) (fun q p x y h1 h2 h3 hx hy => by
      rw [swp_get ja jm, if_neg (by omega), if_neg (by omega)] at hx hy
      exact hh q p x y (Nat.zero_le _) h2 (by omega) hx hy)
    rw [swp_length, hlen] at hd
    have hmix : Mix a (a + (m + 1)) l2 l3 := hsw.trans (hm3.wide (by omega) (by omega))
    have hl3 := hmix.length
    simp only [↓Sh.dn, sx, Nat.reduceBEq, reduceCtorEq, Nat.reduceEqDiff, f10, d]
    refine (wp_free (by kernel_rfl)).2 ?_
    simp only [↓Sh.dn, sx, Nat.reduceBEq, reduceCtorEq, Nat.reduceEqDiff, f0, f6, f7, f10, wam, i1, i2, g1, g2, vStoStr, e1, e2]
    refine ⟨_, _, hd, ?_⟩
    simp only [↓Sh.dn, sx, Nat.reduceBEq, reduceCtorEq, Nat.reduceEqDiff, f10, wm]
    have qa : l2[a]? = some l2[a] := List.getElem?_eq_getElem ja
    refine kk m _ _ (by omega) ⟨l3, by omega, hm.trans (hmix.wide (Nat.le_refl _) (by omega)), hh3, fun p q x y h1 h2 h3 hx hy => ?_, hv3, (hc2.trans e4).trans hc3, by simp only [↓Sh.dn, sx, Nat.reduceBEq, reduceCtorEq, Nat.reduceEqDiff, f0], by simp only [↓Sh.dn, sx, Nat.reduceBEq, reduceCtorEq, Nat.reduceEqDiff, f6], by simp only [↓Sh.dn, sx, Nat.reduceBEq, reduceCtorEq, Nat.reduceEqDiff, f7], by simp only [↓Sh.dn, sx, Nat.reduceBEq, reduceCtorEq, Nat.reduceEqDiff]⟩
    by_cases hq : q = m
    · subst hq
      have hy' : l3[a + q]? = some l2[a] := by
        rw [hm3.out (.inr (by omega)), swp_get ja jm, if_pos rfl, qa]
      rw [hy'] at hy
      rw [← Option.some.inj hy]
      refine hmix.all (p := fun x => strLt l2[a] x = false) (by omega) (fun i z hi1 hi2 hz => ?_) (a + p) x (by omega) (by omega) hx
      exact heapMaxStr hh (by omega) (i - a) _ _ (by omega) qa (by rw [show a + (i - a) = i by omega]; exact hz)
    · have hyq : l2[a + q]? = some y := by rw [← hmix.out (.inr (by omega))]; exact hy
      by_cases hp : p ≤ m
      · refine hmix.all (p := fun x => strLt y x = false) (by omega) (fun i z hi1 hi2 hz => ?_) (a + p) x (by omega) (by omega) hx
        exact hT (i - a) q z y (by omega) (by omega) h3 (by rw [show a + (i - a) = i by omega]; exact hz) hyq
      · have hxp : l2[a + p]? = some x := by rw [← hmix.out (.inr (by omega))]; exact hx
        exact hT p q x y h1 (by omega) h3 hxp hyq
end
end Go.Proofs.YtfcmpclbhnjkgaaGreat
/- partitionOrdered, partitionEqualOrdered. -/
set_option maxHeartbeats 4000000
set_option maxRecDepth 20000
set_option linter.unusedSimpArgs false
set_option linter.unusedVariables false
set_option pp.deepTerms.threshold 8
namespace Go.Proofs.YtfcmpclbhnjkgaaGreat
open Go Go.Proofs Go.Proofs.Sh
section
variable {H : AH} {g k n cap a b : Nat} {l : List ByteArray}
theorem partitionStr {p : Nat} (hv : VecStr H g k n l) (hw : Wf H) (hl : l.length ≤ 1048576) (hap : a ≤ p) (hpb : p < b) (hb : b ≤ l.length) :
    Sh.Call Tryz.prog (knows 10) 148 [.slice (some ⟨g, 0, some k⟩) l.length cap, .int .i64 (a : Int), .int .i64 (b : Int), .int .i64 (p : Int)] H
      (fun r H' => ∃ (m : Nat) (al : Bool), r = .tuple #[.int .i64 (m : Int), .bool al] ∧ a ≤ m ∧ m < b ∧ ∃ l' : List ByteArray, Mix a b l l' ∧ ∃ y, l'[m]? = some y ∧ (∀ (q : Nat) x, a ≤ q → q < m → l'[q]? = some x → strLt x y = true) ∧ (∀ (q : Nat) x, m < q → q < b → l'[q]? = some x → strLt x y = false) ∧ VecStr H' g k n l' ∧ Chg (fun y => y = g) H H') := by
  refine call_of rfl Tryz.func148 rfl (Nat.le_of_ble_eq_true rfl) ?_
  have hTO := strTO
  have ja : a < l.length := by omega
  have jp : p < l.length := by omega
  have ia := vIdxStr (g := g) (k := k) (cap := cap) (m := l.length) (i := a) (j := .i64) ja
  have ip := vIdxStr (g := g) (k := k) (cap := cap) (m := l.length) (i := p) (j := .i64) jp
  have xa := vGetStr hv ja
  have xp := vGetStr hv jp
  have wa : IntKind.wrap .i64 ((a : Int) + 1) = ((a + 1 : Nat) : Int) := by rw [wrap64 (by omega) (by omega)]; rfl
  have wb : IntKind.wrap .i64 ((b : Int) - 1) = ((b - 1 : Nat) : Int) := by rw [wrap64 (by omega) (by omega)]; omega
  obtain ⟨K1, H1, e1, e2, hv1, hc1, e5⟩ := vSwapStr hv hw ja jp
  have hm1 : Mix a b l (swp l a p) := (Mix.refl l).swap (by omega) (by omega) (by omega) (by omega)
  simp only [↓Sh.dn, sx, Nat.reduceBEq, reduceCtorEq, Nat.reduceEqDiff]
  refine (wp_free (by kernel_rfl)).2 ?_
  simp only [↓Sh.dn, sx, Nat.reduceBEq, reduceCtorEq, Nat.reduceEqDiff, ia, ip, xa, xp, vStoStr, e1, e2, wa, wb]
  have hpa : (swp l a p)[a]? = some l[p] := by
    rw [swp_get ja jp]
    by_cases h : a = p
    · rw [if_pos h, List.getElem?_eq_getElem ja]; simp only [h]
    · rw [if_neg h, if_pos rfl]; exact List.getElem?_eq_getElem jp
  generalize l[p] = pv at hpa xp e1
  generalize hL0 : swp l a p = l1 at hpa hm1 hv1
  have hlen := hm1.length
  have xa : H1.cell ⟨g, a, some k⟩ = some (Value.string pv) := hv1.cell (by simp [hpa])
  have hres : Tryz.f148.results.toList = [.tmp 8, .tmp 9] := rfl
  -- the pivot goes to its place
  have last : ∀ (l1 : List ByteArray) (H' : AH) (i j : Nat), Mix a b l l1 → l1[a]? = some pv → a ≤ j → j < b → (∀ (q : Nat) x, a + 1 ≤ q → q ≤ j → l1[q]? = some x → strLt x pv = true) → (∀ (q : Nat) x, j < q → q < b → l1[q]? = some x → strLt x pv = false) →
      Mix a b l (swp l1 j a) ∧ (swp l1 j a)[j]? = some pv ∧ (∀ (q : Nat) x, a ≤ q → q < j → (swp l1 j a)[q]? = some x → strLt x pv = true) ∧ (∀ (q : Nat) x, j < q → q < b → (swp l1 j a)[q]? = some x → strLt x pv = false) := by
    intro l1 H' i j hm hp hj hjb h1 h2
    have hlen := hm.length
    have jj : j < l1.length := by omega
    have ja : a < l1.length := by omega
    refine ⟨hm.swap (by omega) (by omega) (by omega) (by omega), ?_, fun q x hq1 hq2 hx => ?_, fun q x hq1 hq2 hx => ?_⟩
    · rw [swp_get jj ja]
      by_cases h : j = a
      · rw [if_pos h, h]; exact hp
      · rw [if_neg h, if_pos rfl]; exact hp
    · rw [swp_get jj ja] at hx
      by_cases h : q = a
      · rw [if_pos h] at hx; exact h1 j x (by omega) (Nat.le_refl _) hx
      · rw [if_neg h, if_neg (by omega)] at hx; exact h1 q x (by omega) (by omega) hx
    · rw [swp_get jj ja, if_neg (by omega), if_neg (by omega)] at hx
      exact h2 q x hq1 hq2 hx
  obtain ⟨MF1, hMF1⟩ : ∃ M : Fr → AH → Prop, M = fun F' H9 => H1 = H9 ∧ ∃ v : Nat, F'.get 0 = some (.slice (some ⟨g, 0, some k⟩) l.length cap) ∧ F'.get 1 = some (.int .i64 (a : Int)) ∧ F'.get 10 = some (.int .i64 ((v : Nat) : Int)) ∧ F'.get 11 = some (.int .i64 (((b - 1) : Nat) : Int)) ∧ (a + 1) ≤ v ∧ v ≤ (b - 1) + 1 ∧ (∀ (q : Nat) x, (a + 1) ≤ q → q < v → l1[q]? = some x → strLt x pv = true) ∧ (v ≤ (b - 1) → ∀ x, l1[v]? = some x → strLt x pv = false) := ⟨_, rfl⟩
  refine wp_lp MF1 (by rfl) ?_ ?_
  · refine wp_while (fun m F' H9 => H1 = H9 ∧ ∃ v : Nat, m = (b - 1) + 1 - v ∧ F'.get 0 = some (.slice (some ⟨g, 0, some k⟩) l.length cap) ∧ F'.get 1 = some (.int .i64 (a : Int)) ∧ F'.get 10 = some (.int .i64 ((v : Nat) : Int)) ∧ F'.get 11 = some (.int .i64 (((b - 1) : Nat) : Int)) ∧ (a + 1) ≤ v ∧ v ≤ (b - 1) + 1 ∧ (∀ (q : Nat) x, (a + 1) ≤ q → q < v → l1[q]? = some x → strLt x pv = true)) (m := (b - 1) + 1 - (a + 1))
      ⟨rfl, (a + 1), rfl, by simp only [↓Sh.dn, sx, Nat.reduceBEq, reduceCtorEq, Nat.reduceEqDiff, true_and], by simp only [↓Sh.dn, sx, Nat.reduceBEq, reduceCtorEq, Nat.reduceEqDiff, true_and], by simp only [↓Sh.dn, sx, Nat.reduceBEq, reduceCtorEq, Nat.reduceEqDiff, true_and], by simp only [↓Sh.dn, sx, Nat.reduceBEq, reduceCtorEq, Nat.reduceEqDiff, true_and], by omega, by omega, fun q x h1 h2 => by omega⟩ ?_
    rintro m F' H9 ⟨rfl, v, rfl, g0, g1, gi, gj, h1, h2, h3⟩ k2
    simp only [↓Sh.dn, sx, Nat.reduceBEq, reduceCtorEq, Nat.reduceEqDiff]
    refine (wp_free (by kernel_rfl)).2 ?_
    by_cases hle : v ≤ (b - 1)
    · have jv : v < l1.length := by omega
      have iv := vIdxStr (g := g) (k := k) (cap := cap) (m := l.length) (i := v) (j := .i64) (by omega)
      have xv := vGetStr hv1 jv
      have qv : l1[v]? = some l1[v] := List.getElem?_eq_getElem jv
      have wv : IntKind.wrap .i64 ((v : Int) + 1) = ((v + 1 : Nat) : Int) := by rw [wrap64 (by omega) (by omega)]; rfl
      simp only [↓Sh.dn, sx, Nat.reduceBEq, reduceCtorEq, Nat.reduceEqDiff, g0, g1, gi, gj, nat_le, hle, decide_true, iv, ia, xv, xa]
      refine ⟨_, _, cmpLessDoesStr, ?_⟩
      cases hlt : strLt l1[v] pv with
      | true =>
        simp only [↓Sh.dn, sx, Nat.reduceBEq, reduceCtorEq, Nat.reduceEqDiff, g0, g1, gi, gj, wv]
        refine k2 ((b - 1) + 1 - (v + 1)) _ _ (by omega) ⟨rfl, v + 1, rfl, by simp only [↓Sh.dn, sx, Nat.reduceBEq, reduceCtorEq, Nat.reduceEqDiff, g0], by simp only [↓Sh.dn, sx, Nat.reduceBEq, reduceCtorEq, Nat.reduceEqDiff, g1], by simp only [↓Sh.dn, sx, Nat.reduceBEq, reduceCtorEq, Nat.reduceEqDiff, gi], by simp only [↓Sh.dn, sx, Nat.reduceBEq, reduceCtorEq, Nat.reduceEqDiff, gj], by omega, by omega, fun q x hq1 hq2 hx => ?_⟩
        · by_cases hq : q = v
          · subst hq; rw [qv] at hx; rw [← Option.some.inj hx]; exact hlt
          · exact h3 q x (by omega) (by omega) hx
      | false =>
        simp only [↓Sh.dn, sx, Nat.reduceBEq, reduceCtorEq, Nat.reduceEqDiff, hMF1, g0, g1, gi, gj]
        exact ⟨v, rfl, h1, h2, h3, fun _ x hx => by rw [qv] at hx; rw [← Option.some.inj hx]; exact hlt⟩
    · simp only [↓Sh.dn, sx, Nat.reduceBEq, reduceCtorEq, Nat.reduceEqDiff, hMF1, g0, g1, gi, gj, nat_le, hle, decide_false]
      exact ⟨v, rfl, h1, h2, h3, fun h => absurd h hle⟩
  intro F1 H9 h9
  rw [hMF1] at h9
  obtain ⟨rfl, i1, u0, u1, ui, uj, u5, u6, u7, u8⟩ := h9
  simp only [↓Sh.dn, sx, Nat.reduceBEq, reduceCtorEq, Nat.reduceEqDiff]
  obtain ⟨MF2, hMF2⟩ : ∃ M : Fr → AH → Prop, M = fun F' H9 => H1 = H9 ∧ ∃ v : Nat, F'.get 0 = some (.slice (some ⟨g, 0, some k⟩) l.length cap) ∧ F'.get 1 = some (.int .i64 (a : Int)) ∧ F'.get 10 = some (.int .i64 ((i1 : Nat) : Int)) ∧ F'.get 11 = some (.int .i64 ((v : Nat) : Int)) ∧ i1 ≤ v + 1 ∧ v ≤ (b - 1) ∧ (∀ (q : Nat) x, v < q → q ≤ (b - 1) → l1[q]? = some x → strLt x pv = false) ∧ (i1 ≤ v → ∀ x, l1[v]? = some x → strLt x pv = true) := ⟨_, rfl⟩
  refine wp_lp MF2 (by rfl) ?_ ?_
  · refine wp_while (fun m F' H9 => H1 = H9 ∧ ∃ v : Nat, m = v ∧ F'.get 0 = some (.slice (some ⟨g, 0, some k⟩) l.length cap) ∧ F'.get 1 = some (.int .i64 (a : Int)) ∧ F'.get 10 = some (.int .i64 ((i1 : Nat) : Int)) ∧ F'.get 11 = some (.int .i64 ((v : Nat) : Int)) ∧ i1 ≤ v + 1 ∧ v ≤ (b - 1) ∧ (∀ (q : Nat) x, v < q → q ≤ (b - 1) → l1[q]? = some x → strLt x pv = false)) (m := (b - 1))
      ⟨rfl, (b - 1), rfl, by simp only [↓Sh.dn, sx, Nat.reduceBEq, reduceCtorEq, Nat.reduceEqDiff, u0], by simp only [↓Sh.dn, sx, Nat.reduceBEq, reduceCtorEq, Nat.reduceEqDiff, u1], by simp only [↓Sh.dn, sx, Nat.reduceBEq, reduceCtorEq, Nat.reduceEqDiff, ui], by simp only [↓Sh.dn, sx, Nat.reduceBEq, reduceCtorEq, Nat.reduceEqDiff, uj], by omega, by omega, fun q x h1 h2 => by omega⟩ ?_
    rintro v F' H9 ⟨rfl, _, rfl, g0, g1, gi, gj, h1, h2, h3⟩ k2
    simp only [↓Sh.dn, sx, Nat.reduceBEq, reduceCtorEq, Nat.reduceEqDiff]
    refine (wp_free (by kernel_rfl)).2 ?_
    by_cases hle : i1 ≤ v
    · have jv : v < l1.length := by omega
      have iv := vIdxStr (g := g) (k := k) (cap := cap) (m := l.length) (i := v) (j := .i64) (by omega)
      have xv := vGetStr hv1 jv
      have qv : l1[v]? = some l1[v] := List.getElem?_eq_getElem jv
      have wv : IntKind.wrap .i64 ((v : Int) - 1) = ((v - 1 : Nat) : Int) := by rw [wrap64 (by omega) (by omega)]; omega
      simp only [↓Sh.dn, sx, Nat.reduceBEq, reduceCtorEq, Nat.reduceEqDiff, g0, g1, gi, gj, nat_le, hle, decide_true, iv, ia, xv, xa]
      refine ⟨_, _, cmpLessDoesStr, ?_⟩
      cases hlt : strLt l1[v] pv with
      | false =>
        simp only [↓Sh.dn, sx, Nat.reduceBEq, reduceCtorEq, Nat.reduceEqDiff, g0, g1, gi, gj, wv]
        refine k2 ((v - 1)) _ _ (by omega) ⟨rfl, v - 1, rfl, by simp only [↓Sh.dn, sx, Nat.reduceBEq, reduceCtorEq, Nat.reduceEqDiff, g0], by simp only [↓Sh.dn, sx, Nat.reduceBEq, reduceCtorEq, Nat.reduceEqDiff, g1], by simp only [↓Sh.dn, sx, Nat.reduceBEq, reduceCtorEq, Nat.reduceEqDiff, gi], by simp only [↓Sh.dn, sx, Nat.reduceBEq, reduceCtorEq, Nat.reduceEqDiff, gj], by omega, by omega, fun q x hq1 hq2 hx => ?_⟩
        · by_cases hq : q = v
          · subst hq; rw [qv] at hx; rw [← Option.some.inj hx]; exact hlt
          · exact h3 q x (by omega) (by omega) hx
      | true =>
        simp only [↓Sh.dn, sx, Nat.reduceBEq, reduceCtorEq, Nat.reduceEqDiff, hMF2, g0, g1, gi, gj]
        exact ⟨v, rfl, h1, h2, h3, fun _ x hx => by rw [qv] at hx; rw [← Option.some.inj hx]; exact hlt⟩
    · simp only [↓Sh.dn, sx, Nat.reduceBEq, reduceCtorEq, Nat.reduceEqDiff, hMF2, g0, g1, gi, gj, nat_le, hle, decide_false]
      exact ⟨v, rfl, h1, h2, h3, fun h => absurd h hle⟩
  intro F2 H9 h9
  rw [hMF2] at h9
  obtain ⟨rfl, j1, w0, w1, wi, wj, w5, w6, w7, w8⟩ := h9
  simp only [↓Sh.dn, sx, Nat.reduceBEq, reduceCtorEq, Nat.reduceEqDiff, wi, wj, nat_lt]
  by_cases hgt : j1 < i1
  · have jj : j1 < l1.length := by omega
    have ja1 : a < l1.length := by omega
    have ij := vIdxStr (g := g) (k := k) (cap := cap) (m := l.length) (i := j1) (j := .i64) (by omega)
    have xj := vGetStr hv1 jj
    have xa' := vGetStr hv1 ja1
    obtain ⟨L1, L2, d1, d2, hv2, hc2, d5⟩ := vSwapStr hv1 hc1.wf jj ja1
    obtain ⟨p1, p2, p3, p4⟩ := last l1 H1 i1 j1 hm1 hpa (by omega) (by omega) (fun q x h1 h2 hx => u7 q x h1 (by omega) hx) (fun q x h1 h2 hx => w7 q x h1 (by omega) hx)
    simp only [↓Sh.dn, sx, Nat.reduceBEq, reduceCtorEq, Nat.reduceEqDiff, hgt, decide_true]
    refine (wp_free (by kernel_rfl)).2 ?_
    simp only [↓Sh.dn, sx, Nat.reduceBEq, reduceCtorEq, Nat.reduceEqDiff, w0, w1, wi, wj, ij, ia, xj, xa', vStoStr, d1, d2, hres]
    exact ⟨j1, _, rfl, by omega, by omega, swp l1 j1 a, p1, pv, p2, p3, p4, hv2, hc1.trans hc2⟩
  simp only [↓Sh.dn, sx, Nat.reduceBEq, reduceCtorEq, Nat.reduceEqDiff, hgt, decide_false]
  have hij : i1 < j1 := by
    by_cases h : i1 = j1
    · have h1 := u8 (by omega)
      have h2 := w8 (by omega)
      obtain ⟨x, hx⟩ : ∃ x, l1[i1]? = some x := ⟨_, List.getElem?_eq_getElem (by omega)⟩
      have a1 := h1 x hx
      have a2 := h2 x (by rw [← h]; exact hx)
      rw [a1] at a2; cases a2
    · omega
  have ji1 : i1 < l1.length := by omega
  have jj1 : j1 < l1.length := by omega
  have ii := vIdxStr (g := g) (k := k) (cap := cap) (m := l.length) (i := i1) (j := .i64) (by omega)
  have ij := vIdxStr (g := g) (k := k) (cap := cap) (m := l.length) (i := j1) (j := .i64) (by omega)
  have xi := vGetStr hv1 ji1
  have xj := vGetStr hv1 jj1
  have yi : IntKind.wrap .i64 ((i1 : Int) + 1) = ((i1 + 1 : Nat) : Int) := by rw [wrap64 (by omega) (by omega)]; rfl
  have yj : IntKind.wrap .i64 ((j1 : Int) - 1) = ((j1 - 1 : Nat) : Int) := by rw [wrap64 (by omega) (by omega)]; omega
  obtain ⟨L1, L2, d1, d2, hv2, hc2, d5⟩ := vSwapStr hv1 hc1.wf ji1 jj1
  refine (wp_free (by kernel_rfl)).2 ?_
  simp only [↓Sh.dn, sx, Nat.reduceBEq, reduceCtorEq, Nat.reduceEqDiff, w0, w1, wi, wj, ii, ij, xi, xj, vStoStr, d1, d2, yi, yj]
  -- what a swap of a pair does
  have pair : ∀ (l1 : List ByteArray) (i0 i1 j0 j1 : Nat), l1.length = l.length → l1[a]? = some pv → a + 1 ≤ i0 → i0 ≤ i1 → i1 < j1 → j1 ≤ j0 → j0 < b → (∀ (q : Nat) x, a + 1 ≤ q → q < i1 → l1[q]? = some x → strLt x pv = true) → (∀ (q : Nat) x, j1 < q → q < b → l1[q]? = some x → strLt x pv = false) →
      (∀ x, l1[i1]? = some x → strLt x pv = false) → (∀ x, l1[j1]? = some x → strLt x pv = true) → (swp l1 i1 j1)[a]? = some pv ∧ (∀ (q : Nat) x, a + 1 ≤ q → q < i1 + 1 → (swp l1 i1 j1)[q]? = some x → strLt x pv = true) ∧ (∀ (q : Nat) x, j1 - 1 < q → q < b → (swp l1 i1 j1)[q]? = some x → strLt x pv = false) := by
    intro l1 i0 i1 j0 j1 hlen hp h1 h2 h3 h4 h5 hA hB hi hj
    have ji : i1 < l1.length := by omega
    have jj : j1 < l1.length := by omega
    refine ⟨by rw [swp_get ji jj, if_neg (by omega), if_neg (by omega)]; exact hp, fun q x hq1 hq2 hx => ?_, fun q x hq1 hq2 hx => ?_⟩
    · rw [swp_get ji jj, if_neg (by omega)] at hx
      by_cases h : q = i1
      · rw [if_pos h] at hx; exact hj x hx
      · rw [if_neg h] at hx; exact hA q x hq1 (by omega) hx
    · rw [swp_get ji jj] at hx
      by_cases h : q = j1
      · rw [if_pos h] at hx; exact hi x hx
      · rw [if_neg h, if_neg (by omega)] at hx; exact hB q x (by omega) hq2 hx
  obtain ⟨s1, s2, s3⟩ := pair l1 (a + 1) i1 (b - 1) j1 (by omega) hpa (Nat.le_refl _) (by omega) hij (by omega) (by omega) u7 (fun q x h1 h2 hx => w7 q x h1 (by omega) hx) (u8 (by omega)) (w8 (by omega))
  refine wp_while (fun m F' H2 => ∃ (i j : Nat) (l1 : List ByteArray), m = j + 1 - i ∧ a + 1 ≤ i ∧ i ≤ j + 1 ∧ j < b ∧ Mix a b l l1 ∧ l1[a]? = some pv ∧ (∀ (q : Nat) x, a + 1 ≤ q → q < i → l1[q]? = some x → strLt x pv = true) ∧ (∀ (q : Nat) x, j < q → q < b → l1[q]? = some x → strLt x pv = false) ∧ VecStr H2 g k n l1 ∧ Chg (fun y => y = g) H H2 ∧
      F'.get 0 = some (.slice (some ⟨g, 0, some k⟩) l.length cap) ∧ F'.get 1 = some (.int .i64 (a : Int)) ∧ F'.get 10 = some (.int .i64 ((i : Nat) : Int)) ∧ F'.get 11 = some (.int .i64 ((j : Nat) : Int))) (m := j1 - 1 + 1 - (i1 + 1))
    ⟨i1 + 1, j1 - 1, swp l1 i1 j1, rfl, by omega, by omega, by omega, hm1.swap (by omega) (by omega) (by omega) (by omega), s1, s2, s3, hv2, hc1.trans hc2, by simp only [↓Sh.dn, sx, Nat.reduceBEq, reduceCtorEq, Nat.reduceEqDiff, w0], by simp only [↓Sh.dn, sx, Nat.reduceBEq, reduceCtorEq, Nat.reduceEqDiff, w1], by simp only [↓Sh.dn, sx, Nat.reduceBEq, reduceCtorEq, Nat.reduceEqDiff], by simp only [↓Sh.dn, sx, Nat.reduceBEq, reduceCtorEq, Nat.reduceEqDiff]⟩ ?_
  clear xa xi xj hpa hm1 hv1 hlen ji1 jj1 s1 s2 s3 hv2 d1 d2 u7 u8 w7 w8
  clear hL0
  rintro m F H2 ⟨i0, j0, l1, rfl, hi0, hij0, hj0, hm1, hpa, hA, hB, hv1, hc1, f0, f1, fi, fj⟩ kk
  have hlen := hm1.length
  have xa : H2.cell ⟨g, a, some k⟩ = some (Value.string pv) := hv1.cell (by simp [hpa])
  simp only [↓Sh.dn, sx, Nat.reduceBEq, reduceCtorEq, Nat.reduceEqDiff]
  obtain ⟨MF3, hMF3⟩ : ∃ M : Fr → AH → Prop, M = fun F' H9 => H2 = H9 ∧ ∃ v : Nat, F'.get 0 = some (.slice (some ⟨g, 0, some k⟩) l.length cap) ∧ F'.get 1 = some (.int .i64 (a : Int)) ∧ F'.get 10 = some (.int .i64 ((v : Nat) : Int)) ∧ F'.get 11 = some (.int .i64 ((j0 : Nat) : Int)) ∧ i0 ≤ v ∧ v ≤ j0 + 1 ∧ (∀ (q : Nat) x, i0 ≤ q → q < v → l1[q]? = some x → strLt x pv = true) ∧ (v ≤ j0 → ∀ x, l1[v]? = some x → strLt x pv = false) := ⟨_, rfl⟩
  refine wp_lp MF3 (by rfl) ?_ ?_
  · refine wp_while (fun m F' H9 => H2 = H9 ∧ ∃ v : Nat, m = j0 + 1 - v ∧ F'.get 0 = some (.slice (some ⟨g, 0, some k⟩) l.length cap) ∧ F'.get 1 = some (.int .i64 (a : Int)) ∧ F'.get 10 = some (.int .i64 ((v : Nat) : Int)) ∧ F'.get 11 = some (.int .i64 ((j0 : Nat) : Int)) ∧ i0 ≤ v ∧ v ≤ j0 + 1 ∧ (∀ (q : Nat) x, i0 ≤ q → q < v → l1[q]? = some x → strLt x pv = true)) (m := j0 + 1 - i0)
      ⟨rfl, i0, rfl, by simp only [↓Sh.dn, sx, Nat.reduceBEq, reduceCtorEq, Nat.reduceEqDiff, f0], by simp only [↓Sh.dn, sx, Nat.reduceBEq, reduceCtorEq, Nat.reduceEqDiff, f1], by simp only [↓Sh.dn, sx, Nat.reduceBEq, reduceCtorEq, Nat.reduceEqDiff, fi], by simp only [↓Sh.dn, sx, Nat.reduceBEq, reduceCtorEq, Nat.reduceEqDiff, fj], by omega, by omega, fun q x h1 h2 => by omega⟩ ?_
    rintro m F' H9 ⟨rfl, v, rfl, g0, g1, gi, gj, h1, h2, h3⟩ k2
    simp only [↓Sh.dn, sx, Nat.reduceBEq, reduceCtorEq, Nat.reduceEqDiff]
    refine (wp_free (by kernel_rfl)).2 ?_
    by_cases hle : v ≤ j0
    · have jv : v < l1.length := by omega
      have iv := vIdxStr (g := g) (k := k) (cap := cap) (m := l.length) (i := v) (j := .i64) (by omega)
      have xv := vGetStr hv1 jv
      have qv : l1[v]? = some l1[v] := List.getElem?_eq_getElem jv
      have wv : IntKind.wrap .i64 ((v : Int) + 1) = ((v + 1 : Nat) : Int) := by rw [wrap64 (by omega) (by omega)]; rfl
      simp only [↓Sh.dn, sx, Nat.reduceBEq, reduceCtorEq, Nat.reduceEqDiff, g0, g1, gi, gj, nat_le, hle, decide_true, iv, ia, xv, xa]
      refine ⟨_, _, cmpLessDoesStr, ?_⟩
      cases hlt : strLt l1[v] pv with
      | true =>
        simp only [↓Sh.dn, sx, Nat.reduceBEq, reduceCtorEq, Nat.reduceEqDiff, g0, g1, gi, gj, wv]
        refine k2 (j0 + 1 - (v + 1)) _ _ (by omega) ⟨rfl, v + 1, rfl, by simp only [↓Sh.dn, sx, Nat.reduceBEq, reduceCtorEq, Nat.reduceEqDiff, g0], by simp only [↓Sh.dn, sx, Nat.reduceBEq, reduceCtorEq, Nat.reduceEqDiff, g1], by simp only [↓Sh.dn, sx, Nat.reduceBEq, reduceCtorEq, Nat.reduceEqDiff, gi], by simp only [↓Sh.dn, sx, Nat.reduceBEq, reduceCtorEq, Nat.reduceEqDiff, gj], by omega, by omega, fun q x hq1 hq2 hx => ?_⟩
        · by_cases hq : q = v
          · subst hq; rw [qv] at hx; rw [← Option.some.inj hx]; exact hlt
          · exact h3 q x (by omega) (by omega) hx
      | false =>
        simp only [↓Sh.dn, sx, Nat.reduceBEq, reduceCtorEq, Nat.reduceEqDiff, hMF3, g0, g1, gi, gj]
        exact ⟨v, rfl, h1, h2, h3, fun _ x hx => by rw [qv] at hx; rw [← Option.some.inj hx]; exact hlt⟩
    · simp only [↓Sh.dn, sx, Nat.reduceBEq, reduceCtorEq, Nat.reduceEqDiff, hMF3, g0, g1, gi, gj, nat_le, hle, decide_false]
      exact ⟨v, rfl, h1, h2, h3, fun h => absurd h hle⟩
  intro F3 H9 h9
  rw [hMF3] at h9
  obtain ⟨rfl, i2, u0, u1, ui, uj, u5, u6, u7, u8⟩ := h9
  simp only [↓Sh.dn, sx, Nat.reduceBEq, reduceCtorEq, Nat.reduceEqDiff]
  obtain ⟨MF4, hMF4⟩ : ∃ M : Fr → AH → Prop, M = fun F' H9 => H2 = H9 ∧ ∃ v : Nat, F'.get 0 = some (.slice (some ⟨g, 0, some k⟩) l.length cap) ∧ F'.get 1 = some (.int .i64 (a : Int)) ∧ F'.get 10 = some (.int .i64 ((i2 : Nat) : Int)) ∧ F'.get 11 = some (.int .i64 ((v : Nat) : Int)) ∧ i2 ≤ v + 1 ∧ v ≤ j0 ∧ (∀ (q : Nat) x, v < q → q ≤ j0 → l1[q]? = some x → strLt x pv = false) ∧ (i2 ≤ v → ∀ x, l1[v]? = some x → strLt x pv = true) := ⟨_, rfl⟩
  refine wp_lp MF4 (by rfl) ?_ ?_
  · refine wp_while (fun m F' H9 => H2 = H9 ∧ ∃ v : Nat, m = v ∧ F'.get 0 = some (.slice (some ⟨g, 0, some k⟩) l.length cap) ∧ F'.get 1 = some (.int .i64 (a : Int)) ∧ F'.get 10 = some (.int .i64 ((i2 : Nat) : Int)) ∧ F'.get 11 = some (.int .i64 ((v : Nat) : Int)) ∧ i2 ≤ v + 1 ∧ v ≤ j0 ∧ (∀ (q : Nat) x, v < q → q ≤ j0 → l1[q]? = some x → strLt x pv = false)) (m := j0)
      ⟨rfl, j0, rfl, by simp only [↓Sh.dn, sx, Nat.reduceBEq, reduceCtorEq, Nat.reduceEqDiff, u0], by simp only [↓Sh.dn, sx, Nat.reduceBEq, reduceCtorEq, Nat.reduceEqDiff, u1], by simp only [↓Sh.dn, sx, Nat.reduceBEq, reduceCtorEq, Nat.reduceEqDiff, ui], by simp only [↓Sh.dn, sx, Nat.reduceBEq, reduceCtorEq, Nat.reduceEqDiff, uj], by omega, by omega, fun q x h1 h2 => by omega⟩ ?_
    rintro v F' H9 ⟨rfl, _, rfl, g0, g1, gi, gj, h1, h2, h3⟩ k2
    simp only [↓Sh.dn, sx, Nat.reduceBEq, reduceCtorEq, Nat.reduceEqDiff]
    refine (wp_free (by kernel_rfl)).2 ?_
    by_cases hle : i2 ≤ v
    · have jv : v < l1.length := by omega
      have iv := vIdxStr (g := g) (k := k) (cap := cap) (m := l.length) (i := v) (j := .i64) (by omega)
      have xv := vGetStr hv1 jv
      have qv : l1[v]? = some l1[v] := List.getElem?_eq_getElem jv
      have wv : IntKind.wrap .i64 ((v : Int) - 1) = ((v - 1 : Nat) : Int) := by rw [wrap64 (by omega) (by omega)]; omega
      simp only [↓Sh.dn, sx, Nat.reduceBEq, reduceCtorEq, Nat.reduceEqDiff, g0, g1, gi, gj, nat_le, hle, decide_true, iv, ia, xv, xa]
      refine ⟨_, _, cmpLessDoesStr, ?_⟩
      cases hlt : strLt l1[v] pv with
      | false =>
        simp only [↓Sh.dn, sx, Nat.reduceBEq, reduceCtorEq, Nat.reduceEqDiff, g0, g1, gi, gj, wv]
        refine k2 ((v - 1)) _ _ (by omega) ⟨rfl, v - 1, rfl, by simp only [↓Sh.dn, sx, Nat.reduceBEq, reduceCtorEq, Nat.reduceEqDiff, g0], by simp only [↓Sh.dn, sx, Nat.reduceBEq, reduceCtorEq, Nat.reduceEqDiff, g1], by simp only [↓Sh.dn, sx, Nat.reduceBEq, reduceCtorEq, Nat.reduceEqDiff, gi], by simp only [↓Sh.dn, sx, Nat.reduceBEq, reduceCtorEq, Nat.reduceEqDiff, gj], by omega, by omega, fun q x hq1 hq2 hx => ?_⟩
        · by_cases hq : q = v
          · subst hq; rw [qv] at hx; rw [← Option.some.inj hx]; exact hlt
          · exact h3 q x (by omega) (by omega) hx
      | true =>
        simp only [↓Sh.dn, sx, Nat.reduceBEq, reduceCtorEq, Nat.reduceEqDiff, hMF4, g0, g1, gi, gj]
        exact ⟨v, rfl, h1, h2, h3, fun _ x hx => by rw [qv] at hx; rw [← Option.some.inj hx]; exact hlt⟩
    · simp only [↓Sh.dn, sx, Nat.reduceBEq, reduceCtorEq, Nat.reduceEqDiff, hMF4, g0, g1, gi, gj, nat_le, hle, decide_false]
      exact ⟨v, rfl, h1, h2, h3, fun h => absurd h hle⟩
  intro F4 H9 h9
  rw [hMF4] at h9
  obtain ⟨rfl, j2, w0, w1, wi, wj, w5, w6, w7, w8⟩ := h9
  have hA2 : ∀ (q : Nat) x, a + 1 ≤ q → q < i2 → l1[q]? = some x → strLt x pv = true := by
    intro q x h1 h2 hx
    by_cases h : q < i0
    · exact hA q x h1 h hx
    · exact u7 q x (by omega) h2 hx
  have hB2 : ∀ (q : Nat) x, j2 < q → q < b → l1[q]? = some x → strLt x pv = false := by
    intro q x h1 h2 hx
    by_cases h : j0 < q
    · exact hB q x h h2 hx
    · exact w7 q x h1 (by omega) hx
  simp only [↓Sh.dn, sx, Nat.reduceBEq, reduceCtorEq, Nat.reduceEqDiff, wi, wj, nat_lt]
  by_cases hgt : j2 < i2
  · have jj : j2 < l1.length := by omega
    have ja1 : a < l1.length := by omega
    have ij := vIdxStr (g := g) (k := k) (cap := cap) (m := l.length) (i := j2) (j := .i64) (by omega)
    have xj := vGetStr hv1 jj
    have xa' := vGetStr hv1 ja1
    obtain ⟨L3, L4, d1, d2, hv2, hc2, d5⟩ := vSwapStr hv1 hc1.wf jj ja1
    obtain ⟨p1, p2, p3, p4⟩ := last l1 H1 i2 j2 hm1 hpa (by omega) (by omega) (fun q x h1 h2 hx => hA2 q x h1 (by omega) hx) (fun q x h1 h2 hx => hB2 q x h1 h2 hx)
    simp only [↓Sh.dn, sx, Nat.reduceBEq, reduceCtorEq, Nat.reduceEqDiff, hgt, decide_true]
    refine (wp_free (by kernel_rfl)).2 ?_
    simp only [↓Sh.dn, sx, Nat.reduceBEq, reduceCtorEq, Nat.reduceEqDiff, w0, w1, wi, wj, ij, ia, xj, xa', vStoStr, d1, d2, hres]
    exact ⟨j2, _, rfl, by omega, by omega, swp l1 j2 a, p1, pv, p2, p3, p4, hv2, hc1.trans hc2⟩
  simp only [↓Sh.dn, sx, Nat.reduceBEq, reduceCtorEq, Nat.reduceEqDiff, hgt, decide_false]
  have hij2 : i2 < j2 := by
    by_cases h : i2 = j2
    · have h1 := u8 (by omega)
      have h2 := w8 (by omega)
      obtain ⟨x, hx⟩ : ∃ x, l1[i2]? = some x := ⟨_, List.getElem?_eq_getElem (by omega)⟩
      have a1 := h1 x hx
      have a2 := h2 x (by rw [← h]; exact hx)
      rw [a1] at a2; cases a2
    · omega
  have ji1 : i2 < l1.length := by omega
  have jj1 : j2 < l1.length := by omega
  have ii2 := vIdxStr (g := g) (k := k) (cap := cap) (m := l.length) (i := i2) (j := .i64) (by omega)
  have ij2 := vIdxStr (g := g) (k := k) (cap := cap) (m := l.length) (i := j2) (j := .i64) (by omega)
  have xi := vGetStr hv1 ji1
  have xj := vGetStr hv1 jj1
  have yi2 : IntKind.wrap .i64 ((i2 : Int) + 1) = ((i2 + 1 : Nat) : Int) := by rw [wrap64 (by omega) (by omega)]; rfl
  have yj2 : IntKind.wrap .i64 ((j2 : Int) - 1) = ((j2 - 1 : Nat) : Int) := by rw [wrap64 (by omega) (by omega)]; omega
  obtain ⟨L3, L4, d1, d2, hv2, hc2, d5⟩ := vSwapStr hv1 hc1.wf ji1 jj1
  obtain ⟨s1, s2, s3⟩ := pair l1 i0 i2 j0 j2 (by omega) hpa hi0 (by omega) hij2 (by omega) (by omega) hA2 hB2 (u8 (by omega)) (w8 (by omega))
  refine (wp_free (by kernel_rfl)).2 ?_
  simp only [↓Sh.dn, sx, Nat.reduceBEq, reduceCtorEq, Nat.reduceEqDiff, w0, w1, wi, wj, ii2, ij2, xi, xj, vStoStr, d1, d2, yi2, yj2]
  exact kk (j2 - 1 + 1 - (i2 + 1)) _ _ (by omega) ⟨i2 + 1, j2 - 1, swp l1 i2 j2, rfl, by omega, by omega, by omega, hm1.swap (by omega) (by omega) (by omega) (by omega), s1, s2, s3, hv2, hc1.trans hc2, by simp only [↓Sh.dn, sx, Nat.reduceBEq, reduceCtorEq, Nat.reduceEqDiff, w0], by simp only [↓Sh.dn, sx, Nat.reduceBEq, reduceCtorEq, Nat.reduceEqDiff, w1], by simp only [↓Sh.dn, sx, Nat.reduceBEq, reduceCtorEq, Nat.reduceEqDiff], by simp only [↓Sh.dn, sx, Nat.reduceBEq, reduceCtorEq, Nat.reduceEqDiff]⟩
theorem partitionEqualStr {p : Nat} (hv : VecStr H g k n l) (hw : Wf H) (hl : l.length ≤ 1048576) (hap : a ≤ p) (hpb : p < b) (hb : b ≤ l.length) :
    Sh.Call Tryz.prog (knows 10) 147 [.slice (some ⟨g, 0, some k⟩) l.length cap, .int .i64 (a : Int), .int .i64 (b : Int), .int .i64 (p : Int)] H
      (fun r H' => ∃ m : Nat, r = .int .i64 (m : Int) ∧ a < m ∧ m ≤ b ∧ ∃ l' : List ByteArray, Mix a b l l' ∧ (∀ (q : Nat) x, a ≤ q → q < m → l'[q]? = some x → strLt l[p] x = false) ∧ (∀ (q : Nat) x, m ≤ q → q < b → l'[q]? = some x → strLt l[p] x = true) ∧ VecStr H' g k n l' ∧ Chg (fun y => y = g) H H') := by
  refine call_of rfl Tryz.func147 rfl (Nat.le_of_ble_eq_true rfl) ?_
  have hTO := strTO
  have ja : a < l.length := by omega
  have jp : p < l.length := by omega
  have ia := vIdxStr (g := g) (k := k) (cap := cap) (m := l.length) (i := a) (j := .i64) ja
  have ip := vIdxStr (g := g) (k := k) (cap := cap) (m := l.length) (i := p) (j := .i64) jp
  have xa := vGetStr hv ja
  have xp := vGetStr hv jp
  have wa : IntKind.wrap .i64 ((a : Int) + 1) = ((a + 1 : Nat) : Int) := by rw [wrap64 (by omega) (by omega)]; rfl
  have wb : IntKind.wrap .i64 ((b : Int) - 1) = ((b - 1 : Nat) : Int) := by rw [wrap64 (by omega) (by omega)]; omega
  obtain ⟨K1, H1, e1, e2, hv1, hc1, e5⟩ := vSwapStr hv hw ja jp
  have hm1 : Mix a b l (swp l a p) := (Mix.refl l).swap (by omega) (by omega) (by omega) (by omega)
  simp only [↓Sh.dn, sx, Nat.reduceBEq, reduceCtorEq, Nat.reduceEqDiff]
  refine (wp_free (by kernel_rfl)).2 ?_
  simp only [↓Sh.dn, sx, Nat.reduceBEq, reduceCtorEq, Nat.reduceEqDiff, ia, ip, xa, xp, vStoStr, e1, e2, wa, wb]
  have hpa : (swp l a p)[a]? = some l[p] := by
    rw [swp_get ja jp]
    by_cases h : a = p
    · rw [if_pos h, List.getElem?_eq_getElem ja]; simp only [h]
    · rw [if_neg h, if_pos rfl]; exact List.getElem?_eq_getElem jp
  generalize l[p] = pv at hpa xp e1 ⊢
  generalize hL0 : swp l a p = l0 at hpa hm1 hv1
  have hres : Tryz.f147.results.toList = [.tmp 8] := rfl
  have pair : ∀ (l1 : List ByteArray) (i1 j1 : Nat), l1.length = l.length → l1[a]? = some pv → a + 1 ≤ i1 → i1 < j1 → j1 < b → (∀ (q : Nat) x, a + 1 ≤ q → q < i1 → l1[q]? = some x → strLt pv x = false) → (∀ (q : Nat) x, j1 < q → q < b → l1[q]? = some x → strLt pv x = true) →
      (∀ x, l1[i1]? = some x → strLt pv x = true) → (∀ x, l1[j1]? = some x → strLt pv x = false) → (swp l1 i1 j1)[a]? = some pv ∧ (∀ (q : Nat) x, a + 1 ≤ q → q < i1 + 1 → (swp l1 i1 j1)[q]? = some x → strLt pv x = false) ∧ (∀ (q : Nat) x, j1 - 1 < q → q < b → (swp l1 i1 j1)[q]? = some x → strLt pv x = true) := by
    intro l1 i1 j1 hlen hp h1 h3 h5 hA hB hi hj
    have ji : i1 < l1.length := by omega
    have jj : j1 < l1.length := by omega
    refine ⟨by rw [swp_get ji jj, if_neg (by omega), if_neg (by omega)]; exact hp, fun q x hq1 hq2 hx => ?_, fun q x hq1 hq2 hx => ?_⟩
    · rw [swp_get ji jj, if_neg (by omega)] at hx
      by_cases h : q = i1
      · rw [if_pos h] at hx; exact hj x hx
      · rw [if_neg h] at hx; exact hA q x hq1 (by omega) hx
    · rw [swp_get ji jj] at hx
      by_cases h : q = j1
      · rw [if_pos h] at hx; exact hi x hx
      · rw [if_neg h, if_neg (by omega)] at hx; exact hB q x (by omega) hq2 hx
  refine wp_while (fun m F' H2 => ∃ (i j : Nat) (l1 : List ByteArray), m = j + 1 - i ∧ a + 1 ≤ i ∧ i ≤ j + 1 ∧ j < b ∧ Mix a b l l1 ∧ l1[a]? = some pv ∧ (∀ (q : Nat) x, a + 1 ≤ q → q < i → l1[q]? = some x → strLt pv x = false) ∧ (∀ (q : Nat) x, j < q → q < b → l1[q]? = some x → strLt pv x = true) ∧ VecStr H2 g k n l1 ∧ Chg (fun y => y = g) H H2 ∧
      F'.get 0 = some (.slice (some ⟨g, 0, some k⟩) l.length cap) ∧ F'.get 1 = some (.int .i64 (a : Int)) ∧ F'.get 9 = some (.int .i64 ((i : Nat) : Int)) ∧ F'.get 10 = some (.int .i64 ((j : Nat) : Int))) (m := b - 1 + 1 - (a + 1))
    ⟨a + 1, b - 1, l0, rfl, by omega, by omega, by omega, hm1, hpa, fun q x h1 h2 => by omega, fun q x h1 h2 => by omega, hv1, hc1, by simp only [↓Sh.dn, sx, Nat.reduceBEq, reduceCtorEq, Nat.reduceEqDiff], by simp only [↓Sh.dn, sx, Nat.reduceBEq, reduceCtorEq, Nat.reduceEqDiff], by simp only [↓Sh.dn, sx, Nat.reduceBEq, reduceCtorEq, Nat.reduceEqDiff], by simp only [↓Sh.dn, sx, Nat.reduceBEq, reduceCtorEq, Nat.reduceEqDiff]⟩ ?_
  clear xa hpa hm1 hv1 
  clear hL0
  rintro m F H2 ⟨i0, j0, l1, rfl, hi0, hij0, hj0, hm1, hpa, hA, hB, hv1, hc1, f0, f1, fi, fj⟩ kk
  have hlen := hm1.length
  have xa : H2.cell ⟨g, a, some k⟩ = some (Value.string pv) := hv1.cell (by simp [hpa])
  simp only [↓Sh.dn, sx, Nat.reduceBEq, reduceCtorEq, Nat.reduceEqDiff]
  obtain ⟨MF3, hMF3⟩ : ∃ M : Fr → AH → Prop, M = fun F' H9 => H2 = H9 ∧ ∃ v : Nat, F'.get 0 = some (.slice (some ⟨g, 0, some k⟩) l.length cap) ∧ F'.get 1 = some (.int .i64 (a : Int)) ∧ F'.get 9 = some (.int .i64 ((v : Nat) : Int)) ∧ F'.get 10 = some (.int .i64 ((j0 : Nat) : Int)) ∧ i0 ≤ v ∧ v ≤ j0 + 1 ∧ (∀ (q : Nat) x, i0 ≤ q → q < v → l1[q]? = some x → strLt pv x = false) ∧ (v ≤ j0 → ∀ x, l1[v]? = some x → strLt pv x = true) := ⟨_, rfl⟩
  refine wp_lp MF3 (by rfl) ?_ ?_
  · refine wp_while (fun m F' H9 => H2 = H9 ∧ ∃ v : Nat, m = j0 + 1 - v ∧ F'.get 0 = some (.slice (some ⟨g, 0, some k⟩) l.length cap) ∧ F'.get 1 = some (.int .i64 (a : Int)) ∧ F'.get 9 = some (.int .i64 ((v : Nat) : Int)) ∧ F'.get 10 = some (.int .i64 ((j0 : Nat) : Int)) ∧ i0 ≤ v ∧ v ≤ j0 + 1 ∧ (∀ (q : Nat) x, i0 ≤ q → q < v → l1[q]? = some x → strLt pv x = false)) (m := j0 + 1 - i0)
      ⟨rfl, i0, rfl, by simp only [↓Sh.dn, sx, Nat.reduceBEq, reduceCtorEq, Nat.reduceEqDiff, f0], by simp only [↓Sh.dn, sx, Nat.reduceBEq, reduceCtorEq, Nat.reduceEqDiff, f1], by simp only [↓Sh.dn, sx, Nat.reduceBEq, reduceCtorEq, Nat.reduceEqDiff, fi], by simp only [↓Sh.dn, sx, Nat.reduceBEq, reduceCtorEq, Nat.reduceEqDiff, fj], by omega, by omega, fun q x h1 h2 => by omega⟩ ?_
    rintro m F' H9 ⟨rfl, v, rfl, g0, g1, gi, gj, h1, h2, h3⟩ k2
    simp only [↓Sh.dn, sx, Nat.reduceBEq, reduceCtorEq, Nat.reduceEqDiff]
    refine (wp_free (by kernel_rfl)).2 ?_
    by_cases hle : v ≤ j0
    · have jv : v < l1.length := by omega
      have iv := vIdxStr (g := g) (k := k) (cap := cap) (m := l.length) (i := v) (j := .i64) (by omega)
      have xv := vGetStr hv1 jv
      have qv : l1[v]? = some l1[v] := List.getElem?_eq_getElem jv
      have wv : IntKind.wrap .i64 ((v : Int) + 1) = ((v + 1 : Nat) : Int) := by rw [wrap64 (by omega) (by omega)]; rfl
      simp only [↓Sh.dn, sx, Nat.reduceBEq, reduceCtorEq, Nat.reduceEqDiff, g0, g1, gi, gj, nat_le, hle, decide_true, iv, ia, xv, xa]
      refine ⟨_, _, cmpLessDoesStr, ?_⟩
      cases hlt : strLt pv l1[v] with
      | false =>
        simp only [↓Sh.dn, sx, Nat.reduceBEq, reduceCtorEq, Nat.reduceEqDiff, g0, g1, gi, gj, wv]
        refine k2 (j0 + 1 - (v + 1)) _ _ (by omega) ⟨rfl, v + 1, rfl, by simp only [↓Sh.dn, sx, Nat.reduceBEq, reduceCtorEq, Nat.reduceEqDiff, g0], by simp only [↓Sh.dn, sx, Nat.reduceBEq, reduceCtorEq, Nat.reduceEqDiff, g1], by simp only [↓Sh.dn, sx, Nat.reduceBEq, reduceCtorEq, Nat.reduceEqDiff, gi], by simp only [↓Sh.dn, sx, Nat.reduceBEq, reduceCtorEq, Nat.reduceEqDiff, gj], by omega, by omega, fun q x hq1 hq2 hx => ?_⟩
        · by_cases hq : q = v
          · subst hq; rw [qv] at hx; rw [← Option.some.inj hx]; exact hlt
          · exact h3 q x (by omega) (by omega) hx
      | true =>
        simp only [↓Sh.dn, sx, Nat.reduceBEq, reduceCtorEq, Nat.reduceEqDiff, hMF3, g0, g1, gi, gj]
        exact ⟨v, rfl, h1, h2, h3, fun _ x hx => by rw [qv] at hx; rw [← Option.some.inj hx]; exact hlt⟩
    · simp only [↓Sh.dn, sx, Nat.reduceBEq, reduceCtorEq, Nat.reduceEqDiff, hMF3, g0, g1, gi, gj, nat_le, hle, decide_false]
      exact ⟨v, rfl, h1, h2, h3, fun h => absurd h hle⟩
  intro F3 H9 h9
  rw [hMF3] at h9
  obtain ⟨rfl, i2, u0, u1, ui, uj, u5, u6, u7, u8⟩ := h9
  simp only [↓Sh.dn, sx, Nat.reduceBEq, reduceCtorEq, Nat.reduceEqDiff]
  obtain ⟨MF4, hMF4⟩ : ∃ M : Fr → AH → Prop, M = fun F' H9 => H2 = H9 ∧ ∃ v : Nat, F'.get 0 = some (.slice (some ⟨g, 0, some k⟩) l.length cap) ∧ F'.get 1 = some (.int .i64 (a : Int)) ∧ F'.get 9 = some (.int .i64 ((i2 : Nat) : Int)) ∧ F'.get 10 = some (.int .i64 ((v : Nat) : Int)) ∧ i2 ≤ v + 1 ∧ v ≤ j0 ∧ (∀ (q : Nat) x, v < q → q ≤ j0 → l1[q]? = some x → strLt pv x = true) ∧ (i2 ≤ v → ∀ x, l1[v]? = some x → strLt pv x = false) := ⟨_, rfl⟩
  refine wp_lp MF4 (by rfl) ?_ ?_
  · refine wp_while (fun m F' H9 => H2 = H9 ∧ ∃ v : Nat, m = v ∧ F'.get 0 = some (.slice (some ⟨g, 0, some k⟩) l.length cap) ∧ F'.get 1 = some (.int .i64 (a : Int)) ∧ F'.get 9 = some (.int .i64 ((i2 : Nat) : Int)) ∧ F'.get 10 = some (.int .i64 ((v : Nat) : Int)) ∧ i2 ≤ v + 1 ∧ v ≤ j0 ∧ (∀ (q : Nat) x, v < q → q ≤ j0 → l1[q]? = some x → strLt pv x = true)) (m := j0)
      ⟨rfl, j0, rfl, by simp only [↓Sh.dn, sx, Nat.reduceBEq, reduceCtorEq, Nat.reduceEqDiff, u0], by simp only [↓Sh.dn, sx, Nat.reduceBEq, reduceCtorEq, Nat.reduceEqDiff, u1], by simp only [↓Sh.dn, sx, Nat.reduceBEq, reduceCtorEq, Nat.reduceEqDiff, ui], by simp only [↓Sh.dn, sx, Nat.reduceBEq, reduceCtorEq, Nat.reduceEqDiff, uj], by omega, by omega, fun q x h1 h2 => by omega⟩ ?_
    rintro v F' H9 ⟨rfl, _, rfl, g0, g1, gi, gj, h1, h2, h3⟩ k2
    simp only [↓Sh.dn, sx, Nat.reduceBEq, reduceCtorEq, Nat.reduceEqDiff]
    refine (wp_free (by kernel_rfl)).2 ?_
    by_cases hle : i2 ≤ v
    · have jv : v < l1.length := by omega
      have iv := vIdxStr (g := g) (k := k) (cap := cap) (m := l.length) (i := v) (j := .i64) (by omega)
      have xv := vGetStr hv1 jv
      have qv : l1[v]? = some l1[v] := List.getElem?_eq_getElem jv
      have wv : IntKind.wrap .i64 ((v : Int) - 1) = ((v - 1 : Nat) : Int) := by rw [wrap64 (by omega) (by omega)]; omega
      simp only [↓Sh.dn, sx, Nat.reduceBEq, reduceCtorEq, Nat.reduceEqDiff, g0, g1, gi, gj, nat_le, hle, decide_true, iv, ia, xv, xa]
      refine ⟨_, _, cmpLessDoesStr, ?_⟩
      cases hlt : strLt pv l1[v] with
      | true =>
        simp only [↓Sh.dn, sx, Nat.reduceBEq, reduceCtorEq, Nat.reduceEqDiff, g0, g1, gi, gj, wv]
        refine k2 ((v - 1)) _ _ (by omega) ⟨rfl, v - 1, rfl, by simp only [↓Sh.dn, sx, Nat.reduceBEq, reduceCtorEq, Nat.reduceEqDiff, g0], by simp only [↓Sh.dn, sx, Nat.reduceBEq, reduceCtorEq, Nat.reduceEqDiff, g1], by simp only [↓Sh.dn, sx, Nat.reduceBEq, reduceCtorEq, Nat.reduceEqDiff, gi], by simp only [↓Sh.dn, sx, Nat.reduceBEq, reduceCtorEq, Nat.reduceEqDiff, gj], by omega, by omega, fun q x hq1 hq2 hx => ?_⟩
        · by_cases hq : q = v
          · subst hq; rw [qv] at hx; rw [← Option.some.inj hx]; exact hlt
          · exact h3 q x (by omega) (by omega) hx
      | false =>
        simp only [↓Sh.dn, sx, Nat.reduceBEq, reduceCtorEq, Nat.reduceEqDiff, hMF4, g0, g1, gi, gj]
        exact ⟨v, rfl, h1, h2, h3, fun _ x hx => by rw [qv] at hx; rw [← Option.some.inj hx]; exact hlt⟩
    · simp only [↓Sh.dn, sx, Nat.reduceBEq, reduceCtorEq, Nat.reduceEqDiff, hMF4, g0, g1, gi, gj, nat_le, hle, decide_false]
      exact ⟨v, rfl, h1, h2, h3, fun h => absurd h hle⟩
  intro F4 H9 h9
  rw [hMF4] at h9
  obtain ⟨rfl, j2, w0, w1, wi, wj, w5, w6, w7, w8⟩ := h9
  have hA2 : ∀ (q : Nat) x, a + 1 ≤ q → q < i2 → l1[q]? = some x → strLt pv x = false := by
    intro q x h1 h2 hx
    by_cases h : q < i0
    · exact hA q x h1 h hx
    · exact u7 q x (by omega) h2 hx
  have hB2 : ∀ (q : Nat) x, j2 < q → q < b → l1[q]? = some x → strLt pv x = true := by
    intro q x h1 h2 hx
    by_cases h : j0 < q
    · exact hB q x h h2 hx
    · exact w7 q x h1 (by omega) hx
  simp only [↓Sh.dn, sx, Nat.reduceBEq, reduceCtorEq, Nat.reduceEqDiff, wi, wj, nat_lt]
  by_cases hgt : j2 < i2
  · simp only [↓Sh.dn, sx, Nat.reduceBEq, reduceCtorEq, Nat.reduceEqDiff, hgt, decide_true, wi, hres]
    refine ⟨i2, rfl, by omega, by omega, l1, hm1, fun q x h1 h2 hx => ?_, fun q x h1 h2 hx => hB2 q x (by omega) h2 hx, hv1, hc1⟩
    by_cases h : q = a
    · subst h; rw [hpa] at hx; rw [← Option.some.inj hx]; exact hTO.irrefl pv
    · exact hA2 q x (by omega) h2 hx
  simp only [↓Sh.dn, sx, Nat.reduceBEq, reduceCtorEq, Nat.reduceEqDiff, hgt, decide_false]
  have hij2 : i2 < j2 := by
    by_cases h : i2 = j2
    · have h1 := u8 (by omega)
      have h2 := w8 (by omega)
      obtain ⟨x, hx⟩ : ∃ x, l1[i2]? = some x := ⟨_, List.getElem?_eq_getElem (by omega)⟩
      have a1 := h1 x hx
      have a2 := h2 x (by rw [← h]; exact hx)
      rw [a1] at a2; cases a2
    · omega
  have ji1 : i2 < l1.length := by omega
  have jj1 : j2 < l1.length := by omega
  have ii2 := vIdxStr (g := g) (k := k) (cap := cap) (m := l.length) (i := i2) (j := .i64) (by omega)
  have ij2 := vIdxStr (g := g) (k := k) (cap := cap) (m := l.length) (i := j2) (j := .i64) (by omega)
  have xi := vGetStr hv1 ji1
  have xj := vGetStr hv1 jj1
  have yi2 : IntKind.wrap .i64 ((i2 : Int) + 1) = ((i2 + 1 : Nat) : Int) := by rw [wrap64 (by omega) (by omega)]; rfl
  have yj2 : IntKind.wrap .i64 ((j2 : Int) - 1) = ((j2 - 1 : Nat) : Int) := by rw [wrap64 (by omega) (by omega)]; omega
  obtain ⟨L3, L4, d1, d2, hv2, hc2, d5⟩ := vSwapStr hv1 hc1.wf ji1 jj1
  obtain ⟨s1, s2, s3⟩ := pair l1 i2 j2 (by omega) hpa (by omega) hij2 (by omega) hA2 hB2 (u8 (by omega)) (w8 (by omega))
  refine (wp_free (by kernel_rfl)).2 ?_
  simp only [↓Sh.dn, sx, Nat.reduceBEq, reduceCtorEq, Nat.reduceEqDiff, w0, w1, wi, wj, ii2, ij2, xi, xj, vStoStr, d1, d2, yi2, yj2]
  exact kk (j2 - 1 + 1 - (i2 + 1)) _ _ (by omega) ⟨i2 + 1, j2 - 1, swp l1 i2 j2, rfl, by omega, by omega, by omega, hm1.swap (by omega) (by omega) (by omega) (by omega), s1, s2, s3, hv2, hc1.trans hc2, by simp only [↓Sh.dn, sx, Nat.reduceBEq, reduceCtorEq, Nat.reduceEqDiff, w0], by simp only [↓Sh.dn, sx, Nat.reduceBEq, reduceCtorEq, Nat.reduceEqDiff, w1], by simp only [↓Sh.dn, sx, Nat.reduceBEq, reduceCtorEq, Nat.reduceEqDiff], by simp only [↓Sh.dn, sx, Nat.reduceBEq, reduceCtorEq, Nat.reduceEqDiff]⟩
end
end Go.Proofs.YtfcmpclbhnjkgaaGreat
/- partialInsertionSortOrdered. -/
set_option maxHeartbeats 4000000
set_option maxRecDepth 20000
set_option linter.unusedSimpArgs false
set_option linter.unusedVariables false
set_option pp.deepTerms.threshold 8
namespace Go.Proofs.YtfcmpclbhnjkgaaGreat
open Go Go.Proofs Go.Proofs.Sh
/-- Adjacent ones are in order. -/
def AdjStr (a i : Nat) (m : List ByteArray) : Prop := ∀ (p : Nat) x y, a ≤ p → p + 1 < i → m[p]? = some x → m[p + 1]? = some y → strLt y x = false
/-- What lies ahead of a range is not behind what lies in it. -/
def PreStr (a b : Nat) (l : List ByteArray) : Prop := ∀ (q : Nat) x y, 0 < a → l[a - 1]? = some y → a ≤ q → q < b → l[q]? = some x → strLt x y = false
theorem PreStr.mix {a b : Nat} {l m : List ByteArray} (h : PreStr a b l) (hm : Mix a b l m) (hb : b ≤ l.length) : PreStr a b m := by
  intro q x y h0 hy h1 h2 hx
  rw [hm.out (.inl (by omega))] at hy
  exact hm.all (p := fun x => strLt x y = false) hb (fun i z hi1 hi2 hz => h i z y h0 hy hi1 hi2 hz) q x h1 h2 hx
theorem partialInsertionStr {H : AH} {g k n cap a b : Nat} {l : List ByteArray} (hv : VecStr H g k n l) (hw : Wf H) (hl : l.length ≤ 1048576) (hab : a < b) (hb : b ≤ l.length) (hpre : PreStr a b l) :
    Sh.Call Tryz.prog (knows 10) 146 [.slice (some ⟨g, 0, some k⟩) l.length cap, .int .i64 (a : Int), .int .i64 (b : Int)] H
      (fun r H' => ∃ bb : Bool, r = .bool bb ∧ ∃ l', Mix a b l l' ∧ (bb = true → Srt strLt a b l') ∧ VecStr H' g k n l' ∧ Chg (fun y => y = g) H H') := by
  refine call_of rfl Tryz.func146 rfl (Nat.le_of_ble_eq_true rfl) ?_
  have hres : Tryz.f146.results.toList = [.tmp 6] := rfl
  have hTO := strTO
  have w1 : IntKind.wrap .i64 ((a : Int) + 1) = ((a + 1 : Nat) : Int) := by rw [wrap64 (by omega) (by omega)]; rfl
  have wba : IntKind.wrap .i64 ((b : Int) - (a : Int)) = ((b - a : Nat) : Int) := by rw [wrap64 (by omega) (by omega)]; omega
  simp only [↓Sh.dn, sx, Nat.reduceBEq, reduceCtorEq, Nat.reduceEqDiff, w1]
  refine wp_while (fun m F H' => ∃ (c i : Nat) (l1 : List ByteArray), m = 5 - c ∧ c ≤ 5 ∧ a + 1 ≤ i ∧ i ≤ b ∧ Mix a b l l1 ∧ AdjStr a i l1 ∧ VecStr H' g k n l1 ∧ Chg (fun y => y = g) H H' ∧
      F.get 0 = some (.slice (some ⟨g, 0, some k⟩) l.length cap) ∧ F.get 1 = some (.int .i64 (a : Int)) ∧ F.get 2 = some (.int .i64 (b : Int)) ∧ F.get 7 = some (.int .i64 (i : Int)) ∧ F.get 8 = some (.int .i64 (c : Int))) (m := 5)
    ⟨0, a + 1, l, rfl, by omega, by omega, by omega, .refl l, fun p x y h1 h2 => by omega, hv, Chg.refl hw, by simp only [↓Sh.dn, sx, Nat.reduceBEq, reduceCtorEq, Nat.reduceEqDiff], by simp only [↓Sh.dn, sx, Nat.reduceBEq, reduceCtorEq, Nat.reduceEqDiff], by simp only [↓Sh.dn, sx, Nat.reduceBEq, reduceCtorEq, Nat.reduceEqDiff], by simp only [↓Sh.dn, sx, Nat.reduceBEq, reduceCtorEq, Nat.reduceEqDiff], by simp only [↓Sh.dn, sx, Nat.reduceBEq, reduceCtorEq, Nat.reduceEqDiff]; rfl⟩ ?_
  rintro m F H' ⟨c, i, l1, rfl, hc5, hai, hib, hm, hadj, hv1, hc1, f0, f1, f2, f7, f8⟩ kk
  have hlen := hm.length
  by_cases hlt : c < 5
  case neg =>
    have d : decide ((c : Int) < 5) = false := by simp; omega
    simp only [↓Sh.dn, sx, Nat.reduceBEq, reduceCtorEq, Nat.reduceEqDiff, f8, d, hres]
    exact ⟨l1, hm, hv1, hc1⟩
  have d : decide ((c : Int) < 5) = true := by simp; omega
  simp only [↓Sh.dn, sx, Nat.reduceBEq, reduceCtorEq, Nat.reduceEqDiff, f8, d]
  -- as long as they are in order
  obtain ⟨M1, hM1⟩ : ∃ M : Fr → AH → Prop, M = fun F' H9 => H' = H9 ∧ ∃ v : Nat, F'.get 0 = some (.slice (some ⟨g, 0, some k⟩) l.length cap) ∧ F'.get 1 = some (.int .i64 (a : Int)) ∧ F'.get 2 = some (.int .i64 (b : Int)) ∧ F'.get 7 = some (.int .i64 (v : Int)) ∧ F'.get 8 = some (.int .i64 (c : Int)) ∧
      i ≤ v ∧ v ≤ b ∧ AdjStr a v l1 := ⟨_, rfl⟩
  refine wp_lp M1 (by rfl) ?_ ?_
  · refine wp_while (fun m F' H9 => H' = H9 ∧ ∃ v : Nat, m = b - v ∧ F'.get 0 = some (.slice (some ⟨g, 0, some k⟩) l.length cap) ∧ F'.get 1 = some (.int .i64 (a : Int)) ∧ F'.get 2 = some (.int .i64 (b : Int)) ∧ F'.get 7 = some (.int .i64 (v : Int)) ∧ F'.get 8 = some (.int .i64 (c : Int)) ∧
      i ≤ v ∧ v ≤ b ∧ AdjStr a v l1) (m := b - i)
      ⟨rfl, i, rfl, by simp only [↓Sh.dn, sx, Nat.reduceBEq, reduceCtorEq, Nat.reduceEqDiff, f0], by simp only [↓Sh.dn, sx, Nat.reduceBEq, reduceCtorEq, Nat.reduceEqDiff, f1], by simp only [↓Sh.dn, sx, Nat.reduceBEq, reduceCtorEq, Nat.reduceEqDiff, f2], by simp only [↓Sh.dn, sx, Nat.reduceBEq, reduceCtorEq, Nat.reduceEqDiff, f7], by simp only [↓Sh.dn, sx, Nat.reduceBEq, reduceCtorEq, Nat.reduceEqDiff, f8], Nat.le_refl _, hib, hadj⟩ ?_
    rintro m F' H9 ⟨rfl, v, rfl, g0, g1, g2, g7, g8, h1, h2, h3⟩ k2
    simp only [↓Sh.dn, sx, Nat.reduceBEq, reduceCtorEq, Nat.reduceEqDiff]
    refine (wp_free (by kernel_rfl)).2 ?_
    by_cases hvb : v < b
    · have jv : v < l1.length := by omega
      have jw : v - 1 < l1.length := by omega
      have iv := vIdxStr (g := g) (k := k) (cap := cap) (m := l.length) (i := v) (j := .i64) (by omega)
      have iw := vIdxStr (g := g) (k := k) (cap := cap) (m := l.length) (i := v - 1) (j := .i64) (by omega)
      have xv := vGetStr hv1 jv
      have xw := vGetStr hv1 jw
      have wv : IntKind.wrap .i64 ((v : Int) - 1) = ((v - 1 : Nat) : Int) := by rw [wrap64 (by omega) (by omega)]; omega
      have wv2 : IntKind.wrap .i64 ((v : Int) + 1) = ((v + 1 : Nat) : Int) := by rw [wrap64 (by omega) (by omega)]; rfl
      simp only [↓Sh.dn, sx, Nat.reduceBEq, reduceCtorEq, Nat.reduceEqDiff, g0, g1, g2, g7, nat_lt, hvb, decide_true, wv, iv, iw, xv, xw]
      refine ⟨_, _, cmpLessDoesStr, ?_⟩
      cases hq : strLt l1[v] l1[v - 1] with
      | false =>
        simp only [↓Sh.dn, sx, Nat.reduceBEq, reduceCtorEq, Nat.reduceEqDiff, g7, wv2]
        refine k2 (b - (v + 1)) _ _ (by omega) ⟨rfl, v + 1, rfl, by simp only [↓Sh.dn, sx, Nat.reduceBEq, reduceCtorEq, Nat.reduceEqDiff, g0], by simp only [↓Sh.dn, sx, Nat.reduceBEq, reduceCtorEq, Nat.reduceEqDiff, g1], by simp only [↓Sh.dn, sx, Nat.reduceBEq, reduceCtorEq, Nat.reduceEqDiff, g2], by simp only [↓Sh.dn, sx, Nat.reduceBEq, reduceCtorEq, Nat.reduceEqDiff], by simp only [↓Sh.dn, sx, Nat.reduceBEq, reduceCtorEq, Nat.reduceEqDiff, g8], by omega, by omega, fun p x y hp1 hp2 hx hy => ?_⟩
        by_cases hpv : p + 1 = v
        · have e1 : l1[v]? = some l1[v] := List.getElem?_eq_getElem jv
          have e2 : l1[v - 1]? = some l1[v - 1] := List.getElem?_eq_getElem jw
          rw [hpv, e1] at hy
          rw [show p = v - 1 by omega, e2] at hx
          rw [← Option.some.inj hx, ← Option.some.inj hy]; exact hq
        · exact h3 p x y hp1 (by omega) hx hy
      | true =>
        simp only [↓Sh.dn, sx, Nat.reduceBEq, reduceCtorEq, Nat.reduceEqDiff, hM1, g0, g1, g2, g7, g8]
        exact ⟨v, rfl, h1, h2, h3⟩
    · simp only [↓Sh.dn, sx, Nat.reduceBEq, reduceCtorEq, Nat.reduceEqDiff, hM1, g0, g1, g2, g7, g8, nat_lt, hvb, decide_false]
      exact ⟨v, rfl, h1, h2, h3⟩
  intro F1 H9 h9
  rw [hM1] at h9
  obtain ⟨rfl, v, f0, f1, f2, f7, f8, hiv, hvb, hadj⟩ := h9
  by_cases hend : v = b
  · have d : decide ((v : Int) = (b : Int)) = true := by simp [hend]
    simp only [↓Sh.dn, sx, Nat.reduceBEq, reduceCtorEq, Nat.reduceEqDiff, f2, f7, d, hres]
    exact ⟨l1, hm, srt_step hTO (by rw [← hend]; exact hadj), hv1, hc1⟩
  have d : decide ((v : Int) = (b : Int)) = false := by simp; omega
  simp only [↓Sh.dn, sx, Nat.reduceBEq, reduceCtorEq, Nat.reduceEqDiff, f1, f2, f7, d, wba]
  by_cases h50 : b - a < 50
  · have d : decide (((b - a : Nat) : Int) < 50) = true := by simp; omega
    simp only [↓Sh.dn, sx, Nat.reduceBEq, reduceCtorEq, Nat.reduceEqDiff, d, hres]
    exact ⟨l1, hm, hv1, hc1⟩
  have d : decide (((b - a : Nat) : Int) < 50) = false := by simp; omega
  simp only [↓Sh.dn, sx, Nat.reduceBEq, reduceCtorEq, Nat.reduceEqDiff, d]
  -- the pair that is not in order
  have jv : v < l1.length := by omega
  have jw : v - 1 < l1.length := by omega
  have iv := vIdxStr (g := g) (k := k) (cap := cap) (m := l.length) (i := v) (j := .i64) (by omega)
  have iw := vIdxStr (g := g) (k := k) (cap := cap) (m := l.length) (i := v - 1) (j := .i64) (by omega)
  have xv := vGetStr hv1 jv
  have xw := vGetStr hv1 jw
  have wv : IntKind.wrap .i64 ((v : Int) - 1) = ((v - 1 : Nat) : Int) := by rw [wrap64 (by omega) (by omega)]; omega
  have wv2 : IntKind.wrap .i64 ((v : Int) + 1) = ((v + 1 : Nat) : Int) := by rw [wrap64 (by omega) (by omega)]; rfl
  have wva : IntKind.wrap .i64 ((v : Int) - (a : Int)) = ((v - a : Nat) : Int) := by rw [wrap64 (by omega) (by omega)]; omega
  have wbv : IntKind.wrap .i64 ((b : Int) - (v : Int)) = ((b - v : Nat) : Int) := by rw [wrap64 (by omega) (by omega)]; omega
  have wc : IntKind.wrap .i64 ((c : Int) + 1) = ((c + 1 : Nat) : Int) := by rw [wrap64 (by omega) (by omega)]; rfl
  obtain ⟨L1, L2, d1, d2, hv2, hc2, d5⟩ := vSwapStr hv1 hc1.wf jv jw
  have hm2 : Mix a b l (swp l1 v (v - 1)) := hm.swap (by omega) (by omega) (by omega) (by omega)
  refine (wp_free (by kernel_rfl)).2 ?_
  simp only [↓Sh.dn, sx, Nat.reduceBEq, reduceCtorEq, Nat.reduceEqDiff, f0, f1, f7, wv, iv, iw, xv, xw, vStoStr, d1, d2, wva]
  have hA2 : ∀ (p : Nat) x y, a ≤ p → p + 1 < v → p + 1 ≠ v - 1 → (swp l1 v (v - 1))[p]? = some x → (swp l1 v (v - 1))[p + 1]? = some y → strLt y x = false := by
    intro p x y h1 h2 h3 hx hy
    rw [swp_get jv jw, if_neg (by omega), if_neg (by omega)] at hx hy
    exact hadj p x y h1 (by omega) hx hy
  have hc12 := hc1.trans hc2
  generalize swp l1 v (v - 1) = l2 at hv2 hm2 hA2
  -- the lesser one goes down
  obtain ⟨M2, hM2⟩ : ∃ M : Fr → AH → Prop, M = fun F' H9 => ∃ l3 : List ByteArray, Mix a b l l3 ∧ AdjStr a v l3 ∧ VecStr H9 g k n l3 ∧ Chg (fun y => y = g) H H9 ∧ F'.get 0 = some (.slice (some ⟨g, 0, some k⟩) l.length cap) ∧ F'.get 1 = some (.int .i64 (a : Int)) ∧ F'.get 2 = some (.int .i64 (b : Int)) ∧ F'.get 7 = some (.int .i64 (v : Int)) ∧ F'.get 8 = some (.int .i64 (c : Int)) := ⟨_, rfl⟩
  refine wp_if M2 (by rfl) ?_ ?_
  · by_cases hva : 2 ≤ v - a
    case neg =>
      have d : decide ((2 : Int) ≤ ((v - a : Nat) : Int)) = false := by simp; omega
      simp only [↓Sh.dn, sx, Nat.reduceBEq, reduceCtorEq, Nat.reduceEqDiff, d, hM2, f0, f1, f2, f7, f8]
      exact ⟨l2, hm2, fun p x y h1 h2 hx hy => by omega, hv2, hc12⟩
    have d : decide ((2 : Int) ≤ ((v - a : Nat) : Int)) = true := by simp; omega
    simp only [↓Sh.dn, sx, Nat.reduceBEq, reduceCtorEq, Nat.reduceEqDiff, d, f7, wv]
    refine wp_while (fun j F' H9 => ∃ l3 : List ByteArray, a ≤ j ∧ j ≤ v - 1 ∧ Mix a b l l3 ∧ (∀ (p : Nat) x y, a ≤ p → p + 1 < v → p + 1 ≠ j → l3[p]? = some x → l3[p + 1]? = some y → strLt y x = false) ∧ (∀ x y, a < j → j + 1 < v → l3[j - 1]? = some x → l3[j + 1]? = some y → strLt y x = false) ∧ VecStr H9 g k n l3 ∧ Chg (fun y => y = g) H H9 ∧
        F'.get 0 = some (.slice (some ⟨g, 0, some k⟩) l.length cap) ∧ F'.get 1 = some (.int .i64 (a : Int)) ∧ F'.get 2 = some (.int .i64 (b : Int)) ∧ F'.get 7 = some (.int .i64 (v : Int)) ∧ F'.get 8 = some (.int .i64 (c : Int)) ∧ F'.get 9 = some (.int .i64 (j : Int))) (m := v - 1)
      ⟨l2, by omega, Nat.le_refl _, hm2, hA2, fun x y h1 h2 => by omega, hv2, hc12, by simp only [↓Sh.dn, sx, Nat.reduceBEq, reduceCtorEq, Nat.reduceEqDiff, f0], by simp only [↓Sh.dn, sx, Nat.reduceBEq, reduceCtorEq, Nat.reduceEqDiff, f1], by simp only [↓Sh.dn, sx, Nat.reduceBEq, reduceCtorEq, Nat.reduceEqDiff, f2], by simp only [↓Sh.dn, sx, Nat.reduceBEq, reduceCtorEq, Nat.reduceEqDiff, f7], by simp only [↓Sh.dn, sx, Nat.reduceBEq, reduceCtorEq, Nat.reduceEqDiff, f8], by simp only [↓Sh.dn, sx, Nat.reduceBEq, reduceCtorEq, Nat.reduceEqDiff]⟩ ?_
    rintro j F' H9 ⟨l3, haj, hjv, hm3, hA, hB, hv3, hc3, g0, g1, g2, g7, g8, g9⟩ k2
    have hlen3 := hm3.length
    have hall : j = a → AdjStr a v l3 := fun h p x y h1 h2 hx hy => hA p x y h1 h2 (by omega) hx hy
    by_cases hj0 : 1 ≤ j
    case neg =>
      have d : decide ((1 : Int) ≤ (j : Int)) = false := by simp; omega
      simp only [↓Sh.dn, sx, Nat.reduceBEq, reduceCtorEq, Nat.reduceEqDiff, g9, d, hM2, g0, g1, g2, g7, g8]
      exact ⟨l3, hm3, hall (by omega), hv3, hc3⟩
    have d : decide ((1 : Int) ≤ (j : Int)) = true := by simp; omega
    have jj : j < l3.length := by omega
    have jj1 : j - 1 < l3.length := by omega
    have ij := vIdxStr (g := g) (k := k) (cap := cap) (m := l.length) (i := j) (j := .i64) (by omega)
    have ij1 := vIdxStr (g := g) (k := k) (cap := cap) (m := l.length) (i := j - 1) (j := .i64) (by omega)
    have xj := vGetStr hv3 jj
    have xj1 := vGetStr hv3 jj1
    have q1 : l3[j]? = some l3[j] := List.getElem?_eq_getElem jj
    have q2 : l3[j - 1]? = some l3[j - 1] := List.getElem?_eq_getElem jj1
    have wj : IntKind.wrap .i64 ((j : Int) - 1) = ((j - 1 : Nat) : Int) := by rw [wrap64 (by omega) (by omega)]; omega
    simp only [↓Sh.dn, sx, Nat.reduceBEq, reduceCtorEq, Nat.reduceEqDiff, g9, d]
    refine (wp_free (by kernel_rfl)).2 ?_
    simp only [↓Sh.dn, sx, Nat.reduceBEq, reduceCtorEq, Nat.reduceEqDiff, g0, g9, wj, ij, ij1, xj, xj1]
    refine ⟨_, _, cmpLessDoesStr, ?_⟩
    cases hq : strLt l3[j] l3[j - 1] with
    | false =>
      simp only [↓Sh.dn, sx, Nat.reduceBEq, reduceCtorEq, Nat.reduceEqDiff, hM2, g0, g1, g2, g7, g8]
      refine ⟨l3, hm3, fun p x y h1 h2 hx hy => ?_, hv3, hc3⟩
      by_cases hp : p + 1 = j
      · rw [hp, q1] at hy
        rw [show p = j - 1 by omega, q2] at hx
        rw [← Option.some.inj hx, ← Option.some.inj hy]; exact hq
      · exact hA p x y h1 h2 hp hx hy
    | true =>
      have haj' : a < j := by
        by_cases h : j = a
        · subst h
          have := hpre.mix hm3 hb j _ _ (by omega) q2 (Nat.le_refl _) hab q1
          rw [this] at hq; cases hq
        · omega
      obtain ⟨L3, L4, c1, c2, hv4, hc4, c5⟩ := vSwapStr hv3 hc3.wf jj jj1
      simp only [↓Sh.dn, sx, Nat.reduceBEq, reduceCtorEq, Nat.reduceEqDiff]
      refine (wp_free (by kernel_rfl)).2 ?_
      simp only [↓Sh.dn, sx, Nat.reduceBEq, reduceCtorEq, Nat.reduceEqDiff, g0, g9, wj, ij, ij1, xj, xj1, vStoStr, c1, c2]
      refine k2 (j - 1) _ _ (by omega) ⟨swp l3 j (j - 1), by omega, by omega, hm3.swap (by omega) (by omega) (by omega) (by omega), fun p x y h1 h2 h3 hx hy => ?_, fun x y h1 h2 hx hy => ?_, hv4, hc3.trans hc4, by simp only [↓Sh.dn, sx, Nat.reduceBEq, reduceCtorEq, Nat.reduceEqDiff, g0], by simp only [↓Sh.dn, sx, Nat.reduceBEq, reduceCtorEq, Nat.reduceEqDiff, g1], by simp only [↓Sh.dn, sx, Nat.reduceBEq, reduceCtorEq, Nat.reduceEqDiff, g2], by simp only [↓Sh.dn, sx, Nat.reduceBEq, reduceCtorEq, Nat.reduceEqDiff, g7], by simp only [↓Sh.dn, sx, Nat.reduceBEq, reduceCtorEq, Nat.reduceEqDiff, g8], by simp only [↓Sh.dn, sx, Nat.reduceBEq, reduceCtorEq, Nat.reduceEqDiff]⟩
      · rw [swp_get jj jj1] at hx hy
        by_cases hp1 : p + 1 = j
        · have hp : p = j - 1 := by omega
          rw [if_pos hp, q1] at hx
          rw [if_neg (by omega), if_pos hp1, q2] at hy
          rw [← Option.some.inj hx, ← Option.some.inj hy]
          exact hTO.asymm hq
        · by_cases hp2 : p = j
          · rw [if_neg (by omega), if_pos hp2, q2] at hx
            rw [if_neg (by omega), if_neg (by omega)] at hy
            rw [← Option.some.inj hx]
            exact hB _ _ haj' (by omega) q2 (by rw [← hp2]; exact hy)
          · rw [if_neg (by omega), if_neg hp2] at hx
            rw [if_neg (by omega), if_neg (by omega)] at hy
            exact hA p x y h1 h2 hp1 hx hy
      · rw [swp_get jj jj1] at hx hy
        rw [if_neg (by omega), if_neg (by omega)] at hx
        rw [if_neg (by omega), if_pos (by omega), q2] at hy
        rw [← Option.some.inj hy]
        exact hA (j - 2) _ _ (by omega) (by omega) (by omega) (by rw [show j - 2 = j - 1 - 1 by omega]; exact hx) (by rw [show j - 2 + 1 = j - 1 by omega]; exact q2)
  intro F2 H9 h9
  rw [hM2] at h9
  obtain ⟨l3, hm3, hadj3, hv3, hc3, f0, f1, f2, f7, f8⟩ := h9
  simp only [↓Sh.dn, sx, Nat.reduceBEq, reduceCtorEq, Nat.reduceEqDiff, f2, f7, wbv]
  -- the greater one goes up
  obtain ⟨M3, hM3⟩ : ∃ M : Fr → AH → Prop, M = fun F' H9 => ∃ l3 : List ByteArray, Mix a b l l3 ∧ AdjStr a v l3 ∧ VecStr H9 g k n l3 ∧ Chg (fun y => y = g) H H9 ∧ F'.get 0 = some (.slice (some ⟨g, 0, some k⟩) l.length cap) ∧ F'.get 1 = some (.int .i64 (a : Int)) ∧ F'.get 2 = some (.int .i64 (b : Int)) ∧ F'.get 7 = some (.int .i64 (v : Int)) ∧ F'.get 8 = some (.int .i64 (c : Int)) := ⟨_, rfl⟩
  refine wp_if M3 (by rfl) ?_ ?_
  · by_cases hbv : 2 ≤ b - v
    case neg =>
      have d : decide ((2 : Int) ≤ ((b - v : Nat) : Int)) = false := by simp; omega
      simp only [↓Sh.dn, sx, Nat.reduceBEq, reduceCtorEq, Nat.reduceEqDiff, d, hM3, f0, f1, f2, f7, f8]
      exact ⟨l3, hm3, hadj3, hv3, hc3⟩
    have d : decide ((2 : Int) ≤ ((b - v : Nat) : Int)) = true := by simp; omega
    simp only [↓Sh.dn, sx, Nat.reduceBEq, reduceCtorEq, Nat.reduceEqDiff, d, f7, wv2]
    refine wp_while (fun m F' H9 => ∃ (j : Nat) (l3 : List ByteArray), m = b - j ∧ v + 1 ≤ j ∧ j ≤ b ∧ Mix a b l l3 ∧ AdjStr a v l3 ∧ VecStr H9 g k n l3 ∧ Chg (fun y => y = g) H H9 ∧
        F'.get 0 = some (.slice (some ⟨g, 0, some k⟩) l.length cap) ∧ F'.get 1 = some (.int .i64 (a : Int)) ∧ F'.get 2 = some (.int .i64 (b : Int)) ∧ F'.get 7 = some (.int .i64 (v : Int)) ∧ F'.get 8 = some (.int .i64 (c : Int)) ∧ F'.get 10 = some (.int .i64 (j : Int))) (m := b - (v + 1))
      ⟨v + 1, l3, rfl, Nat.le_refl _, by omega, hm3, hadj3, hv3, hc3, by simp only [↓Sh.dn, sx, Nat.reduceBEq, reduceCtorEq, Nat.reduceEqDiff, f0], by simp only [↓Sh.dn, sx, Nat.reduceBEq, reduceCtorEq, Nat.reduceEqDiff, f1], by simp only [↓Sh.dn, sx, Nat.reduceBEq, reduceCtorEq, Nat.reduceEqDiff, f2], by simp only [↓Sh.dn, sx, Nat.reduceBEq, reduceCtorEq, Nat.reduceEqDiff, f7], by simp only [↓Sh.dn, sx, Nat.reduceBEq, reduceCtorEq, Nat.reduceEqDiff, f8], by simp only [↓Sh.dn, sx, Nat.reduceBEq, reduceCtorEq, Nat.reduceEqDiff]⟩ ?_
    rintro m F' H9 ⟨j, l4, rfl, hvj, hjb, hm4, hadj4, hv4, hc4, g0, g1, g2, g7, g8, g10⟩ k2
    have hlen4 := hm4.length
    by_cases hjb' : j < b
    case neg =>
      simp only [↓Sh.dn, sx, Nat.reduceBEq, reduceCtorEq, Nat.reduceEqDiff, g2, g10, nat_lt, hjb', decide_false, hM3, g0, g1, g7, g8]
      exact ⟨l4, hm4, hadj4, hv4, hc4⟩
    have jj : j < l4.length := by omega
    have jj1 : j - 1 < l4.length := by omega
    have ij := vIdxStr (g := g) (k := k) (cap := cap) (m := l.length) (i := j) (j := .i64) (by omega)
    have ij1 := vIdxStr (g := g) (k := k) (cap := cap) (m := l.length) (i := j - 1) (j := .i64) (by omega)
    have xj := vGetStr hv4 jj
    have xj1 := vGetStr hv4 jj1
    have wj : IntKind.wrap .i64 ((j : Int) - 1) = ((j - 1 : Nat) : Int) := by rw [wrap64 (by omega) (by omega)]; omega
    have wj2 : IntKind.wrap .i64 ((j : Int) + 1) = ((j + 1 : Nat) : Int) := by rw [wrap64 (by omega) (by omega)]; rfl
    simp only [↓Sh.dn, sx, Nat.reduceBEq, reduceCtorEq, Nat.reduceEqDiff, g2, g10, nat_lt, hjb', decide_true]
    refine (wp_free (by kernel_rfl)).2 ?_
    simp only [↓Sh.dn, sx, Nat.reduceBEq, reduceCtorEq, Nat.reduceEqDiff, g0, g10, wj, ij, ij1, xj, xj1]
    refine ⟨_, _, cmpLessDoesStr, ?_⟩
    cases hq : strLt l4[j] l4[j - 1] with
    | false =>
      simp only [↓Sh.dn, sx, Nat.reduceBEq, reduceCtorEq, Nat.reduceEqDiff, hM3, g0, g1, g2, g7, g8]
      exact ⟨l4, hm4, hadj4, hv4, hc4⟩
    | true =>
      obtain ⟨L3, L4, c1, c2, hv5, hc5', c5⟩ := vSwapStr hv4 hc4.wf jj jj1
      simp only [↓Sh.dn, sx, Nat.reduceBEq, reduceCtorEq, Nat.reduceEqDiff]
      refine (wp_free (by kernel_rfl)).2 ?_
      simp only [↓Sh.dn, sx, Nat.reduceBEq, reduceCtorEq, Nat.reduceEqDiff, g0, g10, wj, ij, ij1, xj, xj1, vStoStr, c1, c2, wj2]
      refine k2 (b - (j + 1)) _ _ (by omega) ⟨j + 1, swp l4 j (j - 1), rfl, by omega, by omega, hm4.swap (by omega) (by omega) (by omega) (by omega), fun p x y h1 h2 hx hy => ?_, hv5, hc4.trans hc5', by simp only [↓Sh.dn, sx, Nat.reduceBEq, reduceCtorEq, Nat.reduceEqDiff, g0], by simp only [↓Sh.dn, sx, Nat.reduceBEq, reduceCtorEq, Nat.reduceEqDiff, g1], by simp only [↓Sh.dn, sx, Nat.reduceBEq, reduceCtorEq, Nat.reduceEqDiff, g2], by simp only [↓Sh.dn, sx, Nat.reduceBEq, reduceCtorEq, Nat.reduceEqDiff, g7], by simp only [↓Sh.dn, sx, Nat.reduceBEq, reduceCtorEq, Nat.reduceEqDiff, g8], by simp only [↓Sh.dn, sx, Nat.reduceBEq, reduceCtorEq, Nat.reduceEqDiff]⟩
      rw [swp_get jj jj1, if_neg (by omega), if_neg (by omega)] at hx hy
      exact hadj4 p x y h1 h2 hx hy
  intro F3 H10 h10
  rw [hM3] at h10
  obtain ⟨l5, hm5, hadj5, hv5, hc5', f0, f1, f2, f7, f8⟩ := h10
  simp only [↓Sh.dn, sx, Nat.reduceBEq, reduceCtorEq, Nat.reduceEqDiff, f8, wc]
  exact kk (5 - (c + 1)) _ _ (by omega) ⟨c + 1, v, l5, rfl, by omega, by omega, by omega, hm5, hadj5, hv5, hc5', by simp only [↓Sh.dn, sx, Nat.reduceBEq, reduceCtorEq, Nat.reduceEqDiff, f0], by simp only [↓Sh.dn, sx, Nat.reduceBEq, reduceCtorEq, Nat.reduceEqDiff, f1], by simp only [↓Sh.dn, sx, Nat.reduceBEq, reduceCtorEq, Nat.reduceEqDiff, f2], by simp only [↓Sh.dn, sx, Nat.reduceBEq, reduceCtorEq, Nat.reduceEqDiff, f7], by simp only [↓Sh.dn, sx, Nat.reduceBEq, reduceCtorEq, Nat.reduceEqDiff]⟩
end Go.Proofs.YtfcmpclbhnjkgaaGreat
/- pdqsortOrdered. -/
set_option maxHeartbeats 4000000
set_option maxRecDepth 20000
set_option linter.unusedSimpArgs false
set_option linter.unusedVariables false
set_option pp.deepTerms.threshold 8
namespace Go.Proofs.YtfcmpclbhnjkgaaGreat
open Go Go.Proofs Go.Proofs.Sh
theorem pdqStr {g k n cap : Nat} : ∀ (sz : Nat) {H : AH} {a b : Nat} {l : List ByteArray} {lim : Int}, b - a ≤ sz → VecStr H g k n l → Wf H → l.length ≤ 1048576 → a ≤ b → b ≤ l.length → PreStr a b l →
    Sh.Call Tryz.prog (knows 10) 136 [.slice (some ⟨g, 0, some k⟩) l.length cap, .int .i64 (a : Int), .int .i64 (b : Int), .int .i64 lim] H
      (fun r H' => ∃ l', Mix a b l l' ∧ Srt strLt a b l' ∧ VecStr H' g k n l' ∧ Chg (fun y => y = g) H H') := by
  intro sz
  induction sz using Nat.strongRecOn with
  | _ sz ih =>
  intro H a b l lim hsz hv hw hl hab hb hpre
  refine call_of rfl Tryz.func136 rfl (Nat.le_of_ble_eq_true rfl) ?_
  have hres : Tryz.f136.results.toList = [] := rfl
  have hTO := strTO
  simp only [↓Sh.dn, sx, Nat.reduceBEq, reduceCtorEq, Nat.reduceEqDiff]
  refine wp_while (fun m F H' => ∃ (a' b' : Nat) (l1 : List ByteArray) (lm : Int) (x8 x9 : Bool), m = b' - a' ∧ a ≤ a' ∧ a' ≤ b' ∧ b' ≤ b ∧ Mix a b l l1 ∧ P3 strLt a a' b' b l1 ∧ PreStr a' b' l1 ∧ VecStr H' g k n l1 ∧ Chg (fun y => y = g) H H' ∧
      F.get 0 = some (.slice (some ⟨g, 0, some k⟩) l.length cap) ∧ F.get 1 = some (.int .i64 (a' : Int)) ∧ F.get 2 = some (.int .i64 (b' : Int)) ∧ F.get 3 = some (.int .i64 lm) ∧ F.get 8 = some (.bool x8) ∧ F.get 9 = some (.bool x9)) (m := b - a)
    ⟨a, b, l, lim, true, true, rfl, Nat.le_refl _, hab, Nat.le_refl _, .refl l, fun p q x y h1 h2 h3 h4 => absurd ⟨h1, h3⟩ h4, hpre, hv, Chg.refl hw, by simp only [↓Sh.dn, sx, Nat.reduceBEq, reduceCtorEq, Nat.reduceEqDiff], by simp only [↓Sh.dn, sx, Nat.reduceBEq, reduceCtorEq, Nat.reduceEqDiff], by simp only [↓Sh.dn, sx, Nat.reduceBEq, reduceCtorEq, Nat.reduceEqDiff], by simp only [↓Sh.dn, sx, Nat.reduceBEq, reduceCtorEq, Nat.reduceEqDiff], by simp only [↓Sh.dn, sx, Nat.reduceBEq, reduceCtorEq, Nat.reduceEqDiff], by simp only [↓Sh.dn, sx, Nat.reduceBEq, reduceCtorEq, Nat.reduceEqDiff]⟩ ?_
  rintro m F H' ⟨a', b', l1, lm, x8, x9, rfl, ha', hab', hb', hm, h3, hpr, hv1, hc1, f0, f1, f2, f3, f8, f9⟩ kk
  have hlen := hm.length
  have hvl : l1.length = l.length := hlen
  have wba : IntKind.wrap .i64 ((b' : Int) - (a' : Int)) = ((b' - a' : Nat) : Int) := by rw [wrap64 (by omega) (by omega)]; omega
  -- when the range is in order
  have fin : ∀ {H2 : AH} {l2 : List ByteArray}, Mix a' b' l1 l2 → Srt strLt a' b' l2 → Mix a b l l2 ∧ Srt strLt a b l2 := fun {H2 l2} h1 h2 => ⟨hm.trans (h1.wide ha' hb'), (h3.mix ha' hb' h1 (by omega)).srt hTO h2⟩
  simp only [↓Sh.dn, sx, Nat.reduceBEq, reduceCtorEq, Nat.reduceEqDiff, f1, f2, wba]
  by_cases h12 : b' - a' ≤ 12
  · have d : decide (((b' - a' : Nat) : Int) ≤ 12) = true := by simp; omega
    obtain ⟨r, H2, hd, l2, q1, q2, q3, q4⟩ := insertionSortStr (cap := cap) hv1 hc1.wf (by omega) hab' (by omega)
    rw [hvl] at hd
    simp only [↓Sh.dn, sx, Nat.reduceBEq, reduceCtorEq, Nat.reduceEqDiff, d, f0, f1, f2]
    refine ⟨_, _, hd, ?_⟩
    simp only [↓Sh.dn, sx, Nat.reduceBEq, reduceCtorEq, Nat.reduceEqDiff, hres]
    exact ⟨l2, (fin (H2 := H2) q1 q2).1, (fin (H2 := H2) q1 q2).2, q3, hc1.trans q4⟩
  have d : decide (((b' - a' : Nat) : Int) ≤ 12) = false := by simp; omega
  simp only [↓Sh.dn, sx, Nat.reduceBEq, reduceCtorEq, Nat.reduceEqDiff, d, f3]
  by_cases hlm : lm = 0
  · obtain ⟨r, H2, hd, l2, q1, q2, q3, q4⟩ := heapSortStr (cap := cap) hv1 hc1.wf (by omega) (by omega : a' < b') (by omega)
    rw [hvl] at hd
    simp only [↓Sh.dn, sx, Nat.reduceBEq, reduceCtorEq, Nat.reduceEqDiff, hlm, decide_true, f0, f1, f2]
    refine ⟨_, _, hd, ?_⟩
    simp only [↓Sh.dn, sx, Nat.reduceBEq, reduceCtorEq, Nat.reduceEqDiff, hres]
    exact ⟨l2, (fin (H2 := H2) q1 q2).1, (fin (H2 := H2) q1 q2).2, q3, hc1.trans q4⟩
  simp only [↓Sh.dn, sx, Nat.reduceBEq, reduceCtorEq, Nat.reduceEqDiff, hlm, decide_false, f8]
  -- patterns are broken
  obtain ⟨M1, hM1⟩ : ∃ M : Fr → AH → Prop, M = fun F' H9 => ∃ l2 : List ByteArray, Mix a' b' l1 l2 ∧ VecStr H9 g k n l2 ∧ Chg (fun y => y = g) H H9 ∧ F'.get 0 = some (.slice (some ⟨g, 0, some k⟩) l.length cap) ∧ F'.get 1 = some (.int .i64 (a' : Int)) ∧ F'.get 2 = some (.int .i64 (b' : Int)) ∧ F'.get 8 = some (.bool x8) ∧ F'.get 9 = some (.bool x9) ∧ F'.get 10 = some (.int .i64 ((b' - a' : Nat) : Int)) ∧ ∃ lm, F'.get 3 = some (.int .i64 lm) := ⟨_, rfl⟩
  refine wp_if M1 (by rfl) ?_ ?_
  · cases x8 with
    | true =>
      simp only [↓Sh.dn, sx, Nat.reduceBEq, reduceCtorEq, Nat.reduceEqDiff, hM1, f0, f1, f2, f3, f8, f9]
      exact ⟨l1, .refl l1, hv1, hc1, lm, rfl⟩
    | false =>
      obtain ⟨r, H2, hd, l2, q1, q3, q4⟩ := breakPatternsStr (cap := cap) hv1 hc1.wf (by omega) (by omega : a' + 12 < b') (by omega)
      rw [hvl] at hd
      simp only [↓Sh.dn, sx, Nat.reduceBEq, reduceCtorEq, Nat.reduceEqDiff, f0, f1, f2]
      refine ⟨_, _, hd, ?_⟩
      simp only [↓Sh.dn, sx, Nat.reduceBEq, reduceCtorEq, Nat.reduceEqDiff, hM1, f0, f1, f2, f3, f8, f9]
      exact ⟨l2, q1, q3, hc1.trans q4, _, rfl⟩
  intro F1 H1 h9
  rw [hM1] at h9
  obtain ⟨l2, hm2, hv2, hc2, f0, f1, f2, f8, f9, f10, lm2, f3⟩ := h9
  have hlen2 : l2.length = l.length := by rw [hm2.length]; exact hlen
  obtain ⟨r, H2, hd, q, hint, rfl, hq1, hq2, hv2', hk2⟩ := choosePivotStr (cap := cap) hv2 hc2.wf (by omega) (by omega : a' + 12 < b') (by omega)
  have hc2' : Chg (fun y => y = g) H H2 := hc2.trans hk2.chg
  rw [hlen2] at hd
  simp only [↓Sh.dn, sx, Nat.reduceBEq, reduceCtorEq, Nat.reduceEqDiff, f0, f1, f2]
  refine ⟨_, _, hd, ?_⟩
  simp only [↓Sh.dn, sx, Nat.reduceBEq, reduceCtorEq, Nat.reduceEqDiff]
  -- all turned round
  obtain ⟨M2, hM2⟩ : ∃ M : Fr → AH → Prop, M = fun F' H9 => ∃ l2 : List ByteArray, Mix a' b' l1 l2 ∧ VecStr H9 g k n l2 ∧ Chg (fun y => y = g) H H9 ∧ F'.get 0 = some (.slice (some ⟨g, 0, some k⟩) l.length cap) ∧ F'.get 1 = some (.int .i64 (a' : Int)) ∧ F'.get 2 = some (.int .i64 (b' : Int)) ∧ F'.get 3 = some (.int .i64 lm2) ∧ F'.get 8 = some (.bool x8) ∧ F'.get 9 = some (.bool x9) ∧ F'.get 10 = some (.int .i64 ((b' - a' : Nat) : Int)) ∧ ∃ q : Nat, a' ≤ q ∧ q < b' ∧ F'.get 11 = some (.int .i64 (q : Int)) ∧ ∃ hint, F'.get 12 = some (.int .i64 hint) := ⟨_, rfl⟩
  refine wp_if M2 (by rfl) ?_ ?_
  · by_cases hh : hint = 2
    · have e1 : IntKind.wrap .i64 ((b' : Int) - 1) = ((b' - 1 : Nat) : Int) := by rw [wrap64 (by omega) (by omega)]; omega
      have e2 : IntKind.wrap .i64 ((q : Int) - (a' : Int)) = ((q - a' : Nat) : Int) := by rw [wrap64 (by omega) (by omega)]; omega
      have e3 : IntKind.wrap .i64 (((b' - 1 : Nat) : Int) - ((q - a' : Nat) : Int)) = ((b' - 1 - (q - a') : Nat) : Int) := by rw [wrap64 (by omega) (by omega)]; omega
      obtain ⟨r, H3, hd3, l3, p1, p2, p3⟩ := reverseRangeStr (cap := cap) hv2' hk2.wf (by omega) (by omega : a' < b') (by omega)
      rw [hlen2] at hd3
      simp only [↓Sh.dn, sx, Nat.reduceBEq, reduceCtorEq, Nat.reduceEqDiff, hh, decide_true, f0, f1, f2]
      refine ⟨_, _, hd3, ?_⟩
      simp only [↓Sh.dn, sx, Nat.reduceBEq, reduceCtorEq, Nat.reduceEqDiff, hM2, f0, f1, f2, f3, f8, f9, f10, e1, e2, e3]
      exact ⟨l3, hm2.trans p1, p2, hc2'.trans p3, b' - 1 - (q - a'), by omega, by omega, rfl, 1, rfl⟩
    · simp only [↓Sh.dn, sx, Nat.reduceBEq, reduceCtorEq, Nat.reduceEqDiff, hh, decide_false, hM2, f0, f1, f2, f3, f8, f9, f10]
      exact ⟨l2, hm2, hv2', hc2', q, hq1, hq2, rfl, hint, rfl⟩
  intro F2 H3 h9
  rw [hM2] at h9
  obtain ⟨l3, hm3, hv3, hc3, f0, f1, f2, f3, f8, f9, f10, q, hq1, hq2, f11, hint, f12⟩ := h9
  have hlen3 : l3.length = l.length := by rw [hm3.length]; exact hlen
  -- perhaps it is almost in order
  obtain ⟨M3, hM3⟩ : ∃ M : Fr → AH → Prop, M = fun F' H9 => H3 = H9 ∧ F'.get 0 = some (.slice (some ⟨g, 0, some k⟩) l.length cap) ∧ F'.get 1 = some (.int .i64 (a' : Int)) ∧ F'.get 2 = some (.int .i64 (b' : Int)) ∧ F'.get 3 = some (.int .i64 lm2) ∧ F'.get 8 = some (.bool x8) ∧ F'.get 9 = some (.bool x9) ∧ F'.get 10 = some (.int .i64 ((b' - a' : Nat) : Int)) ∧ F'.get 11 = some (.int .i64 (q : Int)) ∧ ∃ bb, F'.get 68 = some (.bool bb) := ⟨_, rfl⟩
  simp only [↓Sh.wp_seq]
  refine wp_mid M3 (by rfl) ?_ ?_
  · cases x8 with
    | false =>
      simp only [↓Sh.dn, sx, Nat.reduceBEq, reduceCtorEq, Nat.reduceEqDiff, hM3, f0, f1, f2, f3, f8, f9, f10, f11, f12]
    | true =>
      cases x9 with
      | false =>
        simp only [↓Sh.dn, sx, Nat.reduceBEq, reduceCtorEq, Nat.reduceEqDiff, hM3, f0, f1, f2, f3, f8, f9, f10, f11, f12]
      | true =>
        simp only [↓Sh.dn, sx, Nat.reduceBEq, reduceCtorEq, Nat.reduceEqDiff, hM3, f0, f1, f2, f3, f8, f9, f10, f11, f12]
  intro F3 H4 h9
  rw [hM3] at h9
  obtain ⟨rfl, f0, f1, f2, f3, f8, f9, f10, f11, bb, f68⟩ := h9
  obtain ⟨N, hN⟩ : ∃ N : Fr → AH → Prop, N = fun F' H9 => ∃ l4 : List ByteArray, Mix a' b' l1 l4 ∧ VecStr H9 g k n l4 ∧ Chg (fun y => y = g) H H9 ∧ F'.get 0 = some (.slice (some ⟨g, 0, some k⟩) l.length cap) ∧ F'.get 1 = some (.int .i64 (a' : Int)) ∧ F'.get 2 = some (.int .i64 (b' : Int)) ∧ F'.get 3 = some (.int .i64 lm2) ∧ F'.get 8 = some (.bool x8) ∧ F'.get 9 = some (.bool x9) ∧ F'.get 10 = some (.int .i64 ((b' - a' : Nat) : Int)) ∧ F'.get 11 = some (.int .i64 (q : Int)) := ⟨_, rfl⟩
  refine wp_cut N (fun F4 H5 h9 => ?_) (fun kont => ?_)
  case refine_2 =>
    cases bb with
    | false =>
      refine (wp_cond_f (by rw [ev_tmp, f68])).2 (Sh.wp_skip.2 (kont _ _ ?_))
      rw [hN]
      exact ⟨l3, hm3, hv3, hc3, f0, f1, f2, f3, f8, f9, f10, f11⟩
    | true =>
      obtain ⟨r, H5, hd5, b5, rfl, l4, p1, p2, p3, p4⟩ := partialInsertionStr (cap := cap) hv3 hc3.wf (by omega) (by omega : a' < b') (by omega) (hpr.mix hm3 (by omega))
      rw [hlen3] at hd5
      simp only [↓Sh.dn, sx, Nat.reduceBEq, reduceCtorEq, Nat.reduceEqDiff, f68, f0, f1, f2]
      refine ⟨_, _, hd5, ?_⟩
      cases b5 with
      | true =>
        simp only [↓Sh.dn, sx, Nat.reduceBEq, reduceCtorEq, Nat.reduceEqDiff, hres]
        exact ⟨l4, (fin (H2 := H5) (hm3.trans p1) (p2 rfl)).1, (fin (H2 := H5) (hm3.trans p1) (p2 rfl)).2, p3, hc3.trans p4⟩
      | false =>
        refine (wp_cond_f ?_).2 (Sh.wp_skip.2 (kont _ _ ?_))
        · simp only [↓Sh.dn, sx, Nat.reduceBEq, reduceCtorEq, Nat.reduceEqDiff]
        rw [hN]
        exact ⟨l4, hm3.trans p1, p3, hc3.trans p4, by simp only [↓Sh.dn, sx, Nat.reduceBEq, reduceCtorEq, Nat.reduceEqDiff, f0], by simp only [↓Sh.dn, sx, Nat.reduceBEq, reduceCtorEq, Nat.reduceEqDiff, f1], by simp only [↓Sh.dn, sx, Nat.reduceBEq, reduceCtorEq, Nat.reduceEqDiff, f2], by simp only [↓Sh.dn, sx, Nat.reduceBEq, reduceCtorEq, Nat.reduceEqDiff, f3], by simp only [↓Sh.dn, sx, Nat.reduceBEq, reduceCtorEq, Nat.reduceEqDiff, f8], by simp only [↓Sh.dn, sx, Nat.reduceBEq, reduceCtorEq, Nat.reduceEqDiff, f9], by simp only [↓Sh.dn, sx, Nat.reduceBEq, reduceCtorEq, Nat.reduceEqDiff, f10], by simp only [↓Sh.dn, sx, Nat.reduceBEq, reduceCtorEq, Nat.reduceEqDiff, f11]⟩
  rw [hN] at h9
  clear hN
  obtain ⟨l4, hm4, hv4, hc4, f0, f1, f2, f3, f8, f9, f10, f11⟩ := h9
  have hlen4 : l4.length = l.length := by rw [hm4.length]; exact hlen
  have jq : q < l4.length := by omega
  have iq := vIdxStr (g := g) (k := k) (cap := cap) (m := l.length) (i := q) (j := .i64) (by omega)
  have xq := vGetStr hv4 jq
  have eq4 : l4[q]? = some l4[q] := List.getElem?_eq_getElem jq
  have hpr4 : PreStr a' b' l4 := hpr.mix hm4 (by omega)
  have h34 : P3 strLt a a' b' b l4 := h3.mix ha' hb' hm4 (by omega)
  have hm04 : Mix a b l l4 := hm.trans (hm4.wide ha' hb')
  -- many of the same
  obtain ⟨M4, hM4⟩ : ∃ M : Fr → AH → Prop, M = fun F' H9 => H5 = H9 ∧ F'.get 0 = some (.slice (some ⟨g, 0, some k⟩) l.length cap) ∧ F'.get 1 = some (.int .i64 (a' : Int)) ∧ F'.get 2 = some (.int .i64 (b' : Int)) ∧ F'.get 3 = some (.int .i64 lm2) ∧ F'.get 8 = some (.bool x8) ∧ F'.get 9 = some (.bool x9) ∧ F'.get 10 = some (.int .i64 ((b' - a' : Nat) : Int)) ∧ F'.get 11 = some (.int .i64 (q : Int)) ∧ ∃ bb, F'.get 87 = some (.bool bb) ∧ (bb = true → 0 < a' ∧ ∀ y, l4[a' - 1]? = some y → strLt y l4[q] = false) := ⟨_, rfl⟩
  simp only [↓Sh.wp_seq]
  refine wp_mid M4 (by rfl) ?_ ?_
  · refine (wp_free (by kernel_rfl)).2 ?_
    by_cases h0 : 0 < a'
    · have d : decide ((0 : Int) < (a' : Int)) = true := by simp; omega
      have wa1 : IntKind.wrap .i64 ((a' : Int) - 1) = ((a' - 1 : Nat) : Int) := by rw [wrap64 (by omega) (by omega)]; omega
      have ja : a' - 1 < l4.length := by omega
      have ia := vIdxStr (g := g) (k := k) (cap := cap) (m := l.length) (i := a' - 1) (j := .i64) (by omega)
      have xa := vGetStr hv4 ja
      have ea : l4[a' - 1]? = some l4[a' - 1] := List.getElem?_eq_getElem ja
      simp only [↓Sh.dn, sx, Nat.reduceBEq, reduceCtorEq, Nat.reduceEqDiff, f0, f1, f11, d, wa1, ia, iq, xa, xq]
      refine ⟨_, _, cmpLessDoesStr, ?_⟩
      cases hq : strLt l4[a' - 1] l4[q] with
      | true =>
        simp only [↓Sh.dn, sx, Nat.reduceBEq, reduceCtorEq, Nat.reduceEqDiff, hM4, f0, f1, f2, f3, f8, f9, f10, f11]
      | false =>
        simp only [↓Sh.dn, sx, Nat.reduceBEq, reduceCtorEq, Nat.reduceEqDiff, hM4, f0, f1, f2, f3, f8, f9, f10, f11]
        refine ⟨h0, fun y hy => ?_⟩
        rw [ea] at hy; rw [← Option.some.inj hy]; exact hq
    · have d : decide ((0 : Int) < (a' : Int)) = false := by simp; omega
      simp only [↓Sh.dn, sx, Nat.reduceBEq, reduceCtorEq, Nat.reduceEqDiff, hM4, f0, f1, f2, f3, f8, f9, f10, f11, d]
  intro F5 H6 h9
  rw [hM4] at h9
  obtain ⟨rfl, f0, f1, f2, f3, f8, f9, f10, f11, bb, f87, hbb⟩ := h9
  cases bb with
  | true =>
    obtain ⟨hpos, hy⟩ := hbb rfl
    obtain ⟨r, H7, hd7, m, rfl, hm1, hm2', l5, p1, p2, p3, p4, p5⟩ := partitionEqualStr (cap := cap) (p := q) hv4 hc4.wf (by omega) hq1 hq2 (by omega)
    rw [hlen4] at hd7
    simp only [↓Sh.dn, sx, Nat.reduceBEq, reduceCtorEq, Nat.reduceEqDiff, f87, f0, f1, f2, f11]
    refine ⟨_, _, hd7, ?_⟩
    try simp only [↓Sh.dn, sx, Nat.reduceBEq, reduceCtorEq, Nat.reduceEqDiff]
    -- nothing is ahead of the pivot
    have hge4 : ∀ (i : Nat) x, a' ≤ i → i < b' → l4[i]? = some x → strLt x l4[q] = false := by
      intro i x h1 h2 hx
      have ja : a' - 1 < l4.length := by omega
      have ea : l4[a' - 1]? = some l4[a' - 1] := List.getElem?_eq_getElem ja
      exact hTO.le_trans (hy _ ea) (hpr4 i x _ hpos ea h1 h2 hx)
    have hge : ∀ (i : Nat) x, a' ≤ i → i < b' → l5[i]? = some x → strLt x l4[q] = false := p1.all (p := fun x => strLt x l4[q] = false) (by omega) hge4
    have heq : ∀ (i : Nat) x, a' ≤ i → i < m → l5[i]? = some x → x = l4[q] := by
      intro i x h1 h2 hx
      rcases hTO.tri x l4[q] with h | h | h
      · rw [hge i x h1 (by omega) hx] at h; cases h
      · exact h
      · rw [p2 i x h1 h2 hx] at h; cases h
    have h35 := h34.mix ha' hb' p1 (by omega)
    refine kk (b' - m) _ _ (by omega) ⟨m, b', l5, lm2, x8, x9, rfl, by omega, by omega, hb', hm04.trans (p1.wide ha' hb'), fun i j x z h1 h2 h3' h4 hx hz => ?_, fun i x y h0 hy' h1 h2 hx => ?_, p4, hc4.trans p5, by simp only [↓Sh.dn, sx, Nat.reduceBEq, reduceCtorEq, Nat.reduceEqDiff, f0], by simp only [↓Sh.dn, sx, Nat.reduceBEq, reduceCtorEq, Nat.reduceEqDiff], by simp only [↓Sh.dn, sx, Nat.reduceBEq, reduceCtorEq, Nat.reduceEqDiff, f2], by simp only [↓Sh.dn, sx, Nat.reduceBEq, reduceCtorEq, Nat.reduceEqDiff, f3], by simp only [↓Sh.dn, sx, Nat.reduceBEq, reduceCtorEq, Nat.reduceEqDiff, f8], by simp only [↓Sh.dn, sx, Nat.reduceBEq, reduceCtorEq, Nat.reduceEqDiff, f9]⟩
    · by_cases hin : a' ≤ i ∧ j < b'
      · have hx' := heq i x hin.1 (by omega) hx
        by_cases hj : j < m
        · have hz' := heq j z (by omega) hj hz
          rw [hx', hz']; exact hTO.irrefl _
        · rw [hx']; exact hTO.asymm (p3 j z (by omega) hin.2 hz)
      · exact h35 i j x z h1 h2 h3' hin hx hz
    · have hy2 := heq (m - 1) y (by omega) (by omega) hy'
      rw [hy2]; exact hTO.asymm (p3 i x h1 h2 hx)
  | false =>
    obtain ⟨r, H7, hd7, m, al, rfl, hm1, hm2', l5, p1, y, py, p2, p3, p4, p5⟩ := partitionStr (cap := cap) (p := q) hv4 hc4.wf (by omega) hq1 hq2 (by omega)
    rw [hlen4] at hd7
    have hlen5 : l5.length = l.length := by rw [p1.length]; exact hlen4
    have s1 : IntKind.wrap .i64 ((m : Int) - (a' : Int)) = ((m - a' : Nat) : Int) := by rw [wrap64 (by omega) (by omega)]; omega
    have s2 : IntKind.wrap .i64 ((b' : Int) - (m : Int)) = ((b' - m : Nat) : Int) := by rw [wrap64 (by omega) (by omega)]; omega
    have s3 : Int.tdiv ((b' - a' : Nat) : Int) 8 = (((b' - a') / 8 : Nat) : Int) := by rw [Int.tdiv_eq_ediv_of_nonneg (by omega)]; rfl
    have s4 : IntKind.wrap .i64 (((b' - a') / 8 : Nat) : Int) = (((b' - a') / 8 : Nat) : Int) := wrap64 (by omega) (by omega)
    have s5 : IntKind.wrap .i64 ((m : Int) + 1) = ((m + 1 : Nat) : Int) := by rw [wrap64 (by omega) (by omega)]; rfl
    simp only [↓Sh.dn, sx, Nat.reduceBEq, reduceCtorEq, Nat.reduceEqDiff, f87, f0, f1, f2, f11]
    refine ⟨_, _, hd7, ?_⟩
    simp only [↓Sh.dn, sx, Nat.reduceBEq, reduceCtorEq, Nat.reduceEqDiff, f1, f2, f10, s1, s2, b_quo (show (8 : Int) ≠ 0 by decide), s3, s4, nat_lt]
    have hpr5 : PreStr a' b' l5 := hpr4.mix p1 (by omega)
    have h35 := h34.mix ha' hb' p1 (by omega)
    have hm05 := hm04.trans (p1.wide ha' hb')
    have hc5 := hc4.trans p5
    by_cases hlr : m - a' < b' - m
    · obtain ⟨r, H8, hd8, l6, u1, u2, u3, u4⟩ := ih (m - a') (by omega) (lim := lm2) (a := a') (b := m) (Nat.le_refl _) p4 p5.wf (by omega) hm1 (by omega) (fun i x z h0 hz h1 h2 hx => hpr5 i x z h0 hz h1 (by omega) hx)
      rw [hlen5] at hd8
      have py6 : l6[m]? = some y := by rw [u1.out (.inr (Nat.le_refl _))]; exact py
      have hpart := P3.part hTO (h35.mix ha' hb' (u1.wide (Nat.le_refl _) (by omega)) (by omega)) hm1 hm2' py6 (u1.all (p := fun x => strLt x y = true) (by omega) (fun i x h1 h2 hx => p2 i x h1 h2 hx)) (fun i x h1 h2 hx => p3 i x h1 h2 (by rw [← u1.out (.inr (by omega))]; exact hx))
      simp only [↓Sh.dn, sx, Nat.reduceBEq, reduceCtorEq, Nat.reduceEqDiff, hlr, decide_true, f0, f1, f3]
      refine ⟨_, _, hd8, ?_⟩
      try simp only [↓Sh.dn, sx, Nat.reduceBEq, reduceCtorEq, Nat.reduceEqDiff, s5]
      exact kk (b' - (m + 1)) _ _ (by omega) ⟨m + 1, b', l6, lm2, _, al, rfl, by omega, by omega, hb', hm05.trans (u1.wide ha' (by omega)), hpart.1 u2, fun i x z h0 hz h1 h2 hx => by
          rw [show m + 1 - 1 = m by omega, py6] at hz
          rw [← Option.some.inj hz]
          exact p3 i x (by omega) h2 (by rw [← u1.out (.inr (by omega))]; exact hx), u3, hc5.trans u4, by simp only [↓Sh.dn, sx, Nat.reduceBEq, reduceCtorEq, Nat.reduceEqDiff, f0], by simp only [↓Sh.dn, sx, Nat.reduceBEq, reduceCtorEq, Nat.reduceEqDiff], by simp only [↓Sh.dn, sx, Nat.reduceBEq, reduceCtorEq, Nat.reduceEqDiff, f2], by simp only [↓Sh.dn, sx, Nat.reduceBEq, reduceCtorEq, Nat.reduceEqDiff, f3], by simp only [↓Sh.dn, sx, Nat.reduceBEq, reduceCtorEq, Nat.reduceEqDiff]; rfl, by simp only [↓Sh.dn, sx, Nat.reduceBEq, reduceCtorEq, Nat.reduceEqDiff]⟩
    · obtain ⟨r, H8, hd8, l6, u1, u2, u3, u4⟩ := ih (b' - (m + 1)) (by omega) (lim := lm2) (a := m + 1) (b := b') (Nat.le_refl _) p4 p5.wf (by omega) (by omega) (by omega) (fun i x z h0 hz h1 h2 hx => by
        rw [show m + 1 - 1 = m by omega, py] at hz
        rw [← Option.some.inj hz]
        exact p3 i x (by omega) h2 hx)
      rw [hlen5] at hd8
      have py6 : l6[m]? = some y := by rw [u1.out (.inl (by omega))]; exact py
      have hpart := P3.part hTO (h35.mix ha' hb' (u1.wide (by omega) (Nat.le_refl _)) (by omega)) hm1 hm2' py6 (fun i x h1 h2 hx => p2 i x h1 h2 (by rw [← u1.out (.inl (by omega))]; exact hx)) (fun i x h1 h2 hx => u1.all (p := fun x => strLt x y = false) (by omega) (fun i x h1 h2 hx => p3 i x (by omega) h2 hx) i x (by omega) h2 hx)
      simp only [↓Sh.dn, sx, Nat.reduceBEq, reduceCtorEq, Nat.reduceEqDiff, hlr, decide_false, f0, f1, f2, f3, s5]
      refine ⟨_, _, hd8, ?_⟩
      try simp only [↓Sh.dn, sx, Nat.reduceBEq, reduceCtorEq, Nat.reduceEqDiff]
      exact kk (m - a') _ _ (by omega) ⟨a', m, l6, lm2, _, al, rfl, ha', hm1, by omega, hm05.trans (u1.wide (by omega) hb'), hpart.2 u2, fun i x z h0 hz h1 h2 hx => by
          rw [u1.out (.inl (by omega))] at hz
          rw [u1.out (.inl (by omega))] at hx
          exact hpr5 i x z h0 hz h1 (by omega) hx, u3, hc5.trans u4, by simp only [↓Sh.dn, sx, Nat.reduceBEq, reduceCtorEq, Nat.reduceEqDiff, f0], by simp only [↓Sh.dn, sx, Nat.reduceBEq, reduceCtorEq, Nat.reduceEqDiff, f1], by simp only [↓Sh.dn, sx, Nat.reduceBEq, reduceCtorEq, Nat.reduceEqDiff], by simp only [↓Sh.dn, sx, Nat.reduceBEq, reduceCtorEq, Nat.reduceEqDiff, f3], by simp only [↓Sh.dn, sx, Nat.reduceBEq, reduceCtorEq, Nat.reduceEqDiff]; rfl, by simp only [↓Sh.dn, sx, Nat.reduceBEq, reduceCtorEq, Nat.reduceEqDiff]⟩
end Go.Proofs.YtfcmpclbhnjkgaaGreat
/- slices.Sort. -/
set_option maxHeartbeats 4000000
set_option maxRecDepth 20000
set_option linter.unusedSimpArgs false
set_option linter.unusedVariables false
set_option pp.deepTerms.threshold 8
namespace Go.Proofs.YtfcmpclbhnjkgaaGreat
open Go Go.Proofs Go.Proofs.Sh
theorem insVoidStrsStr {H : AH} {v : Value} : Sh.Call Tryz.prog (knows 10) 141 [v, .int .i64 0, .int .i64 0] H (fun r H' => H' = H) := by
  refine call_of rfl Tryz.func141 rfl (Nat.le_of_ble_eq_true rfl) ?_
  have hres : Tryz.f141.results.toList = [] := rfl
  have w1 : IntKind.wrap .i64 ((0 : Int) + 1) = 1 := rfl
  simp only [↓Sh.dn, sx, Nat.reduceBEq, reduceCtorEq, Nat.reduceEqDiff, w1]
  refine wp_while (fun m F H' => H' = H ∧ F.get 2 = some (.int .i64 0) ∧ F.get 6 = some (.int .i64 1)) (m := 0) ⟨rfl, by simp only [↓Sh.dn, sx, Nat.reduceBEq, reduceCtorEq, Nat.reduceEqDiff], by simp only [↓Sh.dn, sx, Nat.reduceBEq, reduceCtorEq, Nat.reduceEqDiff]⟩ ?_
  rintro m F H' ⟨rfl, f2, f6⟩ kk
  have d : decide ((1 : Int) < 0) = false := rfl
  simp only [↓Sh.dn, sx, Nat.reduceBEq, reduceCtorEq, Nat.reduceEqDiff, f2, f6, d, hres]
theorem pdqVoidStrsStr {H : AH} {v : Value} {lim : Int} : Sh.Call Tryz.prog (knows 10) 136 [v, .int .i64 0, .int .i64 0, .int .i64 lim] H (fun r H' => H' = H) := by
  refine call_of rfl Tryz.func136 rfl (Nat.le_of_ble_eq_true rfl) ?_
  have hres : Tryz.f136.results.toList = [] := rfl
  obtain ⟨r, H1, hd, rfl⟩ := insVoidStrsStr (H := H) (v := v)
  have w1 : IntKind.wrap .i64 ((0 : Int) - 0) = 0 := rfl
  have d : decide ((0 : Int) ≤ 12) = true := rfl
  simp only [↓Sh.dn, sx, Nat.reduceBEq, reduceCtorEq, Nat.reduceEqDiff]
  refine wp_while (fun m F H' => H' = H1 ∧ F.get 0 = some v ∧ F.get 1 = some (.int .i64 0) ∧ F.get 2 = some (.int .i64 0)) (m := 0) ⟨rfl, by simp only [↓Sh.dn, sx, Nat.reduceBEq, reduceCtorEq, Nat.reduceEqDiff], by simp only [↓Sh.dn, sx, Nat.reduceBEq, reduceCtorEq, Nat.reduceEqDiff], by simp only [↓Sh.dn, sx, Nat.reduceBEq, reduceCtorEq, Nat.reduceEqDiff]⟩ ?_
  rintro m F H' ⟨rfl, f0, f1, f2⟩ kk
  simp only [↓Sh.dn, sx, Nat.reduceBEq, reduceCtorEq, Nat.reduceEqDiff, f0, f1, f2, w1, d]
  refine ⟨_, _, hd, ?_⟩
  simp only [↓Sh.dn, sx, Nat.reduceBEq, reduceCtorEq, Nat.reduceEqDiff, hres]
theorem sortStrsStr {H : AH} {v : Value} {l : List ByteArray} {ob : Option Nat} (hb : Buf H 1 v (l.map fun x => [Value.string x]) ob) (hl : l.length ≤ 1048576) (hw : Wf H) :
    Sh.Call Tryz.prog (knows 10) 126 [v] H (fun r H' => ∃ l' : List ByteArray, l'.Perm l ∧ Srt strLt 0 l'.length l' ∧ Buf H' 1 v (l'.map fun x => [Value.string x]) ob ∧ Chg (fun y => ob = some y) H H') := by
  refine call_of rfl Tryz.func126 rfl (Nat.le_of_ble_eq_true rfl) ?_
  have hres : Tryz.f126.results.toList = [] := rfl
  have hlen := hb.toSl.len Tryz.underlying22 H
  rw [List.length_map] at hlen
  have wu : IntKind.wrap .u64 (l.length : Int) = (l.length : Int) := wrapU64 (by omega) (by omega)
  obtain ⟨r, H1, hd, rfl, c, rfl, _⟩ := bitsLen (H := H) (x := l.length) (by omega)
  simp only [↓Sh.dn, sx, Nat.reduceBEq, reduceCtorEq, Nat.reduceEqDiff, hlen, wu]
  refine ⟨_, _, hd, ?_⟩
  cases ob with
  | none =>
    have hl0 : l = [] := by
      generalize hL : (l.map fun x => [Value.string x]) = L at hb
      cases hb
      simpa using hL
    subst hl0
    obtain ⟨r, H2, hd2, rfl⟩ := pdqVoidStrsStr (H := H1) (v := v) (lim := (c : Int))
    simp only [↓Sh.dn, sx, Nat.reduceBEq, reduceCtorEq, Nat.reduceEqDiff, List.length_nil, Int.ofNat_zero]
    refine ⟨_, _, hd2, ?_⟩
    simp only [↓Sh.dn, sx, Nat.reduceBEq, reduceCtorEq, Nat.reduceEqDiff, hres]
    exact ⟨[], List.Perm.refl _, fun i j x y h1 h2 h3 => by simp at h3, hb, Chg.refl hw⟩
  | some g =>
    obtain ⟨k, cap, n, rfl, hc, hback⟩ := hb.cells
    obtain ⟨r, H2, hd2, l', q1, q2, q3, q4⟩ := pdqStr (cap := cap) l.length (a := 0) (b := l.length) (lim := (c : Int)) (by omega) hc hw hl (Nat.zero_le _) (Nat.le_refl _) (fun q x y h => absurd h (Nat.lt_irrefl 0))
    simp only [↓Sh.dn, sx, Nat.reduceBEq, reduceCtorEq, Nat.reduceEqDiff]
    refine ⟨_, _, hd2, ?_⟩
    simp only [↓Sh.dn, sx, Nat.reduceBEq, reduceCtorEq, Nat.reduceEqDiff, hres]
    exact ⟨l', q1.perm, by rw [q1.length]; exact q2, hback H2 l' q1.length q3, q4.weak fun x hx => by rw [hx]⟩
end Go.Proofs.YtfcmpclbhnjkgaaGreat
/- sort.Strings. -/
set_option maxHeartbeats 4000000
set_option maxRecDepth 20000
set_option linter.unusedSimpArgs false
set_option linter.unusedVariables false
set_option pp.deepTerms.threshold 8
namespace Go.Proofs.YtfcmpclbhnjkgaaGreat
open Go Go.Proofs Go.Proofs.Sh
theorem sortStrings {H : AH} {v : Value} {l : List ByteArray} {ob : Option Nat} (hb : Buf H 1 v (l.map fun x => [.string x]) ob) (hl : l.length ≤ 1048576) (hw : Wf H) :
    Sh.Call Tryz.prog (knows 10) 105 [v] H (fun r H' => ∃ l' : List ByteArray, l'.Perm l ∧ Srt strLt 0 l'.length l' ∧ Buf H' 1 v (l'.map fun x => [.string x]) ob ∧ Chg (fun y => ob = some y) H H') := by
  refine call_of rfl Tryz.func105 rfl (Nat.le_of_ble_eq_true rfl) ?_
  have hres : Tryz.f105.results.toList = [] := rfl
  obtain ⟨r, H1, hd, hq⟩ := sortStrsStr hb hl hw
  simp only [↓Sh.dn, sx, Nat.reduceBEq, reduceCtorEq, Nat.reduceEqDiff]
  refine ⟨_, _, hd, ?_⟩
  simp only [↓Sh.dn, sx, Nat.reduceBEq, reduceCtorEq, Nat.reduceEqDiff, hres]
  exact hq
end Go.Proofs.YtfcmpclbhnjkgaaGreat
/- Whether lists of texts are equal; a text is put into a list; ascending lists. -/
set_option maxHeartbeats 4000000
set_option maxRecDepth 20000
set_option linter.unusedSimpArgs false
set_option linter.unusedVariables false
set_option pp.deepTerms.threshold 8
namespace Go.Proofs.YtfcmpclbhnjkgaaGreat
open Go Go.Proofs Go.Proofs.Sh
theorem refOrder {H : AH} {v u : Value} {l m : List ByteArray} (hl : Sl H v 1 (l.map strCell)) (hm : Sl H u 1 (m.map strCell)) (hll : l.length ≤ 1048576) (hml : m.length ≤ 1048576) (hw : Wf H) :
    Sh.Call Tryz.prog (knows 10) 48 [v, u] H (fun r H' => H' = H ∧ ∃ k : Int, r = .int .i64 k ∧ (k = 0 ↔ l = m)) := by
  refine call_of rfl Tryz.func48 rfl (Nat.le_of_ble_eq_true rfl) ?_
  have hres : Tryz.f48.results.toList = [.tmp 4] := rfl
  have hlen := fun H' => hl.len Tryz.underlying22 H'
  have mlen := fun H' => hm.len Tryz.underlying22 H'
  simp only [List.length_map] at hlen mlen
  simp only [↓Sh.dn, sx, Nat.reduceBEq, reduceCtorEq, Nat.reduceEqDiff]
  have hmin : min l.length m.length ≤ 1048576 := by omega
  refine wp_for (min l.length m.length) 5 (List.range' 5 31) (fun i F H' => H' = H ∧ l.take i = m.take i) (by simp only [↓Sh.dn, sx, Nat.reduceBEq, reduceCtorEq, Nat.reduceEqDiff]) ⟨rfl, rfl⟩ ?_ ?_
  · rintro i F H' hi hF f5 ⟨rfl, htk⟩ k
    have f0 := hF 0 rfl
    have f1 := hF 1 rfl
    simp only [↓Sh.dn, sx, Nat.reduceBEq, reduceCtorEq, Nat.reduceEqDiff] at f0 f1
    have hi1 : i < l.length := by omega
    have hi2 : i < m.length := by omega
    obtain ⟨p1, hia1, hc1⟩ := Sl.elem (s := 1) Tryz.underlying22 size_9 hl (i := i) (u := .string l[i]) (by rw [List.getElem?_map, List.getElem?_eq_getElem hi1]; rfl)
    obtain ⟨p2, hia2, hc2⟩ := Sl.elem (s := 1) Tryz.underlying22 size_9 hm (i := i) (u := .string m[i]) (by rw [List.getElem?_map, List.getElem?_eq_getElem hi2]; rfl)
    have hne : l[i] ≠ m[i] → l ≠ m := fun h e => by subst e; exact h rfl
    have ht1 : l.take (i + 1) = l.take i ++ [l[i]] := by rw [List.take_add_one, List.getElem?_eq_getElem hi1]; rfl
    have ht2 : m.take (i + 1) = m.take i ++ [m[i]] := by rw [List.take_add_one, List.getElem?_eq_getElem hi2]; rfl
    generalize l[i] = x at hc1 hne ht1
    generalize m[i] = y at hc2 hne ht2
    simp only [↓Sh.dn, sx, Nat.reduceBEq, reduceCtorEq, Nat.reduceEqDiff, f0, f1, f5, hlen, mlen, nat_lt, hi1, hi2, decide_true, hia1, hc1, hia2, hc2]
    cases hlt : strLt x y with
    | true =>
      have hxy : x ≠ y := fun e => by rw [e, strLt_irrefl] at hlt; cases hlt
      simp only [↓Sh.dn, sx, Nat.reduceBEq, reduceCtorEq, Nat.reduceEqDiff, hres]
      exact ⟨_, rfl, by simp [hne hxy]⟩
    | false =>
      by_cases hxy : x = y
      · simp only [↓Sh.dn, sx, Nat.reduceBEq, reduceCtorEq, Nat.reduceEqDiff, f0, f1, f5, hia1, hc1, hia2, hc2, hlt, hxy, decide_true, strLt_irrefl, wrap_succ hi hmin]
        exact k _ _ (by repeat (first | refine Same.put ?_ rfl | exact Same.rfl' _)) (by simp only [↓Sh.dn, sx, Nat.reduceBEq, reduceCtorEq, Nat.reduceEqDiff]) ⟨rfl, by rw [ht1, ht2, htk, hxy]⟩
      · simp only [↓Sh.dn, sx, Nat.reduceBEq, reduceCtorEq, Nat.reduceEqDiff, f0, f1, f5, hia1, hc1, hia2, hc2, hlt, hxy, decide_false, hres]
        exact ⟨_, rfl, by simp [hne hxy]⟩
  · rintro F H' hF f5 ⟨rfl, htk⟩
    have f0 := hF 0 rfl
    have f1 := hF 1 rfl
    simp only [↓Sh.dn, sx, Nat.reduceBEq, reduceCtorEq, Nat.reduceEqDiff] at f0 f1
    by_cases h1 : l.length < m.length
    · have e : min l.length m.length = l.length := by omega
      have hne : l ≠ m := fun e => by rw [e] at h1; omega
      rw [e] at f5
      simp only [↓Sh.dn, sx, Nat.reduceBEq, reduceCtorEq, Nat.reduceEqDiff, f0, f1, f5, hlen, mlen, nat_lt, Nat.lt_irrefl, h1, decide_true, decide_false, hres]
      exact ⟨_, rfl, by simp [hne]⟩
    · have e : min l.length m.length = m.length := by omega
      rw [e] at f5 htk
      by_cases h2 : m.length < l.length
      · have hne : l ≠ m := fun e => by rw [e] at h2; omega
        simp only [↓Sh.dn, sx, Nat.reduceBEq, reduceCtorEq, Nat.reduceEqDiff, f0, f1, f5, hlen, mlen, nat_lt, Nat.lt_irrefl, h1, h2, decide_true, decide_false, hres]
        exact ⟨_, rfl, by simp [hne]⟩
      · have heq : l = m := by
          rw [List.take_length, List.take_of_length_le (by omega)] at htk
          exact htk
        simp only [↓Sh.dn, sx, Nat.reduceBEq, reduceCtorEq, Nat.reduceEqDiff, f0, f1, f5, hlen, mlen, nat_lt, Nat.lt_irrefl, h1, h2, decide_true, decide_false, hres]
        exact ⟨_, rfl, by simp [heq]⟩
theorem refSame {H : AH} {v u : Value} {l m : List ByteArray} (hl : Sl H v 1 (l.map strCell)) (hm : Sl H u 1 (m.map strCell)) (hll : l.length ≤ 1048576) (hml : m.length ≤ 1048576) (hw : Wf H) :
    Sh.Call Tryz.prog (knows 10) 20 [v, u] H (fun r H' => H' = H ∧ r = .bool (decide (l = m))) := by
  refine call_of rfl Tryz.func20 rfl (Nat.le_of_ble_eq_true rfl) ?_
  have hres : Tryz.f20.results.toList = [.tmp 4] := rfl
  obtain ⟨r, H1, hd, rfl, k, rfl, hk⟩ := refOrder hl hm hll hml hw
  simp only [↓Sh.dn, sx, Nat.reduceBEq, reduceCtorEq, Nat.reduceEqDiff]
  refine ⟨_, _, hd, ?_⟩
  have : decide (k = 0) = decide (l = m) := decide_eq_decide.2 hk
  simp only [↓Sh.dn, sx, Nat.reduceBEq, reduceCtorEq, Nat.reduceEqDiff, hres, this]
/-- A list of texts in a slice of its own. -/
structure LS (H : AH) (base : Nat) (z : Value) (l : List ByteArray) (ob : Option Nat) : Prop where
  bf : Buf H 1 z (l.map strCell) ob
  fr : ∀ y, ob = some y → base ≤ y
theorem LS.void (H : AH) (base : Nat) : LS H base (.slice none 0 0) [] none := ⟨.void none, fun y hy => by cases hy⟩
theorem LS.kept {H H' : AH} {base : Nat} {z : Value} {l : List ByteArray} {ob : Option Nat} (h : LS H base z l ob) (hw : Wf H) (hk : Kept H H') : LS H' base z l ob := ⟨h.bf.kept hw hk, h.fr⟩
theorem pushStr {base : Nat} {H' : AH} {z : Value} {ob : Option Nat} {l : List ByteArray} (x : ByteArray) (hb : base ≤ H'.next) (hw : Wf H') (hl : LS H' base z l ob) (hn : l.length ≤ 1073741823) :
    ∃ a cap w' H4 ob', z = .slice a l.length cap ∧ abuildSlice Tryz.prog 22 1 [(0, .string x)] H' = some (.slice (some ⟨H'.next, 0, some 0⟩) 1 1, (H'.new 1 [.string x]).2) ∧
        abuiltin Tryz.prog .append [22, 22] [.slice a l.length cap, .slice (some ⟨H'.next, 0, some 0⟩) 1 1] (H'.new 1 [.string x]).2 = some (w', H4) ∧
        LS H4 base w' (l ++ [x]) ob' ∧ Chg (fun y => ob = some y) H' H4 := by
  obtain ⟨a, cap, w', H4, ob', e1, e2, e3, e4, e5⟩ := hl.bf.push hw (x := strCell x) rfl
  rw [List.length_map] at e1 e2
  have ha := app1_22 (H := H') (base := a) (len := l.length) (cap := cap) (x := strCell x) rfl hn
  rw [e2] at ha
  refine ⟨a, cap, w', H4, ob', e1, build1_22 (H := H') (x := .string x) rfl rfl, ha, ⟨by rw [List.map_append]; exact e3, fun y hy => ?_⟩, e4⟩
  rcases e5 y hy with h1 | h1
  · exact hl.fr y h1
  · omega
/-- Ascending lists of the same texts are equal. -/
theorem ascTail {x : ByteArray} {l : List ByteArray} (h : Asc (x :: l)) : Asc l := fun i j a b hij ha hb => h (i + 1) (j + 1) a b (by omega) (by simpa using ha) (by simpa using hb)
theorem ascHead {x : ByteArray} {l : List ByteArray} (h : Asc (x :: l)) {y : ByteArray} (hy : y ∈ l) : strLt x y = true := by
  obtain ⟨i, hi⟩ := List.mem_iff_getElem?.1 hy
  exact h 0 (i + 1) x y (by omega) rfl (by simpa using hi)
theorem asc_ext : ∀ {l m : List ByteArray}, Asc l → Asc m → (∀ x, x ∈ l ↔ x ∈ m) → l = m
  | [], [], _, _, _ => rfl
  | [], y :: m, _, _, h => by have := (h y).2 List.mem_cons_self; cases this
  | x :: l, [], _, _, h => by have := (h x).1 List.mem_cons_self; cases this
  | x :: l, y :: m, hl, hm, h => by
    have irr : ∀ a, strLt a a = false := strLt_irrefl
    have asym : ∀ a b, strLt a b = true → strLt b a = true → False := fun a b h1 h2 => by
      have := strLt_trans h1 h2
      rw [irr] at this; cases this
    have hxy : x = y := by
      rcases List.mem_cons.1 ((h x).1 List.mem_cons_self) with h1 | h1
      · exact h1
      · rcases List.mem_cons.1 ((h y).2 List.mem_cons_self) with h2 | h2
        · exact h2.symm
        · exact (asym _ _ (ascHead hm h1) (ascHead hl h2)).elim
    subst hxy
    congr 1
    refine asc_ext (ascTail hl) (ascTail hm) fun z => ?_
    constructor
    · intro hz
      rcases List.mem_cons.1 ((h z).1 (List.mem_cons_of_mem _ hz)) with h1 | h1
      · subst h1; have := ascHead hl hz; rw [irr] at this; cases this
      · exact h1
    · intro hz
      rcases List.mem_cons.1 ((h z).2 (List.mem_cons_of_mem _ hz)) with h1 | h1
      · subst h1; have := ascHead hm hz; rw [irr] at this; cases this
      · exact h1
theorem ascFilter {l : List ByteArray} (p : ByteArray → Bool) : Asc l → Asc (l.filter p) := by
  induction l with
  | nil => exact fun h => h
  | cons x l ih =>
    intro h
    have ih := ih (ascTail h)
    rw [List.filter_cons]
    split
    · intro i j a b hij ha hb
      cases i with
      | zero =>
        cases j with
        | zero => omega
        | succ j =>
          simp only [List.getElem?_cons_zero, Option.some.injEq, List.getElem?_cons_succ] at ha hb
          subst ha
          exact ascHead h (List.mem_filter.1 (List.mem_of_getElem? hb)).1
      | succ i =>
        cases j with
        | zero => omega
        | succ j => exact ih i j a b (by omega) (by simpa using ha) (by simpa using hb)
    · exact ih
end Go.Proofs.YtfcmpclbhnjkgaaGreat
/- The reference's Symbols: the symbols that lead on from a set, ascending. -/
set_option maxHeartbeats 4000000
set_option maxRecDepth 20000
set_option linter.unusedSimpArgs false
set_option linter.unusedVariables false
set_option pp.deepTerms.threshold 8
namespace Go.Proofs.YtfcmpclbhnjkgaaGreat
open Go Go.Proofs Go.Proofs.Sh
def rowLen (E : List (List (ByteArray × Nat))) (s : Nat) : Nat := (E.getD s []).length
theorem sum_perm {l m : List Nat} (h : l.Perm m) : l.sum = m.sum := by
  induction h with
  | nil => rfl
  | cons x _ ih => simp [ih]
  | swap x y l => simp; omega
  | trans _ _ ih1 ih2 => rw [ih1, ih2]
theorem sum_sub (f : Nat → Nat) : ∀ {L M : List Nat}, L.Nodup → (∀ x ∈ L, x ∈ M) → (L.map f).sum ≤ (M.map f).sum
  | [], M, _, _ => Nat.zero_le _
  | s :: L, M, hn, hs => by
    have hm := hs s List.mem_cons_self
    have hp := List.perm_cons_erase hm
    have e := sum_perm (hp.map f)
    rw [e]
    simp only [List.map_cons, List.sum_cons]
    have hn' := List.nodup_cons.1 hn
    refine Nat.add_le_add_left (sum_sub f hn'.2 fun x hx => ?_) _
    have hxs : x ≠ s := fun e => hn'.1 (e ▸ hx)
    exact (List.mem_erase_of_ne hxs).2 (hs x (List.mem_cons_of_mem _ hx))
theorem sum_rows {E : List (List (ByteArray × Nat))} {L : List Nat} (hn : L.Nodup) (hl : ∀ s ∈ L, s < E.length) : (L.map (rowLen E)).sum ≤ (E.map List.length).sum := by
  have h := sum_sub (rowLen E) hn (M := List.range E.length) fun x hx => List.mem_range.2 (hl x hx)
  have e : (List.range E.length).map (rowLen E) = E.map List.length := by
    refine List.ext_getElem? fun i => ?_
    by_cases hi : i < E.length
    · simp [hi, rowLen, List.getD]
    · rw [List.getElem?_eq_none (by simp; omega), List.getElem?_eq_none (by simp; omega)]
  rw [e] at h; exact h
theorem refSymbols {H : AH} {v u ev bv : Value} {vals : List Value} {n : Nat} {E : List (List (ByteArray × Nat))} {ends : List Bool} {L : List Nat} (h : RG H v n E ends ev bv vals) (hL : Sl H u 1 (L.map natC)) (hlt : ∀ t ∈ L, t < n) (hnd : L.Nodup) (htot : (E.map List.length).sum ≤ 1048576) (hw : Wf H) :
    Sh.Call Tryz.prog (knows 10) 66 [v, u] H (fun r H' => Kept H H' ∧ ∃ l b, Buf H' 1 r (l.map strCell) b ∧ Asc l ∧ l.length ≤ 1048576 ∧ ∀ x, x ∈ l ↔ x ≠ noText ∧ ∃ s ∈ L, ∃ t, goesE E x s t) := by
  refine call_of rfl Tryz.func66 rfl (Nat.le_of_ble_eq_true rfl) ?_
  have hres : Tryz.f66.results.toList = [.tmp 4] := rfl
  have hrb := RBox.of h hw
  have hk1 : Kept H (H.new 3 [.int .i64 0, ev, bv]).2 := Kept.new hw 3 _
  have hE := h.ed.sl.isCell
  have hB := h.en.isCell
  rw [h.eq]
  simp only [↓Sh.dn, sx, Nat.reduceBEq, reduceCtorEq, Nat.reduceEqDiff, rgNew hE hB]
  generalize (H.new 3 [.int .i64 0, ev, bv]).2 = H1 at hrb hk1 ⊢
  generalize H.next = gb at hrb ⊢
  have hn2 := h.n2
  have hll := nodup_le hnd hlt
  have hsum := sum_rows hnd (fun s hs => by rw [h.le]; exact hlt s hs)
  have hpart : ∀ i, ((L.take i).map (rowLen E)).sum ≤ 1048576 := fun i => by
    have h1 : ((L.take i).map (rowLen E)).sum + ((L.drop i).map (rowLen E)).sum = (L.map (rowLen E)).sum := by
      rw [← List.sum_append, ← List.map_append, List.take_append_drop]
    omega
  refine wp_for L.length 6 (List.range' 5 4 ++ List.range' 11 37) (fun i F H' => Kept H1 H' ∧ ∃ z, F.get 5 = some z ∧ ∃ out ob, LS H' H1.next z out ob ∧ out.length ≤ ((L.take i).map (rowLen E)).sum ∧ ∀ x, x ∈ out ↔ x ≠ noText ∧ ∃ s ∈ L.take i, ∃ t, goesE E x s t) (by simp only [↓Sh.dn, sx, Nat.reduceBEq, reduceCtorEq, Nat.reduceEqDiff]) ⟨Kept.refl hk1.wf, _, by simp only [↓Sh.dn, sx, Nat.reduceBEq, reduceCtorEq, Nat.reduceEqDiff], [], none, LS.void _ _, Nat.zero_le _, fun x => by simp⟩ ?_ ?_
  · rintro i F H' hi hF f6 ⟨hk, z, f5, out, ob, hl, hol, hiff⟩ k
    have f1 := hF 1 rfl
    have f2 := hF 2 rfl
    simp only [↓Sh.dn, sx, Nat.reduceBEq, reduceCtorEq, Nat.reduceEqDiff] at f1 f2
    have hL' := fun {H'} (hk : Kept H1 H') => hL.grow ((hk1.trans hk).grow hw)
    have hlen := (hL' hk).len Tryz.underlying74 H'
    rw [List.length_map] at hlen
    obtain ⟨p, hia, hc⟩ := natSl Tryz.underlying74 size_3 (hL' (Kept.refl hk1.wf)) hi
    have hc' := fun {H'} (hk : Kept H1 H') => cell_grow (hk.grow hk1.wf) hc
    have htn : L[i] < n := hlt _ (List.getElem_mem hi)
    have htake : L.take (i + 1) = L.take i ++ [L[i]] := by rw [List.take_add_one, List.getElem?_eq_getElem hi]; rfl
    clear hc
    generalize L[i] = s at hc' htn htake
    obtain ⟨r, hr⟩ : ∃ r, E[s]? = some r := ⟨E[s]'(by rw [h.le]; exact htn), List.getElem?_eq_getElem _⟩
    have hr' : (rCells E)[s]? = some (r.map rEdge) := by unfold rCells; rw [List.getElem?_map, hr]; rfl
    have hrln : rowLen E s = r.length := by unfold rowLen; rw [List.getD_eq_getElem?_getD, hr]; rfl
    have hsum1 : ((L.take (i + 1)).map (rowLen E)).sum = ((L.take i).map (rowLen E)).sum + r.length := by rw [htake]; simp [hrln]
    have hp1 := hpart (i + 1)
    obtain ⟨hrl, hrt⟩ := h.to s r hr
    obtain ⟨ga, oa, ka, wr, hia2, hca, hsr⟩ := (h.ed.grow (hk1.grow hw)).at Tryz.underlying62 size_115 hr'
    have hro : ∀ {H'}, Kept H1 H' → H'.cell ⟨ga, oa, some ka⟩ = some wr ∧ Sl H' wr 2 (r.map rEdge) ∧ abuiltin Tryz.prog .len [115] [wr] H' = some (.int .i64 (r.length : Int), H') := fun hk => by
      have h2 := hsr.grow (hk.grow hk1.wf)
      refine ⟨cell_grow (hk.grow hk1.wf) hca, h2, ?_⟩
      rw [h2.len Tryz.underlying115, List.length_map]
    simp only [↓Sh.dn, sx, Nat.reduceBEq, reduceCtorEq, Nat.reduceEqDiff, f1, f6, nat_lt, hi, decide_true, hlen]
    refine wp_for r.length 7 (List.range' 17 31 ++ [5, 7, 8]) (fun q F'' H'' => Kept H1 H'' ∧ ∃ z', F''.get 5 = some z' ∧ ∃ out' ob', LS H'' H1.next z' out' ob' ∧ out'.length ≤ ((L.take i).map (rowLen E)).sum + q ∧ ∀ x, x ∈ out' ↔ x ≠ noText ∧ ((∃ s ∈ L.take i, ∃ t, goesE E x s t) ∨ ∃ e ∈ r.take q, e.1 = x)) (by simp only [↓Sh.dn, sx, Nat.reduceBEq, reduceCtorEq, Nat.reduceEqDiff]) ⟨hk, z, by simp only [↓Sh.dn, sx, Nat.reduceBEq, reduceCtorEq, Nat.reduceEqDiff, f5], out, ob, hl, Nat.le_trans hol (Nat.le_add_right _ _), fun x => by rw [hiff x]; simp⟩ ?_ ?_
    · rintro q F'' H'' hq hF'' f7 ⟨hk'', z', f5', out', ob', hl', hol', hiff'⟩ k2
      have g1 := hF'' 1 rfl
      have g2 := hF'' 2 rfl
      have g6 := hF'' 6 rfl
      simp only [↓Sh.dn, sx, Nat.reduceBEq, reduceCtorEq, Nat.reduceEqDiff, f1, f2, f6] at g1 g2 g6
      obtain ⟨hc1, hs1, hl1⟩ := hro hk''
      have hcc := hc' hk''
      have hb1 := hrb.kept hk1.wf hk''
      obtain ⟨g', o', k', hia3, _, hcs2⟩ := hs1.at Tryz.underlying115 size_117 (i := q) (x := rEdge r[q]) (by simp [hq]) .i64
      have hce : H''.cell ⟨g', o', some k'⟩ = some (.string r[q].1) := by simpa using hcs2 0 _ rfl
      have hrq : r[q] ∈ r := List.getElem_mem hq
      have htk : r.take (q + 1) = r.take q ++ [r[q]] := by rw [List.take_add_one, List.getElem?_eq_getElem hq]; rfl
      clear hcs2
      generalize r[q] = e at hce hrq htk
      have hj : ∀ x, (∃ e' ∈ r.take (q + 1), e'.1 = x) ↔ (∃ e' ∈ r.take q, e'.1 = x) ∨ e.1 = x := fun x => by
        rw [htk]
        simp only [List.mem_append, List.mem_singleton]
        constructor
        · rintro ⟨e', h1 | h1, h2⟩
          · exact .inl ⟨e', h1, h2⟩
          · subst h1; exact .inr h2
        · rintro (⟨e', h1, h2⟩ | h2)
          · exact ⟨e', .inl h1, h2⟩
          · exact ⟨e, .inr rfl, h2⟩
      simp only [↓Sh.dn, sx, Nat.reduceBEq, reduceCtorEq, Nat.reduceEqDiff, f7, g1, g2, g6, hb1.c1, hia, hcc, hia2, hc1, hl1, nat_lt, hq, decide_true, hia3, hce]
      by_cases he : e.1 = ⟨#[]⟩
      · simp only [↓Sh.dn, sx, Nat.reduceBEq, reduceCtorEq, Nat.reduceEqDiff, he, decide_true, f7, wrap_succ' hq (Nat.le_trans hrl (by decide))]
        refine k2 _ _ (by repeat (first | refine Same.put ?_ rfl | exact Same.rfl' _)) (by simp only [↓Sh.dn, sx, Nat.reduceBEq, reduceCtorEq, Nat.reduceEqDiff]) ⟨hk'', z', by simp only [↓Sh.dn, sx, Nat.reduceBEq, reduceCtorEq, Nat.reduceEqDiff, f5'], out', ob', hl', by omega, fun x => ?_⟩
        rw [hiff', hj]
        constructor
        · rintro ⟨h1, h2 | h2⟩
          · exact ⟨h1, .inl h2⟩
          · exact ⟨h1, .inr (.inl h2)⟩
        · rintro ⟨h1, h2 | h2 | h2⟩
          · exact ⟨h1, .inl h2⟩
          · exact ⟨h1, .inr h2⟩
          · exact absurd (h2.symm.trans he) h1
      · obtain ⟨a, cap, w', H4, ob2, rfl, e1, e2, e3, e4⟩ := pushStr e.1 hk''.next hk''.wf hl' (by omega)
        simp only [↓Sh.dn, sx, Nat.reduceBEq, reduceCtorEq, Nat.reduceEqDiff, he, decide_false, f5', f7, e1, e2, wrap_succ' hq (Nat.le_trans hrl (by decide))]
        refine k2 _ _ (by repeat (first | refine Same.put ?_ rfl | exact Same.rfl' _)) (by simp only [↓Sh.dn, sx, Nat.reduceBEq, reduceCtorEq, Nat.reduceEqDiff]) ⟨hk''.then (Nat.le_refl _) (e4.weak hl'.fr), w', by simp only [↓Sh.dn, sx, Nat.reduceBEq, reduceCtorEq, Nat.reduceEqDiff], out' ++ [e.1], ob2, e3, by simp only [List.length_append, List.length_singleton]; omega, fun x => ?_⟩
        rw [hj, List.mem_append, List.mem_singleton, hiff' x]
        constructor
        · rintro (⟨h1, h2 | h2⟩ | h1)
          · exact ⟨h1, .inl h2⟩
          · exact ⟨h1, .inr (.inl h2)⟩
          · subst h1; exact ⟨he, .inr (.inr rfl)⟩
        · rintro ⟨h1, h2 | h2 | h2⟩
          · exact .inl ⟨h1, .inl h2⟩
          · exact .inl ⟨h1, .inr h2⟩
          · exact .inr h2.symm
    · rintro F'' H'' hF'' f7 ⟨hk'', z', f5', out', ob', hl', hol', hiff'⟩
      have g1 := hF'' 1 rfl
      have g2 := hF'' 2 rfl
      have g6 := hF'' 6 rfl
      simp only [↓Sh.dn, sx, Nat.reduceBEq, reduceCtorEq, Nat.reduceEqDiff, f1, f2, f6] at g1 g2 g6
      obtain ⟨hc1, hs1, hl1⟩ := hro hk''
      have hcc := hc' hk''
      have hb1 := hrb.kept hk1.wf hk''
      simp only [↓Sh.dn, sx, Nat.reduceBEq, reduceCtorEq, Nat.reduceEqDiff, f7, g1, g2, g6, hb1.c1, hia, hcc, hia2, hc1, hl1, nat_lt, Nat.lt_irrefl, decide_false, wrap_succ' hi (Nat.le_trans hll (Nat.le_trans hn2 (by decide)))]
      refine k _ _ ?_ (by simp only [↓Sh.dn, sx, Nat.reduceBEq, reduceCtorEq, Nat.reduceEqDiff]) ⟨hk'', z', by simp only [↓Sh.dn, sx, Nat.reduceBEq, reduceCtorEq, Nat.reduceEqDiff, f5'], out', ob', hl', by rw [hsum1]; exact hol', fun x => ?_⟩
      · repeat refine Same.put ?_ rfl
        exact Same.trans (by repeat (first | refine Same.put ?_ rfl | exact Same.rfl' _)) (hF''.sub rfl)
      · rw [hiff' x, htake, List.take_length]
        simp only [List.mem_append, List.mem_singleton]
        constructor
        · rintro ⟨h0, ⟨s', h1, h2⟩ | ⟨e, h1, h2⟩⟩
          · exact ⟨h0, s', .inl h1, h2⟩
          · exact ⟨h0, s, .inr rfl, e.2, r, hr, by rw [← h2]; exact h1⟩
        · rintro ⟨h0, s', h1 | h1, t, h2⟩
          · exact ⟨h0, .inl ⟨s', h1, t, h2⟩⟩
          · subst h1
            obtain ⟨r', h3, h4⟩ := h2
            rw [hr] at h3
            rw [← Option.some.inj h3] at h4
            exact ⟨h0, .inr ⟨_, h4, rfl⟩⟩
  · rintro F H' hF f6 ⟨hk, z, f5, out, ob, hl, hol, hiff⟩
    have f1 := hF 1 rfl
    simp only [↓Sh.dn, sx, Nat.reduceBEq, reduceCtorEq, Nat.reduceEqDiff] at f1
    have hL' := hL.grow ((hk1.trans hk).grow hw)
    have hlen := hL'.len Tryz.underlying74 H'
    rw [List.length_map] at hlen
    rw [List.take_length] at hiff hol
    have hol2 : out.length ≤ 1048576 := by omega
    obtain ⟨rr, H3, hd3, l', hperm, hsrt, hb3, hc3⟩ := sortStrings (l := out) hl.bf hol2 hk.wf
    simp only [↓Sh.dn, sx, Nat.reduceBEq, reduceCtorEq, Nat.reduceEqDiff, f1, f5, f6, nat_lt, Nat.lt_irrefl, decide_false, hlen]
    refine ⟨_, _, hd3, ?_⟩
    have hk3 : Kept H1 H3 := hk.then (Nat.le_refl _) (hc3.weak hl.fr)
    have hs5 : Sl H3 z 1 (l'.map strCell) := hb3.toSl
    have hl'l : l'.length ≤ 1048576 := by rw [hperm.length_eq]; exact hol2
    refine wp_for l'.length 10 (List.range' 9 2 ++ List.range' 50 27) (fun i F H' => Kept H3 H' ∧ ∃ z2, F.get 9 = some z2 ∧ ∃ st ob2, LS H' H3.next z2 st ob2 ∧ st.length ≤ i ∧ Asc st ∧ ∀ x, x ∈ st ↔ x ∈ l'.take i) (by simp only [↓Sh.dn, sx, Nat.reduceBEq, reduceCtorEq, Nat.reduceEqDiff]) ⟨Kept.refl hk3.wf, _, by simp only [↓Sh.dn, sx, Nat.reduceBEq, reduceCtorEq, Nat.reduceEqDiff], [], none, LS.void _ _, Nat.zero_le _, fun i j x y _ hx => by simp at hx, fun x => by simp⟩ ?_ ?_
    · rintro i F' H' hi hF' f10 ⟨hk4, z2, f9, st, ob2, hst, hstl, hasc, hmem⟩ k
      have g5 := hF' 5 rfl
      simp only [↓Sh.dn, sx, Nat.reduceBEq, reduceCtorEq, Nat.reduceEqDiff, f5] at g5
      have hs6 := hs5.grow (hk4.grow hk3.wf)
      have hlen5 := hs6.len Tryz.underlying22 H'
      rw [List.length_map] at hlen5
      obtain ⟨p, hia, hc⟩ := Sl.elem (s := 1) Tryz.underlying22 size_9 hs6 (i := i) (u := .string l'[i]) (by rw [List.getElem?_map, List.getElem?_eq_getElem hi]; rfl)
      have hgi : l'[i]? = some l'[i] := List.getElem?_eq_getElem hi
      have htk : l'.take (i + 1) = l'.take i ++ [l'[i]] := by rw [List.take_add_one, hgi]; rfl
      obtain ⟨x, hx⟩ : ∃ x, l'[i] = x := ⟨_, rfl⟩
      rw [hx] at hc hgi htk
      -- one more text
      have more : (∀ y ∈ st, strLt y x = true) → ∃ a cap w' H4 ob', z2 = .slice a st.length cap ∧ abuildSlice Tryz.prog 22 1 [(0, .string x)] H' = some (.slice (some ⟨H'.next, 0, some 0⟩) 1 1, (H'.new 1 [.string x]).2) ∧
          abuiltin Tryz.prog .append [22, 22] [.slice a st.length cap, .slice (some ⟨H'.next, 0, some 0⟩) 1 1] (H'.new 1 [.string x]).2 = some (w', H4) ∧ Kept H3 H4 ∧ LS H4 H3.next w' (st ++ [x]) ob' ∧ Asc (st ++ [x]) := by
        intro hall
        obtain ⟨a, cap, w', H4, ob', e0, e1, e2, e3, e4⟩ := pushStr x hk4.next hk4.wf hst (by omega)
        refine ⟨a, cap, w', H4, ob', e0, e1, e2, hk4.then (Nat.le_refl _) (e4.weak hst.fr), e3, fun p q a b hpq ha hb => ?_⟩
        by_cases hq : q < st.length
        · rw [List.getElem?_append_left (by omega)] at ha
          rw [List.getElem?_append_left hq] at hb
          exact hasc p q a b hpq ha hb
        · have hqe : q = st.length := by
            have := (List.getElem?_eq_some_iff.1 hb).1
            simp at this; omega
          subst hqe
          rw [List.getElem?_append_left (by omega)] at ha
          simp at hb
          subst hb
          exact hall a (List.mem_of_getElem? ha)
      by_cases h0 : i = 0
      · subst h0
        have hst0 : st = [] := List.length_eq_zero_iff.1 (by omega)
        subst hst0
        obtain ⟨a, cap, w', H4, ob', rfl, e1, e2, e3, e4, e5⟩ := more (fun y hy => by cases hy)
        have d0 : decide (((0 : Nat) : Int) = 0) = true := rfl
        simp only [↓Sh.dn, sx, Nat.reduceBEq, reduceCtorEq, Nat.reduceEqDiff, g5, f9, f10, hlen5, nat_lt, hi, decide_true, d0, hia, hc, e1, e2, wrap_succ hi hl'l]
        refine k _ _ (by repeat (first | refine Same.put ?_ rfl | exact Same.rfl' _)) (by simp only [↓Sh.dn, sx, Nat.reduceBEq, reduceCtorEq, Nat.reduceEqDiff]) ⟨e3, w', by simp only [↓Sh.dn, sx, Nat.reduceBEq, reduceCtorEq, Nat.reduceEqDiff], [] ++ [x], ob', e4, by simp, e5, fun y => by rw [htk]; simp⟩
      · have d0 : decide ((i : Int) = 0) = false := by simp; omega
        have hi1 : i - 1 < l'.length := by omega
        obtain ⟨p1, hia1, hc1⟩ := Sl.elem (s := 1) Tryz.underlying22 size_9 hs6 (i := i - 1) (u := .string l'[i - 1]) (by rw [List.getElem?_map, List.getElem?_eq_getElem hi1]; rfl)
        have w1 : IntKind.wrap .i64 ((i : Int) - 1) = ((i - 1 : Nat) : Int) := by rw [wrap64 (by omega) (by omega)]; omega
        have hgp : l'[i - 1]? = some l'[i - 1] := List.getElem?_eq_getElem hi1
        obtain ⟨y, hy⟩ : ∃ y, l'[i - 1] = y := ⟨_, rfl⟩
        rw [hy] at hc1 hgp
        have hyin : y ∈ st := (hmem y).2 (List.mem_of_getElem? (i := i - 1) (by rw [List.getElem?_take, if_pos (by omega)]; exact hgp))
        by_cases hxy : x = y
        · simp only [↓Sh.dn, sx, Nat.reduceBEq, reduceCtorEq, Nat.reduceEqDiff, g5, f9, f10, hlen5, nat_lt, hi, decide_true, d0, hia, hc, w1, hia1, hc1, hxy, wrap_succ hi hl'l]
          refine k _ _ (by repeat (first | refine Same.put ?_ rfl | exact Same.rfl' _)) (by simp only [↓Sh.dn, sx, Nat.reduceBEq, reduceCtorEq, Nat.reduceEqDiff]) ⟨hk4, z2, by simp only [↓Sh.dn, sx, Nat.reduceBEq, reduceCtorEq, Nat.reduceEqDiff, f9], st, ob2, hst, by omega, hasc, fun a => ?_⟩
          rw [hmem, htk, List.mem_append, List.mem_singleton]
          constructor
          · exact .inl
          · rintro (h1 | h1)
            · exact h1
            · subst h1; rw [hxy]; exact (hmem y).1 hyin
        · have hall : ∀ a ∈ st, strLt a x = true := by
            intro a ha
            obtain ⟨j, hj⟩ := List.mem_iff_getElem?.1 ((hmem a).1 ha)
            rw [List.getElem?_take] at hj
            split at hj
            · rename_i hji
              have h1 := hsrt j (i - 1) a y (Nat.zero_le _) (by omega) hi1 hj hgp
              have h2 := hsrt (i - 1) i y x (Nat.zero_le _) (by omega) hi hgp hgi
              have h3 : strLt y x = true := by
                rcases strLt_tri y x with h | h | h
                · exact h
                · exact absurd h.symm hxy
                · rw [h2] at h; cases h
              rcases strLt_tri a y with h | h | h
              · exact strLt_trans h h3
              · rw [h]; exact h3
              · rw [h1] at h; cases h
            · cases hj
          obtain ⟨a, cap, w', H4, ob', rfl, e1, e2, e3, e4, e5⟩ := more hall
          simp only [↓Sh.dn, sx, Nat.reduceBEq, reduceCtorEq, Nat.reduceEqDiff, g5, f9, f10, hlen5, nat_lt, hi, decide_true, decide_false, d0, hia, hc, w1, hia1, hc1, hxy, e1, e2, wrap_succ hi hl'l]
          refine k _ _ (by repeat (first | refine Same.put ?_ rfl | exact Same.rfl' _)) (by simp only [↓Sh.dn, sx, Nat.reduceBEq, reduceCtorEq, Nat.reduceEqDiff]) ⟨e3, w', by simp only [↓Sh.dn, sx, Nat.reduceBEq, reduceCtorEq, Nat.reduceEqDiff], st ++ [x], ob', e4, by simp; omega, e5, fun a => ?_⟩
          rw [htk, List.mem_append, List.mem_append, hmem]
    · rintro F' H' hF' f10 ⟨hk4, z2, f9, st, ob2, hst, hstl, hasc, hmem⟩
      have g5 := hF' 5 rfl
      simp only [↓Sh.dn, sx, Nat.reduceBEq, reduceCtorEq, Nat.reduceEqDiff, f5] at g5
      have hlen5 := (hs5.grow (hk4.grow hk3.wf)).len Tryz.underlying22 H'
      rw [List.length_map] at hlen5
      rw [List.take_length] at hmem
      simp only [↓Sh.dn, sx, Nat.reduceBEq, reduceCtorEq, Nat.reduceEqDiff, g5, f9, f10, hlen5, nat_lt, Nat.lt_irrefl, decide_false, hres]
      refine ⟨(hk1.trans hk3).trans hk4, st, ob2, hst.bf, hasc, by omega, fun x => ?_⟩
      rw [hmem, hperm.mem_iff, hiff]
end Go.Proofs.YtfcmpclbhnjkgaaGreat
/- The symbols that follow a word: by the program, by the reference. -/
set_option maxHeartbeats 4000000
set_option maxRecDepth 20000
set_option linter.unusedSimpArgs false
set_option linter.unusedVariables false
set_option pp.deepTerms.threshold 8
namespace Go.Proofs.YtfcmpclbhnjkgaaGreat
open Go Go.Proofs Go.Proofs.Sh
/-- Does a symbol lead on from a word to where an end is reached? -/
def leads (N : NetD) (w : List ByteArray) (x : ByteArray) : Prop := ∃ s t, N.run w s ∧ N.goes x s t ∧ N.alive t
noncomputable def nextL (N : NetD) (w : List ByteArray) : List ByteArray := if bothErr N w = 0 ∧ w.all (strIn N.sigma) = true then N.sigma.filter fun x => isB (leads N w x) else []
theorem BMap.put {H : AH} {g : Nat} {D : List Nat} (h : BMap H g D) (hw : Wf H) (t : Nat) : ∃ H' D', amapUpdate Tryz.prog 93 (.map (some g)) (.int .i64 (t : Int)) (.bool true) H = some H' ∧ BMap H' g D' ∧ Chg (fun y => y = g) H H' ∧ ∀ x, x ∈ D' ↔ x ∈ D ∨ x = t := by
  by_cases ht : t ∈ D
  · obtain ⟨ob⟩ := id h
    have hf := findK_enc (P := Tryz.prog) natK_eq t (D.map fun t => (t, Value.bool true)) 0
    obtain ⟨i, hi⟩ : ∃ i, (D.map fun t => (t, Value.bool true)).findIdx? (fun p => decide (t = p.1)) = some i := by
      cases hf2 : (D.map fun t => (t, Value.bool true)).findIdx? fun p => decide (t = p.1) with
      | some i => exact ⟨i, rfl⟩
      | none =>
        rw [List.findIdx?_eq_none_iff] at hf2
        have := hf2 (t, .bool true) (List.mem_map.2 ⟨t, ht, rfl⟩)
        simp at this
    obtain ⟨h1, h2, _⟩ := List.findIdx?_eq_some_iff_getElem.1 hi
    rw [hi] at hf
    simp only [Option.map_some, Nat.add_zero] at hf
    obtain ⟨es, hes⟩ : ∃ es, (D.map fun t => (t, Value.bool true)).map (fun p => (natK p.1, p.2)) = es := ⟨_, rfl⟩
    have hesl : i < es.length := by rw [← hes]; simpa using h1
    have hget : es[i]? = some (natK t, .bool true) := by
      rw [← hes, List.getElem?_map, List.getElem?_eq_getElem h1]
      have e1 : ((D.map fun t => (t, Value.bool true))[i]).1 = t := (of_decide_eq_true h2).symm
      have e2 : ((D.map fun t => (t, Value.bool true))[i]).2 = .bool true := by simp
      simp only [Option.map_some, e1, e2]
    have hset : es.set i (natK t, .bool true) = es := by
      refine List.ext_getElem? fun j => ?_
      rw [List.getElem?_set]
      by_cases hj : i = j
      · subst hj; rw [if_pos rfl, if_pos hesl, hget]
      · rw [if_neg hj]
    refine ⟨H.put g (.map (es.set i (natK t, .bool true))), D, ?_, ⟨?_⟩, Chg.put (X := fun y => y = g) hw (hw _ _ ob) rfl _, fun x => ⟨.inl, fun h => h.elim id fun e => e ▸ ht⟩⟩
    · have hv : veq (natK t) (natK t) = true := veq_int
      have hm := natK_may t
      show amapUpdate Tryz.prog 93 (.map (some g)) (natK t) (.bool true) H = _
      unfold amapUpdate
      rw [hes] at ob hf
      simp only [Tryz.underlying93, ob, hm, cond_true, hf, Option.bind_some, hget, hv]
    · rw [hset, ← hes]; exact Tr.get_set_eq _ _ _
  · obtain ⟨H', e1, e2, e3, _⟩ := h.add hw ht
    exact ⟨H', _, e1, e2, e3, fun x => by rw [List.mem_append, List.mem_singleton]⟩
theorem autoNext {H : AH} {v u : Value} {N : NetD} {w : List ByteArray} (h : NetAt H v N) (hsm : NetSmall N) (hu : Sl H u 1 (w.map strCell)) (hwl : w.length ≤ 1048576) (hwx : ∀ x ∈ w, x.size ≤ 1048576) (hw : Wf H) :
    Sh.Call Tryz.prog (knows 10) 31 [v, u] H (fun r H' => Kept H H' ∧ ∃ lv, r = .tuple #[lv, .bool (accB N w), .int .i64 (bothErr N w)] ∧ Sl H' lv 1 ((nextL N w).map strCell)) := by
  refine call_of rfl Tryz.func31 rfl (Nat.le_of_ble_eq_true rfl) ?_
  have hres : Tryz.f31.results.toList = [.tmp 4, .tmp 5, .tmp 6] := rfl
  obtain ⟨sg, ar, en, rfl, hsg, har, hen⟩ := h
  have hb1 := NetBox.of (N := N) hw hsg har hen
  have hk1 : Kept H (H.new 4 [sg, .int .i64 N.states, ar, en]).2 := Kept.new hw 4 _
  simp only [↓Sh.dn, sx, Nat.reduceBEq, reduceCtorEq, Nat.reduceEqDiff, netNew hsg.isCell har.isCell hen.isCell]
  generalize H.next = gg at hb1 ⊢
  generalize (H.new 4 [sg, .int .i64 N.states, ar, en]).2 = H1 at hb1 hk1 ⊢
  obtain ⟨r, H2, hd2, hk2, gp, lv, rfl, hgp⟩ := autoGiven hb1.netAt hsm (hu.grow (hk1.grow hw)) hwl hwx hk1.wf
  simp only [↓Sh.dn, sx, Nat.reduceBEq, reduceCtorEq, Nat.reduceEqDiff, hb1.c0, hb1.c1, hb1.c2, hb1.c3, hb1.ca, netLenS hb1, netLenA hb1, netLenE hb1, Option.map_some]
  refine ⟨_, _, hd2, ?_⟩
  have hk12 := hk1.trans hk2
  by_cases hE : bothErr N w = 0
  case neg =>
    have h1 : accB N w = false := by unfold accB; exact isB_not fun h => hE h.1
    have h2 : nextL N w = [] := by unfold nextL; exact if_neg fun h => hE h.1
    simp only [↓Sh.dn, sx, Nat.reduceBEq, reduceCtorEq, Nat.reduceEqDiff, hE, decide_false, hres, h1, h2, hk12]
    exact ⟨_, rfl, Sl.nil _ _⟩
  obtain ⟨g, rfl, ⟨sv, av, ev, cv, vals, hPG⟩, hlv⟩ := hgp hE
  have hok := bothErr_ok hE
  have hno := word_no hE
  cases hall : w.all (strIn N.sigma) with
  | false =>
    obtain ⟨x, hx, hs⟩ := List.all_eq_false.1 hall
    have hxs : x ∉ N.sigma := fun h => hs (strIn_iff.2 h)
    have h1 : accB N w = false := by
      unfold accB
      refine isB_not ?_
      rintro ⟨_, _, t, h2, _⟩
      exact run_out hok hx (hno x hx) hxs t h2
    have h2 : nextL N w = [] := by unfold nextL; exact if_neg fun h => hxs (strIn_iff.1 (List.all_eq_true.1 h.2 x hx))
    simp only [↓Sh.dn, sx, Nat.reduceBEq, reduceCtorEq, Nat.reduceEqDiff, hE, decide_true, hall, Bool.and_false, hres, h1, h2, hk12]
    exact ⟨_, rfl, Sl.nil _ _⟩
  | true =>
    have hin : ∀ x ∈ w, x ∈ N.sigma := fun x hx => strIn_iff.1 (List.all_eq_true.1 hall x hx)
    have hnl : nextL N w = N.sigma.filter fun x => isB (leads N w x) := by unfold nextL; exact if_pos ⟨hE, hall⟩
    have hn2 := hPG.n2
    obtain ⟨r3, H3, hd3, hk3, B, hB, hBl, hBi⟩ := graphLasting hPG (by have := hsm.sg; omega) hk2.wf
    rw [alive_gr hok] at hBi
    have hPG3 := hPG.kept hk2.wf hk3
    obtain ⟨r5, H5, hd5, hk5, out, b, hbf, hfr, hnd, hlt, hiff⟩ := graphRun hPG3 ((hlv hall).grow (hk3.grow hk2.wf)) (by rw [List.length_map]; exact hwl) hk3.wf
    have hiff : ∀ t, t ∈ out ↔ N.run w t := fun t => (hiff t).trans (run_gEdges hok hin t).symm
    have hol := nodup_le hnd hlt
    have hPG5 := hPG3.kept hk3.wf hk5
    have k6 := Kept.push hk5.wf (.map [])
    have m6 : BMap (H5.push (.map [])).2 H5.next [] := MapIs.new
    have hos := hbf.toSl
    have hlen := hos.len Tryz.underlying89 (H5.push (.map [])).2
    rw [List.length_map] at hlen
    simp only [↓Sh.dn, sx, Nat.reduceBEq, reduceCtorEq, Nat.reduceEqDiff, hE, decide_true, hall, Bool.and_self]
    refine ⟨_, _, hd3, ?_⟩
    refine ⟨_, _, hd5, ?_⟩
    simp only [↓Sh.dn, sx, Nat.reduceBEq, reduceCtorEq, Nat.reduceEqDiff, hlen]
    obtain ⟨G, hG⟩ : ∃ G, H5.next = G := ⟨_, rfl⟩
    have hn := hPG5.gr.arr.cell 1
    have hBs := hB.grow (hk5.grow hk3.wf)
    refine wp_for out.length 44 (List.range' 44 31 ++ [15, 17]) (fun i F H' => Kept H5 H' ∧ ∃ D, BMap H' H5.next D ∧ ∀ k : Nat, k ∈ D ↔ ∃ s ∈ out.take i, ∃ t, goesP (gEdges N) (fun x => x = (k : Int)) s t ∧ B[t]? = some true) (by simp only [↓Sh.dn, sx, Nat.reduceBEq, reduceCtorEq, Nat.reduceEqDiff]) ⟨k6, [], m6, fun k => by simp⟩ ?_ ?_
    · rintro i F H' hi hF f44 ⟨hk, D, hD, hDi⟩ k
      have f7 := hF 7 rfl
      have f11 := hF 11 rfl
      have f13 := hF 13 rfl
      have f42 := hF 42 rfl
      have f43 := hF 43 rfl
      simp only [↓Sh.dn, sx, Nat.reduceBEq, reduceCtorEq, Nat.reduceEqDiff] at f7 f11 f13 f42 f43
      obtain ⟨p, hia, hc⟩ := natSl Tryz.underlying89 size_3 (hos.grow (hk.grow hk5.wf)) hi
      have htn : out[i] < N.states.toNat := hlt _ (List.getElem_mem hi)
      have htake : out.take (i + 1) = out.take i ++ [out[i]] := by rw [List.take_add_one, List.getElem?_eq_getElem hi]; rfl
      generalize out[i] = s at hc htn htake
      obtain ⟨r, hr⟩ : ∃ r, (gEdges N)[s]? = some r := ⟨(gEdges N)[s]'(by rw [hPG.le]; exact htn), List.getElem?_eq_getElem _⟩
      obtain ⟨hrl, hrt⟩ := hPG.to s r hr
      obtain ⟨pr, wr, hiar, hcr, hsr, hlr⟩ := PG.row hPG5 hr
      have q1 := cell_grow (hk.grow hk5.wf) hn
      have q2 := cell_grow (hk.grow hk5.wf) hcr
      simp only [↓Sh.dn, sx, Nat.reduceBEq, reduceCtorEq, Nat.reduceEqDiff, f7, f42, f43, f44, nat_lt, hi, decide_true, hia, hc, q1, hiar, q2, hlr]
      refine wp_for r.length 56 (List.range' 56 18 ++ [17]) (fun q F'' H'' => Kept H5 H'' ∧ ∃ D, BMap H'' H5.next D ∧ ∀ k : Nat, k ∈ D ↔ (∃ s ∈ out.take i, ∃ t, goesP (gEdges N) (fun x => x = (k : Int)) s t ∧ B[t]? = some true) ∨ ∃ e ∈ r.take q, e.2.1 = (k : Int) ∧ B[e.1]? = some true) (by simp only [↓Sh.dn, sx, Nat.reduceBEq, reduceCtorEq, Nat.reduceEqDiff]) ⟨hk, D, hD, fun k => by rw [hDi]; simp⟩ ?_ ?_
      · rintro q F'' H'' hq hF'' f56 ⟨hk'', D, hD, hDi⟩ k2
        have g11 := hF'' 11 rfl
        have g13 := hF'' 13 rfl
        have g54 := hF'' 54 rfl
        have g55 := hF'' 55 rfl
        simp only [↓Sh.dn, sx, Nat.reduceBEq, reduceCtorEq, Nat.reduceEqDiff, f11, f13] at g11 g13 g54 g55
        obtain ⟨pe, hiae, hce⟩ := PG.edge (hsr.grow (hk''.grow hk5.wf)) hq
        have hrq : r[q] ∈ r := List.getElem_mem hq
        have htk : r.take (q + 1) = r.take q ++ [r[q]] := by rw [List.take_add_one, List.getElem?_eq_getElem hq]; rfl
        generalize r[q] = e at hce hrq htk
        have kn := Kept.new hk''.wf 4 (gCell e)
        have hk3 := hk''.trans kn
        have hD3 : BMap (H''.new 4 (gCell e)).2 H5.next D := hD.keep (kn.old _ (hD.lt hk''.wf))
        have hj : ∀ k : Nat, (∃ e' ∈ r.take (q + 1), e'.2.1 = (k : Int) ∧ B[e'.1]? = some true) ↔ (∃ e' ∈ r.take q, e'.2.1 = (k : Int) ∧ B[e'.1]? = some true) ∨ e.2.1 = (k : Int) ∧ B[e.1]? = some true := fun k => by
          rw [htk]
          simp only [List.mem_append, List.mem_singleton]
          constructor
          · rintro ⟨e', h1 | h1, h2⟩
            · exact .inl ⟨e', h1, h2⟩
            · subst h1; exact .inr h2
          · rintro (⟨e', h1, h2⟩ | h2)
            · exact ⟨e', .inl h1, h2⟩
            · exact ⟨e, .inr rfl, h2⟩
        have hbl : e.1 < B.length := by rw [hBl]; exact hrt e hrq
        obtain ⟨bb, hbb⟩ : ∃ bb, B[e.1]? = some bb := ⟨B[e.1], List.getElem?_eq_getElem hbl⟩
        obtain ⟨pb, hiab, hcb⟩ := Sl.elem (s := 1) Tryz.underlying63 size_4 (hBs.grow (hk3.grow hk5.wf)) (i := e.1) (u := .bool bb) (by rw [List.getElem?_map, hbb]; rfl)
        have hrl' : r.length ≤ 4611686018427387904 := Nat.le_trans hrl (by decide)
        simp only [↓Sh.dn, sx, Nat.reduceBEq, reduceCtorEq, Nat.reduceEqDiff, f56, g11, g13, g54, g55, hiae, hce, nat_lt, hq, decide_true, Option.map_some, geZero, geStore, geOver, ge0, ge1]
        by_cases hneg : 0 ≤ e.2.1
        case neg =>
          simp only [↓Sh.dn, sx, Nat.reduceBEq, reduceCtorEq, Nat.reduceEqDiff, hneg, decide_false, f56, wrap_succ' hq hrl']
          refine k2 _ _ (by repeat (first | refine Same.put ?_ rfl | exact Same.rfl' _)) (by simp only [↓Sh.dn, sx, Nat.reduceBEq, reduceCtorEq, Nat.reduceEqDiff]) ⟨hk3, D, hD3, fun k => ?_⟩
          rw [hDi, hj]
          constructor
          · rintro (h1 | h1)
            · exact .inl h1
            · exact .inr (.inl h1)
          · rintro (h1 | h1 | ⟨h1, _⟩)
            · exact .inl h1
            · exact .inr h1
            · omega
        simp only [↓Sh.dn, sx, Nat.reduceBEq, reduceCtorEq, Nat.reduceEqDiff, hneg, decide_true, g11, ge0, hiab, hcb]
        cases bb with
        | false =>
          simp only [↓Sh.dn, sx, Nat.reduceBEq, reduceCtorEq, Nat.reduceEqDiff, f56, wrap_succ' hq hrl']
          refine k2 _ _ (by repeat (first | refine Same.put ?_ rfl | exact Same.rfl' _)) (by simp only [↓Sh.dn, sx, Nat.reduceBEq, reduceCtorEq, Nat.reduceEqDiff]) ⟨hk3, D, hD3, fun k => ?_⟩
          rw [hDi, hj, hbb]
          simp
        | true =>
          obtain ⟨kk, hkk⟩ : ∃ kk : Nat, e.2.1 = (kk : Int) := ⟨e.2.1.toNat, by omega⟩
          obtain ⟨H7, D', e1, hD', c7, hmem⟩ := hD3.put hk3.wf kk
          rw [← hkk] at e1
          simp only [↓Sh.dn, sx, Nat.reduceBEq, reduceCtorEq, Nat.reduceEqDiff, g13, ge1, e1, f56, wrap_succ' hq hrl']
          refine k2 _ _ (by repeat (first | refine Same.put ?_ rfl | exact Same.rfl' _)) (by simp only [↓Sh.dn, sx, Nat.reduceBEq, reduceCtorEq, Nat.reduceEqDiff]) ⟨hk3.then (Nat.le_refl _) (c7.weak fun y hy => by rw [hy]; exact Nat.le_refl _), D', hD', fun k => ?_⟩
          rw [hmem, hDi, hj, hbb, hkk]
          constructor
          · rintro ((h1 | h1) | h1)
            · exact .inl h1
            · exact .inr (.inl h1)
            · exact .inr (.inr ⟨by rw [h1], rfl⟩)
          · rintro (h1 | h1 | ⟨h1, _⟩)
            · exact .inl (.inl h1)
            · exact .inl (.inr h1)
            · exact .inr (by omega)
      · rintro F'' H'' hF'' f56 ⟨hk'', D, hD, hDi⟩
        have g44 := hF'' 44 rfl
        have g55 := hF'' 55 rfl
        simp only [↓Sh.dn, sx, Nat.reduceBEq, reduceCtorEq, Nat.reduceEqDiff, f44] at g44 g55
        rw [List.take_length] at hDi
        simp only [↓Sh.dn, sx, Nat.reduceBEq, reduceCtorEq, Nat.reduceEqDiff, f56, g44, g55, nat_lt, Nat.lt_irrefl, decide_false, wrap_succ' hi (Nat.le_trans hol (Nat.le_trans hn2 (by decide)))]
        refine k _ _ ?_ (by simp only [↓Sh.dn, sx, Nat.reduceBEq, reduceCtorEq, Nat.reduceEqDiff]) ⟨hk'', D, hD, fun k => ?_⟩
        · repeat refine Same.put ?_ rfl
          exact Same.trans (by repeat (first | refine Same.put ?_ rfl | exact Same.rfl' _)) (hF''.sub rfl)
        · rw [hDi, htake]
          simp only [List.mem_append, List.mem_singleton]
          constructor
          · rintro (⟨s', h1, h2⟩ | ⟨e, h1, h2, h3⟩)
            · exact ⟨s', .inl h1, h2⟩
            · exact ⟨s, .inr rfl, e.1, ⟨r, hr, e, h1, rfl, h2⟩, h3⟩
          · rintro ⟨s', h1 | h1, t, h2, h3⟩
            · exact .inl ⟨s', h1, t, h2, h3⟩
            · subst h1
              obtain ⟨r', h4, e, h5, h6, h7⟩ := h2
              rw [hr] at h4
              rw [← Option.some.inj h4] at h5
              exact .inr ⟨e, h5, h7, by rw [h6]; exact h3⟩
    · rintro F H' hF f44 ⟨hk, D, hD, hDi⟩
      have f7 := hF 7 rfl
      have f12 := hF 12 rfl
      have f13 := hF 13 rfl
      have f43 := hF 43 rfl
      simp only [↓Sh.dn, sx, Nat.reduceBEq, reduceCtorEq, Nat.reduceEqDiff] at f7 f12 f13 f43
      rw [List.take_length] at hDi
      have hsv := hPG5.gr.sg
      have hsl := fun H' => hsv.len Tryz.underlying22 H'
      simp only [List.length_map] at hsl
      have hn0 := cell_grow (hk.grow hk5.wf) (hPG5.gr.arr.cell 0)
      have hsgl := hsm.sg
      -- what the map tells of a symbol
      have hkey : ∀ (k : Nat) x, N.sigma[k]? = some x → (k ∈ D ↔ isB (leads N w x) = true) := by
        intro k x hx
        rw [isB_iff, hDi]
        have hxs : x ∈ N.sigma := List.mem_of_getElem? hx
        have hix := symIx_some hok.asc hx
        unfold leads
        constructor
        · rintro ⟨s, h1, t, h2, h3⟩
          rw [← hix] at h2
          exact ⟨s, t, (hiff s).1 h1, (sym_gEdges hok hxs s t).2 h2, (hBi t).1 h3⟩
        · rintro ⟨s, t, h1, h2, h3⟩
          refine ⟨s, (hiff s).2 h1, t, ?_, (hBi t).2 h3⟩
          rw [← hix]
          exact (sym_gEdges hok hxs s t).1 h2
      simp only [↓Sh.dn, sx, Nat.reduceBEq, reduceCtorEq, Nat.reduceEqDiff, f7, f43, f44, nat_lt, Nat.lt_irrefl, decide_false, hn0, hsl]
      refine wp_for N.sigma.length 80 (List.range' 80 13 ++ [18, 19, 20]) (fun i F'' H'' => Kept H' H'' ∧ ∃ z, F''.get 18 = some z ∧ ∃ ob, LS H'' H'.next z ((N.sigma.take i).filter fun x => isB (leads N w x)) ob) (by simp only [↓Sh.dn, sx, Nat.reduceBEq, reduceCtorEq, Nat.reduceEqDiff]) ⟨Kept.refl hk.wf, _, by simp only [↓Sh.dn, sx, Nat.reduceBEq, reduceCtorEq, Nat.reduceEqDiff], none, LS.void _ _⟩ ?_ ?_
      · rintro i F'' H'' hi hF'' f80 ⟨hk'', z, f18, ob, hl⟩ k
        have g13 := hF'' 13 rfl
        have g78 := hF'' 78 rfl
        have g79 := hF'' 79 rfl
        simp only [↓Sh.dn, sx, Nat.reduceBEq, reduceCtorEq, Nat.reduceEqDiff, f13] at g13 g78 g79
        have hD2 : BMap H'' H5.next D := hD.keep (hk''.old _ (hD.lt hk.wf))
        have hlk := hD2.look i
        obtain ⟨p, hia, hc⟩ := Sl.elem (s := 1) Tryz.underlying22 size_9 (hsv.grow ((hk.trans hk'').grow hk5.wf)) (i := i) (u := .string N.sigma[i]) (by rw [List.getElem?_map, List.getElem?_eq_getElem hi]; rfl)
        have hky := hkey i _ (List.getElem?_eq_getElem hi)
        have htk : N.sigma.take (i + 1) = N.sigma.take i ++ [N.sigma[i]] := by rw [List.take_add_one, List.getElem?_eq_getElem hi]; rfl
        generalize N.sigma[i] = x at hc hky htk
        have hle : ((N.sigma.take i).filter fun x => isB (leads N w x)).length ≤ 1073741823 := Nat.le_trans (List.length_filter_le _ _) (by rw [List.length_take]; omega)
        have hb : decide (i ∈ D) = isB (leads N w x) := by rw [Bool.eq_iff_iff, decide_eq_true_eq]; exact hky
        rw [hb] at hlk
        simp only [↓Sh.dn, sx, Nat.reduceBEq, reduceCtorEq, Nat.reduceEqDiff, g13, g78, g79, f80, nat_lt, hi, decide_true, hia, hc, hlk]
        cases hxb : isB (leads N w x) with
        | true =>
          obtain ⟨a, cap, w', H4, ob', rfl, e1, e2, e3, e4⟩ := pushStr x hk''.next hk''.wf hl hle
          simp only [↓Sh.dn, sx, Nat.reduceBEq, reduceCtorEq, Nat.reduceEqDiff, f18, f80, e1, e2, wrap_succ hi hsgl]
          refine k _ _ (by repeat (first | refine Same.put ?_ rfl | exact Same.rfl' _)) (by simp only [↓Sh.dn, sx, Nat.reduceBEq, reduceCtorEq, Nat.reduceEqDiff]) ⟨hk''.then (Nat.le_refl _) (e4.weak hl.fr), w', by simp only [↓Sh.dn, sx, Nat.reduceBEq, reduceCtorEq, Nat.reduceEqDiff], ob', ?_⟩
          rw [htk, List.filter_append]
          simp only [List.filter_cons, hxb, if_true, List.filter_nil]
          exact e3
        | false =>
          simp only [↓Sh.dn, sx, Nat.reduceBEq, reduceCtorEq, Nat.reduceEqDiff, f80, wrap_succ hi hsgl]
          refine k _ _ (by repeat (first | refine Same.put ?_ rfl | exact Same.rfl' _)) (by simp only [↓Sh.dn, sx, Nat.reduceBEq, reduceCtorEq, Nat.reduceEqDiff]) ⟨hk'', z, by simp only [↓Sh.dn, sx, Nat.reduceBEq, reduceCtorEq, Nat.reduceEqDiff, f18], ob, ?_⟩
          rw [htk, List.filter_append]
          simp only [List.filter_cons, hxb, List.filter_nil]
          simpa using hl
      · rintro F'' H'' hF'' f80 ⟨hk'', z, f18, ob, hl⟩
        have g7 := hF'' 7 rfl
        have g12 := hF'' 12 rfl
        have g79 := hF'' 79 rfl
        simp only [↓Sh.dn, sx, Nat.reduceBEq, reduceCtorEq, Nat.reduceEqDiff, f7, f12] at g7 g12 g79
        rw [List.take_length] at hl
        have hk56 := hk.trans hk''
        obtain ⟨r8, H8, hd8, hk8, rfl⟩ := graphHasEnd (hPG5.kept hk5.wf hk56) (hos.grow (hk56.grow hk5.wf)) hlt (by omega) hk56.wf
        simp only [↓Sh.dn, sx, Nat.reduceBEq, reduceCtorEq, Nat.reduceEqDiff, g7, g12, g79, f18, f80, nat_lt, Nat.lt_irrefl, decide_false]
        refine ⟨_, _, hd8, ?_⟩
        have hacc : (out.any fun t => decide (0 < (grEnds N N.ends).getD t 0)) = accB N w := by
          refine isB_of ?_
          rw [List.any_eq_true]
          simp only [hE, true_and, decide_eq_true_eq, hiff, ends_gr hok]
          unfold accepts
          constructor
          · rintro ⟨t, h1, h2⟩; exact ⟨hno, t, h1, h2⟩
          · rintro ⟨_, t, h1, h2⟩; exact ⟨t, h1, h2⟩
        simp only [↓Sh.dn, sx, Nat.reduceBEq, reduceCtorEq, Nat.reduceEqDiff, hres, hacc]
        exact ⟨(((hk12.trans hk3).trans hk5).trans hk56).trans hk8, z, rfl, by rw [hnl]; exact hl.bf.toSl.grow (hk8.grow hk56.wf)⟩
end Go.Proofs.YtfcmpclbhnjkgaaGreat
/- The reference's Next. -/
set_option maxHeartbeats 4000000
set_option maxRecDepth 20000
set_option linter.unusedSimpArgs false
set_option linter.unusedVariables false
set_option pp.deepTerms.threshold 8
namespace Go.Proofs.YtfcmpclbhnjkgaaGreat
open Go Go.Proofs Go.Proofs.Sh
theorem filter_split {α : Type} {p q r : α → Bool} (h1 : ∀ a, r a = (p a || q a)) (h2 : ∀ a, p a = true → q a = false) : ∀ l : List α, (l.filter p).length + (l.filter q).length = (l.filter r).length
  | [] => rfl
  | a :: l => by
    have ih := filter_split h1 h2 l
    have e := h1 a
    cases hp : p a with
    | true =>
      have hq := h2 a hp
      rw [hp, hq] at e
      simp only [List.filter_cons, hp, hq, e, if_true, Bool.or_false, List.length_cons, Bool.false_eq_true, if_false]; omega
    | false =>
      cases hq : q a with
      | true =>
        rw [hp, hq] at e
        simp only [List.filter_cons, hp, hq, e, if_true, Bool.or_true, List.length_cons, Bool.false_eq_true, if_false]; omega
      | false =>
        rw [hp, hq] at e
        simp only [List.filter_cons, hp, hq, e, Bool.or_self, Bool.false_eq_true, if_false]; exact ih
theorem rows_total {α β : Type} {key : α → Int} {f : α → β} {n : Nat} {l : List α} : ((rowsOf key f n l).map List.length).sum ≤ l.length := by
  have h : ∀ n : Nat, ((List.range n).map fun (s : Nat) => (l.filter fun a => decide (key a = (s : Int))).length).sum = (l.filter fun a => decide (0 ≤ key a ∧ key a < (n : Int))).length := by
    intro n
    induction n with
    | zero =>
      have : (l.filter fun a => decide (0 ≤ key a ∧ key a < ((0 : Nat) : Int))) = [] := by
        rw [List.filter_eq_nil_iff]
        intro a _
        simp only [decide_eq_true_eq]; omega
      rw [this]; rfl
    | succ n ih =>
      rw [List.range_succ, List.map_append, List.sum_append, ih]
      simp only [List.map_cons, List.map_nil, List.sum_cons, List.sum_nil, Nat.add_zero]
      refine filter_split (fun a => ?_) (fun a ha => ?_) l
      · rw [Bool.eq_iff_iff, Bool.or_eq_true]; simp only [decide_eq_true_eq]; omega
      · simp only [decide_eq_true_eq, decide_eq_false_iff_not] at ha ⊢; omega
  unfold rowsOf
  rw [List.map_map]
  have e : (List.length ∘ fun (s : Nat) => (l.filter fun a => decide (key a = (s : Int))).map f) = fun (s : Nat) => (l.filter fun a => decide (key a = (s : Int))).length := by
    funext s; simp
  rw [e, h]
  exact List.length_filter_le _ _
theorem clo_alive {N : NetD} {S : Nat → Prop} {t : Nat} (h : Clo (N.goes noText) S t) : N.alive t → ∃ s, S s ∧ N.alive s := by
  induction h with
  | base h => exact fun ha => ⟨_, h, ha⟩
  | step _ hr ih => exact fun ha => ih (Clo.step ha ⟨noText, hr⟩)
theorem refNext {H : AH} {v u : Value} {N : NetD} {w : List ByteArray} (h : NetAt H v N) (hsm : NetSmall N) (hu : Sl H u 1 (w.map strCell)) (hwl : w.length ≤ 1048576) (hwx : ∀ x ∈ w, x.size ≤ 1048576) (hw : Wf H) :
    Sh.Call Tryz.prog (knows 10) 32 [v, u] H (fun r H' => Kept H H' ∧ ∃ lv, r = .tuple #[lv, .bool (accB N w), .int .i64 (bothErr N w)] ∧ Sl H' lv 1 ((nextL N w).map strCell)) := by
  refine call_of rfl Tryz.func32 rfl (Nat.le_of_ble_eq_true rfl) ?_
  have hres : Tryz.f32.results.toList = [.tmp 4, .tmp 5, .tmp 6] := rfl
  obtain ⟨sg, ar, en, rfl, hsg, har, hen⟩ := h
  have hb1 := NetBox.of (N := N) hw hsg har hen
  have hk1 : Kept H (H.new 4 [sg, .int .i64 N.states, ar, en]).2 := Kept.new hw 4 _
  simp only [↓Sh.dn, sx, Nat.reduceBEq, reduceCtorEq, Nat.reduceEqDiff, netNew hsg.isCell har.isCell hen.isCell]
  generalize H.next = gg at hb1 ⊢
  generalize (H.new 4 [sg, .int .i64 N.states, ar, en]).2 = H1 at hb1 hk1 ⊢
  have hu1 := hu.grow (hk1.grow hw)
  obtain ⟨r, H2, hd2, hk2, rfl⟩ := refChecked hb1.netAt hsm hu1 hwl hwx hk1.wf
  have hb2 := hb1.kept hk1.wf hk2
  have hu2 := hu1.grow (hk2.grow hk1.wf)
  simp only [↓Sh.dn, sx, Nat.reduceBEq, reduceCtorEq, Nat.reduceEqDiff, hb1.c0, hb1.c1, hb1.c2, hb1.c3, hb1.ca, netLenS hb1, netLenA hb1, netLenE hb1, Option.map_some]
  refine ⟨_, _, hd2, ?_⟩
  by_cases hE : bothErr N w = 0
  case neg =>
    have h1 : accB N w = false := by unfold accB; exact isB_not fun h => hE h.1
    have h2 : nextL N w = [] := by unfold nextL; exact if_neg fun h => hE h.1
    simp only [↓Sh.dn, sx, Nat.reduceBEq, reduceCtorEq, Nat.reduceEqDiff, hE, decide_false, hres, h1, h2, hk1.trans hk2]
    exact ⟨_, rfl, Sl.nil _ _⟩
  have hok := bothErr_ok hE
  have hno := word_no hE
  obtain ⟨r, H3, hd3, hk3, ev, bv, vals, hR⟩ := refGraphOf hb2.netAt hok hsm hk2.wf
  simp only [↓Sh.dn, sx, Nat.reduceBEq, reduceCtorEq, Nat.reduceEqDiff, hE, decide_true, hb2.c0, hb2.c1, hb2.c2, hb2.c3, hb2.ca, netLenS hb2, netLenA hb2, netLenE hb2, Option.map_some]
  refine ⟨_, _, hd3, ?_⟩
  have hE' := hR.ed.sl.isCell
  have hB' := hR.en.isCell
  have hkn := Kept.new hk3.wf 3 [.int .i64 0, ev, bv]
  have hbx := RBox.of hR hk3.wf
  rw [hR.eq] at *
  simp only [↓Sh.dn, sx, Nat.reduceBEq, reduceCtorEq, Nat.reduceEqDiff, rgZero, rgStore hE' hB', rgOver]
  have hu4 := (hu2.grow (hk3.grow hk2.wf)).grow (hkn.grow hk3.wf)
  generalize H3.next = gb at hbx ⊢
  generalize (H3.new 3 [.int .i64 0, ev, bv]).2 = H4 at hbx hkn hu4 ⊢
  obtain ⟨r6, H6, hd6, hk6, B, hBs, hBl, hBi⟩ := refAlive hbx.rg hkn.wf
  have hbx6 := hbx.kept hkn.wf hk6
  have hal : (Clo (fun s t => ∃ x, N.goes x t s) fun s => (marksOf EndD.state N.states.toNat N.ends)[s]? = some true) = N.alive := by
    unfold NetD.alive
    congr 1
    funext s
    exact propext (ends_marks hok s)
  simp only [goes_edges hok] at hBi
  rw [hal] at hBi
  obtain ⟨r5, H5, hd5, hk5, out, b, hbf, hfr, hnd, hlt, hiff0⟩ := refRun hbx6.rg (hu4.grow (hk6.grow hkn.wf)) hwl hk6.wf
  have hiff : ∀ t, t ∈ out ↔ N.run w t := fun t => by
    rw [hiff0, goes_edges hok]
    exact ⟨fun h => h.2, fun h => ⟨hno, h⟩⟩
  have hbx5 := hbx6.kept hk6.wf hk5
  have hol := nodup_le hnd hlt
  have hn2 := hR.n2
  have hos := hbf.toSl
  obtain ⟨r7, H7, hd7, hk7, l, b7, hb7, hasc, hll, hmem⟩ := refSymbols hbx5.rg hos hlt hnd (Nat.le_trans rows_total (by have := hok.ar; omega)) hk5.wf
  have hbx7 := hbx5.kept hk5.wf hk7
  have hls := hb7.toSl
  have hk47 := (hk6.trans hk5).trans hk7
  have hlead : ∀ x, (∃ t, Clo (goesE (edgesOf N) noText) (fun t => ∃ s, s ∈ out ∧ goesE (edgesOf N) x s t) t ∧ B[t]? = some true) ↔ leads N w x := by
    intro x
    unfold leads
    rw [goes_edges hok]
    constructor
    · rintro ⟨t, h1, h2⟩
      obtain ⟨t', ⟨s, h3, h4⟩, h5⟩ := clo_alive h1 ((hBi t).1 h2)
      exact ⟨s, t', (hiff s).1 h3, h4, h5⟩
    · rintro ⟨s, t, h1, h2, h3⟩
      exact ⟨t, .base ⟨s, (hiff s).2 h1, h2⟩, (hBi t).2 h3⟩
  have hfin : (l.filter fun x => isB (leads N w x)) = nextL N w := by
    by_cases hin : w.all (strIn N.sigma) = true
    · have : nextL N w = N.sigma.filter fun x => isB (leads N w x) := by unfold nextL; exact if_pos ⟨hE, hin⟩
      rw [this]
      refine asc_ext (ascFilter _ hasc) (ascFilter _ hok.asc) fun x => ?_
      simp only [List.mem_filter, isB_iff]
      constructor
      · rintro ⟨h1, h2⟩
        have hx := ((hmem x).1 h1).1
        obtain ⟨s, t, _, ⟨a, ha, _, h4, _⟩, _⟩ := id h2
        refine ⟨?_, h2⟩
        rcases (hok.arc a ha).2.2.2.2.1 with h5 | h5
        · exact absurd (by rw [← h4, h5]; rfl) hx
        · rw [← h4]; exact h5
      · rintro ⟨h1, h2⟩
        obtain ⟨s, t, h3, h4, _⟩ := id h2
        refine ⟨(hmem x).2 ⟨fun e => noText_out hok (e ▸ h1), s, (hiff s).2 h3, t, ?_⟩, h2⟩
        rw [goes_edges hok]; exact h4
    · have : nextL N w = [] := by unfold nextL; exact if_neg fun h => hin h.2
      rw [this, List.filter_eq_nil_iff]
      intro x hx
      rw [isB_iff]
      rintro ⟨s, t, h1, _⟩
      rw [Bool.not_eq_true] at hin
      obtain ⟨y, hy1, hy2⟩ := List.all_eq_false.1 hin
      exact run_out hok hy1 (hno y hy1) (fun h => hy2 (strIn_iff.2 h)) s h1
  simp only [↓Sh.dn, sx, Nat.reduceBEq, reduceCtorEq, Nat.reduceEqDiff, hbx.ca, Option.map_some]
  refine ⟨_, _, hd6, ?_⟩
  simp only [↓Sh.dn, sx, Nat.reduceBEq, reduceCtorEq, Nat.reduceEqDiff, hbx6.ca, Option.map_some]
  refine ⟨_, _, hd5, ?_⟩
  simp only [↓Sh.dn, sx, Nat.reduceBEq, reduceCtorEq, Nat.reduceEqDiff, hbx5.ca, Option.map_some]
  refine ⟨_, _, hd7, ?_⟩
  refine wp_for l.length 13 (List.range' 30 24 ++ [11, 13]) (fun i F H' => Kept H7 H' ∧ ∃ z, F.get 11 = some z ∧ ∃ ob, LS H' H7.next z ((l.take i).filter fun x => isB (leads N w x)) ob) (by simp only [↓Sh.dn, sx, Nat.reduceBEq, reduceCtorEq, Nat.reduceEqDiff]) ⟨Kept.refl hk7.wf, _, by simp only [↓Sh.dn, sx, Nat.reduceBEq, reduceCtorEq, Nat.reduceEqDiff], none, LS.void _ _⟩ ?_ ?_
  · rintro i F H' hi hF f13 ⟨hk, z, f11, ob, hl⟩ k
    have f8 := hF 8 rfl
    have f9 := hF 9 rfl
    have f10 := hF 10 rfl
    have f12 := hF 12 rfl
    simp only [↓Sh.dn, sx, Nat.reduceBEq, reduceCtorEq, Nat.reduceEqDiff] at f8 f9 f10 f12
    have hbx' := hbx7.kept hk7.wf hk
    have hls' := hls.grow (hk.grow hk7.wf)
    have hlen := hls'.len Tryz.underlying22 H'
    rw [List.length_map] at hlen
    obtain ⟨p, hia, hc⟩ := Sl.elem (s := 1) Tryz.underlying22 size_9 hls' (i := i) (u := .string l[i]) (by rw [List.getElem?_map, List.getElem?_eq_getElem hi]; rfl)
    have htk : l.take (i + 1) = l.take i ++ [l[i]] := by rw [List.take_add_one, List.getElem?_eq_getElem hi]; rfl
    generalize l[i] = x at hc htk
    have hk57 := hk7.trans hk
    obtain ⟨r8, H8, hd8, hk8, out8, b8, hb8, hf8, hnd8, hlt8, hi8⟩ := refStep (x := x) hbx'.rg (hos.grow (hk57.grow hk5.wf)) hlt (by omega) hk.wf
    have hol8 := nodup_le hnd8 hlt8
    have hB8 := hBs.grow ((((hk5.trans hk7).trans hk).trans hk8).grow hk6.wf)
    obtain ⟨r9, H9, hd9, hk9, b9, hb9⟩ := refKept hb8.toSl hB8 hBl hlt8 (by omega) hk8.wf
    have hlen9 := hb9.toSl.len Tryz.underlying74 H9
    rw [List.length_map] at hlen9
    have hpos : decide ((0 : Int) < ((out8.filter fun t => decide (B[t]? = some true)).length : Int)) = isB (leads N w x) := by
      refine isB_of ?_
      rw [decide_eq_true_eq, show ((0 : Int) < ((out8.filter fun t => decide (B[t]? = some true)).length : Int)) ↔ 0 < (out8.filter fun t => decide (B[t]? = some true)).length by omega, List.length_pos_iff_exists_mem, ← hlead x]
      simp only [List.mem_filter, decide_eq_true_eq, hi8]
    have hvq := veq_rg hR.ed.sl.veq hR.en.veq
    simp only [↓Sh.dn, sx, Nat.reduceBEq, reduceCtorEq, Nat.reduceEqDiff, f12, f13, nat_lt, hi, decide_true, hlen]
    refine wp_early (fl := [(0, false), (1, true), (2, true), (3, true), (4, true), (5, false), (7, true), (6, true), (8, true), (9, false), (10, true)]) (by kernel_rfl) (by kernel_rfl) hk.wf ?_
    simp only [↓Sh.dn, sx, Nat.reduceBEq, reduceCtorEq, Nat.reduceEqDiff, wpg, Still, isEff, isMake, isRead, veq_ptr, veq_int, veq_str, veq_bool, veq_undef, forall_eq, forall_eq', f8, f9, f10, f12, f13, hbx'.ca, Option.map_some, hvq, hia, hc]
    refine ⟨_, _, hd8, hk8.wf, ?_⟩
    try refine ⟨hk8.grow hk.wf, ?_⟩
    try simp only [↓Sh.dn, sx, Nat.reduceBEq, reduceCtorEq, Nat.reduceEqDiff, wpg, Still, isEff, isMake, isRead, veq_ptr, veq_int, veq_str, veq_bool, veq_undef, forall_eq, forall_eq', f9]
    refine ⟨_, _, hd9, hk9.wf, ?_⟩
    try refine ⟨hk9.grow hk8.wf, ?_⟩
    simp only [↓Sh.dn, sx, Nat.reduceBEq, reduceCtorEq, Nat.reduceEqDiff, wpg, Still, isEff, isMake, isRead, veq_ptr, veq_int, veq_str, veq_bool, veq_undef, forall_eq, forall_eq', hlen9, hpos]
    have hk39 := (hk.trans hk8).trans hk9
    have hl9 := (hl.kept hk.wf hk8).kept hk8.wf hk9
    have hc9 := cell_grow ((hk8.trans hk9).grow hk.wf) hc
    cases hxb : isB (leads N w x) with
    | true =>
      have hle : ((l.take i).filter fun x => isB (leads N w x)).length ≤ 1073741823 := Nat.le_trans (List.length_filter_le _ _) (by rw [List.length_take]; omega)
      obtain ⟨a, cap, w', H4', ob', rfl, e1, e2, e3, e4⟩ := pushStr x hk39.next hk39.wf hl9 hle
      simp only [↓Sh.dn, sx, Nat.reduceBEq, reduceCtorEq, Nat.reduceEqDiff, f11, f12, f13, hia, hc9, e1, e2, wrap_succ hi hll]
      refine k _ _ (by repeat (first | refine Same.put ?_ rfl | exact Same.rfl' _)) (by simp only [↓Sh.dn, sx, Nat.reduceBEq, reduceCtorEq, Nat.reduceEqDiff]) ⟨hk39.then (Nat.le_refl _) (e4.weak hl.fr), w', by simp only [↓Sh.dn, sx, Nat.reduceBEq, reduceCtorEq, Nat.reduceEqDiff], ob', ?_⟩
      rw [htk, List.filter_append]
      simp only [List.filter_cons, hxb, if_true, List.filter_nil]
      exact e3
    | false =>
      simp only [↓Sh.dn, sx, Nat.reduceBEq, reduceCtorEq, Nat.reduceEqDiff, f13, wrap_succ hi hll]
      refine k _ _ (by repeat (first | refine Same.put ?_ rfl | exact Same.rfl' _)) (by simp only [↓Sh.dn, sx, Nat.reduceBEq, reduceCtorEq, Nat.reduceEqDiff]) ⟨hk39, z, by simp only [↓Sh.dn, sx, Nat.reduceBEq, reduceCtorEq, Nat.reduceEqDiff, f11], ob, ?_⟩
      rw [htk, List.filter_append]
      simp only [List.filter_cons, hxb, List.filter_nil]
      simpa using hl9
  · rintro F H' hF f13 ⟨hk, z, f11, ob, hl⟩
    have f8 := hF 8 rfl
    have f10 := hF 10 rfl
    have f12 := hF 12 rfl
    simp only [↓Sh.dn, sx, Nat.reduceBEq, reduceCtorEq, Nat.reduceEqDiff] at f8 f10 f12
    rw [List.take_length, hfin] at hl
    have hbx' := hbx7.kept hk7.wf hk
    have hlen := (hls.grow (hk.grow hk7.wf)).len Tryz.underlying22 H'
    rw [List.length_map] at hlen
    have hk57 := hk7.trans hk
    obtain ⟨r8, H8, hd8, hk8, rfl⟩ := refIsEnd hbx'.rg (hos.grow (hk57.grow hk5.wf)) hlt (by omega) hk.wf
    simp only [↓Sh.dn, sx, Nat.reduceBEq, reduceCtorEq, Nat.reduceEqDiff, f8, f10, f11, f12, f13, nat_lt, Nat.lt_irrefl, decide_false, hlen, hbx'.ca, Option.map_some]
    refine ⟨_, _, hd8, ?_⟩
    have hacc : (out.any fun t => decide ((marksOf EndD.state N.states.toNat N.ends)[t]? = some true)) = accB N w := by
      refine isB_of ?_
      rw [List.any_eq_true]
      simp only [hE, true_and, decide_eq_true_eq, hiff, ends_marks hok]
      unfold accepts
      constructor
      · rintro ⟨t, h1, h2⟩; exact ⟨hno, t, h1, h2⟩
      · rintro ⟨_, t, h1, h2⟩; exact ⟨t, h1, h2⟩
    simp only [↓Sh.dn, sx, Nat.reduceBEq, reduceCtorEq, Nat.reduceEqDiff, hres, hacc, hE]
    exact ⟨(((((hk1.trans hk2).trans hk3).trans hkn).trans hk47).trans hk).trans hk8, z, rfl, hl.bf.toSl.grow (hk8.grow hk.wf)⟩
end Go.Proofs.YtfcmpclbhnjkgaaGreat
/- Whether there is far more in a net than may be. -/
set_option maxHeartbeats 4000000
set_option maxRecDepth 20000
set_option linter.unusedSimpArgs false
set_option linter.unusedVariables false
set_option pp.deepTerms.threshold 8
namespace Go.Proofs.YtfcmpclbhnjkgaaGreat
open Go Go.Proofs Go.Proofs.Sh
def sizes (l : List ByteArray) : Nat := (l.map fun s => s.size).sum
def netSize (N : NetD) : Nat := N.sigma.length + N.arcs.length + N.ends.length + sizes N.sigma
theorem sizes_take_le (l : List ByteArray) (i : Nat) : sizes (l.take i) ≤ sizes l := by
  unfold sizes
  have : l = l.take i ++ l.drop i := (List.take_append_drop i l).symm
  conv => rhs; rw [this]
  rw [List.map_append, List.sum_append]
  omega
theorem isOver {H : AH} {v : Value} {N : NetD} (h : NetAt H v N) (hsm : NetSmall N) (hsz : sizes N.sigma ≤ 1048576) (hw : Wf H) :
    Sh.Call Tryz.prog (knows 10) 9 [v] H (fun r H' => Kept H H' ∧ r = .bool (decide (262144 < netSize N))) := by
  refine call_of rfl Tryz.func9 rfl (Nat.le_of_ble_eq_true rfl) ?_
  have hres : Tryz.f9.results.toList = [.tmp 2] := rfl
  obtain ⟨sg, ar, en, rfl, hsg, har, hen⟩ := h
  have hb1 := NetBox.of (N := N) hw hsg har hen
  have hk1 : Kept H (H.new 4 [sg, .int .i64 N.states, ar, en]).2 := Kept.new hw 4 _
  simp only [↓Sh.dn, sx, Nat.reduceBEq, reduceCtorEq, Nat.reduceEqDiff, netNew hsg.isCell har.isCell hen.isCell]
  generalize H.next = gg at hb1 ⊢
  generalize (H.new 4 [sg, .int .i64 N.states, ar, en]).2 = H1 at hb1 hk1 ⊢
  obtain ⟨z1, z2, z3, _⟩ := hsm
  have w1 : IntKind.wrap .i64 (IntKind.wrap .i64 ((N.sigma.length : Int) + (N.arcs.length : Int)) + (N.ends.length : Int)) = ((N.sigma.length + N.arcs.length + N.ends.length : Nat) : Int) := by
    rw [wrap64 (n := (N.sigma.length : Int) + (N.arcs.length : Int)) (by omega) (by omega), wrap64 (by omega) (by omega)]; rfl
  simp only [↓Sh.dn, sx, Nat.reduceBEq, reduceCtorEq, Nat.reduceEqDiff, hb1.c0, hb1.c1, hb1.c2, hb1.c3, hb1.ca, netLenS hb1, netLenA hb1, netLenE hb1, w1]
  refine wp_for N.sigma.length 4 (List.range' 16 15 ++ [3, 4]) (fun i F H' => H' = H1 ∧ F.get 3 = some (.int .i64 ((N.sigma.length + N.arcs.length + N.ends.length + sizes (N.sigma.take i) : Nat) : Int))) (by simp only [↓Sh.dn, sx, Nat.reduceBEq, reduceCtorEq, Nat.reduceEqDiff]) ⟨rfl, by simp only [↓Sh.dn, sx, Nat.reduceBEq, reduceCtorEq, Nat.reduceEqDiff]; rfl⟩ ?_ ?_
  · rintro i F H' hlt hF f4 ⟨rfl, f3⟩ k
    have f1 := hF 1 rfl
    simp only [↓Sh.dn, sx, Nat.reduceBEq, reduceCtorEq, Nat.reduceEqDiff] at f1
    obtain ⟨g, o, kk, hia, hc, hcc⟩ := hb1.hsg.at Tryz.underlying22 size_9 (i := i) (x := strCell N.sigma[i]) (by simp [hlt]) .i64
    have hy := hcc 0 _ rfl
    simp only [Nat.add_zero] at hy
    have hs1 : sizes (N.sigma.take (i + 1)) = sizes (N.sigma.take i) + N.sigma[i].size := by
      unfold sizes
      rw [List.take_add_one, List.getElem?_eq_getElem hlt, List.map_append, List.sum_append]
      simp
    have hle := sizes_take_le N.sigma (i + 1)
    have w2 : IntKind.wrap .i64 (((N.sigma.length + N.arcs.length + N.ends.length + sizes (N.sigma.take i) : Nat) : Int) + (N.sigma[i].size : Int)) = ((N.sigma.length + N.arcs.length + N.ends.length + sizes (N.sigma.take (i + 1)) : Nat) : Int) := by
      rw [wrap64 (by omega) (by omega), hs1]; omega
    simp only [↓Sh.dn, sx, Nat.reduceBEq, reduceCtorEq, Nat.reduceEqDiff, hb1.c0, hb1.c1, hb1.c2, hb1.c3, hb1.ca, netLenS hb1, netLenA hb1, netLenE hb1, f1, f3, f4, nat_lt, hlt, decide_true, hia, hy, w2, wrap_succ hlt z1]
    exact k _ _ (by repeat (first | refine Same.put ?_ rfl | exact Same.rfl' _)) (by simp only [↓Sh.dn, sx, Nat.reduceBEq, reduceCtorEq, Nat.reduceEqDiff]) ⟨rfl, by simp only [↓Sh.dn, sx, Nat.reduceBEq, reduceCtorEq, Nat.reduceEqDiff]⟩
  · rintro F H' hF f4 ⟨rfl, f3⟩
    have f1 := hF 1 rfl
    simp only [↓Sh.dn, sx, Nat.reduceBEq, reduceCtorEq, Nat.reduceEqDiff] at f1
    rw [List.take_length] at f3
    have e : decide ((262144 : Int) < ((N.sigma.length + N.arcs.length + N.ends.length + sizes N.sigma : Nat) : Int)) = decide (262144 < netSize N) := decide_eq_decide.2 (by unfold netSize; omega)
    simp only [↓Sh.dn, sx, Nat.reduceBEq, reduceCtorEq, Nat.reduceEqDiff, hb1.c0, hb1.c1, hb1.c2, hb1.c3, hb1.ca, netLenS hb1, netLenA hb1, netLenE hb1, f1, f3, f4, nat_lt, Nat.lt_irrefl, decide_false, hres, e, hk1]
end Go.Proofs.YtfcmpclbhnjkgaaGreat
/- Whether lists have far too many texts, or bytes. -/
set_option maxHeartbeats 4000000
set_option maxRecDepth 20000
set_option linter.unusedSimpArgs false
set_option linter.unusedVariables false
set_option pp.deepTerms.threshold 8
namespace Go.Proofs.YtfcmpclbhnjkgaaGreat
open Go Go.Proofs Go.Proofs.Sh
def textN (ws : List (List ByteArray)) : Nat := (ws.map fun w => sizes w + w.length).sum
theorem sizes_append (a b : List ByteArray) : sizes (a ++ b) = sizes a + sizes b := by simp [sizes]
theorem textN_append (a b : List (List ByteArray)) : textN (a ++ b) = textN a + textN b := by simp [textN]
theorem textN_split {ws : List (List ByteArray)} {i q : Nat} {w : List ByteArray} (h : ws[i]? = some w) (hq : q ≤ w.length) : textN (ws.take i) + (sizes (w.take q) + q) ≤ textN ws := by
  have hi := (List.getElem?_eq_some_iff.1 h).1
  have e : ws = ws.take i ++ (w :: ws.drop (i + 1)) := by
    conv => lhs; rw [← List.take_append_drop i ws]
    congr 1
    rw [List.drop_eq_getElem_cons hi, (List.getElem?_eq_some_iff.1 h).2]
  have e2 : textN ws = textN (ws.take i) + (sizes w + w.length + textN (ws.drop (i + 1))) := by
    conv => lhs; rw [e]
    rw [textN_append]; rfl
  have e3 : sizes w = sizes (w.take q) + sizes (w.drop q) := by rw [← sizes_append, List.take_append_drop]
  omega
theorem isLong {H : AH} {v : Value} {vals : List Value} {ws : List (List ByteArray)} (h : JagR H v 1 (ws.map fun w => w.map strCell) vals) (hl : ws.length ≤ 1048576) (hw1 : ∀ w ∈ ws, w.length ≤ 1048576 ∧ ∀ x ∈ w, x.size ≤ 1048576) (hw : Wf H) :
    Sh.Call Tryz.prog (knows 10) 21 [v] H (fun r H' => H' = H ∧ r = .bool (decide (16384 < textN ws))) := by
  refine call_of rfl Tryz.func21 rfl (Nat.le_of_ble_eq_true rfl) ?_
  have hres : Tryz.f21.results.toList = [.tmp 2] := rfl
  have hlen : ∀ H', abuiltin Tryz.prog .len [29] [v] H' = some (.int .i64 (ws.length : Int), H') := fun H' => by
    rw [h.sl.len Tryz.underlying29, List.length_map, h.len, List.length_map]
  have e1 : ∀ c : Nat, decide ((c : Int) ≤ 16384) = decide (c ≤ 16384) := fun c => decide_eq_decide.2 (by omega)
  have e2 : ∀ c : Nat, decide ((16384 : Int) < (c : Int)) = decide (16384 < c) := fun c => decide_eq_decide.2 (by omega)
  simp only [↓Sh.dn, sx, Nat.reduceBEq, reduceCtorEq, Nat.reduceEqDiff]
  refine wp_for ws.length 4 (List.range' 3 37) (fun i F H' => H' = H ∧ ∃ c : Nat, F.get 3 = some (.int .i64 (c : Int)) ∧ c ≤ textN ws ∧ (c ≤ 16384 → c = textN (ws.take i)) ∧ c ≤ 2000000) (by simp only [↓Sh.dn, sx, Nat.reduceBEq, reduceCtorEq, Nat.reduceEqDiff]) ⟨rfl, 0, by simp only [↓Sh.dn, sx, Nat.reduceBEq, reduceCtorEq, Nat.reduceEqDiff]; rfl, Nat.zero_le _, fun _ => by simp [textN], by omega⟩ ?_ ?_
  · rintro i F H' hi hF f4 ⟨rfl, c, f3, hct, hce, hcb⟩ k
    have f0 := hF 0 rfl
    simp only [↓Sh.dn, sx, Nat.reduceBEq, reduceCtorEq, Nat.reduceEqDiff] at f0
    have hget : ws[i]? = some ws[i] := List.getElem?_eq_getElem hi
    obtain ⟨hwl, hwx⟩ := hw1 _ (List.getElem_mem hi)
    have htk : ws.take (i + 1) = ws.take i ++ [ws[i]] := by rw [List.take_add_one, List.getElem?_eq_getElem hi]; rfl
    generalize ws[i] = w at hget hwl hwx htk
    obtain ⟨ga, oa, ka, wv, hia, hca, hsl⟩ := h.at Tryz.underlying29 size_22 (i := i) (r := w.map strCell) (by rw [List.getElem?_map, hget]; rfl)
    have hlw : ∀ H', abuiltin Tryz.prog .len [22] [wv] H' = some (.int .i64 (w.length : Int), H') := fun H' => by rw [hsl.len Tryz.underlying22, List.length_map]
    have hfull : textN (ws.take (i + 1)) = textN (ws.take i) + (sizes w + w.length) := by rw [htk, textN_append]; simp [textN]
    simp only [↓Sh.dn, sx, Nat.reduceBEq, reduceCtorEq, Nat.reduceEqDiff, f0, f3, f4, hlen, nat_lt, hi, decide_true, e1]
    by_cases hc : c ≤ 16384
    case neg =>
      have hbig : decide (16384 < textN ws) = true := decide_eq_true (by omega)
      have hc' : decide (16384 < c) = true := decide_eq_true (by omega)
      simp only [↓Sh.dn, sx, Nat.reduceBEq, reduceCtorEq, Nat.reduceEqDiff, hc, decide_false, f3, e2, hres, hc', hbig]
    simp only [↓Sh.dn, sx, Nat.reduceBEq, reduceCtorEq, Nat.reduceEqDiff, hc, decide_true]
    -- behind the list
    have after : ∀ (F2 : Fr) (H2 : AH) (c2 : Nat), F2.get 3 = some (.int .i64 (c2 : Int)) → c2 ≤ textN ws → (c2 ≤ 16384 → c2 = textN (ws.take (i + 1))) → c2 ≤ 2000000 → True := fun _ _ _ _ _ _ _ => trivial
    refine wp_for w.length 5 (List.range' 16 24 ++ [3, 5]) (fun q F'' H'' => H'' = H' ∧ ∃ c : Nat, F''.get 3 = some (.int .i64 (c : Int)) ∧ c ≤ textN ws ∧ (c ≤ 16384 → c = textN (ws.take i) + (sizes (w.take q) + q)) ∧ c ≤ 2000000) (by simp only [↓Sh.dn, sx, Nat.reduceBEq, reduceCtorEq, Nat.reduceEqDiff]) ⟨rfl, c, by simp only [↓Sh.dn, sx, Nat.reduceBEq, reduceCtorEq, Nat.reduceEqDiff, f3], hct, fun h => by rw [← hce h]; simp [sizes], hcb⟩ ?_ ?_
    · rintro q F'' H'' hq hF'' f5 ⟨rfl, c, f3', hct, hce, hcb⟩ k2
      have g0 := hF'' 0 rfl
      have g4 := hF'' 4 rfl
      simp only [↓Sh.dn, sx, Nat.reduceBEq, reduceCtorEq, Nat.reduceEqDiff, f0, f4] at g0 g4
      obtain ⟨p2, hia2, hc2⟩ := Sl.elem (s := 1) Tryz.underlying22 size_9 hsl (i := q) (u := .string w[q]) (by rw [List.getElem?_map, List.getElem?_eq_getElem hq]; rfl)
      have hmem : w[q] ∈ w := List.getElem_mem hq
      have hqtk : sizes (w.take (q + 1)) = sizes (w.take q) + w[q].size := by
        rw [List.take_add_one, List.getElem?_eq_getElem hq, Option.toList_some, sizes_append]; simp [sizes]
      generalize w[q] = x at hc2 hmem hqtk
      have hxs := hwx x hmem
      simp only [↓Sh.dn, sx, Nat.reduceBEq, reduceCtorEq, Nat.reduceEqDiff, f3', f5, g0, g4, hia, hca, hlw, nat_lt, hq, decide_true, e1]
      by_cases hc : c ≤ 16384
      case neg =>
        simp only [↓Sh.dn, sx, Nat.reduceBEq, reduceCtorEq, Nat.reduceEqDiff, hc, decide_false, f3', g4, wrap_succ hi hl]
        refine k _ _ ?_ (by simp only [↓Sh.dn, sx, Nat.reduceBEq, reduceCtorEq, Nat.reduceEqDiff]) ⟨rfl, c, by simp only [↓Sh.dn, sx, Nat.reduceBEq, reduceCtorEq, Nat.reduceEqDiff, f3'], hct, fun h => absurd h hc, hcb⟩
        repeat refine Same.put ?_ rfl
        exact Same.trans (by repeat (first | refine Same.put ?_ rfl | exact Same.rfl' _)) (hF''.sub rfl)
      have hsp := textN_split (q := q + 1) hget hq
      have w1 : IntKind.wrap .i64 (1 + (x.size : Int)) = ((1 + x.size : Nat) : Int) := by rw [wrap64 (by omega) (by omega)]; omega
      have w2 : IntKind.wrap .i64 ((c : Int) + ((1 + x.size : Nat) : Int)) = ((c + (1 + x.size) : Nat) : Int) := by rw [wrap64 (by omega) (by omega)]; omega
      simp only [↓Sh.dn, sx, Nat.reduceBEq, reduceCtorEq, Nat.reduceEqDiff, hc, decide_true, f3', f5, g0, g4, hia, hca, hia2, hc2, w1, w2, wrap_succ hq hwl]
      refine k2 _ _ (by repeat (first | refine Same.put ?_ rfl | exact Same.rfl' _)) (by simp only [↓Sh.dn, sx, Nat.reduceBEq, reduceCtorEq, Nat.reduceEqDiff]) ⟨rfl, c + (1 + x.size), by simp only [↓Sh.dn, sx, Nat.reduceBEq, reduceCtorEq, Nat.reduceEqDiff], ?_, fun _ => ?_, by omega⟩
      · have := hce hc; omega
      · have := hce hc; omega
    · rintro F'' H'' hF'' f5 ⟨rfl, c, f3', hct, hce, hcb⟩
      have g0 := hF'' 0 rfl
      have g4 := hF'' 4 rfl
      simp only [↓Sh.dn, sx, Nat.reduceBEq, reduceCtorEq, Nat.reduceEqDiff, f0, f4] at g0 g4
      rw [List.take_length] at hce
      simp only [↓Sh.dn, sx, Nat.reduceBEq, reduceCtorEq, Nat.reduceEqDiff, f3', f5, g0, g4, hia, hca, hlw, nat_lt, Nat.lt_irrefl, decide_false, wrap_succ hi hl]
      refine k _ _ ?_ (by simp only [↓Sh.dn, sx, Nat.reduceBEq, reduceCtorEq, Nat.reduceEqDiff]) ⟨rfl, c, by simp only [↓Sh.dn, sx, Nat.reduceBEq, reduceCtorEq, Nat.reduceEqDiff, f3'], hct, fun h => by rw [hfull]; exact hce h, hcb⟩
      repeat refine Same.put ?_ rfl
      exact Same.trans (by repeat (first | refine Same.put ?_ rfl | exact Same.rfl' _)) (hF''.sub rfl)
  · rintro F H' hF f4 ⟨rfl, c, f3, hct, hce, hcb⟩
    have f0 := hF 0 rfl
    simp only [↓Sh.dn, sx, Nat.reduceBEq, reduceCtorEq, Nat.reduceEqDiff] at f0
    rw [List.take_length] at hce
    have : decide (16384 < c) = decide (16384 < textN ws) := decide_eq_decide.2 (by
      by_cases h : c ≤ 16384
      · rw [hce h]
      · omega)
    simp only [↓Sh.dn, sx, Nat.reduceBEq, reduceCtorEq, Nat.reduceEqDiff, f0, f3, f4, hlen, nat_lt, Nat.lt_irrefl, decide_false, e2, hres, this]
end Go.Proofs.YtfcmpclbhnjkgaaGreat
/- What comes in: lists of texts, nets. -/
set_option maxHeartbeats 4000000
set_option maxRecDepth 20000
set_option linter.unusedSimpArgs false
set_option linter.unusedVariables false
namespace Go.Proofs.YtfcmpclbhnjkgaaGreat
open Go Go.Proofs Go.Proofs.Sh
section
variable {K : Type}
theorem bulk_pos : ∀ (d : DataW K), 1 ≤ Rows.uptoBulk d
  | .lit l => by cases l <;> simp [Rows.uptoBulk]
  | .nil => by simp [Rows.uptoBulk]
  | .ptr d => by simp [Rows.uptoBulk]
  | .slice a b => by simp [Rows.uptoBulk]
  | .agg a => by simp [Rows.uptoBulk]
  | .iface n d => by simp [Rows.uptoBulk]
  | .map es => by simp [Rows.uptoBulk]
  | .held h => by simp [Rows.uptoBulk]
theorem bulk_len : ∀ (ds : List (DataW K)), ds.length ≤ Rows.uptoBulkAll ds
  | [] => Nat.zero_le _
  | d :: ds => by
    have := bulk_pos d
    have := bulk_len ds
    simp only [Rows.uptoBulkAll, List.length_cons]; omega
theorem bulk_mem : ∀ {ds : List (DataW K)} {d : DataW K}, d ∈ ds → Rows.uptoBulk d ≤ Rows.uptoBulkAll ds
  | d :: ds, x, h => by
    simp only [Rows.uptoBulkAll]
    rcases List.mem_cons.1 h with rfl | h
    · omega
    · have := bulk_mem h; omega
theorem exists_map {α β : Type} {f : α → β} : ∀ {l : List β}, (∀ x ∈ l, ∃ a, x = f a) → ∃ L : List α, l = L.map f
  | [], _ => ⟨[], rfl⟩
  | x :: l, h => by
    obtain ⟨a, rfl⟩ := h x List.mem_cons_self
    obtain ⟨L, rfl⟩ := exists_map (l := l) fun y hy => h y (List.mem_cons_of_mem _ hy)
    exact ⟨a :: L, rfl⟩
/-- A list whose elements read so. -/
theorem list_in {α : Type} {enc : α → List Value} {H : AH} {f t e s : Nat} {cs : List Value} {d : DataW K} (R : α → DataW K → Prop) (hu : Tryz.prog.underlying t = some (.slice e)) (hs : Tryz.prog.cellsOf e = s)
    (hR : ∀ f x y, RD Tryz.prog H f e x y → ∃ a, x = enc a ∧ R a y) (h : RD Tryz.prog H f t cs d) :
    ∃ u, ∃ L : List α, ∃ ds, cs = [u] ∧ Sl H u s (L.map enc) ∧ L.length = ds.length ∧ (∀ (i : Nat) a y, L[i]? = some a → ds[i]? = some y → enc a = enc a → ∃ a', enc a' = enc a ∧ R a' y) ∧ Rows.uptoBulkAll ds < Rows.uptoBulk d := by
  obtain ⟨l, ds, ⟨u, rfl, hsl⟩, hlen, hel, hd⟩ := RD.slice hu hs h
  have hget : ∀ (i : Nat) x, l[i]? = some x → ∃ y a, ds[i]? = some y ∧ x = enc a ∧ R a y := by
    intro i x hx
    have hi := (List.getElem?_eq_some_iff.1 hx).1
    have hy : ds[i]? = some (ds[i]'(by omega)) := List.getElem?_eq_getElem (by omega)
    obtain ⟨f', hf⟩ := hel i x _ hx hy
    obtain ⟨a, h1, h2⟩ := hR f' x _ hf
    exact ⟨_, a, hy, h1, h2⟩
  obtain ⟨L, rfl⟩ := exists_map (f := enc) (l := l) fun x hx => by
    obtain ⟨i, hi⟩ := List.mem_iff_getElem?.1 hx
    obtain ⟨y, a, _, h2, _⟩ := hget i x hi
    exact ⟨a, h2⟩
  refine ⟨u, L, ds, rfl, hsl, by simpa using hlen, fun i a y ha hy _ => ?_, ?_⟩
  · obtain ⟨y', a', h1, h2, h3⟩ := hget i (enc a) (by simp [ha])
    rw [hy] at h1
    injection h1 with h1
    subst h1
    exact ⟨a', h2.symm, h3⟩
  · rcases hd with ⟨rfl, rfl⟩ | ⟨sp, rfl⟩
    · simp [Rows.uptoBulk, Rows.uptoBulkAll]
    · simp only [Rows.uptoBulk]; omega
theorem str_in {H : AH} {f : Nat} {x : List Value} {y : DataW K} (h : RD Tryz.prog H f 9 x y) : ∃ s, x = strCell s ∧ y = .lit (.string s.data.toList) := RD.str Tryz.underlying9 h
theorem int_in {H : AH} {f : Nat} {x : List Value} {y : DataW K} (h : RD Tryz.prog H f 3 x y) : ∃ n, x = [.int .i64 n] ∧ -9223372036854775808 ≤ n ∧ n < 9223372036854775808 := RD.int Tryz.underlying3 h
theorem bulk_strs : ∀ {L : List ByteArray} {ds : List (DataW K)}, L.length = ds.length → (∀ (i : Nat) a y, L[i]? = some a → ds[i]? = some y → y = .lit (.string a.data.toList)) → Rows.uptoBulkAll ds = sizes L + L.length
  | [], [], _, _ => rfl
  | [], _ :: _, h, _ => by simp at h
  | _ :: _, [], h, _ => by simp at h
  | a :: L, d :: ds, h, hr => by
    have h0 := hr 0 a d rfl rfl
    have ih := bulk_strs (L := L) (ds := ds) (by simpa using h) fun i a y h1 h2 => hr (i + 1) a y (by simpa using h1) (by simpa using h2)
    subst h0
    have e : a.data.toList.length = a.size := by rw [Array.length_toList]; rfl
    simp only [Rows.uptoBulkAll, Rows.uptoBulk, ih, sizes, List.map_cons, List.sum_cons, List.length_cons, e]
    omega
theorem strCell_inj {a b : ByteArray} (h : strCell a = strCell b) : a = b := by
  simp only [strCell, List.cons.injEq, Value.string.injEq, and_true] at h; exact h
/-- A list of texts. -/
theorem strs_in {H : AH} {f : Nat} {cs : List Value} {d : DataW K} (h : RD Tryz.prog H f 22 cs d) : ∃ u, ∃ L : List ByteArray, cs = [u] ∧ Sl H u 1 (L.map strCell) ∧ sizes L + L.length < Rows.uptoBulk d := by
  obtain ⟨u, L, ds, h1, h2, h3, h4, h5⟩ := list_in (enc := strCell) (fun s y => y = .lit (.string s.data.toList)) Tryz.underlying22 cells_9 (fun f x y hf => str_in hf) h
  refine ⟨u, L, h1, h2, ?_⟩
  rw [← bulk_strs h3 fun i a y ha hy => by
    obtain ⟨a', e, hr⟩ := h4 i a y ha hy rfl
    rw [← strCell_inj e]; exact hr]
  exact h5
theorem sizes_mem {L : List ByteArray} {x : ByteArray} (h : x ∈ L) : x.size ≤ sizes L := by
  induction L with
  | nil => cases h
  | cons a L ih =>
    simp only [sizes, List.map_cons, List.sum_cons] at ih ⊢
    rcases List.mem_cons.1 h with rfl | h
    · omega
    · have := ih h; omega
theorem four {c : List Value} (h : c.length = 4) : ∃ a b x y, c = [a, b, x, y] := by
  match c, h with
  | [a, b, x, y], _ => exact ⟨a, b, x, y, rfl⟩
theorem five {c : List Value} (h : c.length = 5) : ∃ a b x y z, c = [a, b, x, y, z] := by
  match c, h with
  | [a, b, x, y, z], _ => exact ⟨a, b, x, y, z, rfl⟩
theorem two {c : List Value} (h : c.length = 2) : ∃ a b, c = [a, b] := by
  match c, h with
  | [a, b], _ => exact ⟨a, b, rfl⟩
theorem get_some {ds : List (DataW K)} {n i : Nat} (h : ds.length = n) (hi : i < n) : ∃ x, ds[i]? = some x := ⟨ds[i]'(by omega), List.getElem?_eq_getElem (by omega)⟩
theorem arc_in {H : AH} {f : Nat} {x : List Value} {y : DataW K} (h : RD Tryz.prog H f 54 x y) : ∃ a : ArcD, x = a.cells ∧ True := by
  · obtain ⟨f', ds, rfl, h1, h2, h3⟩ := RD.struct Tryz.underlying54 h
    rw [cells_54] at h1
    obtain ⟨a, b, c, d, e, rfl⟩ := five h1
    have h2' : ds.length = 5 := h2
    obtain ⟨d0, e0⟩ := get_some h2' (i := 0) (by omega)
    obtain ⟨d1, e1⟩ := get_some h2' (i := 1) (by omega)
    obtain ⟨d2, e2⟩ := get_some h2' (i := 2) (by omega)
    obtain ⟨d3, e3⟩ := get_some h2' (i := 3) (by omega)
    obtain ⟨d4, e4⟩ := get_some h2' (i := 4) (by omega)
    have g0 := h3 0 _ _ rfl e0
    have g1 := h3 1 _ _ rfl e1
    have g2 := h3 2 _ _ rfl e2
    have g3 := h3 3 _ _ rfl e3
    have g4 := h3 4 _ _ rfl e4
    simp only [cells_3, cells_9, List.drop_zero, List.drop_succ_cons, List.take_succ_cons, List.take_zero, List.getElem_toArray, List.getElem_cons_zero, List.getElem_cons_succ] at g0 g1 g2 g3 g4
    obtain ⟨n0, q0, _⟩ := int_in g0
    obtain ⟨s1, q1, _⟩ := str_in g1
    obtain ⟨s2, q2, _⟩ := str_in g2
    obtain ⟨n3, q3, _⟩ := int_in g3
    obtain ⟨n4, q4, _⟩ := int_in g4
    simp only [strCell, List.cons.injEq, and_true] at q0 q1 q2 q3 q4
    subst q0 q1 q2 q3 q4
    exact ⟨⟨n0, s1, s2, n3, n4⟩, rfl, trivial⟩
theorem end_in {H : AH} {f : Nat} {x : List Value} {y : DataW K} (h : RD Tryz.prog H f 56 x y) : ∃ a : EndD, x = a.cells ∧ True := by
  · obtain ⟨f', ds, rfl, h1, h2, h3⟩ := RD.struct Tryz.underlying56 h
    rw [cells_56] at h1
    obtain ⟨a, b, rfl⟩ := two h1
    have h2' : ds.length = 2 := h2
    obtain ⟨d0, e0⟩ := get_some h2' (i := 0) (by omega)
    obtain ⟨d1, e1⟩ := get_some h2' (i := 1) (by omega)
    have g0 := h3 0 _ _ rfl e0
    have g1 := h3 1 _ _ rfl e1
    simp only [cells_3, List.drop_zero, List.drop_succ_cons, List.take_succ_cons, List.take_zero, List.getElem_toArray, List.getElem_cons_zero, List.getElem_cons_succ] at g0 g1
    obtain ⟨n0, q0, _⟩ := int_in g0
    obtain ⟨n1, q1, _⟩ := int_in g1
    simp only [List.cons.injEq, and_true] at q0 q1
    subst q0 q1
    exact ⟨⟨n0, n1⟩, rfl, trivial⟩
theorem agg_of {v : Value} {a b : Value} {l : List Value} (h : vcells v = a :: b :: l) : v = .agg (a :: b :: l).toArray := by
  cases v <;> simp only [vcells] at h <;> try (cases h; done)
  rw [← h]
/-- A net. -/
theorem net_in {H : AH} {f : Nat} {v : Value} {d : DataW K} (h : RD Tryz.prog H f 26 (vcells v) d) (hb : Rows.uptoBulk d ≤ 1048576) : ∃ N : NetD, Nonempty (NetAt H v N) ∧ NetSmall N ∧ sizes N.sigma ≤ 1048576 := by
  · obtain ⟨f', ds, rfl, h1, h2, h3⟩ := RD.struct Tryz.underlying26 h
    rw [cells_26] at h1
    obtain ⟨a, b, c, e, hv⟩ := four h1
    rw [hv] at h3
    have h2' : ds.length = 4 := h2
    obtain ⟨d0, e0⟩ := get_some h2' (i := 0) (by omega)
    obtain ⟨d1, e1⟩ := get_some h2' (i := 1) (by omega)
    obtain ⟨d2, e2⟩ := get_some h2' (i := 2) (by omega)
    obtain ⟨d3, e3⟩ := get_some h2' (i := 3) (by omega)
    have g0 := h3 0 _ _ rfl e0
    have g1 := h3 1 _ _ rfl e1
    have g2 := h3 2 _ _ rfl e2
    have g3 := h3 3 _ _ rfl e3
    simp only [cells_3, cells_22, cells_23, cells_24, List.drop_zero, List.drop_succ_cons, List.take_succ_cons, List.take_zero, List.getElem_toArray, List.getElem_cons_zero, List.getElem_cons_succ] at g0 g1 g2 g3
    obtain ⟨u0, L0, q0, s0, b0⟩ := strs_in g0
    obtain ⟨n1, q1, _⟩ := int_in g1
    obtain ⟨u2, L2, ds2, q2, s2, k2, _, b2⟩ := list_in (enc := ArcD.cells) (fun _ _ => True) Tryz.underlying23 cells_54 (fun f x y hf => arc_in hf) g2
    obtain ⟨u3, L3, ds3, q3, s3, k3, _, b3⟩ := list_in (enc := EndD.cells) (fun _ _ => True) Tryz.underlying24 cells_56 (fun f x y hf => end_in hf) g3
    simp only [List.cons.injEq, and_true] at q0 q1 q2 q3
    subst q0 q1 q2 q3
    have m0 := bulk_mem (List.mem_of_getElem? e0)
    have m2 := bulk_mem (List.mem_of_getElem? e2)
    have m3 := bulk_mem (List.mem_of_getElem? e3)
    have l2 := bulk_len ds2
    have l3 := bulk_len ds3
    simp only [Rows.uptoBulk] at hb
    refine ⟨⟨L0, n1, L2, L3⟩, ⟨⟨a, c, e, agg_of hv, s0, s2, s3⟩⟩, ⟨?_, ?_, ?_, fun x hx => ?_⟩, ?_⟩
    · show L0.length ≤ _; omega
    · show L2.length ≤ _; omega
    · show L3.length ≤ _; omega
    · have := sizes_mem hx; show x.size ≤ _; have h' : x.size ≤ sizes L0 := this; omega
    · show sizes L0 ≤ _; omega
end
end Go.Proofs.YtfcmpclbhnjkgaaGreat
