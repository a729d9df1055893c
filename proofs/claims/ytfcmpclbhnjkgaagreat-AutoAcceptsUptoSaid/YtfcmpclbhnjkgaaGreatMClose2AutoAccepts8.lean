/- A part of the proof: Priced, AutoValidate, AutoAcc, IsOver, IsLong, DataIn. -/
import Derived.Test.YtfcmpclbhnjkgaaGreatMClose2AutoAccepts3
import Derived.Test.YtfcmpclbhnjkgaaGreatMClose2AutoAccepts7
import Derived.Test.YtfcmpclbhnjkgaaGreatMClose2AutoAccepts6
import Derived.Test.YtfcmpclbhnjkgaaGreatRows
set_option linter.unusedVariables false
set_option linter.unusedSimpArgs false
/- Whether a net has a cost out of bounds. -/
set_option maxHeartbeats 4000000
set_option maxRecDepth 20000
set_option linter.unusedSimpArgs false
set_option linter.unusedVariables false
set_option pp.deepTerms.threshold 8
namespace Go.Proofs.YtfcmpclbhnjkgaaGreat
open Go Go.Proofs Go.Proofs.Sh
def pricedB (N : NetD) (m : Int) : Bool := N.arcs.any (fun a => decide (a.cost < 0) || decide (m < a.cost)) || N.ends.any (fun a => decide (a.cost < 0) || decide (m < a.cost))
theorem priced {H : AH} {v : Value} {N : NetD} {m : Int} (h : NetAt H v N) (hsm : NetSmall N) (hw : Wf H) :
    Sh.Call Tryz.prog (knows 10) 80 [v, .int .i64 m] H (fun r H' => Kept H H' ∧ r = .bool (pricedB N m)) := by
  refine call_of rfl Tryz.func80 rfl (Nat.le_of_ble_eq_true rfl) ?_
  have hres : Tryz.f80.results.toList = [.tmp 4] := rfl
  obtain ⟨sg, ar, en, rfl, hsg, har, hen⟩ := h
  have hb1 := NetBox.of (N := N) hw hsg har hen
  have hk1 : Kept H (H.new 4 [sg, .int .i64 N.states, ar, en]).2 := Kept.new hw 4 _
  simp only [↓Sh.stepDn, Sh.st, seatFacts, exitTo, isEff, isConst, Sh.one, Nat.reduceBEq, reduceCtorEq, Nat.reduceEqDiff, netNew hsg.isCell har.isCell hen.isCell]
  generalize H.next = gg at hb1 ⊢
  generalize (H.new 4 [sg, .int .i64 N.states, ar, en]).2 = H1 at hb1 hk1 ⊢
  simp only [↓Sh.stepDn, Sh.st, seatFacts, exitTo, isEff, isConst, Sh.one, Nat.reduceBEq, reduceCtorEq, Nat.reduceEqDiff, hb1.c0, hb1.c1, hb1.c2, hb1.c3, hb1.ca, netLenS hb1, netLenA hb1, netLenE hb1]
  refine wp_for N.arcs.length 12 (List.range' 12 14 ++ [4, 6]) (fun i F H' => Kept H1 H' ∧ (N.arcs.take i).any (fun a => decide (a.cost < 0) || decide (m < a.cost)) = false) (by simp only [↓Sh.stepDn, Sh.st, seatFacts, exitTo, isEff, isConst, Sh.one, Nat.reduceBEq, reduceCtorEq, Nat.reduceEqDiff]) ⟨Kept.refl hk1.wf, rfl⟩ ?_ ?_
  · rintro i F H' hlt hF f12 ⟨hk, hall⟩ k
    have f1 := hF 1 rfl
    have f10 := hF 10 rfl
    have f11 := hF 11 rfl
    simp only [↓Sh.stepDn, Sh.st, seatFacts, exitTo, isEff, isConst, Sh.one, Nat.reduceBEq, reduceCtorEq, Nat.reduceEqDiff] at f1 f10 f11
    have hb' := hb1.kept hk1.wf hk
    have hb3 := hb'.new hk.wf 5 (N.arcs[i].cells)
    have hk3 := hk.news 5 (N.arcs[i].cells)
    obtain ⟨g, o, kk, hia, hc, hcc⟩ := hb'.har.at Tryz.underlying23 size_54 (i := i) (x := N.arcs[i].cells) (by simp [hlt]) .i64
    clear hcc
    have hbad : (decide (N.arcs[i].cost < 0) || decide (m < N.arcs[i].cost)) = true → pricedB N m = true := fun h => by
      rw [pricedB, List.any_eq_true.2 ⟨_, List.getElem_mem hlt, h⟩]; rfl
    simp only [↓Sh.stepDn, Sh.st, seatFacts, exitTo, isEff, isConst, Sh.one, Nat.reduceBEq, reduceCtorEq, Nat.reduceEqDiff, hb'.c0, hb'.c1, hb'.c2, hb'.c3, hb'.ca, netLenS hb', netLenA hb', netLenE hb', netZero, arcZero, endZero, arcNew, endNew, arcStore, endStore, arcOver, endOver, netOver, arc0, arc1, arc2, arc3, arc4, end0, end1, f1, f10, f11, f12, Option.map_some, nat_lt, hlt, decide_true, hia, hc, hres]
    by_cases h1 : N.arcs[i].cost < 0
    · simp only [↓Sh.stepDn, Sh.st, seatFacts, exitTo, isEff, isConst, Sh.one, Nat.reduceBEq, reduceCtorEq, Nat.reduceEqDiff, h1, decide_true, hres, hbad (by simp [h1]), hk1.trans hk3]
    simp only [↓Sh.stepDn, Sh.st, seatFacts, exitTo, isEff, isConst, Sh.one, Nat.reduceBEq, reduceCtorEq, Nat.reduceEqDiff, netZero, arcZero, endZero, arcNew, endNew, arcStore, endStore, arcOver, endOver, netOver, arc0, arc1, arc2, arc3, arc4, end0, end1, f1, h1, decide_false]
    by_cases h2 : m < N.arcs[i].cost
    · simp only [↓Sh.stepDn, Sh.st, seatFacts, exitTo, isEff, isConst, Sh.one, Nat.reduceBEq, reduceCtorEq, Nat.reduceEqDiff, h2, decide_true, hres, hbad (by simp [h2]), hk1.trans hk3]
    simp only [↓Sh.stepDn, Sh.st, seatFacts, exitTo, isEff, isConst, Sh.one, Nat.reduceBEq, reduceCtorEq, Nat.reduceEqDiff, f12, h2, decide_false, wrap_succ hlt hsm.ar]
    refine k _ _ (by repeat (first | refine Same.put ?_ rfl | exact Same.rfl' _)) (by simp only [↓Sh.stepDn, Sh.st, seatFacts, exitTo, isEff, isConst, Sh.one, Nat.reduceBEq, reduceCtorEq, Nat.reduceEqDiff]) ⟨hk3, ?_⟩
    rw [List.take_add_one, List.getElem?_eq_getElem hlt]
    simp only [Option.toList, List.any_append, hall, List.any_cons, List.any_nil, Bool.or_false, h1, h2, decide_false]
  · rintro F H' hF f12 ⟨hk, hall⟩
    have f2 := hF 2 rfl
    have f11 := hF 11 rfl
    simp only [↓Sh.stepDn, Sh.st, seatFacts, exitTo, isEff, isConst, Sh.one, Nat.reduceBEq, reduceCtorEq, Nat.reduceEqDiff] at f2 f11
    rw [List.take_length] at hall
    have hb' := hb1.kept hk1.wf hk
    simp only [↓Sh.stepDn, Sh.st, seatFacts, exitTo, isEff, isConst, Sh.one, Nat.reduceBEq, reduceCtorEq, Nat.reduceEqDiff, hb'.c0, hb'.c1, hb'.c2, hb'.c3, hb'.ca, netLenS hb', netLenA hb', netLenE hb', f2, f11, f12, nat_lt, Nat.lt_irrefl, decide_false]
    refine wp_for N.ends.length 29 (List.range' 29 14 ++ [4, 8]) (fun i F H'' => Kept H' H'' ∧ (N.ends.take i).any (fun a => decide (a.cost < 0) || decide (m < a.cost)) = false) (by simp only [↓Sh.stepDn, Sh.st, seatFacts, exitTo, isEff, isConst, Sh.one, Nat.reduceBEq, reduceCtorEq, Nat.reduceEqDiff]) ⟨Kept.refl hk.wf, rfl⟩ ?_ ?_
    · rintro i F2 H'' hlt hF2 f29 ⟨hk2', hall2⟩ k
      have g1 := hF2 1 rfl
      have h1' := hF 1 rfl
      have g27 := hF2 27 rfl
      have g28 := hF2 28 rfl
      simp only [↓Sh.stepDn, Sh.st, seatFacts, exitTo, isEff, isConst, Sh.one, Nat.reduceBEq, reduceCtorEq, Nat.reduceEqDiff] at g1 g27 g28 h1'
      have hbx := hb'.kept hk.wf hk2'
      have hb3 := hbx.new hk2'.wf 2 (N.ends[i].cells)
      have hk3 := hk2'.news 2 (N.ends[i].cells)
      have hkk := (hk1.trans hk).trans hk3
      obtain ⟨g, o, kk, hia, hc, hcc⟩ := hbx.hen.at Tryz.underlying24 size_56 (i := i) (x := N.ends[i].cells) (by simp [hlt]) .i64
      clear hcc
      have hbad : (decide (N.ends[i].cost < 0) || decide (m < N.ends[i].cost)) = true → pricedB N m = true := fun h => by
        rw [pricedB, List.any_eq_true.2 ⟨_, List.getElem_mem hlt, h⟩, Bool.or_true]
      simp only [↓Sh.stepDn, Sh.st, seatFacts, exitTo, isEff, isConst, Sh.one, Nat.reduceBEq, reduceCtorEq, Nat.reduceEqDiff, hbx.c0, hbx.c1, hbx.c2, hbx.c3, hbx.ca, netLenS hbx, netLenA hbx, netLenE hbx, netZero, arcZero, endZero, arcNew, endNew, arcStore, endStore, arcOver, endOver, netOver, arc0, arc1, arc2, arc3, arc4, end0, end1, g1, h1', g27, g28, f29, nat_lt, hlt, decide_true, hia, hc, Option.map_some]
      by_cases h1 : N.ends[i].cost < 0
      · simp only [↓Sh.stepDn, Sh.st, seatFacts, exitTo, isEff, isConst, Sh.one, Nat.reduceBEq, reduceCtorEq, Nat.reduceEqDiff, h1, decide_true, hres, hbad (by simp [h1]), hkk]
      simp only [↓Sh.stepDn, Sh.st, seatFacts, exitTo, isEff, isConst, Sh.one, Nat.reduceBEq, reduceCtorEq, Nat.reduceEqDiff, netZero, arcZero, endZero, arcNew, endNew, arcStore, endStore, arcOver, endOver, netOver, arc0, arc1, arc2, arc3, arc4, end0, end1, g1, h1', f29, h1, decide_false]
      by_cases h2 : m < N.ends[i].cost
      · simp only [↓Sh.stepDn, Sh.st, seatFacts, exitTo, isEff, isConst, Sh.one, Nat.reduceBEq, reduceCtorEq, Nat.reduceEqDiff, h2, decide_true, hres, hbad (by simp [h2]), hkk]
      simp only [↓Sh.stepDn, Sh.st, seatFacts, exitTo, isEff, isConst, Sh.one, Nat.reduceBEq, reduceCtorEq, Nat.reduceEqDiff, f29, h2, decide_false, wrap_succ hlt hsm.en]
      refine k _ _ (by repeat (first | refine Same.put ?_ rfl | exact Same.rfl' _)) (by simp only [↓Sh.stepDn, Sh.st, seatFacts, exitTo, isEff, isConst, Sh.one, Nat.reduceBEq, reduceCtorEq, Nat.reduceEqDiff]) ⟨hk3, ?_⟩
      rw [List.take_add_one, List.getElem?_eq_getElem hlt]
      simp only [Option.toList, List.any_append, hall2, List.any_cons, List.any_nil, Bool.or_false, h1, h2, decide_false]
    · rintro F2 H'' hF2 f29 ⟨hk2', hall2⟩
      have g28 := hF2 28 rfl
      simp only [↓Sh.stepDn, Sh.st, seatFacts, exitTo, isEff, isConst, Sh.one, Nat.reduceBEq, reduceCtorEq, Nat.reduceEqDiff] at g28
      rw [List.take_length] at hall2
      simp only [↓Sh.stepDn, Sh.st, seatFacts, exitTo, isEff, isConst, Sh.one, Nat.reduceBEq, reduceCtorEq, Nat.reduceEqDiff, g28, f29, nat_lt, Nat.lt_irrefl, decide_false, hres, pricedB, hall, hall2, (hk1.trans hk).trans hk2']
end Go.Proofs.YtfcmpclbhnjkgaaGreat
/- What is wrong with an acceptor, by the program. -/
set_option maxHeartbeats 4000000
set_option maxRecDepth 20000
set_option linter.unusedSimpArgs false
set_option linter.unusedVariables false
set_option pp.deepTerms.threshold 8
namespace Go.Proofs.YtfcmpclbhnjkgaaGreat
open Go Go.Proofs Go.Proofs.Sh
theorem autoUnlike {H : AH} {a : ArcD} (hw : Wf H) : Sh.Call Tryz.prog (knows 10) 78 [.agg a.cells.toArray] H (fun r H' => Kept H H' ∧ r = .bool (!decide (a.inn = a.out))) := by
  refine call_of rfl Tryz.func78 rfl (Nat.le_of_ble_eq_true rfl) ?_
  have hres : Tryz.f78.results.toList = [.tmp 2] := rfl
  simp only [↓Sh.stepDn, Sh.st, seatFacts, exitTo, isEff, isConst, Sh.one, Nat.reduceBEq, reduceCtorEq, Nat.reduceEqDiff, netZero, arcZero, endZero, arcNew, endNew, arcStore, endStore, arcOver, endOver, netOver, arc0, arc1, arc2, arc3, arc4, end0, end1, hres, Kept.new hw 5 a.cells]
theorem free_priced (N : NetD) : NetD.free N = !pricedB N 0 := by
  have h : ∀ c : Int, decide (c = 0) = !(decide (c < 0) || decide (0 < c)) := by
    intro c
    by_cases h1 : c < 0
    · have : c ≠ 0 := by omega
      simp [h1, this]
    · by_cases h2 : 0 < c
      · have : c ≠ 0 := by omega
        simp [h2, this]
      · have : c = 0 := by omega
        simp [this]
  simp only [NetD.free, pricedB, h, Bool.not_or, List.all_eq_not_any_not, Bool.not_not]
  simp
theorem autoValidate {H : AH} {v : Value} {N : NetD} (h : NetAt H v N) (hsm : NetSmall N) (hw : Wf H) :
    Sh.Call Tryz.prog (knows 10) 36 [v] H (fun r H' => Kept H H' ∧ r = .int .i64 (accErr N)) := by
  refine call_of rfl Tryz.func36 rfl (Nat.le_of_ble_eq_true rfl) ?_
  have hres : Tryz.f36.results.toList = [.tmp 2] := rfl
  obtain ⟨sg, ar, en, rfl, hsg, har, hen⟩ := h
  have hb1 := NetBox.of (N := N) hw hsg har hen
  have hk1 : Kept H (H.new 4 [sg, .int .i64 N.states, ar, en]).2 := Kept.new hw 4 _
  simp only [↓Sh.stepDn, Sh.st, seatFacts, exitTo, isEff, isConst, Sh.one, Nat.reduceBEq, reduceCtorEq, Nat.reduceEqDiff, netNew hsg.isCell har.isCell hen.isCell]
  generalize H.next = gg at hb1 ⊢
  generalize (H.new 4 [sg, .int .i64 N.states, ar, en]).2 = H1 at hb1 hk1 ⊢
  simp only [↓Sh.stepDn, Sh.st, seatFacts, exitTo, isEff, isConst, Sh.one, Nat.reduceBEq, reduceCtorEq, Nat.reduceEqDiff, hb1.c0, hb1.c1, hb1.c2, hb1.c3, hb1.ca, netLenS hb1, netLenA hb1, netLenE hb1, Option.map_some]
  obtain ⟨r, H2, hd, hk2, rfl⟩ := graphCheck hb1.netAt hsm hk1.wf
  refine ⟨_, _, hd, ?_⟩
  have hb2 := hb1.kept hk1.wf hk2
  have hk12 := hk1.trans hk2
  by_cases hE : netErr N = 0
  case neg => simp only [↓Sh.stepDn, Sh.st, seatFacts, exitTo, isEff, isConst, Sh.one, Nat.reduceBEq, reduceCtorEq, Nat.reduceEqDiff, hE, decide_false, hres, accErr, if_true, hk12]
  simp only [↓Sh.stepDn, Sh.st, seatFacts, exitTo, isEff, isConst, Sh.one, Nat.reduceBEq, reduceCtorEq, Nat.reduceEqDiff, hE, decide_true, hb2.c0, hb2.c1, hb2.c2, hb2.c3, hb2.ca, netLenS hb2, netLenA hb2, netLenE hb2]
  obtain ⟨r, H3, hd3, hk3, rfl⟩ := containsFuncArc (caps := []) (fid := 78) (fun a => !decide (a.inn = a.out)) hb2.har hsm.ar hk12.wf (fun H' hk a ha => autoUnlike hk.wf)
  refine ⟨_, _, hd3, ?_⟩
  have hb3 := hb2.kept hk12.wf hk3
  have hk13 := hk12.trans hk3
  cases hu : N.arcs.any (fun a => !decide (a.inn = a.out)) with
  | true => simp only [↓Sh.stepDn, Sh.st, seatFacts, exitTo, isEff, isConst, Sh.one, Nat.reduceBEq, reduceCtorEq, Nat.reduceEqDiff, hres, accErr, hE, unlike, hu, if_true, if_false, hk13]
  | false =>
    simp only [↓Sh.stepDn, Sh.st, seatFacts, exitTo, isEff, isConst, Sh.one, Nat.reduceBEq, reduceCtorEq, Nat.reduceEqDiff, hb3.c0, hb3.c1, hb3.c2, hb3.c3, hb3.ca, netLenS hb3, netLenA hb3, netLenE hb3, Option.map_some]
    obtain ⟨r, H4, hd4, hk4, rfl⟩ := priced (m := 0) hb3.netAt hsm hk13.wf
    refine ⟨_, _, hd4, ?_⟩
    cases hp : pricedB N 0 with
    | true => simp only [↓Sh.stepDn, Sh.st, seatFacts, exitTo, isEff, isConst, Sh.one, Nat.reduceBEq, reduceCtorEq, Nat.reduceEqDiff, hres, accErr, hE, unlike, hu, free_priced, hp, if_true, if_false, hk13.trans hk4]
    | false => simp only [↓Sh.stepDn, Sh.st, seatFacts, exitTo, isEff, isConst, Sh.one, Nat.reduceBEq, reduceCtorEq, Nat.reduceEqDiff, hres, accErr, hE, unlike, hu, free_priced, hp, if_true, if_false, hk13.trans hk4]
end Go.Proofs.YtfcmpclbhnjkgaaGreat
/- auto.given, Accepts, Begins. -/
set_option maxHeartbeats 4000000
set_option maxRecDepth 20000
set_option linter.unusedSimpArgs false
set_option linter.unusedVariables false
set_option pp.deepTerms.threshold 8
namespace Go.Proofs.YtfcmpclbhnjkgaaGreat
open Go Go.Proofs Go.Proofs.Sh
/-- The edges of the program's graph of a net. -/
def gEdges (N : NetD) : List (List (Nat × Int × Int × Int)) := rowsOf ArcD.fr (fun a => (a.to.toNat, symIx N.sigma a.inn, symIx N.sigma a.out, a.cost)) N.states.toNat N.arcs
theorem gEdges_cells {N : NetD} (hok : NetOk N) : gCells (gEdges N) = grRows N N.arcs := by
  unfold gCells gEdges grRows rowsOf
  rw [List.map_map]
  refine List.map_congr_left fun s _ => ?_
  simp only [Function.comp, List.map_map]
  refine List.map_congr_left fun a ha => ?_
  have := hok.arc a (List.mem_filter.1 ha).1
  simp only [Function.comp, gCell, edgeC]
  rw [show ((a.to.toNat : Nat) : Int) = a.to by omega]
theorem goes_gEdges {N : NetD} (hok : NetOk N) (p : Int → Prop) (s t : Nat) : goesP (gEdges N) p s t ↔ ∃ a ∈ N.arcs, a.fr = (s : Int) ∧ p (symIx N.sigma a.inn) ∧ a.to = (t : Int) := by
  unfold goesP gEdges
  constructor
  · rintro ⟨r, h1, e, h2, h3, h4⟩
    obtain ⟨a, ha, h5, rfl⟩ := (rowsOf_mem h1 _).1 h2
    have := hok.arc a ha
    exact ⟨a, ha, h5, h4, by simp only at h3; omega⟩
  · rintro ⟨a, ha, h1, h2, h3⟩
    have := hok.arc a ha
    have hs : s < N.states.toNat := by omega
    exact ⟨_, rowsOf_get hs, (a.to.toNat, symIx N.sigma a.inn, symIx N.sigma a.out, a.cost), (rowsOf_mem (rowsOf_get hs) _).2 ⟨a, ha, h1, rfl⟩, by simp only; omega, h2⟩
theorem symIx_lt {l : List ByteArray} {x : ByteArray} (ha : Asc l) : symIx l x < 0 ↔ x ∉ l := by
  have := symIx_neg (x := x) ha
  rw [← strIn_iff]
  cases h : strIn l x with
  | true => rw [h] at this; simpa using this
  | false => rw [h] at this; simpa using this
theorem symIx_inj {l : List ByteArray} {x y : ByteArray} (ha : Asc l) (hx : x ∈ l) : symIx l y = symIx l x ↔ y = x := by
  constructor
  · intro h
    have hx0 : ¬(symIx l x < 0) := fun h0 => (symIx_lt ha).1 h0 hx
    have hy : y ∈ l := by
      by_cases hy : y ∈ l
      · exact hy
      · have := (symIx_lt ha).2 hy; omega
    obtain ⟨i, hi⟩ := List.mem_iff_getElem?.1 hx
    obtain ⟨j, hj⟩ := List.mem_iff_getElem?.1 hy
    rw [symIx_some ha hi, symIx_some ha hj] at h
    have : j = i := by omega
    subst this
    rw [hi] at hj
    exact (Option.some.inj hj).symm
  · rintro rfl; rfl
theorem noText_out {N : NetD} (hok : NetOk N) : noText ∉ N.sigma := by
  intro h
  have := hok.sym _ h
  have h0 : symOk noText = false := rfl
  rw [h0] at this; cases this
theorem eps_gEdges {N : NetD} (hok : NetOk N) (s t : Nat) : N.goes noText s t ↔ goesP (gEdges N) (fun k => k < 0) s t := by
  rw [goes_gEdges hok]
  unfold NetD.goes
  constructor
  · rintro ⟨a, ha, h1, h2, h3⟩
    exact ⟨a, ha, h1, (symIx_lt hok.asc).2 (by rw [h2]; exact noText_out hok), h3⟩
  · rintro ⟨a, ha, h1, h2, h3⟩
    have h4 := (symIx_lt hok.asc).1 h2
    exact ⟨a, ha, h1, ((hok.arc a ha).2.2.2.2.1).resolve_right h4, h3⟩
theorem sym_gEdges {N : NetD} (hok : NetOk N) {x : ByteArray} (hx : x ∈ N.sigma) (s t : Nat) : N.goes x s t ↔ goesP (gEdges N) (fun k => k = symIx N.sigma x) s t := by
  rw [goes_gEdges hok]
  unfold NetD.goes
  constructor
  · rintro ⟨a, ha, h1, h2, h3⟩; exact ⟨a, ha, h1, by rw [h2], h3⟩
  · rintro ⟨a, ha, h1, h2, h3⟩; exact ⟨a, ha, h1, (symIx_inj hok.asc hx).1 h2, h3⟩
theorem run_gEdges {N : NetD} (hok : NetOk N) {w : List ByteArray} (hw : ∀ x ∈ w, x ∈ N.sigma) (t : Nat) :
    N.run w t ↔ RunS (goesP (gEdges N) fun k => k < 0) (fun x => goesP (gEdges N) fun k => k = x) (Clo (goesP (gEdges N) fun k => k < 0) fun s => s = 0) (w.map (symIx N.sigma)) t := by
  unfold NetD.run NetD.clo
  have e : N.goes noText = goesP (gEdges N) fun k => k < 0 := funext fun s => funext fun t => propext (eps_gEdges hok s t)
  rw [e]
  exact RunS.congr (f := symIx N.sigma) (fun _ _ => Iff.rfl) (fun _ => Iff.rfl) (fun x hx s t => sym_gEdges hok (hw x hx) s t) t
/-- A word with a foreign symbol leads nowhere. -/
theorem run_out {N : NetD} (hok : NetOk N) {w : List ByteArray} {x : ByteArray} (hx : x ∈ w) (h0 : x ≠ noText) (hs : x ∉ N.sigma) (t : Nat) : ¬N.run w t := by
  refine RunS.dead ⟨x, hx, fun s t => ?_⟩ t
  rintro ⟨a, ha, _, h2, _⟩
  rcases (hok.arc a ha).2.2.2.2.1 with h3 | h3
  · exact h0 (by rw [← h2, h3]; rfl)
  · exact hs (by rw [← h2]; exact h3)
theorem word_no {N : NetD} {w : List ByteArray} (hE : bothErr N w = 0) : ∀ x ∈ w, x ≠ noText := by
  intro x hx h0
  have h1 : wordErr w = 0 := by
    unfold bothErr at hE
    by_cases h : accErr N = 0
    · rw [if_neg (by simpa using h)] at hE; exact hE
    · rw [if_pos h] at hE; exact absurd hE h
  unfold wordErr at h1
  split at h1
  · cases h1
  split at h1
  · rename_i h2
    have := List.all_eq_true.1 h2 x hx
    rw [h0] at this; cases this
  · cases h1
theorem ends_gr {N : NetD} (hok : NetOk N) (t : Nat) : 0 < (grEnds N N.ends).getD t 0 ↔ N.isEnd t := by
  unfold NetD.isEnd grEnds
  rw [List.getD_eq_getElem?_getD, List.getElem?_map]
  by_cases ht : t < N.states.toNat
  · rw [rowsOf_get ht]
    simp only [Option.map_some, Option.getD_some, List.length_map]
    rw [show (0 : Int) < ((N.ends.filter fun a => decide (a.state = (t : Int))).length : Int) ↔ 0 < (N.ends.filter fun a => decide (a.state = (t : Int))).length by omega, List.length_pos_iff_exists_mem]
    simp only [List.mem_filter, decide_eq_true_eq]
  · rw [List.getElem?_eq_none (by rw [rowsOf_length]; omega)]
    simp only [Option.map_none, Option.getD_none, Int.lt_irrefl, false_iff, not_exists, not_and]
    intro e he h
    have := hok.fin e he
    omega
theorem alive_gr {N : NetD} (hok : NetOk N) : Clo (fun s t => goesP (gEdges N) (fun _ => True) t s) (fun s => 0 < (grEnds N N.ends).getD s 0) = N.alive := by
  unfold NetD.alive
  congr 1
  · funext s t
    apply propext
    rw [goes_gEdges hok]
    unfold NetD.goes
    constructor
    · rintro ⟨a, ha, h1, _, h3⟩; exact ⟨a.inn, a, ha, h1, rfl, h3⟩
    · rintro ⟨x, a, ha, h1, _, h3⟩; exact ⟨a, ha, h1, trivial, h3⟩
  · funext s
    exact propext (ends_gr hok s)
theorem Gr.pg {H : AH} {base g : Nat} {N : NetD} (hok : NetOk N) (h : Gr H base g N.sigma (grRows N N.arcs) (grEnds N N.ends) (grCosts N N.ends)) :
    ∃ sv av ev cv vals, PG H g N.states.toNat 60000 (gEdges N) (grEnds N N.ends) sv av ev cv vals N.sigma (grCosts N N.ends) := by
  obtain ⟨sv, av, ev, cv, vals, hR⟩ := h.read
  rw [← gEdges_cells hok] at hR
  have h1 := hok.st1
  have h2 := hok.st2
  refine ⟨sv, av, ev, cv, vals, hR, by unfold gEdges; rw [rowsOf_length], by unfold grEnds; rw [List.length_map, rowsOf_length], by omega, by omega, fun s r hr => ⟨Nat.le_trans (rowsOf_le hr) hok.ar, fun e he => ?_⟩⟩
  obtain ⟨a, ha, _, rfl⟩ := (rowsOf_mem hr e).1 he
  have := hok.arc a ha
  show a.to.toNat < _
  omega
theorem autoGiven {H : AH} {v u : Value} {N : NetD} {w : List ByteArray} (h : NetAt H v N) (hsm : NetSmall N) (hu : Sl H u 1 (w.map strCell)) (hwl : w.length ≤ 1048576) (hwx : ∀ x ∈ w, x.size ≤ 1048576) (hw : Wf H) :
    Sh.Call Tryz.prog (knows 10) 60 [v, u] H (fun r H' => Kept H H' ∧ ∃ gp lv, r = .tuple #[gp, lv, .bool (decide (bothErr N w = 0) && w.all (strIn N.sigma)), .int .i64 (bothErr N w)] ∧ (bothErr N w = 0 → ∃ g, gp = .pointer (some ⟨g, 0, some 0⟩) ∧ (∃ sv av ev cv vals, PG H' g N.states.toNat 60000 (gEdges N) (grEnds N N.ends) sv av ev cv vals N.sigma (grCosts N N.ends)) ∧ (w.all (strIn N.sigma) = true → Sl H' lv 1 ((w.map (symIx N.sigma)).map intC)))) := by
  refine call_of rfl Tryz.func60 rfl (Nat.le_of_ble_eq_true rfl) ?_
  have hres : Tryz.f60.results.toList = [.tmp 4, .tmp 5, .tmp 6, .tmp 7] := rfl
  obtain ⟨sg, ar, en, rfl, hsg, har, hen⟩ := h
  have hb1 := NetBox.of (N := N) hw hsg har hen
  have hk1 : Kept H (H.new 4 [sg, .int .i64 N.states, ar, en]).2 := Kept.new hw 4 _
  simp only [↓Sh.stepDn, Sh.st, seatFacts, exitTo, isEff, isConst, Sh.one, Nat.reduceBEq, reduceCtorEq, Nat.reduceEqDiff, netNew hsg.isCell har.isCell hen.isCell]
  generalize H.next = gg at hb1 ⊢
  generalize (H.new 4 [sg, .int .i64 N.states, ar, en]).2 = H1 at hb1 hk1 ⊢
  obtain ⟨r, H2, hd2, hk2, rfl⟩ := autoValidate hb1.netAt hsm hk1.wf
  have hb2 := hb1.kept hk1.wf hk2
  simp only [↓Sh.stepDn, Sh.st, seatFacts, exitTo, isEff, isConst, Sh.one, Nat.reduceBEq, reduceCtorEq, Nat.reduceEqDiff, hb1.c0, hb1.c1, hb1.c2, hb1.c3, hb1.ca, netLenS hb1, netLenA hb1, netLenE hb1, Option.map_some]
  refine ⟨_, _, hd2, ?_⟩
  have hk12 := hk1.trans hk2
  by_cases hA : accErr N = 0
  case neg =>
    have hb : bothErr N w = accErr N := by unfold bothErr; rw [if_pos hA]
    have hb0 : ¬bothErr N w = 0 := by rw [hb]; exact hA
    simp only [↓Sh.stepDn, Sh.st, seatFacts, exitTo, isEff, isConst, Sh.one, Nat.reduceBEq, reduceCtorEq, Nat.reduceEqDiff, hA, decide_false, hres, hb, hk12]
    exact ⟨_, _, rfl⟩
  have hu2 := hu.grow (hk12.grow hw)
  obtain ⟨r, H3, hd3, hk3, rfl⟩ := symsWord hu2 hwl hwx hk2.wf
  have hb : bothErr N w = wordErr w := by unfold bothErr; rw [if_neg (by simpa using hA)]
  have hk13 := hk12.trans hk3
  have hb3 := hb2.kept hk2.wf hk3
  simp only [↓Sh.stepDn, Sh.st, seatFacts, exitTo, isEff, isConst, Sh.one, Nat.reduceBEq, reduceCtorEq, Nat.reduceEqDiff, hA, decide_true]
  refine ⟨_, _, hd3, ?_⟩
  by_cases hW : wordErr w = 0
  case neg =>
    simp only [↓Sh.stepDn, Sh.st, seatFacts, exitTo, isEff, isConst, Sh.one, Nat.reduceBEq, reduceCtorEq, Nat.reduceEqDiff, hW, decide_false, hres, hb, hk13]
    exact ⟨_, _, rfl⟩
  have hok := accErr_ok hA
  have hu3 := hu2.grow (hk3.grow hk2.wf)
  obtain ⟨r, H4, hd4, hk4, z, rfl, hz⟩ := graphWord hb3.hsg hok.asc hsm.sg hu3 hwl hk3.wf
  have hb4 := hb3.kept hk3.wf hk4
  obtain ⟨r, H5, hd5, hk5, g, rfl, base, hbase, hG⟩ := graphOf hb4.netAt hok hsm hk4.wf
  simp only [↓Sh.stepDn, Sh.st, seatFacts, exitTo, isEff, isConst, Sh.one, Nat.reduceBEq, reduceCtorEq, Nat.reduceEqDiff, hW, decide_true, hb3.c0, hb3.c1, hb3.c2, hb3.c3, hb3.ca, netLenS hb3, netLenA hb3, netLenE hb3]
  refine ⟨_, _, hd4, ?_⟩
  simp only [↓Sh.stepDn, Sh.st, seatFacts, exitTo, isEff, isConst, Sh.one, Nat.reduceBEq, reduceCtorEq, Nat.reduceEqDiff, hb4.c0, hb4.c1, hb4.c2, hb4.c3, hb4.ca, netLenS hb4, netLenA hb4, netLenE hb4, Option.map_some]
  refine ⟨_, _, hd5, ?_⟩
  simp only [↓Sh.stepDn, Sh.st, seatFacts, exitTo, isEff, isConst, Sh.one, Nat.reduceBEq, reduceCtorEq, Nat.reduceEqDiff, hres, hb, hW, decide_true]
  refine ⟨(hk13.trans hk4).trans hk5, _, _, rfl, g, rfl, Gr.pg hok hG, fun hall => ?_⟩
  obtain ⟨b, hbz, _⟩ := hz hall
  have := hbz.toSl.grow (hk5.grow hk4.wf)
  rw [List.map_map]
  exact this
theorem autoAccepts {H : AH} {v u : Value} {N : NetD} {w : List ByteArray} (h : NetAt H v N) (hsm : NetSmall N) (hu : Sl H u 1 (w.map strCell)) (hwl : w.length ≤ 1048576) (hwx : ∀ x ∈ w, x.size ≤ 1048576) (hw : Wf H) :
    Sh.Call Tryz.prog (knows 10) 28 [v, u] H (fun r H' => Kept H H' ∧ r = .tuple #[.bool (accB N w), .int .i64 (bothErr N w)]) := by
  refine call_of rfl Tryz.func28 rfl (Nat.le_of_ble_eq_true rfl) ?_
  have hres : Tryz.f28.results.toList = [.tmp 4, .tmp 5] := rfl
  obtain ⟨sg, ar, en, rfl, hsg, har, hen⟩ := h
  have hb1 := NetBox.of (N := N) hw hsg har hen
  have hk1 : Kept H (H.new 4 [sg, .int .i64 N.states, ar, en]).2 := Kept.new hw 4 _
  simp only [↓Sh.stepDn, Sh.st, seatFacts, exitTo, isEff, isConst, Sh.one, Nat.reduceBEq, reduceCtorEq, Nat.reduceEqDiff, netNew hsg.isCell har.isCell hen.isCell]
  generalize H.next = gg at hb1 ⊢
  generalize (H.new 4 [sg, .int .i64 N.states, ar, en]).2 = H1 at hb1 hk1 ⊢
  obtain ⟨r, H2, hd2, hk2, gp, lv, rfl, hgp⟩ := autoGiven hb1.netAt hsm (hu.grow (hk1.grow hw)) hwl hwx hk1.wf
  simp only [↓Sh.stepDn, Sh.st, seatFacts, exitTo, isEff, isConst, Sh.one, Nat.reduceBEq, reduceCtorEq, Nat.reduceEqDiff, hb1.c0, hb1.c1, hb1.c2, hb1.c3, hb1.ca, netLenS hb1, netLenA hb1, netLenE hb1, Option.map_some]
  refine ⟨_, _, hd2, ?_⟩
  have hk12 := hk1.trans hk2
  by_cases hE : bothErr N w = 0
  case neg =>
    have : accB N w = false := by unfold accB; exact isB_not fun h => hE h.1
    simp only [↓Sh.stepDn, Sh.st, seatFacts, exitTo, isEff, isConst, Sh.one, Nat.reduceBEq, reduceCtorEq, Nat.reduceEqDiff, hE, decide_false, hres, this, hk12]
  obtain ⟨g, rfl, ⟨sv, av, ev, cv, vals, hPG⟩, hlv⟩ := hgp hE
  have hok := bothErr_ok hE
  have hno := word_no hE
  cases hall : w.all (strIn N.sigma) with
  | false =>
    have : accB N w = false := by
      unfold accB
      refine isB_not ?_
      rintro ⟨_, _, t, h2, _⟩
      obtain ⟨x, hx, hs⟩ := List.all_eq_false.1 hall
      exact run_out hok hx (hno x hx) (fun h => hs (strIn_iff.2 h)) t h2
    simp only [↓Sh.stepDn, Sh.st, seatFacts, exitTo, isEff, isConst, Sh.one, Nat.reduceBEq, reduceCtorEq, Nat.reduceEqDiff, hE, decide_true, hall, Bool.and_false, hres, this, hk12]
  | true =>
    have hin : ∀ x ∈ w, x ∈ N.sigma := fun x hx => strIn_iff.1 (List.all_eq_true.1 hall x hx)
    have hn2 := hPG.n2
    obtain ⟨r3, H3, hd3, hk3, out, b, hbf, hfr, hnd, hlt, hiff⟩ := graphRun hPG (hlv hall) (by rw [List.length_map]; exact hwl) hk2.wf
    have hol := nodup_le hnd hlt
    obtain ⟨r4, H4, hd4, hk4, rfl⟩ := graphHasEnd (hPG.kept hk2.wf hk3) hbf.toSl hlt (by omega) hk3.wf
    simp only [↓Sh.stepDn, Sh.st, seatFacts, exitTo, isEff, isConst, Sh.one, Nat.reduceBEq, reduceCtorEq, Nat.reduceEqDiff, hE, decide_true, hall, Bool.and_self]
    refine ⟨_, _, hd3, ?_⟩
    refine ⟨_, _, hd4, ?_⟩
    have : (out.any fun t => decide (0 < (grEnds N N.ends).getD t 0)) = accB N w := by
      refine isB_of ?_
      rw [List.any_eq_true]
      simp only [hE, true_and, decide_eq_true_eq, hiff, ends_gr hok]
      unfold accepts
      constructor
      · rintro ⟨t, h1, h2⟩; exact ⟨hno, t, (run_gEdges hok hin t).2 h1, h2⟩
      · rintro ⟨_, t, h1, h2⟩; exact ⟨t, (run_gEdges hok hin t).1 h1, h2⟩
    simp only [↓Sh.stepDn, Sh.st, seatFacts, exitTo, isEff, isConst, Sh.one, Nat.reduceBEq, reduceCtorEq, Nat.reduceEqDiff, hres, this]
    exact (hk12.trans hk3).trans hk4
theorem autoBegins {H : AH} {v u : Value} {N : NetD} {w : List ByteArray} (h : NetAt H v N) (hsm : NetSmall N) (hu : Sl H u 1 (w.map strCell)) (hwl : w.length ≤ 1048576) (hwx : ∀ x ∈ w, x.size ≤ 1048576) (hw : Wf H) :
    Sh.Call Tryz.prog (knows 10) 29 [v, u] H (fun r H' => Kept H H' ∧ r = .tuple #[.bool (begB N w), .int .i64 (bothErr N w)]) := by
  refine call_of rfl Tryz.func29 rfl (Nat.le_of_ble_eq_true rfl) ?_
  have hres : Tryz.f29.results.toList = [.tmp 4, .tmp 5] := rfl
  obtain ⟨sg, ar, en, rfl, hsg, har, hen⟩ := h
  have hb1 := NetBox.of (N := N) hw hsg har hen
  have hk1 : Kept H (H.new 4 [sg, .int .i64 N.states, ar, en]).2 := Kept.new hw 4 _
  simp only [↓Sh.stepDn, Sh.st, seatFacts, exitTo, isEff, isConst, Sh.one, Nat.reduceBEq, reduceCtorEq, Nat.reduceEqDiff, netNew hsg.isCell har.isCell hen.isCell]
  generalize H.next = gg at hb1 ⊢
  generalize (H.new 4 [sg, .int .i64 N.states, ar, en]).2 = H1 at hb1 hk1 ⊢
  obtain ⟨r, H2, hd2, hk2, gp, lv, rfl, hgp⟩ := autoGiven hb1.netAt hsm (hu.grow (hk1.grow hw)) hwl hwx hk1.wf
  simp only [↓Sh.stepDn, Sh.st, seatFacts, exitTo, isEff, isConst, Sh.one, Nat.reduceBEq, reduceCtorEq, Nat.reduceEqDiff, hb1.c0, hb1.c1, hb1.c2, hb1.c3, hb1.ca, netLenS hb1, netLenA hb1, netLenE hb1, Option.map_some]
  refine ⟨_, _, hd2, ?_⟩
  have hk12 := hk1.trans hk2
  by_cases hE : bothErr N w = 0
  case neg =>
    have : begB N w = false := by unfold begB; exact isB_not fun h => hE h.1
    simp only [↓Sh.stepDn, Sh.st, seatFacts, exitTo, isEff, isConst, Sh.one, Nat.reduceBEq, reduceCtorEq, Nat.reduceEqDiff, hE, decide_false, hres, this, hk12]
  obtain ⟨g, rfl, ⟨sv, av, ev, cv, vals, hPG⟩, hlv⟩ := hgp hE
  have hok := bothErr_ok hE
  have hno := word_no hE
  cases hall : w.all (strIn N.sigma) with
  | false =>
    have : begB N w = false := by
      unfold begB
      refine isB_not ?_
      rintro ⟨_, _, t, h2, _⟩
      obtain ⟨x, hx, hs⟩ := List.all_eq_false.1 hall
      exact run_out hok hx (hno x hx) (fun h => hs (strIn_iff.2 h)) t h2
    simp only [↓Sh.stepDn, Sh.st, seatFacts, exitTo, isEff, isConst, Sh.one, Nat.reduceBEq, reduceCtorEq, Nat.reduceEqDiff, hE, decide_true, hall, Bool.and_false, hres, this, hk12]
  | true =>
    have hin : ∀ x ∈ w, x ∈ N.sigma := fun x hx => strIn_iff.1 (List.all_eq_true.1 hall x hx)
    have hn2 := hPG.n2
    obtain ⟨r3, H3, hd3, hk3, B, hB, hBl, hBi⟩ := graphLasting hPG (by have := hsm.sg; omega) hk2.wf
    have hbc := hB.isCell
    have kn := Kept.new hk3.wf 1 [r3]
    have ob := (Sh.Obj.new (H := H3) 1 [r3]).arr
    have nz : anew Tryz.prog 63 H3 (.slice none 0 0) = some (.pointer (some ⟨H3.next, 0, some 0⟩), (H3.new 1 [.slice none 0 0]).2) := new_cell size_63 rfl
    have st : astore Tryz.prog 63 (H3.new 1 [.slice none 0 0]).2 r3 (.pointer (some ⟨H3.next, 0, some 0⟩)) = some (H3.new 1 [r3]).2 := by
      rw [store_cell size_63 hbc]; exact write_new rfl
    have hk23 := hk3.trans kn
    obtain ⟨r5, H5, hd5, hk5, out, b, hbf, hfr, hnd, hlt, hiff⟩ := graphRun (hPG.kept hk2.wf hk23) ((hlv hall).grow (hk23.grow hk2.wf)) (by rw [List.length_map]; exact hwl) kn.wf
    have hol := nodup_le hnd hlt
    obtain ⟨r6, H6, hd6, hk6, rfl⟩ := containsFuncNat (caps := [.pointer (some ⟨H3.next, 0, some 0⟩)]) (fid := 64) (fun t => decide (B[t]? = some true)) hbf.toSl (by omega) hk5.wf (fun H' hk t ht => by
      refine call_of rfl Tryz.func64 rfl (Nat.le_of_ble_eq_true rfl) ?_
      have hres : Tryz.f64.results.toList = [.tmp 3] := rfl
      have hc := cell_grow ((hk5.trans hk).grow kn.wf) (ob.cell 0)
      have hBs := hB.grow (((kn.trans hk5).trans hk).grow hk3.wf)
      have htl : t < B.length := by rw [hBl]; exact hlt t ht
      obtain ⟨p, hia, hcc⟩ := Sl.elem (s := 1) Tryz.underlying63 size_4 hBs (i := t) (u := .bool B[t]) (by rw [List.getElem?_map, List.getElem?_eq_getElem htl]; rfl)
      have hg : decide (B[t]? = some true) = B[t] := by rw [List.getElem?_eq_getElem htl]; cases B[t] <;> rfl
      simp only [↓Sh.stepDn, Sh.st, seatFacts, exitTo, isEff, isConst, Sh.one, Nat.reduceBEq, reduceCtorEq, Nat.reduceEqDiff, hc, hia, hcc, hres, hg]
      exact Kept.refl hk.wf)
    simp only [↓Sh.stepDn, Sh.st, seatFacts, exitTo, isEff, isConst, Sh.one, Nat.reduceBEq, reduceCtorEq, Nat.reduceEqDiff, hE, decide_true, hall, Bool.and_self]
    refine ⟨_, _, hd3, ?_⟩
    simp only [↓Sh.stepDn, Sh.st, seatFacts, exitTo, isEff, isConst, Sh.one, Nat.reduceBEq, reduceCtorEq, Nat.reduceEqDiff, nz, st]
    refine ⟨_, _, hd5, ?_⟩
    refine ⟨_, _, hd6, ?_⟩
    have : (out.any fun t => decide (B[t]? = some true)) = begB N w := by
      refine isB_of ?_
      rw [List.any_eq_true]
      simp only [hE, true_and, decide_eq_true_eq, hiff, hBi]
      rw [alive_gr hok]
      unfold begins
      constructor
      · rintro ⟨t, h1, h2⟩; exact ⟨hno, t, (run_gEdges hok hin t).2 h1, h2⟩
      · rintro ⟨_, t, h1, h2⟩; exact ⟨t, (run_gEdges hok hin t).1 h1, h2⟩
    simp only [↓Sh.stepDn, Sh.st, seatFacts, exitTo, isEff, isConst, Sh.one, Nat.reduceBEq, reduceCtorEq, Nat.reduceEqDiff, hres, this]
    exact ((hk12.trans hk23).trans hk5).trans hk6
end Go.Proofs.YtfcmpclbhnjkgaaGreat
/- Whether there is far more in a net than may be. -/
set_option maxHeartbeats 4000000
set_option maxRecDepth 20000
set_option linter.unusedSimpArgs false
set_option linter.unusedVariables false
set_option pp.deepTerms.threshold 8
namespace Go.Proofs.YtfcmpclbhnjkgaaGreat
open Go Go.Proofs Go.Proofs.Sh
def sizes (l : List ByteArray) : Nat := (l.map fun s => s.size).sum
def netSize (N : NetD) : Nat := N.sigma.length + N.arcs.length + N.ends.length + sizes N.sigma
theorem sizes_take_le (l : List ByteArray) (i : Nat) : sizes (l.take i) ≤ sizes l := by
  unfold sizes
  have : l = l.take i ++ l.drop i := (List.take_append_drop i l).symm
  conv => rhs; rw [this]
  rw [List.map_append, List.sum_append]
  omega
theorem isOver {H : AH} {v : Value} {N : NetD} (h : NetAt H v N) (hsm : NetSmall N) (hsz : sizes N.sigma ≤ 1048576) (hw : Wf H) :
    Sh.Call Tryz.prog (knows 10) 9 [v] H (fun r H' => Kept H H' ∧ r = .bool (decide (262144 < netSize N))) := by
  refine call_of rfl Tryz.func9 rfl (Nat.le_of_ble_eq_true rfl) ?_
  have hres : Tryz.f9.results.toList = [.tmp 2] := rfl
  obtain ⟨sg, ar, en, rfl, hsg, har, hen⟩ := h
  have hb1 := NetBox.of (N := N) hw hsg har hen
  have hk1 : Kept H (H.new 4 [sg, .int .i64 N.states, ar, en]).2 := Kept.new hw 4 _
  simp only [↓Sh.stepDn, Sh.st, seatFacts, exitTo, isEff, isConst, Sh.one, Nat.reduceBEq, reduceCtorEq, Nat.reduceEqDiff, netNew hsg.isCell har.isCell hen.isCell]
  generalize H.next = gg at hb1 ⊢
  generalize (H.new 4 [sg, .int .i64 N.states, ar, en]).2 = H1 at hb1 hk1 ⊢
  obtain ⟨z1, z2, z3, _⟩ := hsm
  have w1 : IntKind.wrap .i64 (IntKind.wrap .i64 ((N.sigma.length : Int) + (N.arcs.length : Int)) + (N.ends.length : Int)) = ((N.sigma.length + N.arcs.length + N.ends.length : Nat) : Int) := by
    rw [wrap64 (n := (N.sigma.length : Int) + (N.arcs.length : Int)) (by omega) (by omega), wrap64 (by omega) (by omega)]; rfl
  simp only [↓Sh.stepDn, Sh.st, seatFacts, exitTo, isEff, isConst, Sh.one, Nat.reduceBEq, reduceCtorEq, Nat.reduceEqDiff, hb1.c0, hb1.c1, hb1.c2, hb1.c3, hb1.ca, netLenS hb1, netLenA hb1, netLenE hb1, w1]
  refine wp_for N.sigma.length 4 (List.range' 16 15 ++ [3, 4]) (fun i F H' => H' = H1 ∧ F.get 3 = some (.int .i64 ((N.sigma.length + N.arcs.length + N.ends.length + sizes (N.sigma.take i) : Nat) : Int))) (by simp only [↓Sh.stepDn, Sh.st, seatFacts, exitTo, isEff, isConst, Sh.one, Nat.reduceBEq, reduceCtorEq, Nat.reduceEqDiff]) ⟨rfl, by simp only [↓Sh.stepDn, Sh.st, seatFacts, exitTo, isEff, isConst, Sh.one, Nat.reduceBEq, reduceCtorEq, Nat.reduceEqDiff]; rfl⟩ ?_ ?_
  · rintro i F H' hlt hF f4 ⟨rfl, f3⟩ k
    have f1 := hF 1 rfl
    simp only [↓Sh.stepDn, Sh.st, seatFacts, exitTo, isEff, isConst, Sh.one, Nat.reduceBEq, reduceCtorEq, Nat.reduceEqDiff] at f1
    obtain ⟨g, o, kk, hia, hc, hcc⟩ := hb1.hsg.at Tryz.underlying22 size_9 (i := i) (x := strCell N.sigma[i]) (by simp [hlt]) .i64
    have hy := hcc 0 _ rfl
    simp only [Nat.add_zero] at hy
    have hs1 : sizes (N.sigma.take (i + 1)) = sizes (N.sigma.take i) + N.sigma[i].size := by
      unfold sizes
      rw [List.take_add_one, List.getElem?_eq_getElem hlt, List.map_append, List.sum_append]
      simp
    have hle := sizes_take_le N.sigma (i + 1)
    have w2 : IntKind.wrap .i64 (((N.sigma.length + N.arcs.length + N.ends.length + sizes (N.sigma.take i) : Nat) : Int) + (N.sigma[i].size : Int)) = ((N.sigma.length + N.arcs.length + N.ends.length + sizes (N.sigma.take (i + 1)) : Nat) : Int) := by
      rw [wrap64 (by omega) (by omega), hs1]; omega
    simp only [↓Sh.stepDn, Sh.st, seatFacts, exitTo, isEff, isConst, Sh.one, Nat.reduceBEq, reduceCtorEq, Nat.reduceEqDiff, hb1.c0, hb1.c1, hb1.c2, hb1.c3, hb1.ca, netLenS hb1, netLenA hb1, netLenE hb1, f1, f3, f4, nat_lt, hlt, decide_true, hia, hy, w2, wrap_succ hlt z1]
    exact k _ _ (by repeat (first | refine Same.put ?_ rfl | exact Same.rfl' _)) (by simp only [↓Sh.stepDn, Sh.st, seatFacts, exitTo, isEff, isConst, Sh.one, Nat.reduceBEq, reduceCtorEq, Nat.reduceEqDiff]) ⟨rfl, by simp only [↓Sh.stepDn, Sh.st, seatFacts, exitTo, isEff, isConst, Sh.one, Nat.reduceBEq, reduceCtorEq, Nat.reduceEqDiff]⟩
  · rintro F H' hF f4 ⟨rfl, f3⟩
    have f1 := hF 1 rfl
    simp only [↓Sh.stepDn, Sh.st, seatFacts, exitTo, isEff, isConst, Sh.one, Nat.reduceBEq, reduceCtorEq, Nat.reduceEqDiff] at f1
    rw [List.take_length] at f3
    have e : decide ((262144 : Int) < ((N.sigma.length + N.arcs.length + N.ends.length + sizes N.sigma : Nat) : Int)) = decide (262144 < netSize N) := decide_eq_decide.2 (by unfold netSize; omega)
    simp only [↓Sh.stepDn, Sh.st, seatFacts, exitTo, isEff, isConst, Sh.one, Nat.reduceBEq, reduceCtorEq, Nat.reduceEqDiff, hb1.c0, hb1.c1, hb1.c2, hb1.c3, hb1.ca, netLenS hb1, netLenA hb1, netLenE hb1, f1, f3, f4, nat_lt, Nat.lt_irrefl, decide_false, hres, e, hk1]
end Go.Proofs.YtfcmpclbhnjkgaaGreat
/- Whether lists have far too many texts, or bytes. -/
set_option maxHeartbeats 4000000
set_option maxRecDepth 20000
set_option linter.unusedSimpArgs false
set_option linter.unusedVariables false
set_option pp.deepTerms.threshold 8
namespace Go.Proofs.YtfcmpclbhnjkgaaGreat
open Go Go.Proofs Go.Proofs.Sh
def textN (ws : List (List ByteArray)) : Nat := (ws.map fun w => sizes w + w.length).sum
theorem sizes_append (a b : List ByteArray) : sizes (a ++ b) = sizes a + sizes b := by simp [sizes]
theorem textN_append (a b : List (List ByteArray)) : textN (a ++ b) = textN a + textN b := by simp [textN]
theorem textN_split {ws : List (List ByteArray)} {i q : Nat} {w : List ByteArray} (h : ws[i]? = some w) (hq : q ≤ w.length) : textN (ws.take i) + (sizes (w.take q) + q) ≤ textN ws := by
  have hi := (List.getElem?_eq_some_iff.1 h).1
  have e : ws = ws.take i ++ (w :: ws.drop (i + 1)) := by
    conv => lhs; rw [← List.take_append_drop i ws]
    congr 1
    rw [List.drop_eq_getElem_cons hi, (List.getElem?_eq_some_iff.1 h).2]
  have e2 : textN ws = textN (ws.take i) + (sizes w + w.length + textN (ws.drop (i + 1))) := by
    conv => lhs; rw [e]
    rw [textN_append]; rfl
  have e3 : sizes w = sizes (w.take q) + sizes (w.drop q) := by rw [← sizes_append, List.take_append_drop]
  omega
theorem isLong {H : AH} {v : Value} {vals : List Value} {ws : List (List ByteArray)} (h : JagR H v 1 (ws.map fun w => w.map strCell) vals) (hl : ws.length ≤ 1048576) (hw1 : ∀ w ∈ ws, w.length ≤ 1048576 ∧ ∀ x ∈ w, x.size ≤ 1048576) (hw : Wf H) :
    Sh.Call Tryz.prog (knows 10) 21 [v] H (fun r H' => H' = H ∧ r = .bool (decide (16384 < textN ws))) := by
  refine call_of rfl Tryz.func21 rfl (Nat.le_of_ble_eq_true rfl) ?_
  have hres : Tryz.f21.results.toList = [.tmp 2] := rfl
  have hlen : ∀ H', abuiltin Tryz.prog .len [29] [v] H' = some (.int .i64 (ws.length : Int), H') := fun H' => by
    rw [h.sl.len Tryz.underlying29, List.length_map, h.len, List.length_map]
  have e1 : ∀ c : Nat, decide ((c : Int) ≤ 16384) = decide (c ≤ 16384) := fun c => decide_eq_decide.2 (by omega)
  have e2 : ∀ c : Nat, decide ((16384 : Int) < (c : Int)) = decide (16384 < c) := fun c => decide_eq_decide.2 (by omega)
  simp only [↓Sh.stepDn, Sh.st, seatFacts, exitTo, isEff, isConst, Sh.one, Nat.reduceBEq, reduceCtorEq, Nat.reduceEqDiff]
  refine wp_for ws.length 4 (List.range' 3 37) (fun i F H' => H' = H ∧ ∃ c : Nat, F.get 3 = some (.int .i64 (c : Int)) ∧ c ≤ textN ws ∧ (c ≤ 16384 → c = textN (ws.take i)) ∧ c ≤ 2000000) (by simp only [↓Sh.stepDn, Sh.st, seatFacts, exitTo, isEff, isConst, Sh.one, Nat.reduceBEq, reduceCtorEq, Nat.reduceEqDiff]) ⟨rfl, 0, by simp only [↓Sh.stepDn, Sh.st, seatFacts, exitTo, isEff, isConst, Sh.one, Nat.reduceBEq, reduceCtorEq, Nat.reduceEqDiff]; rfl, Nat.zero_le _, fun _ => by simp [textN], by omega⟩ ?_ ?_
  · rintro i F H' hi hF f4 ⟨rfl, c, f3, hct, hce, hcb⟩ k
    have f0 := hF 0 rfl
    simp only [↓Sh.stepDn, Sh.st, seatFacts, exitTo, isEff, isConst, Sh.one, Nat.reduceBEq, reduceCtorEq, Nat.reduceEqDiff] at f0
    have hget : ws[i]? = some ws[i] := List.getElem?_eq_getElem hi
    obtain ⟨hwl, hwx⟩ := hw1 _ (List.getElem_mem hi)
    have htk : ws.take (i + 1) = ws.take i ++ [ws[i]] := by rw [List.take_add_one, List.getElem?_eq_getElem hi]; rfl
    generalize ws[i] = w at hget hwl hwx htk
    obtain ⟨ga, oa, ka, wv, hia, hca, hsl⟩ := h.at Tryz.underlying29 size_22 (i := i) (r := w.map strCell) (by rw [List.getElem?_map, hget]; rfl)
    have hlw : ∀ H', abuiltin Tryz.prog .len [22] [wv] H' = some (.int .i64 (w.length : Int), H') := fun H' => by rw [hsl.len Tryz.underlying22, List.length_map]
    have hfull : textN (ws.take (i + 1)) = textN (ws.take i) + (sizes w + w.length) := by rw [htk, textN_append]; simp [textN]
    simp only [↓Sh.stepDn, Sh.st, seatFacts, exitTo, isEff, isConst, Sh.one, Nat.reduceBEq, reduceCtorEq, Nat.reduceEqDiff, f0, f3, f4, hlen, nat_lt, hi, decide_true, e1]
    by_cases hc : c ≤ 16384
    case neg =>
      have hbig : decide (16384 < textN ws) = true := decide_eq_true (by omega)
      have hc' : decide (16384 < c) = true := decide_eq_true (by omega)
      simp only [↓Sh.stepDn, Sh.st, seatFacts, exitTo, isEff, isConst, Sh.one, Nat.reduceBEq, reduceCtorEq, Nat.reduceEqDiff, hc, decide_false, f3, e2, hres, hc', hbig]
    simp only [↓Sh.stepDn, Sh.st, seatFacts, exitTo, isEff, isConst, Sh.one, Nat.reduceBEq, reduceCtorEq, Nat.reduceEqDiff, hc, decide_true]
    -- behind the list
    have after : ∀ (F2 : Fr) (H2 : AH) (c2 : Nat), F2.get 3 = some (.int .i64 (c2 : Int)) → c2 ≤ textN ws → (c2 ≤ 16384 → c2 = textN (ws.take (i + 1))) → c2 ≤ 2000000 → True := fun _ _ _ _ _ _ _ => trivial
    refine wp_for w.length 5 (List.range' 16 24 ++ [3, 5]) (fun q F'' H'' => H'' = H' ∧ ∃ c : Nat, F''.get 3 = some (.int .i64 (c : Int)) ∧ c ≤ textN ws ∧ (c ≤ 16384 → c = textN (ws.take i) + (sizes (w.take q) + q)) ∧ c ≤ 2000000) (by simp only [↓Sh.stepDn, Sh.st, seatFacts, exitTo, isEff, isConst, Sh.one, Nat.reduceBEq, reduceCtorEq, Nat.reduceEqDiff]) ⟨rfl, c, by simp only [↓Sh.stepDn, Sh.st, seatFacts, exitTo, isEff, isConst, Sh.one, Nat.reduceBEq, reduceCtorEq, Nat.reduceEqDiff, f3], hct, fun h => by rw [← hce h]; simp [sizes], hcb⟩ ?_ ?_
    · rintro q F'' H'' hq hF'' f5 ⟨rfl, c, f3', hct, hce, hcb⟩ k2
      have g0 := hF'' 0 rfl
      have g4 := hF'' 4 rfl
      simp only [↓Sh.stepDn, Sh.st, seatFacts, exitTo, isEff, isConst, Sh.one, Nat.reduceBEq, reduceCtorEq, Nat.reduceEqDiff, f0, f4] at g0 g4
      obtain ⟨p2, hia2, hc2⟩ := Sl.elem (s := 1) Tryz.underlying22 size_9 hsl (i := q) (u := .string w[q]) (by rw [List.getElem?_map, List.getElem?_eq_getElem hq]; rfl)
      have hmem : w[q] ∈ w := List.getElem_mem hq
      have hqtk : sizes (w.take (q + 1)) = sizes (w.take q) + w[q].size := by
        rw [List.take_add_one, List.getElem?_eq_getElem hq, Option.toList_some, sizes_append]; simp [sizes]
      generalize w[q] = x at hc2 hmem hqtk
      have hxs := hwx x hmem
      simp only [↓Sh.stepDn, Sh.st, seatFacts, exitTo, isEff, isConst, Sh.one, Nat.reduceBEq, reduceCtorEq, Nat.reduceEqDiff, f3', f5, g0, g4, hia, hca, hlw, nat_lt, hq, decide_true, e1]
      by_cases hc : c ≤ 16384
      case neg =>
        simp only [↓Sh.stepDn, Sh.st, seatFacts, exitTo, isEff, isConst, Sh.one, Nat.reduceBEq, reduceCtorEq, Nat.reduceEqDiff, hc, decide_false, f3', g4, wrap_succ hi hl]
        refine k _ _ ?_ (by simp only [↓Sh.stepDn, Sh.st, seatFacts, exitTo, isEff, isConst, Sh.one, Nat.reduceBEq, reduceCtorEq, Nat.reduceEqDiff]) ⟨rfl, c, by simp only [↓Sh.stepDn, Sh.st, seatFacts, exitTo, isEff, isConst, Sh.one, Nat.reduceBEq, reduceCtorEq, Nat.reduceEqDiff, f3'], hct, fun h => absurd h hc, hcb⟩
        repeat refine Same.put ?_ rfl
        exact Same.trans (by repeat (first | refine Same.put ?_ rfl | exact Same.rfl' _)) (hF''.sub rfl)
      have hsp := textN_split (q := q + 1) hget hq
      have w1 : IntKind.wrap .i64 (1 + (x.size : Int)) = ((1 + x.size : Nat) : Int) := by rw [wrap64 (by omega) (by omega)]; omega
      have w2 : IntKind.wrap .i64 ((c : Int) + ((1 + x.size : Nat) : Int)) = ((c + (1 + x.size) : Nat) : Int) := by rw [wrap64 (by omega) (by omega)]; omega
      simp only [↓Sh.stepDn, Sh.st, seatFacts, exitTo, isEff, isConst, Sh.one, Nat.reduceBEq, reduceCtorEq, Nat.reduceEqDiff, hc, decide_true, f3', f5, g0, g4, hia, hca, hia2, hc2, w1, w2, wrap_succ hq hwl]
      refine k2 _ _ (by repeat (first | refine Same.put ?_ rfl | exact Same.rfl' _)) (by simp only [↓Sh.stepDn, Sh.st, seatFacts, exitTo, isEff, isConst, Sh.one, Nat.reduceBEq, reduceCtorEq, Nat.reduceEqDiff]) ⟨rfl, c + (1 + x.size), by simp only [↓Sh.stepDn, Sh.st, seatFacts, exitTo, isEff, isConst, Sh.one, Nat.reduceBEq, reduceCtorEq, Nat.reduceEqDiff], ?_, fun _ => ?_, by omega⟩
      · have := hce hc; omega
      · have := hce hc; omega
    · rintro F'' H'' hF'' f5 ⟨rfl, c, f3', hct, hce, hcb⟩
      have g0 := hF'' 0 rfl
      have g4 := hF'' 4 rfl
      simp only [↓Sh.stepDn, Sh.st, seatFacts, exitTo, isEff, isConst, Sh.one, Nat.reduceBEq, reduceCtorEq, Nat.reduceEqDiff, f0, f4] at g0 g4
      rw [List.take_length] at hce
      simp only [↓Sh.stepDn, Sh.st, seatFacts, exitTo, isEff, isConst, Sh.one, Nat.reduceBEq, reduceCtorEq, Nat.reduceEqDiff, f3', f5, g0, g4, hia, hca, hlw, nat_lt, Nat.lt_irrefl, decide_false, wrap_succ hi hl]
      refine k _ _ ?_ (by simp only [↓Sh.stepDn, Sh.st, seatFacts, exitTo, isEff, isConst, Sh.one, Nat.reduceBEq, reduceCtorEq, Nat.reduceEqDiff]) ⟨rfl, c, by simp only [↓Sh.stepDn, Sh.st, seatFacts, exitTo, isEff, isConst, Sh.one, Nat.reduceBEq, reduceCtorEq, Nat.reduceEqDiff, f3'], hct, fun h => by rw [hfull]; exact hce h, hcb⟩
      repeat refine Same.put ?_ rfl
      exact Same.trans (by repeat (first | refine Same.put ?_ rfl | exact Same.rfl' _)) (hF''.sub rfl)
  · rintro F H' hF f4 ⟨rfl, c, f3, hct, hce, hcb⟩
    have f0 := hF 0 rfl
    simp only [↓Sh.stepDn, Sh.st, seatFacts, exitTo, isEff, isConst, Sh.one, Nat.reduceBEq, reduceCtorEq, Nat.reduceEqDiff] at f0
    rw [List.take_length] at hce
    have : decide (16384 < c) = decide (16384 < textN ws) := decide_eq_decide.2 (by
      by_cases h : c ≤ 16384
      · rw [hce h]
      · omega)
    simp only [↓Sh.stepDn, Sh.st, seatFacts, exitTo, isEff, isConst, Sh.one, Nat.reduceBEq, reduceCtorEq, Nat.reduceEqDiff, f0, f3, f4, hlen, nat_lt, Nat.lt_irrefl, decide_false, e2, hres, this]
end Go.Proofs.YtfcmpclbhnjkgaaGreat
/- What comes in: lists of texts, nets. -/
set_option maxHeartbeats 4000000
set_option maxRecDepth 20000
set_option linter.unusedSimpArgs false
set_option linter.unusedVariables false
namespace Go.Proofs.YtfcmpclbhnjkgaaGreat
open Go Go.Proofs Go.Proofs.Sh
section
variable {K : Type}
theorem bulk_pos : ∀ (d : DataW K), 1 ≤ Rows.uptoBulk d
  | .lit l => by cases l <;> simp [Rows.uptoBulk]
  | .nil => by simp [Rows.uptoBulk]
  | .ptr d => by simp [Rows.uptoBulk]
  | .slice a b => by simp [Rows.uptoBulk]
  | .agg a => by simp [Rows.uptoBulk]
  | .iface n d => by simp [Rows.uptoBulk]
  | .map es => by simp [Rows.uptoBulk]
  | .held h => by simp [Rows.uptoBulk]
theorem bulk_len : ∀ (ds : List (DataW K)), ds.length ≤ Rows.uptoBulkAll ds
  | [] => Nat.zero_le _
  | d :: ds => by
    have := bulk_pos d
    have := bulk_len ds
    simp only [Rows.uptoBulkAll, List.length_cons]; omega
theorem bulk_mem : ∀ {ds : List (DataW K)} {d : DataW K}, d ∈ ds → Rows.uptoBulk d ≤ Rows.uptoBulkAll ds
  | d :: ds, x, h => by
    simp only [Rows.uptoBulkAll]
    rcases List.mem_cons.1 h with rfl | h
    · omega
    · have := bulk_mem h; omega
theorem exists_map {α β : Type} {f : α → β} : ∀ {l : List β}, (∀ x ∈ l, ∃ a, x = f a) → ∃ L : List α, l = L.map f
  | [], _ => ⟨[], rfl⟩
  | x :: l, h => by
    obtain ⟨a, rfl⟩ := h x List.mem_cons_self
    obtain ⟨L, rfl⟩ := exists_map (l := l) fun y hy => h y (List.mem_cons_of_mem _ hy)
    exact ⟨a :: L, rfl⟩
/-- A list whose elements read so. -/
theorem list_in {α : Type} {enc : α → List Value} {H : AH} {f t e s : Nat} {cs : List Value} {d : DataW K} (R : α → DataW K → Prop) (hu : Tryz.prog.underlying t = some (.slice e)) (hs : Tryz.prog.cellsOf e = s)
    (hR : ∀ f x y, RD Tryz.prog H f e x y → ∃ a, x = enc a ∧ R a y) (h : RD Tryz.prog H f t cs d) :
    ∃ u, ∃ L : List α, ∃ ds, cs = [u] ∧ Sl H u s (L.map enc) ∧ L.length = ds.length ∧ (∀ (i : Nat) a y, L[i]? = some a → ds[i]? = some y → enc a = enc a → ∃ a', enc a' = enc a ∧ R a' y) ∧ Rows.uptoBulkAll ds < Rows.uptoBulk d := by
  obtain ⟨l, ds, ⟨u, rfl, hsl⟩, hlen, hel, hd⟩ := RD.slice hu hs h
  have hget : ∀ (i : Nat) x, l[i]? = some x → ∃ y a, ds[i]? = some y ∧ x = enc a ∧ R a y := by
    intro i x hx
    have hi := (List.getElem?_eq_some_iff.1 hx).1
    have hy : ds[i]? = some (ds[i]'(by omega)) := List.getElem?_eq_getElem (by omega)
    obtain ⟨f', hf⟩ := hel i x _ hx hy
    obtain ⟨a, h1, h2⟩ := hR f' x _ hf
    exact ⟨_, a, hy, h1, h2⟩
  obtain ⟨L, rfl⟩ := exists_map (f := enc) (l := l) fun x hx => by
    obtain ⟨i, hi⟩ := List.mem_iff_getElem?.1 hx
    obtain ⟨y, a, _, h2, _⟩ := hget i x hi
    exact ⟨a, h2⟩
  refine ⟨u, L, ds, rfl, hsl, by simpa using hlen, fun i a y ha hy _ => ?_, ?_⟩
  · obtain ⟨y', a', h1, h2, h3⟩ := hget i (enc a) (by simp [ha])
    rw [hy] at h1
    injection h1 with h1
    subst h1
    exact ⟨a', h2.symm, h3⟩
  · rcases hd with ⟨rfl, rfl⟩ | ⟨sp, rfl⟩
    · simp [Rows.uptoBulk, Rows.uptoBulkAll]
    · simp only [Rows.uptoBulk]; omega
theorem str_in {H : AH} {f : Nat} {x : List Value} {y : DataW K} (h : RD Tryz.prog H f 9 x y) : ∃ s, x = strCell s ∧ y = .lit (.string s.data.toList) := RD.str Tryz.underlying9 h
theorem int_in {H : AH} {f : Nat} {x : List Value} {y : DataW K} (h : RD Tryz.prog H f 3 x y) : ∃ n, x = [.int .i64 n] ∧ -9223372036854775808 ≤ n ∧ n < 9223372036854775808 := RD.int Tryz.underlying3 h
theorem bulk_strs : ∀ {L : List ByteArray} {ds : List (DataW K)}, L.length = ds.length → (∀ (i : Nat) a y, L[i]? = some a → ds[i]? = some y → y = .lit (.string a.data.toList)) → Rows.uptoBulkAll ds = sizes L + L.length
  | [], [], _, _ => rfl
  | [], _ :: _, h, _ => by simp at h
  | _ :: _, [], h, _ => by simp at h
  | a :: L, d :: ds, h, hr => by
    have h0 := hr 0 a d rfl rfl
    have ih := bulk_strs (L := L) (ds := ds) (by simpa using h) fun i a y h1 h2 => hr (i + 1) a y (by simpa using h1) (by simpa using h2)
    subst h0
    have e : a.data.toList.length = a.size := by rw [Array.length_toList]; rfl
    simp only [Rows.uptoBulkAll, Rows.uptoBulk, ih, sizes, List.map_cons, List.sum_cons, List.length_cons, e]
    omega
theorem strCell_inj {a b : ByteArray} (h : strCell a = strCell b) : a = b := by
  simp only [strCell, List.cons.injEq, Value.string.injEq, and_true] at h; exact h
/-- A list of texts. -/
theorem strs_in {H : AH} {f : Nat} {cs : List Value} {d : DataW K} (h : RD Tryz.prog H f 22 cs d) : ∃ u, ∃ L : List ByteArray, cs = [u] ∧ Sl H u 1 (L.map strCell) ∧ sizes L + L.length < Rows.uptoBulk d := by
  obtain ⟨u, L, ds, h1, h2, h3, h4, h5⟩ := list_in (enc := strCell) (fun s y => y = .lit (.string s.data.toList)) Tryz.underlying22 cells_9 (fun f x y hf => str_in hf) h
  refine ⟨u, L, h1, h2, ?_⟩
  rw [← bulk_strs h3 fun i a y ha hy => by
    obtain ⟨a', e, hr⟩ := h4 i a y ha hy rfl
    rw [← strCell_inj e]; exact hr]
  exact h5
theorem sizes_mem {L : List ByteArray} {x : ByteArray} (h : x ∈ L) : x.size ≤ sizes L := by
  induction L with
  | nil => cases h
  | cons a L ih =>
    simp only [sizes, List.map_cons, List.sum_cons] at ih ⊢
    rcases List.mem_cons.1 h with rfl | h
    · omega
    · have := ih h; omega
theorem four {c : List Value} (h : c.length = 4) : ∃ a b x y, c = [a, b, x, y] := by
  match c, h with
  | [a, b, x, y], _ => exact ⟨a, b, x, y, rfl⟩
theorem five {c : List Value} (h : c.length = 5) : ∃ a b x y z, c = [a, b, x, y, z] := by
  match c, h with
  | [a, b, x, y, z], _ => exact ⟨a, b, x, y, z, rfl⟩
theorem two {c : List Value} (h : c.length = 2) : ∃ a b, c = [a, b] := by
  match c, h with
  | [a, b], _ => exact ⟨a, b, rfl⟩
theorem get_some {ds : List (DataW K)} {n i : Nat} (h : ds.length = n) (hi : i < n) : ∃ x, ds[i]? = some x := ⟨ds[i]'(by omega), List.getElem?_eq_getElem (by omega)⟩
theorem arc_in {H : AH} {f : Nat} {x : List Value} {y : DataW K} (h : RD Tryz.prog H f 54 x y) : ∃ a : ArcD, x = a.cells ∧ True := by
  · obtain ⟨f', ds, rfl, h1, h2, h3⟩ := RD.struct Tryz.underlying54 h
    rw [cells_54] at h1
    obtain ⟨a, b, c, d, e, rfl⟩ := five h1
    have h2' : ds.length = 5 := h2
    obtain ⟨d0, e0⟩ := get_some h2' (i := 0) (by omega)
    obtain ⟨d1, e1⟩ := get_some h2' (i := 1) (by omega)
    obtain ⟨d2, e2⟩ := get_some h2' (i := 2) (by omega)
    obtain ⟨d3, e3⟩ := get_some h2' (i := 3) (by omega)
    obtain ⟨d4, e4⟩ := get_some h2' (i := 4) (by omega)
    have g0 := h3 0 _ _ rfl e0
    have g1 := h3 1 _ _ rfl e1
    have g2 := h3 2 _ _ rfl e2
    have g3 := h3 3 _ _ rfl e3
    have g4 := h3 4 _ _ rfl e4
    simp only [cells_3, cells_9, List.drop_zero, List.drop_succ_cons, List.take_succ_cons, List.take_zero, List.getElem_toArray, List.getElem_cons_zero, List.getElem_cons_succ] at g0 g1 g2 g3 g4
    obtain ⟨n0, q0, _⟩ := int_in g0
    obtain ⟨s1, q1, _⟩ := str_in g1
    obtain ⟨s2, q2, _⟩ := str_in g2
    obtain ⟨n3, q3, _⟩ := int_in g3
    obtain ⟨n4, q4, _⟩ := int_in g4
    simp only [strCell, List.cons.injEq, and_true] at q0 q1 q2 q3 q4
    subst q0 q1 q2 q3 q4
    exact ⟨⟨n0, s1, s2, n3, n4⟩, rfl, trivial⟩
theorem end_in {H : AH} {f : Nat} {x : List Value} {y : DataW K} (h : RD Tryz.prog H f 56 x y) : ∃ a : EndD, x = a.cells ∧ True := by
  · obtain ⟨f', ds, rfl, h1, h2, h3⟩ := RD.struct Tryz.underlying56 h
    rw [cells_56] at h1
    obtain ⟨a, b, rfl⟩ := two h1
    have h2' : ds.length = 2 := h2
    obtain ⟨d0, e0⟩ := get_some h2' (i := 0) (by omega)
    obtain ⟨d1, e1⟩ := get_some h2' (i := 1) (by omega)
    have g0 := h3 0 _ _ rfl e0
    have g1 := h3 1 _ _ rfl e1
    simp only [cells_3, List.drop_zero, List.drop_succ_cons, List.take_succ_cons, List.take_zero, List.getElem_toArray, List.getElem_cons_zero, List.getElem_cons_succ] at g0 g1
    obtain ⟨n0, q0, _⟩ := int_in g0
    obtain ⟨n1, q1, _⟩ := int_in g1
    simp only [List.cons.injEq, and_true] at q0 q1
    subst q0 q1
    exact ⟨⟨n0, n1⟩, rfl, trivial⟩
theorem agg_of {v : Value} {a b : Value} {l : List Value} (h : vcells v = a :: b :: l) : v = .agg (a :: b :: l).toArray := by
  cases v <;> simp only [vcells] at h <;> try (cases h; done)
  rw [← h]
/-- A net. -/
theorem net_in {H : AH} {f : Nat} {v : Value} {d : DataW K} (h : RD Tryz.prog H f 26 (vcells v) d) (hb : Rows.uptoBulk d ≤ 1048576) : ∃ N : NetD, Nonempty (NetAt H v N) ∧ NetSmall N ∧ sizes N.sigma ≤ 1048576 := by
  · obtain ⟨f', ds, rfl, h1, h2, h3⟩ := RD.struct Tryz.underlying26 h
    rw [cells_26] at h1
    obtain ⟨a, b, c, e, hv⟩ := four h1
    rw [hv] at h3
    have h2' : ds.length = 4 := h2
    obtain ⟨d0, e0⟩ := get_some h2' (i := 0) (by omega)
    obtain ⟨d1, e1⟩ := get_some h2' (i := 1) (by omega)
    obtain ⟨d2, e2⟩ := get_some h2' (i := 2) (by omega)
    obtain ⟨d3, e3⟩ := get_some h2' (i := 3) (by omega)
    have g0 := h3 0 _ _ rfl e0
    have g1 := h3 1 _ _ rfl e1
    have g2 := h3 2 _ _ rfl e2
    have g3 := h3 3 _ _ rfl e3
    simp only [cells_3, cells_22, cells_23, cells_24, List.drop_zero, List.drop_succ_cons, List.take_succ_cons, List.take_zero, List.getElem_toArray, List.getElem_cons_zero, List.getElem_cons_succ] at g0 g1 g2 g3
    obtain ⟨u0, L0, q0, s0, b0⟩ := strs_in g0
    obtain ⟨n1, q1, _⟩ := int_in g1
    obtain ⟨u2, L2, ds2, q2, s2, k2, _, b2⟩ := list_in (enc := ArcD.cells) (fun _ _ => True) Tryz.underlying23 cells_54 (fun f x y hf => arc_in hf) g2
    obtain ⟨u3, L3, ds3, q3, s3, k3, _, b3⟩ := list_in (enc := EndD.cells) (fun _ _ => True) Tryz.underlying24 cells_56 (fun f x y hf => end_in hf) g3
    simp only [List.cons.injEq, and_true] at q0 q1 q2 q3
    subst q0 q1 q2 q3
    have m0 := bulk_mem (List.mem_of_getElem? e0)
    have m2 := bulk_mem (List.mem_of_getElem? e2)
    have m3 := bulk_mem (List.mem_of_getElem? e3)
    have l2 := bulk_len ds2
    have l3 := bulk_len ds3
    simp only [Rows.uptoBulk] at hb
    refine ⟨⟨L0, n1, L2, L3⟩, ⟨⟨a, c, e, agg_of hv, s0, s2, s3⟩⟩, ⟨?_, ?_, ?_, fun x hx => ?_⟩, ?_⟩
    · show L0.length ≤ _; omega
    · show L2.length ≤ _; omega
    · show L3.length ≤ _; omega
    · have := sizes_mem hx; show x.size ≤ _; have h' : x.size ≤ sizes L0 := this; omega
    · show sizes L0 ≤ _; omega
end
end Go.Proofs.YtfcmpclbhnjkgaaGreat
