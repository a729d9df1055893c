/- A part of the proof: CostVal, IsOver, DataIn, LawCostValidates. -/
import Derived.Test.YtbnpoiibehkjpaaMCloseCostValidates2
import Derived.Test.YtbnpoiibehkjpaaRows
set_option linter.unusedVariables false
set_option linter.unusedSimpArgs false
/- What is wrong with a weighted relation, by both. -/
set_option maxHeartbeats 4000000
set_option linter.unusedSimpArgs false
set_option linter.unusedVariables false
set_option pp.deepTerms.threshold 8
namespace Go.Proofs.Ytbnpoiibehkjpaa
open Go Go.Proofs Go.Proofs.Sh
def costErr (N : NetD) : Int := if netErr N ≠ 0 then netErr N else if pricedB N 100000000 = true then 1 else 0
theorem costValidate {H : AH} {v : Value} {N : NetD} (h : NetAt H v N) (hsm : NetSmall N) (hw : Wf H) :
    Sh.Call Try.prog (knows 7) 5 [v] H (fun r H' => Kept H H' ∧ r = .int .i64 (costErr N)) := by
  refine call_of rfl Try.func5 rfl (Nat.le_of_ble_eq_true rfl) ?_
  have hres : Try.f5.results.toList = [.tmp 2] := rfl
  obtain ⟨sg, ar, en, rfl, hsg, har, hen⟩ := h
  have hb1 := NetBox.of (N := N) hw hsg har hen
  have hk1 : Kept H (H.new 4 [sg, .int .i64 N.states, ar, en]).2 := Kept.new hw 4 _
  simp only [↓Sh.stepDn, Sh.stepUp, seatFacts, exitTo, calm, isEff, Nat.reduceBEq, evs, evps, evo, isConst, reduceCtorEq, Nat.reduceEqDiff, resultsA, Sh.one, Sh.unit, forall_const, implies_true, eq_self, ne_eq, if_true, if_false, beq_self_eq_true, cond_true, cond_false, List.all_cons, List.all_nil, List.getElem?_cons_zero, List.getElem?_cons_succ, List.nil_append, List.append_nil, Option.bind_some, Option.map_some, Option.some.injEq, exists_eq_left', exists_eq', exists_eq, Prod.mk.injEq, exists_and_left, netNew hsg.isCell har.isCell hen.isCell]
  generalize H.next = gg at hb1 ⊢
  generalize (H.new 4 [sg, .int .i64 N.states, ar, en]).2 = H1 at hb1 hk1 ⊢
  simp only [↓Sh.stepDn, Sh.stepUp, seatFacts, exitTo, calm, isEff, Nat.reduceBEq, evs, evps, evo, isConst, reduceCtorEq, Nat.reduceEqDiff, resultsA, Sh.one, Sh.unit, forall_const, implies_true, eq_self, ne_eq, if_true, if_false, beq_self_eq_true, cond_true, cond_false, List.all_cons, List.all_nil, List.getElem?_cons_zero, List.getElem?_cons_succ, List.nil_append, List.append_nil, Option.bind_some, Option.map_some, Option.some.injEq, exists_eq_left', exists_eq', exists_eq, Prod.mk.injEq, exists_and_left, hb1.c0, hb1.c1, hb1.c2, hb1.c3, hb1.ca, netLenS hb1, netLenA hb1, netLenE hb1]
  obtain ⟨r, H2, hd, hk2, rfl⟩ := graphCheck hb1.netAt hsm hk1.wf
  refine ⟨_, _, hd, ?_⟩
  have hb2 := hb1.kept hk1.wf hk2
  have hk12 := hk1.trans hk2
  by_cases hE : netErr N = 0
  case neg => simp only [↓Sh.stepDn, Sh.stepUp, seatFacts, exitTo, calm, isEff, Nat.reduceBEq, evs, evps, evo, isConst, reduceCtorEq, Nat.reduceEqDiff, resultsA, Sh.one, Sh.unit, forall_const, implies_true, eq_self, ne_eq, if_true, if_false, beq_self_eq_true, cond_true, cond_false, List.all_cons, List.all_nil, List.getElem?_cons_zero, List.getElem?_cons_succ, List.nil_append, List.append_nil, Option.bind_some, Option.map_some, Option.some.injEq, exists_eq_left', exists_eq', exists_eq, Prod.mk.injEq, exists_and_left, hE, decide_false, hres, costErr, hk12]
  simp only [↓Sh.stepDn, Sh.stepUp, seatFacts, exitTo, calm, isEff, Nat.reduceBEq, evs, evps, evo, isConst, reduceCtorEq, Nat.reduceEqDiff, resultsA, Sh.one, Sh.unit, forall_const, implies_true, eq_self, ne_eq, if_true, if_false, beq_self_eq_true, cond_true, cond_false, List.all_cons, List.all_nil, List.getElem?_cons_zero, List.getElem?_cons_succ, List.nil_append, List.append_nil, Option.bind_some, Option.map_some, Option.some.injEq, exists_eq_left', exists_eq', exists_eq, Prod.mk.injEq, exists_and_left, hE, decide_true, hb2.c0, hb2.c1, hb2.c2, hb2.c3, hb2.ca, netLenS hb2, netLenA hb2, netLenE hb2]
  obtain ⟨r, H4, hd4, hk4, rfl⟩ := priced (m := 100000000) hb2.netAt hsm hk12.wf
  refine ⟨_, _, hd4, ?_⟩
  cases hp : pricedB N 100000000 with
  | true => simp only [↓Sh.stepDn, Sh.stepUp, seatFacts, exitTo, calm, isEff, Nat.reduceBEq, evs, evps, evo, isConst, reduceCtorEq, Nat.reduceEqDiff, resultsA, Sh.one, Sh.unit, forall_const, implies_true, eq_self, ne_eq, if_true, if_false, beq_self_eq_true, cond_true, cond_false, List.all_cons, List.all_nil, List.getElem?_cons_zero, List.getElem?_cons_succ, List.nil_append, List.append_nil, Option.bind_some, Option.map_some, Option.some.injEq, exists_eq_left', exists_eq', exists_eq, Prod.mk.injEq, exists_and_left, hres, costErr, hE, hp, hk12.trans hk4]
  | false => simp only [↓Sh.stepDn, Sh.stepUp, seatFacts, exitTo, calm, isEff, Nat.reduceBEq, evs, evps, evo, isConst, reduceCtorEq, Nat.reduceEqDiff, resultsA, Sh.one, Sh.unit, forall_const, implies_true, eq_self, ne_eq, if_true, if_false, beq_self_eq_true, cond_true, cond_false, List.all_cons, List.all_nil, List.getElem?_cons_zero, List.getElem?_cons_succ, List.nil_append, List.append_nil, Option.bind_some, Option.map_some, Option.some.injEq, exists_eq_left', exists_eq', exists_eq, Prod.mk.injEq, exists_and_left, hres, costErr, hE, hp, hk12.trans hk4]
theorem refCostValidate {H : AH} {v : Value} {N : NetD} (h : NetAt H v N) (hsm : NetSmall N) (hw : Wf H) :
    Sh.Call Try.prog (knows 7) 6 [v] H (fun r H' => Kept H H' ∧ r = .int .i64 (costErr N)) := by
  refine call_of rfl Try.func6 rfl (Nat.le_of_ble_eq_true rfl) ?_
  have hres : Try.f6.results.toList = [.tmp 2] := rfl
  obtain ⟨sg, ar, en, rfl, hsg, har, hen⟩ := h
  have hb1 := NetBox.of (N := N) hw hsg har hen
  have hk1 : Kept H (H.new 4 [sg, .int .i64 N.states, ar, en]).2 := Kept.new hw 4 _
  simp only [↓Sh.stepDn, Sh.stepUp, seatFacts, exitTo, calm, isEff, Nat.reduceBEq, evs, evps, evo, isConst, reduceCtorEq, Nat.reduceEqDiff, resultsA, Sh.one, Sh.unit, forall_const, implies_true, eq_self, ne_eq, if_true, if_false, beq_self_eq_true, cond_true, cond_false, List.all_cons, List.all_nil, List.getElem?_cons_zero, List.getElem?_cons_succ, List.nil_append, List.append_nil, Option.bind_some, Option.map_some, Option.some.injEq, exists_eq_left', exists_eq', exists_eq, Prod.mk.injEq, exists_and_left, netNew hsg.isCell har.isCell hen.isCell]
  generalize H.next = gg at hb1 ⊢
  generalize (H.new 4 [sg, .int .i64 N.states, ar, en]).2 = H1 at hb1 hk1 ⊢
  simp only [↓Sh.stepDn, Sh.stepUp, seatFacts, exitTo, calm, isEff, Nat.reduceBEq, evs, evps, evo, isConst, reduceCtorEq, Nat.reduceEqDiff, resultsA, Sh.one, Sh.unit, forall_const, implies_true, eq_self, ne_eq, if_true, if_false, beq_self_eq_true, cond_true, cond_false, List.all_cons, List.all_nil, List.getElem?_cons_zero, List.getElem?_cons_succ, List.nil_append, List.append_nil, Option.bind_some, Option.map_some, Option.some.injEq, exists_eq_left', exists_eq', exists_eq, Prod.mk.injEq, exists_and_left, hb1.c0, hb1.c1, hb1.c2, hb1.c3, hb1.ca, netLenS hb1, netLenA hb1, netLenE hb1]
  obtain ⟨r, H2, hd, hk2, rfl⟩ := validateNet hb1.netAt hsm hk1.wf
  refine ⟨_, _, hd, ?_⟩
  have hb2 := hb1.kept hk1.wf hk2
  have hk12 := hk1.trans hk2
  by_cases hE : netErr N = 0
  case neg => simp only [↓Sh.stepDn, Sh.stepUp, seatFacts, exitTo, calm, isEff, Nat.reduceBEq, evs, evps, evo, isConst, reduceCtorEq, Nat.reduceEqDiff, resultsA, Sh.one, Sh.unit, forall_const, implies_true, eq_self, ne_eq, if_true, if_false, beq_self_eq_true, cond_true, cond_false, List.all_cons, List.all_nil, List.getElem?_cons_zero, List.getElem?_cons_succ, List.nil_append, List.append_nil, Option.bind_some, Option.map_some, Option.some.injEq, exists_eq_left', exists_eq', exists_eq, Prod.mk.injEq, exists_and_left, hE, decide_false, hres, costErr, hk12]
  simp only [↓Sh.stepDn, Sh.stepUp, seatFacts, exitTo, calm, isEff, Nat.reduceBEq, evs, evps, evo, isConst, reduceCtorEq, Nat.reduceEqDiff, resultsA, Sh.one, Sh.unit, forall_const, implies_true, eq_self, ne_eq, if_true, if_false, beq_self_eq_true, cond_true, cond_false, List.all_cons, List.all_nil, List.getElem?_cons_zero, List.getElem?_cons_succ, List.nil_append, List.append_nil, Option.bind_some, Option.map_some, Option.some.injEq, exists_eq_left', exists_eq', exists_eq, Prod.mk.injEq, exists_and_left, hE, decide_true, hb2.c0, hb2.c1, hb2.c2, hb2.c3, hb2.ca, netLenS hb2, netLenA hb2, netLenE hb2]
  have e1 : pricedB N 100000000 = true → costErr N = 1 := by intro h; simp [costErr, hE, h]
  have e0 : pricedB N 100000000 = false → costErr N = 0 := by intro h; simp [costErr, hE, h]
  refine wp_for N.arcs.length 4 (List.range' 4 30 ++ [2]) (fun i F H' => H' = H2 ∧ (N.arcs.take i).any (fun a => decide (a.cost < 0) || decide (100000000 < a.cost)) = false) (by simp only [↓Sh.stepDn, Sh.stepUp, seatFacts, exitTo, calm, isEff, Nat.reduceBEq, evs, evps, evo, isConst, reduceCtorEq, Nat.reduceEqDiff, resultsA, Sh.one, Sh.unit, forall_const, implies_true, eq_self, ne_eq, if_true, if_false, beq_self_eq_true, cond_true, cond_false, List.all_cons, List.all_nil, List.getElem?_cons_zero, List.getElem?_cons_succ, List.nil_append, List.append_nil, Option.bind_some, Option.map_some, Option.some.injEq, exists_eq_left', exists_eq', exists_eq, Prod.mk.injEq, exists_and_left]) ⟨rfl, rfl⟩ ?_ ?_
  · rintro i F H' hlt hF f4 ⟨rfl, hall⟩ k
    have f1 := hF 1 rfl
    simp only [↓Sh.stepDn, Sh.stepUp, seatFacts, exitTo, calm, isEff, Nat.reduceBEq, evs, evps, evo, isConst, reduceCtorEq, Nat.reduceEqDiff, resultsA, Sh.one, Sh.unit, forall_const, implies_true, eq_self, ne_eq, if_true, if_false, beq_self_eq_true, cond_true, cond_false, List.all_cons, List.all_nil, List.getElem?_cons_zero, List.getElem?_cons_succ, List.nil_append, List.append_nil, Option.bind_some, Option.map_some, Option.some.injEq, exists_eq_left', exists_eq', exists_eq, Prod.mk.injEq, exists_and_left] at f1
    obtain ⟨g, o, kk, hia, hc, hcc⟩ := hb2.har.at Try.underlying23 size_33 (i := i) (x := N.arcs[i].cells) (by simp [hlt]) .i64
    have q4 := hcc 4 _ rfl
    clear hcc
    have hbad : (decide (N.arcs[i].cost < 0) || decide (100000000 < N.arcs[i].cost)) = true → costErr N = 1 := fun h => e1 (by rw [pricedB, List.any_eq_true.2 ⟨_, List.getElem_mem hlt, h⟩]; rfl)
    simp only [↓Sh.stepDn, Sh.stepUp, seatFacts, exitTo, calm, isEff, Nat.reduceBEq, evs, evps, evo, isConst, reduceCtorEq, Nat.reduceEqDiff, resultsA, Sh.one, Sh.unit, forall_const, implies_true, eq_self, ne_eq, if_true, if_false, beq_self_eq_true, cond_true, cond_false, List.all_cons, List.all_nil, List.getElem?_cons_zero, List.getElem?_cons_succ, List.nil_append, List.append_nil, Option.bind_some, Option.map_some, Option.some.injEq, exists_eq_left', exists_eq', exists_eq, Prod.mk.injEq, exists_and_left, hb2.c0, hb2.c1, hb2.c2, hb2.c3, hb2.ca, netLenS hb2, netLenA hb2, netLenE hb2, f1, f4, nat_lt, hlt, decide_true, hia, q4]
    by_cases h1 : N.arcs[i].cost < 0
    · simp only [↓Sh.stepDn, Sh.stepUp, seatFacts, exitTo, calm, isEff, Nat.reduceBEq, evs, evps, evo, isConst, reduceCtorEq, Nat.reduceEqDiff, resultsA, Sh.one, Sh.unit, forall_const, implies_true, eq_self, ne_eq, if_true, if_false, beq_self_eq_true, cond_true, cond_false, List.all_cons, List.all_nil, List.getElem?_cons_zero, List.getElem?_cons_succ, List.nil_append, List.append_nil, Option.bind_some, Option.map_some, Option.some.injEq, exists_eq_left', exists_eq', exists_eq, Prod.mk.injEq, exists_and_left, h1, decide_true, hres, hbad (by simp [h1]), hk12]
    simp only [↓Sh.stepDn, Sh.stepUp, seatFacts, exitTo, calm, isEff, Nat.reduceBEq, evs, evps, evo, isConst, reduceCtorEq, Nat.reduceEqDiff, resultsA, Sh.one, Sh.unit, forall_const, implies_true, eq_self, ne_eq, if_true, if_false, beq_self_eq_true, cond_true, cond_false, List.all_cons, List.all_nil, List.getElem?_cons_zero, List.getElem?_cons_succ, List.nil_append, List.append_nil, Option.bind_some, Option.map_some, Option.some.injEq, exists_eq_left', exists_eq', exists_eq, Prod.mk.injEq, exists_and_left, hb2.c0, hb2.c1, hb2.c2, hb2.c3, hb2.ca, netLenS hb2, netLenA hb2, netLenE hb2, f1, f4, hia, q4, h1, decide_false]
    by_cases h2 : 100000000 < N.arcs[i].cost
    · simp only [↓Sh.stepDn, Sh.stepUp, seatFacts, exitTo, calm, isEff, Nat.reduceBEq, evs, evps, evo, isConst, reduceCtorEq, Nat.reduceEqDiff, resultsA, Sh.one, Sh.unit, forall_const, implies_true, eq_self, ne_eq, if_true, if_false, beq_self_eq_true, cond_true, cond_false, List.all_cons, List.all_nil, List.getElem?_cons_zero, List.getElem?_cons_succ, List.nil_append, List.append_nil, Option.bind_some, Option.map_some, Option.some.injEq, exists_eq_left', exists_eq', exists_eq, Prod.mk.injEq, exists_and_left, h2, decide_true, hres, hbad (by simp [h2]), hk12]
    simp only [↓Sh.stepDn, Sh.stepUp, seatFacts, exitTo, calm, isEff, Nat.reduceBEq, evs, evps, evo, isConst, reduceCtorEq, Nat.reduceEqDiff, resultsA, Sh.one, Sh.unit, forall_const, implies_true, eq_self, ne_eq, if_true, if_false, beq_self_eq_true, cond_true, cond_false, List.all_cons, List.all_nil, List.getElem?_cons_zero, List.getElem?_cons_succ, List.nil_append, List.append_nil, Option.bind_some, Option.map_some, Option.some.injEq, exists_eq_left', exists_eq', exists_eq, Prod.mk.injEq, exists_and_left, f4, h2, decide_false, wrap_succ hlt hsm.ar]
    refine k _ _ (by repeat (first | refine Same.put ?_ rfl | exact Same.rfl' _)) (by simp only [↓Sh.stepDn, Sh.stepUp, seatFacts, exitTo, calm, isEff, Nat.reduceBEq, evs, evps, evo, isConst, reduceCtorEq, Nat.reduceEqDiff, resultsA, Sh.one, Sh.unit, forall_const, implies_true, eq_self, ne_eq, if_true, if_false, beq_self_eq_true, cond_true, cond_false, List.all_cons, List.all_nil, List.getElem?_cons_zero, List.getElem?_cons_succ, List.nil_append, List.append_nil, Option.bind_some, Option.map_some, Option.some.injEq, exists_eq_left', exists_eq', exists_eq, Prod.mk.injEq, exists_and_left]) ⟨rfl, ?_⟩
    rw [List.take_add_one, List.getElem?_eq_getElem hlt]
    simp only [Option.toList, List.any_append, hall, List.any_cons, List.any_nil, Bool.or_false, h1, h2, decide_false]
  rintro F H' hF f4 ⟨rfl, hall⟩
  have f1 := hF 1 rfl
  simp only [↓Sh.stepDn, Sh.stepUp, seatFacts, exitTo, calm, isEff, Nat.reduceBEq, evs, evps, evo, isConst, reduceCtorEq, Nat.reduceEqDiff, resultsA, Sh.one, Sh.unit, forall_const, implies_true, eq_self, ne_eq, if_true, if_false, beq_self_eq_true, cond_true, cond_false, List.all_cons, List.all_nil, List.getElem?_cons_zero, List.getElem?_cons_succ, List.nil_append, List.append_nil, Option.bind_some, Option.map_some, Option.some.injEq, exists_eq_left', exists_eq', exists_eq, Prod.mk.injEq, exists_and_left] at f1
  rw [List.take_length] at hall
  simp only [↓Sh.stepDn, Sh.stepUp, seatFacts, exitTo, calm, isEff, Nat.reduceBEq, evs, evps, evo, isConst, reduceCtorEq, Nat.reduceEqDiff, resultsA, Sh.one, Sh.unit, forall_const, implies_true, eq_self, ne_eq, if_true, if_false, beq_self_eq_true, cond_true, cond_false, List.all_cons, List.all_nil, List.getElem?_cons_zero, List.getElem?_cons_succ, List.nil_append, List.append_nil, Option.bind_some, Option.map_some, Option.some.injEq, exists_eq_left', exists_eq', exists_eq, Prod.mk.injEq, exists_and_left, hb2.c0, hb2.c1, hb2.c2, hb2.c3, hb2.ca, netLenS hb2, netLenA hb2, netLenE hb2, f1, f4, nat_lt, Nat.lt_irrefl, decide_false]
  refine wp_for N.ends.length 5 (List.range' 34 23 ++ [2, 5]) (fun i F H'' => H'' = H' ∧ (N.ends.take i).any (fun a => decide (a.cost < 0) || decide (100000000 < a.cost)) = false) (by simp only [↓Sh.stepDn, Sh.stepUp, seatFacts, exitTo, calm, isEff, Nat.reduceBEq, evs, evps, evo, isConst, reduceCtorEq, Nat.reduceEqDiff, resultsA, Sh.one, Sh.unit, forall_const, implies_true, eq_self, ne_eq, if_true, if_false, beq_self_eq_true, cond_true, cond_false, List.all_cons, List.all_nil, List.getElem?_cons_zero, List.getElem?_cons_succ, List.nil_append, List.append_nil, Option.bind_some, Option.map_some, Option.some.injEq, exists_eq_left', exists_eq', exists_eq, Prod.mk.injEq, exists_and_left]) ⟨rfl, rfl⟩ ?_ ?_
  · rintro i F' H'' hlt hF' f5 ⟨rfl, hall2⟩ k
    have g1 := hF' 1 rfl
    simp only [↓Sh.stepDn, Sh.stepUp, seatFacts, exitTo, calm, isEff, Nat.reduceBEq, evs, evps, evo, isConst, reduceCtorEq, Nat.reduceEqDiff, resultsA, Sh.one, Sh.unit, forall_const, implies_true, eq_self, ne_eq, if_true, if_false, beq_self_eq_true, cond_true, cond_false, List.all_cons, List.all_nil, List.getElem?_cons_zero, List.getElem?_cons_succ, List.nil_append, List.append_nil, Option.bind_some, Option.map_some, Option.some.injEq, exists_eq_left', exists_eq', exists_eq, Prod.mk.injEq, exists_and_left, f1] at g1
    obtain ⟨g, o, kk, hia, hc, hcc⟩ := hb2.hen.at Try.underlying24 size_35 (i := i) (x := N.ends[i].cells) (by simp [hlt]) .i64
    have q1 := hcc 1 _ rfl
    clear hcc
    have hbad : (decide (N.ends[i].cost < 0) || decide (100000000 < N.ends[i].cost)) = true → costErr N = 1 := fun h => e1 (by rw [pricedB, List.any_eq_true.2 ⟨_, List.getElem_mem hlt, h⟩, Bool.or_true])
    simp only [↓Sh.stepDn, Sh.stepUp, seatFacts, exitTo, calm, isEff, Nat.reduceBEq, evs, evps, evo, isConst, reduceCtorEq, Nat.reduceEqDiff, resultsA, Sh.one, Sh.unit, forall_const, implies_true, eq_self, ne_eq, if_true, if_false, beq_self_eq_true, cond_true, cond_false, List.all_cons, List.all_nil, List.getElem?_cons_zero, List.getElem?_cons_succ, List.nil_append, List.append_nil, Option.bind_some, Option.map_some, Option.some.injEq, exists_eq_left', exists_eq', exists_eq, Prod.mk.injEq, exists_and_left, hb2.c0, hb2.c1, hb2.c2, hb2.c3, hb2.ca, netLenS hb2, netLenA hb2, netLenE hb2, g1, f5, nat_lt, hlt, decide_true, hia, q1]
    by_cases h1 : N.ends[i].cost < 0
    · simp only [↓Sh.stepDn, Sh.stepUp, seatFacts, exitTo, calm, isEff, Nat.reduceBEq, evs, evps, evo, isConst, reduceCtorEq, Nat.reduceEqDiff, resultsA, Sh.one, Sh.unit, forall_const, implies_true, eq_self, ne_eq, if_true, if_false, beq_self_eq_true, cond_true, cond_false, List.all_cons, List.all_nil, List.getElem?_cons_zero, List.getElem?_cons_succ, List.nil_append, List.append_nil, Option.bind_some, Option.map_some, Option.some.injEq, exists_eq_left', exists_eq', exists_eq, Prod.mk.injEq, exists_and_left, h1, decide_true, hres, hbad (by simp [h1]), hk12]
    simp only [↓Sh.stepDn, Sh.stepUp, seatFacts, exitTo, calm, isEff, Nat.reduceBEq, evs, evps, evo, isConst, reduceCtorEq, Nat.reduceEqDiff, resultsA, Sh.one, Sh.unit, forall_const, implies_true, eq_self, ne_eq, if_true, if_false, beq_self_eq_true, cond_true, cond_false, List.all_cons, List.all_nil, List.getElem?_cons_zero, List.getElem?_cons_succ, List.nil_append, List.append_nil, Option.bind_some, Option.map_some, Option.some.injEq, exists_eq_left', exists_eq', exists_eq, Prod.mk.injEq, exists_and_left, hb2.c0, hb2.c1, hb2.c2, hb2.c3, hb2.ca, netLenS hb2, netLenA hb2, netLenE hb2, g1, f5, hia, q1, h1, decide_false]
    by_cases h2 : 100000000 < N.ends[i].cost
    · simp only [↓Sh.stepDn, Sh.stepUp, seatFacts, exitTo, calm, isEff, Nat.reduceBEq, evs, evps, evo, isConst, reduceCtorEq, Nat.reduceEqDiff, resultsA, Sh.one, Sh.unit, forall_const, implies_true, eq_self, ne_eq, if_true, if_false, beq_self_eq_true, cond_true, cond_false, List.all_cons, List.all_nil, List.getElem?_cons_zero, List.getElem?_cons_succ, List.nil_append, List.append_nil, Option.bind_some, Option.map_some, Option.some.injEq, exists_eq_left', exists_eq', exists_eq, Prod.mk.injEq, exists_and_left, h2, decide_true, hres, hbad (by simp [h2]), hk12]
    simp only [↓Sh.stepDn, Sh.stepUp, seatFacts, exitTo, calm, isEff, Nat.reduceBEq, evs, evps, evo, isConst, reduceCtorEq, Nat.reduceEqDiff, resultsA, Sh.one, Sh.unit, forall_const, implies_true, eq_self, ne_eq, if_true, if_false, beq_self_eq_true, cond_true, cond_false, List.all_cons, List.all_nil, List.getElem?_cons_zero, List.getElem?_cons_succ, List.nil_append, List.append_nil, Option.bind_some, Option.map_some, Option.some.injEq, exists_eq_left', exists_eq', exists_eq, Prod.mk.injEq, exists_and_left, f5, h2, decide_false, wrap_succ hlt hsm.en]
    refine k _ _ (by repeat (first | refine Same.put ?_ rfl | exact Same.rfl' _)) (by simp only [↓Sh.stepDn, Sh.stepUp, seatFacts, exitTo, calm, isEff, Nat.reduceBEq, evs, evps, evo, isConst, reduceCtorEq, Nat.reduceEqDiff, resultsA, Sh.one, Sh.unit, forall_const, implies_true, eq_self, ne_eq, if_true, if_false, beq_self_eq_true, cond_true, cond_false, List.all_cons, List.all_nil, List.getElem?_cons_zero, List.getElem?_cons_succ, List.nil_append, List.append_nil, Option.bind_some, Option.map_some, Option.some.injEq, exists_eq_left', exists_eq', exists_eq, Prod.mk.injEq, exists_and_left]) ⟨rfl, ?_⟩
    rw [List.take_add_one, List.getElem?_eq_getElem hlt]
    simp only [Option.toList, List.any_append, hall2, List.any_cons, List.any_nil, Bool.or_false, h1, h2, decide_false]
  rintro F' H'' hF' f5 ⟨rfl, hall2⟩
  have g1 := hF' 1 rfl
  simp only [↓Sh.stepDn, Sh.stepUp, seatFacts, exitTo, calm, isEff, Nat.reduceBEq, evs, evps, evo, isConst, reduceCtorEq, Nat.reduceEqDiff, resultsA, Sh.one, Sh.unit, forall_const, implies_true, eq_self, ne_eq, if_true, if_false, beq_self_eq_true, cond_true, cond_false, List.all_cons, List.all_nil, List.getElem?_cons_zero, List.getElem?_cons_succ, List.nil_append, List.append_nil, Option.bind_some, Option.map_some, Option.some.injEq, exists_eq_left', exists_eq', exists_eq, Prod.mk.injEq, exists_and_left, f1] at g1
  rw [List.take_length] at hall2
  simp only [↓Sh.stepDn, Sh.stepUp, seatFacts, exitTo, calm, isEff, Nat.reduceBEq, evs, evps, evo, isConst, reduceCtorEq, Nat.reduceEqDiff, resultsA, Sh.one, Sh.unit, forall_const, implies_true, eq_self, ne_eq, if_true, if_false, beq_self_eq_true, cond_true, cond_false, List.all_cons, List.all_nil, List.getElem?_cons_zero, List.getElem?_cons_succ, List.nil_append, List.append_nil, Option.bind_some, Option.map_some, Option.some.injEq, exists_eq_left', exists_eq', exists_eq, Prod.mk.injEq, exists_and_left, hb2.c0, hb2.c1, hb2.c2, hb2.c3, hb2.ca, netLenS hb2, netLenA hb2, netLenE hb2, g1, f5, nat_lt, Nat.lt_irrefl, decide_false, hres, e0 (by rw [pricedB, hall, hall2]; rfl), hk12]
end Go.Proofs.Ytbnpoiibehkjpaa
/- Whether there is far more in a net than may be. -/
set_option maxHeartbeats 4000000
set_option linter.unusedSimpArgs false
set_option linter.unusedVariables false
set_option pp.deepTerms.threshold 8
namespace Go.Proofs.Ytbnpoiibehkjpaa
open Go Go.Proofs Go.Proofs.Sh
def sizes (l : List ByteArray) : Nat := (l.map fun s => s.size).sum
def netSize (N : NetD) : Nat := N.sigma.length + N.arcs.length + N.ends.length + sizes N.sigma
theorem sizes_take_le (l : List ByteArray) (i : Nat) : sizes (l.take i) ≤ sizes l := by
  unfold sizes
  have : l = l.take i ++ l.drop i := (List.take_append_drop i l).symm
  conv => rhs; rw [this]
  rw [List.map_append, List.sum_append]
  omega
theorem isOver {H : AH} {v : Value} {N : NetD} (h : NetAt H v N) (hsm : NetSmall N) (hsz : sizes N.sigma ≤ 1048576) (hw : Wf H) :
    Sh.Call Try.prog (knows 7) 4 [v] H (fun r H' => Kept H H' ∧ r = .bool (decide (262144 < netSize N))) := by
  refine call_of rfl Try.func4 rfl (Nat.le_of_ble_eq_true rfl) ?_
  have hres : Try.f4.results.toList = [.tmp 2] := rfl
  obtain ⟨sg, ar, en, rfl, hsg, har, hen⟩ := h
  have hb1 := NetBox.of (N := N) hw hsg har hen
  have hk1 : Kept H (H.new 4 [sg, .int .i64 N.states, ar, en]).2 := Kept.new hw 4 _
  simp only [↓Sh.stepDn, Sh.stepUp, seatFacts, exitTo, calm, isEff, Nat.reduceBEq, evs, evps, evo, isConst, reduceCtorEq, Nat.reduceEqDiff, resultsA, Sh.one, Sh.unit, forall_const, implies_true, eq_self, ne_eq, if_true, if_false, beq_self_eq_true, cond_true, cond_false, List.all_cons, List.all_nil, List.getElem?_cons_zero, List.getElem?_cons_succ, List.nil_append, List.append_nil, Option.bind_some, Option.map_some, Option.some.injEq, exists_eq_left', exists_eq', exists_eq, Prod.mk.injEq, exists_and_left, netNew hsg.isCell har.isCell hen.isCell]
  generalize H.next = gg at hb1 ⊢
  generalize (H.new 4 [sg, .int .i64 N.states, ar, en]).2 = H1 at hb1 hk1 ⊢
  obtain ⟨z1, z2, z3, _⟩ := hsm
  have w1 : IntKind.wrap .i64 (IntKind.wrap .i64 ((N.sigma.length : Int) + (N.arcs.length : Int)) + (N.ends.length : Int)) = ((N.sigma.length + N.arcs.length + N.ends.length : Nat) : Int) := by
    rw [wrap64 (n := (N.sigma.length : Int) + (N.arcs.length : Int)) (by omega) (by omega), wrap64 (by omega) (by omega)]; rfl
  simp only [↓Sh.stepDn, Sh.stepUp, seatFacts, exitTo, calm, isEff, Nat.reduceBEq, evs, evps, evo, isConst, reduceCtorEq, Nat.reduceEqDiff, resultsA, Sh.one, Sh.unit, forall_const, implies_true, eq_self, ne_eq, if_true, if_false, beq_self_eq_true, cond_true, cond_false, List.all_cons, List.all_nil, List.getElem?_cons_zero, List.getElem?_cons_succ, List.nil_append, List.append_nil, Option.bind_some, Option.map_some, Option.some.injEq, exists_eq_left', exists_eq', exists_eq, Prod.mk.injEq, exists_and_left, hb1.c0, hb1.c1, hb1.c2, hb1.c3, hb1.ca, netLenS hb1, netLenA hb1, netLenE hb1, w1]
  refine wp_for N.sigma.length 4 (List.range' 16 15 ++ [3, 4]) (fun i F H' => H' = H1 ∧ F.get 3 = some (.int .i64 ((N.sigma.length + N.arcs.length + N.ends.length + sizes (N.sigma.take i) : Nat) : Int))) (by simp only [↓Sh.stepDn, Sh.stepUp, seatFacts, exitTo, calm, isEff, Nat.reduceBEq, evs, evps, evo, isConst, reduceCtorEq, Nat.reduceEqDiff, resultsA, Sh.one, Sh.unit, forall_const, implies_true, eq_self, ne_eq, if_true, if_false, beq_self_eq_true, cond_true, cond_false, List.all_cons, List.all_nil, List.getElem?_cons_zero, List.getElem?_cons_succ, List.nil_append, List.append_nil, Option.bind_some, Option.map_some, Option.some.injEq, exists_eq_left', exists_eq', exists_eq, Prod.mk.injEq, exists_and_left]) ⟨rfl, by simp only [↓Sh.stepDn, Sh.stepUp, seatFacts, exitTo, calm, isEff, Nat.reduceBEq, evs, evps, evo, isConst, reduceCtorEq, Nat.reduceEqDiff, resultsA, Sh.one, Sh.unit, forall_const, implies_true, eq_self, ne_eq, if_true, if_false, beq_self_eq_true, cond_true, cond_false, List.all_cons, List.all_nil, List.getElem?_cons_zero, List.getElem?_cons_succ, List.nil_append, List.append_nil, Option.bind_some, Option.map_some, Option.some.injEq, exists_eq_left', exists_eq', exists_eq, Prod.mk.injEq, exists_and_left]; rfl⟩ ?_ ?_
  · rintro i F H' hlt hF f4 ⟨rfl, f3⟩ k
    have f1 := hF 1 rfl
    simp only [↓Sh.stepDn, Sh.stepUp, seatFacts, exitTo, calm, isEff, Nat.reduceBEq, evs, evps, evo, isConst, reduceCtorEq, Nat.reduceEqDiff, resultsA, Sh.one, Sh.unit, forall_const, implies_true, eq_self, ne_eq, if_true, if_false, beq_self_eq_true, cond_true, cond_false, List.all_cons, List.all_nil, List.getElem?_cons_zero, List.getElem?_cons_succ, List.nil_append, List.append_nil, Option.bind_some, Option.map_some, Option.some.injEq, exists_eq_left', exists_eq', exists_eq, Prod.mk.injEq, exists_and_left] at f1
    obtain ⟨g, o, kk, hia, hc, hcc⟩ := hb1.hsg.at Try.underlying22 size_9 (i := i) (x := strCell N.sigma[i]) (by simp [hlt]) .i64
    have hy := hcc 0 _ rfl
    simp only [Nat.add_zero] at hy
    have hs1 : sizes (N.sigma.take (i + 1)) = sizes (N.sigma.take i) + N.sigma[i].size := by
      unfold sizes
      rw [List.take_add_one, List.getElem?_eq_getElem hlt, List.map_append, List.sum_append]
      simp
    have hle := sizes_take_le N.sigma (i + 1)
    have w2 : IntKind.wrap .i64 (((N.sigma.length + N.arcs.length + N.ends.length + sizes (N.sigma.take i) : Nat) : Int) + (N.sigma[i].size : Int)) = ((N.sigma.length + N.arcs.length + N.ends.length + sizes (N.sigma.take (i + 1)) : Nat) : Int) := by
      rw [wrap64 (by omega) (by omega), hs1]; omega
    simp only [↓Sh.stepDn, Sh.stepUp, seatFacts, exitTo, calm, isEff, Nat.reduceBEq, evs, evps, evo, isConst, reduceCtorEq, Nat.reduceEqDiff, resultsA, Sh.one, Sh.unit, forall_const, implies_true, eq_self, ne_eq, if_true, if_false, beq_self_eq_true, cond_true, cond_false, List.all_cons, List.all_nil, List.getElem?_cons_zero, List.getElem?_cons_succ, List.nil_append, List.append_nil, Option.bind_some, Option.map_some, Option.some.injEq, exists_eq_left', exists_eq', exists_eq, Prod.mk.injEq, exists_and_left, hb1.c0, hb1.c1, hb1.c2, hb1.c3, hb1.ca, netLenS hb1, netLenA hb1, netLenE hb1, f1, f3, f4, nat_lt, hlt, decide_true, hia, hy, w2, wrap_succ hlt z1]
    exact k _ _ (by repeat (first | refine Same.put ?_ rfl | exact Same.rfl' _)) (by simp only [↓Sh.stepDn, Sh.stepUp, seatFacts, exitTo, calm, isEff, Nat.reduceBEq, evs, evps, evo, isConst, reduceCtorEq, Nat.reduceEqDiff, resultsA, Sh.one, Sh.unit, forall_const, implies_true, eq_self, ne_eq, if_true, if_false, beq_self_eq_true, cond_true, cond_false, List.all_cons, List.all_nil, List.getElem?_cons_zero, List.getElem?_cons_succ, List.nil_append, List.append_nil, Option.bind_some, Option.map_some, Option.some.injEq, exists_eq_left', exists_eq', exists_eq, Prod.mk.injEq, exists_and_left]) ⟨rfl, by simp only [↓Sh.stepDn, Sh.stepUp, seatFacts, exitTo, calm, isEff, Nat.reduceBEq, evs, evps, evo, isConst, reduceCtorEq, Nat.reduceEqDiff, resultsA, Sh.one, Sh.unit, forall_const, implies_true, eq_self, ne_eq, if_true, if_false, beq_self_eq_true, cond_true, cond_false, List.all_cons, List.all_nil, List.getElem?_cons_zero, List.getElem?_cons_succ, List.nil_append, List.append_nil, Option.bind_some, Option.map_some, Option.some.injEq, exists_eq_left', exists_eq', exists_eq, Prod.mk.injEq, exists_and_left]⟩
  · rintro F H' hF f4 ⟨rfl, f3⟩
    have f1 := hF 1 rfl
    simp only [↓Sh.stepDn, Sh.stepUp, seatFacts, exitTo, calm, isEff, Nat.reduceBEq, evs, evps, evo, isConst, reduceCtorEq, Nat.reduceEqDiff, resultsA, Sh.one, Sh.unit, forall_const, implies_true, eq_self, ne_eq, if_true, if_false, beq_self_eq_true, cond_true, cond_false, List.all_cons, List.all_nil, List.getElem?_cons_zero, List.getElem?_cons_succ, List.nil_append, List.append_nil, Option.bind_some, Option.map_some, Option.some.injEq, exists_eq_left', exists_eq', exists_eq, Prod.mk.injEq, exists_and_left] at f1
    rw [List.take_length] at f3
    have e : decide ((262144 : Int) < ((N.sigma.length + N.arcs.length + N.ends.length + sizes N.sigma : Nat) : Int)) = decide (262144 < netSize N) := decide_eq_decide.2 (by unfold netSize; omega)
    simp only [↓Sh.stepDn, Sh.stepUp, seatFacts, exitTo, calm, isEff, Nat.reduceBEq, evs, evps, evo, isConst, reduceCtorEq, Nat.reduceEqDiff, resultsA, Sh.one, Sh.unit, forall_const, implies_true, eq_self, ne_eq, if_true, if_false, beq_self_eq_true, cond_true, cond_false, List.all_cons, List.all_nil, List.getElem?_cons_zero, List.getElem?_cons_succ, List.nil_append, List.append_nil, Option.bind_some, Option.map_some, Option.some.injEq, exists_eq_left', exists_eq', exists_eq, Prod.mk.injEq, exists_and_left, hb1.c0, hb1.c1, hb1.c2, hb1.c3, hb1.ca, netLenS hb1, netLenA hb1, netLenE hb1, f1, f3, f4, nat_lt, Nat.lt_irrefl, decide_false, hres, e, hk1]
end Go.Proofs.Ytbnpoiibehkjpaa
/- What comes in: lists of texts, nets. -/
set_option maxHeartbeats 4000000
set_option linter.unusedSimpArgs false
set_option linter.unusedVariables false
namespace Go.Proofs.Ytbnpoiibehkjpaa
open Go Go.Proofs Go.Proofs.Sh
section
variable {K : Type}
theorem bulk_pos : ∀ (d : DataW K), 1 ≤ Rows.uptoBulk d
  | .lit l => by cases l <;> simp [Rows.uptoBulk]
  | .nil => by simp [Rows.uptoBulk]
  | .ptr d => by simp [Rows.uptoBulk]
  | .slice a b => by simp [Rows.uptoBulk]
  | .agg a => by simp [Rows.uptoBulk]
  | .iface n d => by simp [Rows.uptoBulk]
  | .map es => by simp [Rows.uptoBulk]
  | .held h => by simp [Rows.uptoBulk]
theorem bulk_len : ∀ (ds : List (DataW K)), ds.length ≤ Rows.uptoBulkAll ds
  | [] => Nat.zero_le _
  | d :: ds => by
    have := bulk_pos d
    have := bulk_len ds
    simp only [Rows.uptoBulkAll, List.length_cons]; omega
theorem bulk_mem : ∀ {ds : List (DataW K)} {d : DataW K}, d ∈ ds → Rows.uptoBulk d ≤ Rows.uptoBulkAll ds
  | d :: ds, x, h => by
    simp only [Rows.uptoBulkAll]
    rcases List.mem_cons.1 h with rfl | h
    · omega
    · have := bulk_mem h; omega
theorem exists_map {α β : Type} {f : α → β} : ∀ {l : List β}, (∀ x ∈ l, ∃ a, x = f a) → ∃ L : List α, l = L.map f
  | [], _ => ⟨[], rfl⟩
  | x :: l, h => by
    obtain ⟨a, rfl⟩ := h x List.mem_cons_self
    obtain ⟨L, rfl⟩ := exists_map (l := l) fun y hy => h y (List.mem_cons_of_mem _ hy)
    exact ⟨a :: L, rfl⟩
/-- A list whose elements read so. -/
theorem list_in {α : Type} {enc : α → List Value} {H : AH} {f t e s : Nat} {cs : List Value} {d : DataW K} (R : α → DataW K → Prop) (hu : Try.prog.underlying t = some (.slice e)) (hs : Try.prog.cellsOf e = s)
    (hR : ∀ f x y, RD Try.prog H f e x y → ∃ a, x = enc a ∧ R a y) (h : RD Try.prog H f t cs d) :
    ∃ u, ∃ L : List α, ∃ ds, cs = [u] ∧ Sl H u s (L.map enc) ∧ L.length = ds.length ∧ (∀ (i : Nat) a y, L[i]? = some a → ds[i]? = some y → enc a = enc a → ∃ a', enc a' = enc a ∧ R a' y) ∧ Rows.uptoBulkAll ds < Rows.uptoBulk d := by
  obtain ⟨l, ds, ⟨u, rfl, hsl⟩, hlen, hel, hd⟩ := RD.slice hu hs h
  have hget : ∀ (i : Nat) x, l[i]? = some x → ∃ y a, ds[i]? = some y ∧ x = enc a ∧ R a y := by
    intro i x hx
    have hi := (List.getElem?_eq_some_iff.1 hx).1
    have hy : ds[i]? = some (ds[i]'(by omega)) := List.getElem?_eq_getElem (by omega)
    obtain ⟨f', hf⟩ := hel i x _ hx hy
    obtain ⟨a, h1, h2⟩ := hR f' x _ hf
    exact ⟨_, a, hy, h1, h2⟩
  obtain ⟨L, rfl⟩ := exists_map (f := enc) (l := l) fun x hx => by
    obtain ⟨i, hi⟩ := List.mem_iff_getElem?.1 hx
    obtain ⟨y, a, _, h2, _⟩ := hget i x hi
    exact ⟨a, h2⟩
  refine ⟨u, L, ds, rfl, hsl, by simpa using hlen, fun i a y ha hy _ => ?_, ?_⟩
  · obtain ⟨y', a', h1, h2, h3⟩ := hget i (enc a) (by simp [ha])
    rw [hy] at h1
    injection h1 with h1
    subst h1
    exact ⟨a', h2.symm, h3⟩
  · rcases hd with ⟨rfl, rfl⟩ | ⟨sp, rfl⟩
    · simp [Rows.uptoBulk, Rows.uptoBulkAll]
    · simp only [Rows.uptoBulk]; omega
theorem str_in {H : AH} {f : Nat} {x : List Value} {y : DataW K} (h : RD Try.prog H f 9 x y) : ∃ s, x = strCell s ∧ y = .lit (.string s.data.toList) := RD.str Try.underlying9 h
theorem int_in {H : AH} {f : Nat} {x : List Value} {y : DataW K} (h : RD Try.prog H f 3 x y) : ∃ n, x = [.int .i64 n] ∧ -9223372036854775808 ≤ n ∧ n < 9223372036854775808 := RD.int Try.underlying3 h
theorem bulk_strs : ∀ {L : List ByteArray} {ds : List (DataW K)}, L.length = ds.length → (∀ (i : Nat) a y, L[i]? = some a → ds[i]? = some y → y = .lit (.string a.data.toList)) → Rows.uptoBulkAll ds = sizes L + L.length
  | [], [], _, _ => rfl
  | [], _ :: _, h, _ => by simp at h
  | _ :: _, [], h, _ => by simp at h
  | a :: L, d :: ds, h, hr => by
    have h0 := hr 0 a d rfl rfl
    have ih := bulk_strs (L := L) (ds := ds) (by simpa using h) fun i a y h1 h2 => hr (i + 1) a y (by simpa using h1) (by simpa using h2)
    subst h0
    have e : a.data.toList.length = a.size := by rw [Array.length_toList]; rfl
    simp only [Rows.uptoBulkAll, Rows.uptoBulk, ih, sizes, List.map_cons, List.sum_cons, List.length_cons, e]
    omega
theorem strCell_inj {a b : ByteArray} (h : strCell a = strCell b) : a = b := by
  simp only [strCell, List.cons.injEq, Value.string.injEq, and_true] at h; exact h
/-- A list of texts. -/
theorem strs_in {H : AH} {f : Nat} {cs : List Value} {d : DataW K} (h : RD Try.prog H f 22 cs d) : ∃ u, ∃ L : List ByteArray, cs = [u] ∧ Sl H u 1 (L.map strCell) ∧ sizes L + L.length < Rows.uptoBulk d := by
  obtain ⟨u, L, ds, h1, h2, h3, h4, h5⟩ := list_in (enc := strCell) (fun s y => y = .lit (.string s.data.toList)) Try.underlying22 cells_9 (fun f x y hf => str_in hf) h
  refine ⟨u, L, h1, h2, ?_⟩
  rw [← bulk_strs h3 fun i a y ha hy => by
    obtain ⟨a', e, hr⟩ := h4 i a y ha hy rfl
    rw [← strCell_inj e]; exact hr]
  exact h5
theorem sizes_mem {L : List ByteArray} {x : ByteArray} (h : x ∈ L) : x.size ≤ sizes L := by
  induction L with
  | nil => cases h
  | cons a L ih =>
    simp only [sizes, List.map_cons, List.sum_cons] at ih ⊢
    rcases List.mem_cons.1 h with rfl | h
    · omega
    · have := ih h; omega
theorem four {c : List Value} (h : c.length = 4) : ∃ a b x y, c = [a, b, x, y] := by
  match c, h with
  | [a, b, x, y], _ => exact ⟨a, b, x, y, rfl⟩
theorem five {c : List Value} (h : c.length = 5) : ∃ a b x y z, c = [a, b, x, y, z] := by
  match c, h with
  | [a, b, x, y, z], _ => exact ⟨a, b, x, y, z, rfl⟩
theorem two {c : List Value} (h : c.length = 2) : ∃ a b, c = [a, b] := by
  match c, h with
  | [a, b], _ => exact ⟨a, b, rfl⟩
theorem get_some {ds : List (DataW K)} {n i : Nat} (h : ds.length = n) (hi : i < n) : ∃ x, ds[i]? = some x := ⟨ds[i]'(by omega), List.getElem?_eq_getElem (by omega)⟩
theorem arc_in {H : AH} {f : Nat} {x : List Value} {y : DataW K} (h : RD Try.prog H f 33 x y) : ∃ a : ArcD, x = a.cells ∧ True := by
  · obtain ⟨f', ds, rfl, h1, h2, h3⟩ := RD.struct Try.underlying33 h
    rw [cells_33] at h1
    obtain ⟨a, b, c, d, e, rfl⟩ := five h1
    have h2' : ds.length = 5 := h2
    obtain ⟨d0, e0⟩ := get_some h2' (i := 0) (by omega)
    obtain ⟨d1, e1⟩ := get_some h2' (i := 1) (by omega)
    obtain ⟨d2, e2⟩ := get_some h2' (i := 2) (by omega)
    obtain ⟨d3, e3⟩ := get_some h2' (i := 3) (by omega)
    obtain ⟨d4, e4⟩ := get_some h2' (i := 4) (by omega)
    have g0 := h3 0 _ _ rfl e0
    have g1 := h3 1 _ _ rfl e1
    have g2 := h3 2 _ _ rfl e2
    have g3 := h3 3 _ _ rfl e3
    have g4 := h3 4 _ _ rfl e4
    simp only [cells_3, cells_9, List.drop_zero, List.drop_succ_cons, List.take_succ_cons, List.take_zero, List.getElem_toArray, List.getElem_cons_zero, List.getElem_cons_succ] at g0 g1 g2 g3 g4
    obtain ⟨n0, q0, _⟩ := int_in g0
    obtain ⟨s1, q1, _⟩ := str_in g1
    obtain ⟨s2, q2, _⟩ := str_in g2
    obtain ⟨n3, q3, _⟩ := int_in g3
    obtain ⟨n4, q4, _⟩ := int_in g4
    simp only [strCell, List.cons.injEq, and_true] at q0 q1 q2 q3 q4
    subst q0 q1 q2 q3 q4
    exact ⟨⟨n0, s1, s2, n3, n4⟩, rfl, trivial⟩
theorem end_in {H : AH} {f : Nat} {x : List Value} {y : DataW K} (h : RD Try.prog H f 35 x y) : ∃ a : EndD, x = a.cells ∧ True := by
  · obtain ⟨f', ds, rfl, h1, h2, h3⟩ := RD.struct Try.underlying35 h
    rw [cells_35] at h1
    obtain ⟨a, b, rfl⟩ := two h1
    have h2' : ds.length = 2 := h2
    obtain ⟨d0, e0⟩ := get_some h2' (i := 0) (by omega)
    obtain ⟨d1, e1⟩ := get_some h2' (i := 1) (by omega)
    have g0 := h3 0 _ _ rfl e0
    have g1 := h3 1 _ _ rfl e1
    simp only [cells_3, List.drop_zero, List.drop_succ_cons, List.take_succ_cons, List.take_zero, List.getElem_toArray, List.getElem_cons_zero, List.getElem_cons_succ] at g0 g1
    obtain ⟨n0, q0, _⟩ := int_in g0
    obtain ⟨n1, q1, _⟩ := int_in g1
    simp only [List.cons.injEq, and_true] at q0 q1
    subst q0 q1
    exact ⟨⟨n0, n1⟩, rfl, trivial⟩
theorem agg_of {v : Value} {a b : Value} {l : List Value} (h : vcells v = a :: b :: l) : v = .agg (a :: b :: l).toArray := by
  cases v <;> simp only [vcells] at h <;> try (cases h; done)
  rw [← h]
/-- A net. -/
theorem net_in {H : AH} {f : Nat} {v : Value} {d : DataW K} (h : RD Try.prog H f 26 (vcells v) d) (hb : Rows.uptoBulk d ≤ 1048576) : ∃ N : NetD, Nonempty (NetAt H v N) ∧ NetSmall N ∧ sizes N.sigma ≤ 1048576 := by
  · obtain ⟨f', ds, rfl, h1, h2, h3⟩ := RD.struct Try.underlying26 h
    rw [cells_26] at h1
    obtain ⟨a, b, c, e, hv⟩ := four h1
    rw [hv] at h3
    have h2' : ds.length = 4 := h2
    obtain ⟨d0, e0⟩ := get_some h2' (i := 0) (by omega)
    obtain ⟨d1, e1⟩ := get_some h2' (i := 1) (by omega)
    obtain ⟨d2, e2⟩ := get_some h2' (i := 2) (by omega)
    obtain ⟨d3, e3⟩ := get_some h2' (i := 3) (by omega)
    have g0 := h3 0 _ _ rfl e0
    have g1 := h3 1 _ _ rfl e1
    have g2 := h3 2 _ _ rfl e2
    have g3 := h3 3 _ _ rfl e3
    simp only [cells_3, cells_22, cells_23, cells_24, List.drop_zero, List.drop_succ_cons, List.take_succ_cons, List.take_zero, List.getElem_toArray, List.getElem_cons_zero, List.getElem_cons_succ] at g0 g1 g2 g3
    obtain ⟨u0, L0, q0, s0, b0⟩ := strs_in g0
    obtain ⟨n1, q1, _⟩ := int_in g1
    obtain ⟨u2, L2, ds2, q2, s2, k2, _, b2⟩ := list_in (enc := ArcD.cells) (fun _ _ => True) Try.underlying23 cells_33 (fun f x y hf => arc_in hf) g2
    obtain ⟨u3, L3, ds3, q3, s3, k3, _, b3⟩ := list_in (enc := EndD.cells) (fun _ _ => True) Try.underlying24 cells_35 (fun f x y hf => end_in hf) g3
    simp only [List.cons.injEq, and_true] at q0 q1 q2 q3
    subst q0 q1 q2 q3
    have m0 := bulk_mem (List.mem_of_getElem? e0)
    have m2 := bulk_mem (List.mem_of_getElem? e2)
    have m3 := bulk_mem (List.mem_of_getElem? e3)
    have l2 := bulk_len ds2
    have l3 := bulk_len ds3
    simp only [Rows.uptoBulk] at hb
    refine ⟨⟨L0, n1, L2, L3⟩, ⟨⟨a, c, e, agg_of hv, s0, s2, s3⟩⟩, ⟨?_, ?_, ?_, fun x hx => ?_⟩, ?_⟩
    · show L0.length ≤ _; omega
    · show L2.length ≤ _; omega
    · show L3.length ≤ _; omega
    · have := sizes_mem hx; show x.size ≤ _; have h' : x.size ≤ sizes L0 := this; omega
    · show sizes L0 ≤ _; omega
end
end Go.Proofs.Ytbnpoiibehkjpaa
/- Which weighted relations there are, for all nets. -/
set_option maxHeartbeats 4000000
set_option linter.unusedSimpArgs false
set_option linter.unusedVariables false
set_option pp.deepTerms.threshold 8
namespace Go.Proofs.Ytbnpoiibehkjpaa
open Go Go.Proofs Go.Proofs.Sh
theorem knownCall {H : AH} : Sh.Call Try.prog (knows 7) 7 [] H (fun r H' => H' = H ∧ r = .bool true) := ⟨_, _, ⟨0, rfl⟩, rfl, rfl⟩
theorem costValidates {H : AH} {v : Value} {N : NetD} (h : NetAt H v N) (hsm : NetSmall N) (hsz : sizes N.sigma ≤ 1048576) (hw : Wf H) :
    Sh.Call Try.prog (knows 7) 3 [v] H (fun r _ => r = .bool true) := by
  refine call_of rfl Try.func3 rfl (Nat.le_of_ble_eq_true rfl) ?_
  have hres : Try.f3.results.toList = [.tmp 2] := rfl
  obtain ⟨sg, ar, en, rfl, hsg, har, hen⟩ := h
  have hb1 := NetBox.of (N := N) hw hsg har hen
  have hk1 : Kept H (H.new 4 [sg, .int .i64 N.states, ar, en]).2 := Kept.new hw 4 _
  simp only [↓Sh.stepDn, Sh.stepUp, seatFacts, exitTo, calm, isEff, Nat.reduceBEq, evs, evps, evo, isConst, reduceCtorEq, Nat.reduceEqDiff, resultsA, Sh.one, Sh.unit, forall_const, implies_true, eq_self, ne_eq, if_true, if_false, beq_self_eq_true, cond_true, cond_false, List.all_cons, List.all_nil, List.getElem?_cons_zero, List.getElem?_cons_succ, List.nil_append, List.append_nil, Option.bind_some, Option.map_some, Option.some.injEq, exists_eq_left', exists_eq', exists_eq, Prod.mk.injEq, exists_and_left, netNew hsg.isCell har.isCell hen.isCell]
  generalize H.next = gg at hb1 ⊢
  generalize (H.new 4 [sg, .int .i64 N.states, ar, en]).2 = H1 at hb1 hk1 ⊢
  obtain ⟨r, H2, hd, hk2, rfl⟩ := isOver hb1.netAt hsm hsz hk1.wf
  have hb2 := hb1.kept hk1.wf hk2
  have hvq : veq (.agg #[sg, .int .i64 N.states, ar, en]) (.agg #[sg, .int .i64 N.states, ar, en]) = true := veq_agg (by simp only [veqs_cons, veqs_nil, veq_int, hsg.veq, har.veq, hen.veq, Bool.and_self])
  refine wp_early (fl := [(0, false), (1, true), (2, true), (3, false), (5, false), (4, false), (6, true), (7, true), (8, true), (9, true), (10, true), (11, true), (12, true)]) (by kernel_rfl) (by kernel_rfl) hk1.wf ?_
  simp only [↓Sh.stepDn, Sh.stepUp, seatFacts, exitTo, calm, isEff, Nat.reduceBEq, evs, evps, evo, isConst, reduceCtorEq, Nat.reduceEqDiff, resultsA, Sh.one, Sh.unit, forall_const, implies_true, eq_self, ne_eq, if_true, if_false, beq_self_eq_true, cond_true, cond_false, List.all_cons, List.all_nil, List.getElem?_cons_zero, List.getElem?_cons_succ, List.nil_append, List.append_nil, Option.bind_some, Option.map_some, Option.some.injEq, exists_eq_left', exists_eq', exists_eq, Prod.mk.injEq, exists_and_left, wpg, Still, isEff, isMake, isRead, veq_ptr, veq_int, veq_str, veq_bool, veq_undef, forall_eq, forall_eq', hb1.c0, hb1.c1, hb1.c2, hb1.c3, hb1.ca, netLenS hb1, netLenA hb1, netLenE hb1, hvq]
  refine ⟨_, _, hd, hk2.wf, ?_⟩
  cases ho : decide (262144 < netSize N) with
  | true =>
    obtain ⟨r, H3, hd3, rfl, rfl⟩ := knownCall (H := H2)
    simp only [↓Sh.stepDn, Sh.stepUp, seatFacts, exitTo, calm, isEff, Nat.reduceBEq, evs, evps, evo, isConst, reduceCtorEq, Nat.reduceEqDiff, resultsA, Sh.one, Sh.unit, forall_const, implies_true, eq_self, ne_eq, if_true, if_false, beq_self_eq_true, cond_true, cond_false, List.all_cons, List.all_nil, List.getElem?_cons_zero, List.getElem?_cons_succ, List.nil_append, List.append_nil, Option.bind_some, Option.map_some, Option.some.injEq, exists_eq_left', exists_eq', exists_eq, Prod.mk.injEq, exists_and_left, wpg, Still, isEff, isMake, isRead, veq_ptr, veq_int, veq_str, veq_bool, veq_undef, forall_eq, forall_eq', hk2.wf, HGrow.refl]
    refine ⟨_, _, hd3, hk2.wf, ?_⟩
    simp only [↓Sh.stepDn, Sh.stepUp, seatFacts, exitTo, calm, isEff, Nat.reduceBEq, evs, evps, evo, isConst, reduceCtorEq, Nat.reduceEqDiff, resultsA, Sh.one, Sh.unit, forall_const, implies_true, eq_self, ne_eq, if_true, if_false, beq_self_eq_true, cond_true, cond_false, List.all_cons, List.all_nil, List.getElem?_cons_zero, List.getElem?_cons_succ, List.nil_append, List.append_nil, Option.bind_some, Option.map_some, Option.some.injEq, exists_eq_left', exists_eq', exists_eq, Prod.mk.injEq, exists_and_left, wpg, Still, isEff, isMake, isRead, veq_ptr, veq_int, veq_str, veq_bool, veq_undef, forall_eq, forall_eq', hres]
  | false =>
    obtain ⟨r1, K1, hd1, hq1, rfl⟩ := costValidate hb2.netAt hsm hk2.wf
    have hb3 := hb2.kept hk2.wf hq1
    obtain ⟨r2, K2, hd2, hq2, rfl⟩ := refCostValidate hb3.netAt hsm hq1.wf
    obtain ⟨r3, K3, hd3, rfl, rfl⟩ := knownCall (H := K2)
    simp only [↓Sh.stepDn, Sh.stepUp, seatFacts, exitTo, calm, isEff, Nat.reduceBEq, evs, evps, evo, isConst, reduceCtorEq, Nat.reduceEqDiff, resultsA, Sh.one, Sh.unit, forall_const, implies_true, eq_self, ne_eq, if_true, if_false, beq_self_eq_true, cond_true, cond_false, List.all_cons, List.all_nil, List.getElem?_cons_zero, List.getElem?_cons_succ, List.nil_append, List.append_nil, Option.bind_some, Option.map_some, Option.some.injEq, exists_eq_left', exists_eq', exists_eq, Prod.mk.injEq, exists_and_left, wpg, Still, isEff, isMake, isRead, veq_ptr, veq_int, veq_str, veq_bool, veq_undef, forall_eq, forall_eq', hb2.c0, hb2.c1, hb2.c2, hb2.c3, hb2.ca, netLenS hb2, netLenA hb2, netLenE hb2, hvq]
    refine ⟨_, _, hd1, hq1.wf, hq1.grow hk2.wf, ?_⟩
    refine ⟨_, _, hd2, hq2.wf, ?_⟩
    simp only [↓Sh.stepDn, Sh.stepUp, seatFacts, exitTo, calm, isEff, Nat.reduceBEq, evs, evps, evo, isConst, reduceCtorEq, Nat.reduceEqDiff, resultsA, Sh.one, Sh.unit, forall_const, implies_true, eq_self, ne_eq, if_true, if_false, beq_self_eq_true, cond_true, cond_false, List.all_cons, List.all_nil, List.getElem?_cons_zero, List.getElem?_cons_succ, List.nil_append, List.append_nil, Option.bind_some, Option.map_some, Option.some.injEq, exists_eq_left', exists_eq', exists_eq, Prod.mk.injEq, exists_and_left, wpg, Still, isEff, isMake, isRead, veq_ptr, veq_int, veq_str, veq_bool, veq_undef, forall_eq, forall_eq', decide_true]
    refine ⟨_, _, hd3, hq2.wf, ?_⟩
    simp only [↓Sh.stepDn, Sh.stepUp, seatFacts, exitTo, calm, isEff, Nat.reduceBEq, evs, evps, evo, isConst, reduceCtorEq, Nat.reduceEqDiff, resultsA, Sh.one, Sh.unit, forall_const, implies_true, eq_self, ne_eq, if_true, if_false, beq_self_eq_true, cond_true, cond_false, List.all_cons, List.all_nil, List.getElem?_cons_zero, List.getElem?_cons_succ, List.nil_append, List.append_nil, Option.bind_some, Option.map_some, Option.some.injEq, exists_eq_left', exists_eq', exists_eq, Prod.mk.injEq, exists_and_left, wpg, Still, isEff, isMake, isRead, veq_ptr, veq_int, veq_str, veq_bool, veq_undef, forall_eq, forall_eq', hres]
theorem lawMain {H : AH} {avs : List Value} {K : Type} {ds : List (DataW K)} (hb : Rows.uptoBulkAll ds ≤ 1048576) (hw : Wf H) (hr : RDs Try.prog H [26] avs ds) :
    Sh.Call Try.prog (knows 7) 3 avs H (fun r _ => r = .bool true) := by
  obtain ⟨v, vs, d, ds, rfl, rfl, ⟨f, h1⟩, h2⟩ := hr.cons_inv
  obtain ⟨rfl, rfl⟩ := h2.nil_inv
  simp only [Rows.uptoBulkAll, Nat.add_zero] at hb
  obtain ⟨N, ⟨hn⟩, hsm, hsz⟩ := net_in h1 hb
  exact costValidates hn hsm hsz hw
end Go.Proofs.Ytbnpoiibehkjpaa
