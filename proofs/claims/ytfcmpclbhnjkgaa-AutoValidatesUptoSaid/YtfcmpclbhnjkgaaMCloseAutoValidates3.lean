/- A part of the proof: IndexFuncArc, Priced, AutoValidate, CloneStr, CloneArc, CloneEnd, AutoCopy, SameNet, IsOver, DataIn, LawAutoValidates. -/
import Derived.Test.YtfcmpclbhnjkgaaMCloseAutoValidates2
import Derived.Test.YtfcmpclbhnjkgaaRows
import Derived.Test.YtfcmpclbhnjkgaaMCloseAutoValidates1
import Derived.ProofKit
set_option linter.unusedVariables false
set_option linter.unusedSimpArgs false
/- slices.IndexFunc and ContainsFunc: whether some element is so. -/
set_option maxHeartbeats 4000000
set_option linter.unusedSimpArgs false
set_option linter.unusedVariables false
set_option pp.deepTerms.threshold 8
namespace Go.Proofs.Ytfcmpclbhnjkgaa
open Go Go.Proofs Go.Proofs.Sh
theorem indexFuncArc {H : AH} {v : Value} {l : List ArcD} {fid : Nat} {caps : List Value} (p : ArcD → Bool) (hs : Sl H v 5 (l.map ArcD.cells)) (hl : l.length ≤ 1048576) (hw : Wf H)
    (hp : ∀ H', Kept H H' → ∀ x ∈ l, Sh.Call Try.prog (knows 6) fid ((fun a => Value.agg a.cells.toArray) x :: caps) H' (fun r H'' => Kept H' H'' ∧ r = .bool (p x))) :
    Sh.Call Try.prog (knows 6) 37 [v, .func (.func fid) #[] caps.toArray] H (fun r H' => Kept H H' ∧ ∃ k : Int, r = .int .i64 k ∧ decide (0 ≤ k) = l.any p) := by
  refine call_of rfl Try.func37 rfl (Nat.le_of_ble_eq_true rfl) ?_
  have hres : Try.f37.results.toList = [.tmp 4] := rfl
  have hlen := hs.len Try.underlying23 H
  simp only [↓Sh.stepDn, Sh.stepUp, seatFacts, exitTo, calm, isEff, Nat.reduceBEq, evs, evps, evo, isConst, reduceCtorEq, Nat.reduceEqDiff, resultsA, Sh.one, Sh.unit, forall_const, implies_true, eq_self, ne_eq, if_true, if_false, beq_self_eq_true, cond_true, cond_false, List.all_cons, List.all_nil, List.getElem?_cons_zero, List.getElem?_cons_succ, List.nil_append, List.append_nil, Option.bind_some, Option.map_some, Option.some.injEq, exists_eq_left', exists_eq', exists_eq, Prod.mk.injEq, exists_and_left, hlen, List.length_map]
  refine wp_for l.length 8 [5, 8, 9, 10, 11, 12, 13, 14, 15, 16, 18] (fun i F H' => Kept H H' ∧ (l.take i).any p = false) (by simp only [↓Sh.stepDn, Sh.stepUp, seatFacts, exitTo, calm, isEff, Nat.reduceBEq, evs, evps, evo, isConst, reduceCtorEq, Nat.reduceEqDiff, resultsA, Sh.one, Sh.unit, forall_const, implies_true, eq_self, ne_eq, if_true, if_false, beq_self_eq_true, cond_true, cond_false, List.all_cons, List.all_nil, List.getElem?_cons_zero, List.getElem?_cons_succ, List.nil_append, List.append_nil, Option.bind_some, Option.map_some, Option.some.injEq, exists_eq_left', exists_eq', exists_eq, Prod.mk.injEq, exists_and_left]) ⟨Kept.refl hw, rfl⟩ ?_ ?_
  · rintro i F H' hlt hF f8 ⟨hk, hall⟩ k
    have hs1 := hs.grow (hk.grow hw)
    obtain ⟨g, o, kk, hia, hc, hcc⟩ := hs1.at Try.underlying23 size_43 (i := i) (x := ArcD.cells l[i]) (by simp [hlt]) .i64
    have hld := hc
    have f0 := hF 0 rfl
    have f1 := hF 1 rfl
    have f7 := hF 7 rfl
    simp only [↓Sh.stepDn, Sh.stepUp, seatFacts, exitTo, calm, isEff, Nat.reduceBEq, evs, evps, evo, isConst, reduceCtorEq, Nat.reduceEqDiff, resultsA, Sh.one, Sh.unit, forall_const, implies_true, eq_self, ne_eq, if_true, if_false, beq_self_eq_true, cond_true, cond_false, List.all_cons, List.all_nil, List.getElem?_cons_zero, List.getElem?_cons_succ, List.nil_append, List.append_nil, Option.bind_some, Option.map_some, Option.some.injEq, exists_eq_left', exists_eq', exists_eq, Prod.mk.injEq, exists_and_left] at f0 f1 f7
    obtain ⟨r, H2, hd, hk2, rfl⟩ := hp H' hk l[i] (List.getElem_mem hlt)
    simp only [↓Sh.stepDn, Sh.stepUp, seatFacts, exitTo, calm, isEff, Nat.reduceBEq, evs, evps, evo, isConst, reduceCtorEq, Nat.reduceEqDiff, resultsA, Sh.one, Sh.unit, forall_const, implies_true, eq_self, ne_eq, if_true, if_false, beq_self_eq_true, cond_true, cond_false, List.all_cons, List.all_nil, List.getElem?_cons_zero, List.getElem?_cons_succ, List.nil_append, List.append_nil, Option.bind_some, Option.map_some, Option.some.injEq, exists_eq_left', exists_eq', exists_eq, Prod.mk.injEq, exists_and_left, f0, f1, f7, f8, nat_lt, hlt, decide_true, hia, hld, Option.map_some, forall_const, reduceCtorEq, false_implies, and_true, true_and]
    refine ⟨_, _, hd, ?_⟩
    cases hpv : p l[i] with
    | true =>
      simp only [↓Sh.stepDn, Sh.stepUp, seatFacts, exitTo, calm, isEff, Nat.reduceBEq, evs, evps, evo, isConst, reduceCtorEq, Nat.reduceEqDiff, resultsA, Sh.one, Sh.unit, forall_const, implies_true, eq_self, ne_eq, if_true, if_false, beq_self_eq_true, cond_true, cond_false, List.all_cons, List.all_nil, List.getElem?_cons_zero, List.getElem?_cons_succ, List.nil_append, List.append_nil, Option.bind_some, Option.map_some, Option.some.injEq, exists_eq_left', exists_eq', exists_eq, Prod.mk.injEq, exists_and_left, hres, forall_const, reduceCtorEq, false_implies, and_true, true_and]
      refine ⟨hk.trans hk2, _, rfl, ?_⟩
      rw [List.any_eq_true.2 ⟨_, List.getElem_mem hlt, hpv⟩]
      simp
    | false =>
      simp only [↓Sh.stepDn, Sh.stepUp, seatFacts, exitTo, calm, isEff, Nat.reduceBEq, evs, evps, evo, isConst, reduceCtorEq, Nat.reduceEqDiff, resultsA, Sh.one, Sh.unit, forall_const, implies_true, eq_self, ne_eq, if_true, if_false, beq_self_eq_true, cond_true, cond_false, List.all_cons, List.all_nil, List.getElem?_cons_zero, List.getElem?_cons_succ, List.nil_append, List.append_nil, Option.bind_some, Option.map_some, Option.some.injEq, exists_eq_left', exists_eq', exists_eq, Prod.mk.injEq, exists_and_left, hres, f8, wrap_succ hlt hl, forall_const, reduceCtorEq, false_implies, and_true, true_and]
      refine k _ _ (by repeat (first | refine Same.put ?_ rfl | exact Same.rfl' _)) (by simp only [↓Sh.stepDn, Sh.stepUp, seatFacts, exitTo, calm, isEff, Nat.reduceBEq, evs, evps, evo, isConst, reduceCtorEq, Nat.reduceEqDiff, resultsA, Sh.one, Sh.unit, forall_const, implies_true, eq_self, ne_eq, if_true, if_false, beq_self_eq_true, cond_true, cond_false, List.all_cons, List.all_nil, List.getElem?_cons_zero, List.getElem?_cons_succ, List.nil_append, List.append_nil, Option.bind_some, Option.map_some, Option.some.injEq, exists_eq_left', exists_eq', exists_eq, Prod.mk.injEq, exists_and_left]) ⟨hk.trans hk2, ?_⟩
      rw [List.take_add_one, List.getElem?_eq_getElem hlt]
      simp only [Option.toList, List.any_append, hall, List.any_cons, List.any_nil, hpv, Bool.or_false]
  · rintro F H' hF f8 ⟨hk, hall⟩
    have f7 := hF 7 rfl
    simp only [↓Sh.stepDn, Sh.stepUp, seatFacts, exitTo, calm, isEff, Nat.reduceBEq, evs, evps, evo, isConst, reduceCtorEq, Nat.reduceEqDiff, resultsA, Sh.one, Sh.unit, forall_const, implies_true, eq_self, ne_eq, if_true, if_false, beq_self_eq_true, cond_true, cond_false, List.all_cons, List.all_nil, List.getElem?_cons_zero, List.getElem?_cons_succ, List.nil_append, List.append_nil, Option.bind_some, Option.map_some, Option.some.injEq, exists_eq_left', exists_eq', exists_eq, Prod.mk.injEq, exists_and_left] at f7
    rw [List.take_length] at hall
    simp only [↓Sh.stepDn, Sh.stepUp, seatFacts, exitTo, calm, isEff, Nat.reduceBEq, evs, evps, evo, isConst, reduceCtorEq, Nat.reduceEqDiff, resultsA, Sh.one, Sh.unit, forall_const, implies_true, eq_self, ne_eq, if_true, if_false, beq_self_eq_true, cond_true, cond_false, List.all_cons, List.all_nil, List.getElem?_cons_zero, List.getElem?_cons_succ, List.nil_append, List.append_nil, Option.bind_some, Option.map_some, Option.some.injEq, exists_eq_left', exists_eq', exists_eq, Prod.mk.injEq, exists_and_left, f7, f8, nat_lt, Nat.lt_irrefl, decide_false, hres, forall_const, reduceCtorEq, false_implies, and_true, true_and]
    exact ⟨hk, _, rfl, by rw [hall]; rfl⟩
theorem containsFuncArc {H : AH} {v : Value} {l : List ArcD} {fid : Nat} {caps : List Value} (p : ArcD → Bool) (hs : Sl H v 5 (l.map ArcD.cells)) (hl : l.length ≤ 1048576) (hw : Wf H)
    (hp : ∀ H', Kept H H' → ∀ x ∈ l, Sh.Call Try.prog (knows 6) fid ((fun a => Value.agg a.cells.toArray) x :: caps) H' (fun r H'' => Kept H' H'' ∧ r = .bool (p x))) :
    Sh.Call Try.prog (knows 6) 19 [v, .func (.func fid) #[] caps.toArray] H (fun r H' => Kept H H' ∧ r = .bool (l.any p)) := by
  refine call_of rfl Try.func19 rfl (Nat.le_of_ble_eq_true rfl) ?_
  have hres : Try.f19.results.toList = [.tmp 4] := rfl
  obtain ⟨r, H2, hd, hk, k, rfl, hk0⟩ := indexFuncArc p hs hl hw hp
  simp only [↓Sh.stepDn, Sh.stepUp, seatFacts, exitTo, calm, isEff, Nat.reduceBEq, evs, evps, evo, isConst, reduceCtorEq, Nat.reduceEqDiff, resultsA, Sh.one, Sh.unit, forall_const, implies_true, eq_self, ne_eq, if_true, if_false, beq_self_eq_true, cond_true, cond_false, List.all_cons, List.all_nil, List.getElem?_cons_zero, List.getElem?_cons_succ, List.nil_append, List.append_nil, Option.bind_some, Option.map_some, Option.some.injEq, exists_eq_left', exists_eq', exists_eq, Prod.mk.injEq, exists_and_left]
  refine ⟨_, _, hd, ?_⟩
  simp only [↓Sh.stepDn, Sh.stepUp, seatFacts, exitTo, calm, isEff, Nat.reduceBEq, evs, evps, evo, isConst, reduceCtorEq, Nat.reduceEqDiff, resultsA, Sh.one, Sh.unit, forall_const, implies_true, eq_self, ne_eq, if_true, if_false, beq_self_eq_true, cond_true, cond_false, List.all_cons, List.all_nil, List.getElem?_cons_zero, List.getElem?_cons_succ, List.nil_append, List.append_nil, Option.bind_some, Option.map_some, Option.some.injEq, exists_eq_left', exists_eq', exists_eq, Prod.mk.injEq, exists_and_left, hres, hk0, and_true]
  exact hk
end Go.Proofs.Ytfcmpclbhnjkgaa
/- Whether a net has a cost out of bounds. -/
set_option maxHeartbeats 4000000
set_option linter.unusedSimpArgs false
set_option linter.unusedVariables false
set_option pp.deepTerms.threshold 8
namespace Go.Proofs.Ytfcmpclbhnjkgaa
open Go Go.Proofs Go.Proofs.Sh
def pricedB (N : NetD) (m : Int) : Bool := N.arcs.any (fun a => decide (a.cost < 0) || decide (m < a.cost)) || N.ends.any (fun a => decide (a.cost < 0) || decide (m < a.cost))
theorem priced {H : AH} {v : Value} {N : NetD} {m : Int} (h : NetAt H v N) (hsm : NetSmall N) (hw : Wf H) :
    Sh.Call Try.prog (knows 6) 20 [v, .int .i64 m] H (fun r H' => Kept H H' ∧ r = .bool (pricedB N m)) := by
  refine call_of rfl Try.func20 rfl (Nat.le_of_ble_eq_true rfl) ?_
  have hres : Try.f20.results.toList = [.tmp 4] := rfl
  obtain ⟨sg, ar, en, rfl, hsg, har, hen⟩ := h
  have hb1 := NetBox.of (N := N) hw hsg har hen
  have hk1 : Kept H (H.new 4 [sg, .int .i64 N.states, ar, en]).2 := Kept.new hw 4 _
  simp only [↓Sh.stepDn, Sh.stepUp, seatFacts, exitTo, calm, isEff, Nat.reduceBEq, evs, evps, evo, isConst, reduceCtorEq, Nat.reduceEqDiff, resultsA, Sh.one, Sh.unit, forall_const, implies_true, eq_self, ne_eq, if_true, if_false, beq_self_eq_true, cond_true, cond_false, List.all_cons, List.all_nil, List.getElem?_cons_zero, List.getElem?_cons_succ, List.nil_append, List.append_nil, Option.bind_some, Option.map_some, Option.some.injEq, exists_eq_left', exists_eq', exists_eq, Prod.mk.injEq, exists_and_left, netNew hsg.isCell har.isCell hen.isCell]
  generalize H.next = gg at hb1 ⊢
  generalize (H.new 4 [sg, .int .i64 N.states, ar, en]).2 = H1 at hb1 hk1 ⊢
  simp only [↓Sh.stepDn, Sh.stepUp, seatFacts, exitTo, calm, isEff, Nat.reduceBEq, evs, evps, evo, isConst, reduceCtorEq, Nat.reduceEqDiff, resultsA, Sh.one, Sh.unit, forall_const, implies_true, eq_self, ne_eq, if_true, if_false, beq_self_eq_true, cond_true, cond_false, List.all_cons, List.all_nil, List.getElem?_cons_zero, List.getElem?_cons_succ, List.nil_append, List.append_nil, Option.bind_some, Option.map_some, Option.some.injEq, exists_eq_left', exists_eq', exists_eq, Prod.mk.injEq, exists_and_left, hb1.c0, hb1.c1, hb1.c2, hb1.c3, hb1.ca, netLenS hb1, netLenA hb1, netLenE hb1]
  refine wp_for N.arcs.length 12 (List.range' 12 14 ++ [4, 6]) (fun i F H' => Kept H1 H' ∧ (N.arcs.take i).any (fun a => decide (a.cost < 0) || decide (m < a.cost)) = false) (by simp only [↓Sh.stepDn, Sh.stepUp, seatFacts, exitTo, calm, isEff, Nat.reduceBEq, evs, evps, evo, isConst, reduceCtorEq, Nat.reduceEqDiff, resultsA, Sh.one, Sh.unit, forall_const, implies_true, eq_self, ne_eq, if_true, if_false, beq_self_eq_true, cond_true, cond_false, List.all_cons, List.all_nil, List.getElem?_cons_zero, List.getElem?_cons_succ, List.nil_append, List.append_nil, Option.bind_some, Option.map_some, Option.some.injEq, exists_eq_left', exists_eq', exists_eq, Prod.mk.injEq, exists_and_left]) ⟨Kept.refl hk1.wf, rfl⟩ ?_ ?_
  · rintro i F H' hlt hF f12 ⟨hk, hall⟩ k
    have f1 := hF 1 rfl
    have f10 := hF 10 rfl
    have f11 := hF 11 rfl
    simp only [↓Sh.stepDn, Sh.stepUp, seatFacts, exitTo, calm, isEff, Nat.reduceBEq, evs, evps, evo, isConst, reduceCtorEq, Nat.reduceEqDiff, resultsA, Sh.one, Sh.unit, forall_const, implies_true, eq_self, ne_eq, if_true, if_false, beq_self_eq_true, cond_true, cond_false, List.all_cons, List.all_nil, List.getElem?_cons_zero, List.getElem?_cons_succ, List.nil_append, List.append_nil, Option.bind_some, Option.map_some, Option.some.injEq, exists_eq_left', exists_eq', exists_eq, Prod.mk.injEq, exists_and_left] at f1 f10 f11
    have hb' := hb1.kept hk1.wf hk
    have hb3 := hb'.new hk.wf 5 (N.arcs[i].cells)
    have hk3 := hk.news 5 (N.arcs[i].cells)
    obtain ⟨g, o, kk, hia, hc, hcc⟩ := hb'.har.at Try.underlying23 size_43 (i := i) (x := N.arcs[i].cells) (by simp [hlt]) .i64
    clear hcc
    have hbad : (decide (N.arcs[i].cost < 0) || decide (m < N.arcs[i].cost)) = true → pricedB N m = true := fun h => by
      rw [pricedB, List.any_eq_true.2 ⟨_, List.getElem_mem hlt, h⟩]; rfl
    simp only [↓Sh.stepDn, Sh.stepUp, seatFacts, exitTo, calm, isEff, Nat.reduceBEq, evs, evps, evo, isConst, reduceCtorEq, Nat.reduceEqDiff, resultsA, Sh.one, Sh.unit, forall_const, implies_true, eq_self, ne_eq, if_true, if_false, beq_self_eq_true, cond_true, cond_false, List.all_cons, List.all_nil, List.getElem?_cons_zero, List.getElem?_cons_succ, List.nil_append, List.append_nil, Option.bind_some, Option.map_some, Option.some.injEq, exists_eq_left', exists_eq', exists_eq, Prod.mk.injEq, exists_and_left, hb'.c0, hb'.c1, hb'.c2, hb'.c3, hb'.ca, netLenS hb', netLenA hb', netLenE hb', netZero, arcZero, endZero, arcNew, endNew, arcStore, endStore, arcOver, endOver, netOver, arc0, arc1, arc2, arc3, arc4, end0, end1, f1, f10, f11, f12, Option.map_some, nat_lt, hlt, decide_true, hia, hc, hres]
    by_cases h1 : N.arcs[i].cost < 0
    · simp only [↓Sh.stepDn, Sh.stepUp, seatFacts, exitTo, calm, isEff, Nat.reduceBEq, evs, evps, evo, isConst, reduceCtorEq, Nat.reduceEqDiff, resultsA, Sh.one, Sh.unit, forall_const, implies_true, eq_self, ne_eq, if_true, if_false, beq_self_eq_true, cond_true, cond_false, List.all_cons, List.all_nil, List.getElem?_cons_zero, List.getElem?_cons_succ, List.nil_append, List.append_nil, Option.bind_some, Option.map_some, Option.some.injEq, exists_eq_left', exists_eq', exists_eq, Prod.mk.injEq, exists_and_left, h1, decide_true, hres, hbad (by simp [h1]), hk1.trans hk3]
    simp only [↓Sh.stepDn, Sh.stepUp, seatFacts, exitTo, calm, isEff, Nat.reduceBEq, evs, evps, evo, isConst, reduceCtorEq, Nat.reduceEqDiff, resultsA, Sh.one, Sh.unit, forall_const, implies_true, eq_self, ne_eq, if_true, if_false, beq_self_eq_true, cond_true, cond_false, List.all_cons, List.all_nil, List.getElem?_cons_zero, List.getElem?_cons_succ, List.nil_append, List.append_nil, Option.bind_some, Option.map_some, Option.some.injEq, exists_eq_left', exists_eq', exists_eq, Prod.mk.injEq, exists_and_left, netZero, arcZero, endZero, arcNew, endNew, arcStore, endStore, arcOver, endOver, netOver, arc0, arc1, arc2, arc3, arc4, end0, end1, f1, h1, decide_false]
    by_cases h2 : m < N.arcs[i].cost
    · simp only [↓Sh.stepDn, Sh.stepUp, seatFacts, exitTo, calm, isEff, Nat.reduceBEq, evs, evps, evo, isConst, reduceCtorEq, Nat.reduceEqDiff, resultsA, Sh.one, Sh.unit, forall_const, implies_true, eq_self, ne_eq, if_true, if_false, beq_self_eq_true, cond_true, cond_false, List.all_cons, List.all_nil, List.getElem?_cons_zero, List.getElem?_cons_succ, List.nil_append, List.append_nil, Option.bind_some, Option.map_some, Option.some.injEq, exists_eq_left', exists_eq', exists_eq, Prod.mk.injEq, exists_and_left, h2, decide_true, hres, hbad (by simp [h2]), hk1.trans hk3]
    simp only [↓Sh.stepDn, Sh.stepUp, seatFacts, exitTo, calm, isEff, Nat.reduceBEq, evs, evps, evo, isConst, reduceCtorEq, Nat.reduceEqDiff, resultsA, Sh.one, Sh.unit, forall_const, implies_true, eq_self, ne_eq, if_true, if_false, beq_self_eq_true, cond_true, cond_false, List.all_cons, List.all_nil, List.getElem?_cons_zero, List.getElem?_cons_succ, List.nil_append, List.append_nil, Option.bind_some, Option.map_some, Option.some.injEq, exists_eq_left', exists_eq', exists_eq, Prod.mk.injEq, exists_and_left, f12, h2, decide_false, wrap_succ hlt hsm.ar]
    refine k _ _ (by repeat (first | refine Same.put ?_ rfl | exact Same.rfl' _)) (by simp only [↓Sh.stepDn, Sh.stepUp, seatFacts, exitTo, calm, isEff, Nat.reduceBEq, evs, evps, evo, isConst, reduceCtorEq, Nat.reduceEqDiff, resultsA, Sh.one, Sh.unit, forall_const, implies_true, eq_self, ne_eq, if_true, if_false, beq_self_eq_true, cond_true, cond_false, List.all_cons, List.all_nil, List.getElem?_cons_zero, List.getElem?_cons_succ, List.nil_append, List.append_nil, Option.bind_some, Option.map_some, Option.some.injEq, exists_eq_left', exists_eq', exists_eq, Prod.mk.injEq, exists_and_left]) ⟨hk3, ?_⟩
    rw [List.take_add_one, List.getElem?_eq_getElem hlt]
    simp only [Option.toList, List.any_append, hall, List.any_cons, List.any_nil, Bool.or_false, h1, h2, decide_false]
  · rintro F H' hF f12 ⟨hk, hall⟩
    have f2 := hF 2 rfl
    have f11 := hF 11 rfl
    simp only [↓Sh.stepDn, Sh.stepUp, seatFacts, exitTo, calm, isEff, Nat.reduceBEq, evs, evps, evo, isConst, reduceCtorEq, Nat.reduceEqDiff, resultsA, Sh.one, Sh.unit, forall_const, implies_true, eq_self, ne_eq, if_true, if_false, beq_self_eq_true, cond_true, cond_false, List.all_cons, List.all_nil, List.getElem?_cons_zero, List.getElem?_cons_succ, List.nil_append, List.append_nil, Option.bind_some, Option.map_some, Option.some.injEq, exists_eq_left', exists_eq', exists_eq, Prod.mk.injEq, exists_and_left] at f2 f11
    rw [List.take_length] at hall
    have hb' := hb1.kept hk1.wf hk
    simp only [↓Sh.stepDn, Sh.stepUp, seatFacts, exitTo, calm, isEff, Nat.reduceBEq, evs, evps, evo, isConst, reduceCtorEq, Nat.reduceEqDiff, resultsA, Sh.one, Sh.unit, forall_const, implies_true, eq_self, ne_eq, if_true, if_false, beq_self_eq_true, cond_true, cond_false, List.all_cons, List.all_nil, List.getElem?_cons_zero, List.getElem?_cons_succ, List.nil_append, List.append_nil, Option.bind_some, Option.map_some, Option.some.injEq, exists_eq_left', exists_eq', exists_eq, Prod.mk.injEq, exists_and_left, hb'.c0, hb'.c1, hb'.c2, hb'.c3, hb'.ca, netLenS hb', netLenA hb', netLenE hb', f2, f11, f12, nat_lt, Nat.lt_irrefl, decide_false]
    refine wp_for N.ends.length 29 (List.range' 29 14 ++ [4, 8]) (fun i F H'' => Kept H' H'' ∧ (N.ends.take i).any (fun a => decide (a.cost < 0) || decide (m < a.cost)) = false) (by simp only [↓Sh.stepDn, Sh.stepUp, seatFacts, exitTo, calm, isEff, Nat.reduceBEq, evs, evps, evo, isConst, reduceCtorEq, Nat.reduceEqDiff, resultsA, Sh.one, Sh.unit, forall_const, implies_true, eq_self, ne_eq, if_true, if_false, beq_self_eq_true, cond_true, cond_false, List.all_cons, List.all_nil, List.getElem?_cons_zero, List.getElem?_cons_succ, List.nil_append, List.append_nil, Option.bind_some, Option.map_some, Option.some.injEq, exists_eq_left', exists_eq', exists_eq, Prod.mk.injEq, exists_and_left]) ⟨Kept.refl hk.wf, rfl⟩ ?_ ?_
    · rintro i F2 H'' hlt hF2 f29 ⟨hk2', hall2⟩ k
      have g1 := hF2 1 rfl
      have h1' := hF 1 rfl
      have g27 := hF2 27 rfl
      have g28 := hF2 28 rfl
      simp only [↓Sh.stepDn, Sh.stepUp, seatFacts, exitTo, calm, isEff, Nat.reduceBEq, evs, evps, evo, isConst, reduceCtorEq, Nat.reduceEqDiff, resultsA, Sh.one, Sh.unit, forall_const, implies_true, eq_self, ne_eq, if_true, if_false, beq_self_eq_true, cond_true, cond_false, List.all_cons, List.all_nil, List.getElem?_cons_zero, List.getElem?_cons_succ, List.nil_append, List.append_nil, Option.bind_some, Option.map_some, Option.some.injEq, exists_eq_left', exists_eq', exists_eq, Prod.mk.injEq, exists_and_left] at g1 g27 g28 h1'
      have hbx := hb'.kept hk.wf hk2'
      have hb3 := hbx.new hk2'.wf 2 (N.ends[i].cells)
      have hk3 := hk2'.news 2 (N.ends[i].cells)
      have hkk := (hk1.trans hk).trans hk3
      obtain ⟨g, o, kk, hia, hc, hcc⟩ := hbx.hen.at Try.underlying24 size_45 (i := i) (x := N.ends[i].cells) (by simp [hlt]) .i64
      clear hcc
      have hbad : (decide (N.ends[i].cost < 0) || decide (m < N.ends[i].cost)) = true → pricedB N m = true := fun h => by
        rw [pricedB, List.any_eq_true.2 ⟨_, List.getElem_mem hlt, h⟩, Bool.or_true]
      simp only [↓Sh.stepDn, Sh.stepUp, seatFacts, exitTo, calm, isEff, Nat.reduceBEq, evs, evps, evo, isConst, reduceCtorEq, Nat.reduceEqDiff, resultsA, Sh.one, Sh.unit, forall_const, implies_true, eq_self, ne_eq, if_true, if_false, beq_self_eq_true, cond_true, cond_false, List.all_cons, List.all_nil, List.getElem?_cons_zero, List.getElem?_cons_succ, List.nil_append, List.append_nil, Option.bind_some, Option.map_some, Option.some.injEq, exists_eq_left', exists_eq', exists_eq, Prod.mk.injEq, exists_and_left, hbx.c0, hbx.c1, hbx.c2, hbx.c3, hbx.ca, netLenS hbx, netLenA hbx, netLenE hbx, netZero, arcZero, endZero, arcNew, endNew, arcStore, endStore, arcOver, endOver, netOver, arc0, arc1, arc2, arc3, arc4, end0, end1, g1, h1', g27, g28, f29, nat_lt, hlt, decide_true, hia, hc, Option.map_some]
      by_cases h1 : N.ends[i].cost < 0
      · simp only [↓Sh.stepDn, Sh.stepUp, seatFacts, exitTo, calm, isEff, Nat.reduceBEq, evs, evps, evo, isConst, reduceCtorEq, Nat.reduceEqDiff, resultsA, Sh.one, Sh.unit, forall_const, implies_true, eq_self, ne_eq, if_true, if_false, beq_self_eq_true, cond_true, cond_false, List.all_cons, List.all_nil, List.getElem?_cons_zero, List.getElem?_cons_succ, List.nil_append, List.append_nil, Option.bind_some, Option.map_some, Option.some.injEq, exists_eq_left', exists_eq', exists_eq, Prod.mk.injEq, exists_and_left, h1, decide_true, hres, hbad (by simp [h1]), hkk]
      simp only [↓Sh.stepDn, Sh.stepUp, seatFacts, exitTo, calm, isEff, Nat.reduceBEq, evs, evps, evo, isConst, reduceCtorEq, Nat.reduceEqDiff, resultsA, Sh.one, Sh.unit, forall_const, implies_true, eq_self, ne_eq, if_true, if_false, beq_self_eq_true, cond_true, cond_false, List.all_cons, List.all_nil, List.getElem?_cons_zero, List.getElem?_cons_succ, List.nil_append, List.append_nil, Option.bind_some, Option.map_some, Option.some.injEq, exists_eq_left', exists_eq', exists_eq, Prod.mk.injEq, exists_and_left, netZero, arcZero, endZero, arcNew, endNew, arcStore, endStore, arcOver, endOver, netOver, arc0, arc1, arc2, arc3, arc4, end0, end1, g1, h1', f29, h1, decide_false]
      by_cases h2 : m < N.ends[i].cost
      · simp only [↓Sh.stepDn, Sh.stepUp, seatFacts, exitTo, calm, isEff, Nat.reduceBEq, evs, evps, evo, isConst, reduceCtorEq, Nat.reduceEqDiff, resultsA, Sh.one, Sh.unit, forall_const, implies_true, eq_self, ne_eq, if_true, if_false, beq_self_eq_true, cond_true, cond_false, List.all_cons, List.all_nil, List.getElem?_cons_zero, List.getElem?_cons_succ, List.nil_append, List.append_nil, Option.bind_some, Option.map_some, Option.some.injEq, exists_eq_left', exists_eq', exists_eq, Prod.mk.injEq, exists_and_left, h2, decide_true, hres, hbad (by simp [h2]), hkk]
      simp only [↓Sh.stepDn, Sh.stepUp, seatFacts, exitTo, calm, isEff, Nat.reduceBEq, evs, evps, evo, isConst, reduceCtorEq, Nat.reduceEqDiff, resultsA, Sh.one, Sh.unit, forall_const, implies_true, eq_self, ne_eq, if_true, if_false, beq_self_eq_true, cond_true, cond_false, List.all_cons, List.all_nil, List.getElem?_cons_zero, List.getElem?_cons_succ, List.nil_append, List.append_nil, Option.bind_some, Option.map_some, Option.some.injEq, exists_eq_left', exists_eq', exists_eq, Prod.mk.injEq, exists_and_left, f29, h2, decide_false, wrap_succ hlt hsm.en]
      refine k _ _ (by repeat (first | refine Same.put ?_ rfl | exact Same.rfl' _)) (by simp only [↓Sh.stepDn, Sh.stepUp, seatFacts, exitTo, calm, isEff, Nat.reduceBEq, evs, evps, evo, isConst, reduceCtorEq, Nat.reduceEqDiff, resultsA, Sh.one, Sh.unit, forall_const, implies_true, eq_self, ne_eq, if_true, if_false, beq_self_eq_true, cond_true, cond_false, List.all_cons, List.all_nil, List.getElem?_cons_zero, List.getElem?_cons_succ, List.nil_append, List.append_nil, Option.bind_some, Option.map_some, Option.some.injEq, exists_eq_left', exists_eq', exists_eq, Prod.mk.injEq, exists_and_left]) ⟨hk3, ?_⟩
      rw [List.take_add_one, List.getElem?_eq_getElem hlt]
      simp only [Option.toList, List.any_append, hall2, List.any_cons, List.any_nil, Bool.or_false, h1, h2, decide_false]
    · rintro F2 H'' hF2 f29 ⟨hk2', hall2⟩
      have g28 := hF2 28 rfl
      simp only [↓Sh.stepDn, Sh.stepUp, seatFacts, exitTo, calm, isEff, Nat.reduceBEq, evs, evps, evo, isConst, reduceCtorEq, Nat.reduceEqDiff, resultsA, Sh.one, Sh.unit, forall_const, implies_true, eq_self, ne_eq, if_true, if_false, beq_self_eq_true, cond_true, cond_false, List.all_cons, List.all_nil, List.getElem?_cons_zero, List.getElem?_cons_succ, List.nil_append, List.append_nil, Option.bind_some, Option.map_some, Option.some.injEq, exists_eq_left', exists_eq', exists_eq, Prod.mk.injEq, exists_and_left] at g28
      rw [List.take_length] at hall2
      simp only [↓Sh.stepDn, Sh.stepUp, seatFacts, exitTo, calm, isEff, Nat.reduceBEq, evs, evps, evo, isConst, reduceCtorEq, Nat.reduceEqDiff, resultsA, Sh.one, Sh.unit, forall_const, implies_true, eq_self, ne_eq, if_true, if_false, beq_self_eq_true, cond_true, cond_false, List.all_cons, List.all_nil, List.getElem?_cons_zero, List.getElem?_cons_succ, List.nil_append, List.append_nil, Option.bind_some, Option.map_some, Option.some.injEq, exists_eq_left', exists_eq', exists_eq, Prod.mk.injEq, exists_and_left, g28, f29, nat_lt, Nat.lt_irrefl, decide_false, hres, pricedB, hall, hall2, (hk1.trans hk).trans hk2']
end Go.Proofs.Ytfcmpclbhnjkgaa
/- What is wrong with an acceptor, by the program. -/
set_option maxHeartbeats 4000000
set_option linter.unusedSimpArgs false
set_option linter.unusedVariables false
set_option pp.deepTerms.threshold 8
namespace Go.Proofs.Ytfcmpclbhnjkgaa
open Go Go.Proofs Go.Proofs.Sh
theorem autoUnlike {H : AH} {a : ArcD} (hw : Wf H) : Sh.Call Try.prog (knows 6) 18 [.agg a.cells.toArray] H (fun r H' => Kept H H' ∧ r = .bool (!decide (a.inn = a.out))) := by
  refine call_of rfl Try.func18 rfl (Nat.le_of_ble_eq_true rfl) ?_
  have hres : Try.f18.results.toList = [.tmp 2] := rfl
  simp only [↓Sh.stepDn, Sh.stepUp, seatFacts, exitTo, calm, isEff, Nat.reduceBEq, evs, evps, evo, isConst, reduceCtorEq, Nat.reduceEqDiff, resultsA, Sh.one, Sh.unit, forall_const, implies_true, eq_self, ne_eq, if_true, if_false, beq_self_eq_true, cond_true, cond_false, List.all_cons, List.all_nil, List.getElem?_cons_zero, List.getElem?_cons_succ, List.nil_append, List.append_nil, Option.bind_some, Option.map_some, Option.some.injEq, exists_eq_left', exists_eq', exists_eq, Prod.mk.injEq, exists_and_left, netZero, arcZero, endZero, arcNew, endNew, arcStore, endStore, arcOver, endOver, netOver, arc0, arc1, arc2, arc3, arc4, end0, end1, hres, Kept.new hw 5 a.cells]
theorem free_priced (N : NetD) : NetD.free N = !pricedB N 0 := by
  have h : ∀ c : Int, decide (c = 0) = !(decide (c < 0) || decide (0 < c)) := by
    intro c
    by_cases h1 : c < 0
    · have : c ≠ 0 := by omega
      simp [h1, this]
    · by_cases h2 : 0 < c
      · have : c ≠ 0 := by omega
        simp [h2, this]
      · have : c = 0 := by omega
        simp [this]
  simp only [NetD.free, pricedB, h, Bool.not_or, List.all_eq_not_any_not, Bool.not_not]
  simp
theorem autoValidate {H : AH} {v : Value} {N : NetD} (h : NetAt H v N) (hsm : NetSmall N) (hw : Wf H) :
    Sh.Call Try.prog (knows 6) 7 [v] H (fun r H' => Kept H H' ∧ r = .int .i64 (accErr N)) := by
  refine call_of rfl Try.func7 rfl (Nat.le_of_ble_eq_true rfl) ?_
  have hres : Try.f7.results.toList = [.tmp 2] := rfl
  obtain ⟨sg, ar, en, rfl, hsg, har, hen⟩ := h
  have hb1 := NetBox.of (N := N) hw hsg har hen
  have hk1 : Kept H (H.new 4 [sg, .int .i64 N.states, ar, en]).2 := Kept.new hw 4 _
  simp only [↓Sh.stepDn, Sh.stepUp, seatFacts, exitTo, calm, isEff, Nat.reduceBEq, evs, evps, evo, isConst, reduceCtorEq, Nat.reduceEqDiff, resultsA, Sh.one, Sh.unit, forall_const, implies_true, eq_self, ne_eq, if_true, if_false, beq_self_eq_true, cond_true, cond_false, List.all_cons, List.all_nil, List.getElem?_cons_zero, List.getElem?_cons_succ, List.nil_append, List.append_nil, Option.bind_some, Option.map_some, Option.some.injEq, exists_eq_left', exists_eq', exists_eq, Prod.mk.injEq, exists_and_left, netNew hsg.isCell har.isCell hen.isCell]
  generalize H.next = gg at hb1 ⊢
  generalize (H.new 4 [sg, .int .i64 N.states, ar, en]).2 = H1 at hb1 hk1 ⊢
  simp only [↓Sh.stepDn, Sh.stepUp, seatFacts, exitTo, calm, isEff, Nat.reduceBEq, evs, evps, evo, isConst, reduceCtorEq, Nat.reduceEqDiff, resultsA, Sh.one, Sh.unit, forall_const, implies_true, eq_self, ne_eq, if_true, if_false, beq_self_eq_true, cond_true, cond_false, List.all_cons, List.all_nil, List.getElem?_cons_zero, List.getElem?_cons_succ, List.nil_append, List.append_nil, Option.bind_some, Option.map_some, Option.some.injEq, exists_eq_left', exists_eq', exists_eq, Prod.mk.injEq, exists_and_left, hb1.c0, hb1.c1, hb1.c2, hb1.c3, hb1.ca, netLenS hb1, netLenA hb1, netLenE hb1, Option.map_some]
  obtain ⟨r, H2, hd, hk2, rfl⟩ := graphCheck hb1.netAt hsm hk1.wf
  refine ⟨_, _, hd, ?_⟩
  have hb2 := hb1.kept hk1.wf hk2
  have hk12 := hk1.trans hk2
  by_cases hE : netErr N = 0
  case neg => simp only [↓Sh.stepDn, Sh.stepUp, seatFacts, exitTo, calm, isEff, Nat.reduceBEq, evs, evps, evo, isConst, reduceCtorEq, Nat.reduceEqDiff, resultsA, Sh.one, Sh.unit, forall_const, implies_true, eq_self, ne_eq, if_true, if_false, beq_self_eq_true, cond_true, cond_false, List.all_cons, List.all_nil, List.getElem?_cons_zero, List.getElem?_cons_succ, List.nil_append, List.append_nil, Option.bind_some, Option.map_some, Option.some.injEq, exists_eq_left', exists_eq', exists_eq, Prod.mk.injEq, exists_and_left, hE, decide_false, hres, accErr, if_true, hk12]
  simp only [↓Sh.stepDn, Sh.stepUp, seatFacts, exitTo, calm, isEff, Nat.reduceBEq, evs, evps, evo, isConst, reduceCtorEq, Nat.reduceEqDiff, resultsA, Sh.one, Sh.unit, forall_const, implies_true, eq_self, ne_eq, if_true, if_false, beq_self_eq_true, cond_true, cond_false, List.all_cons, List.all_nil, List.getElem?_cons_zero, List.getElem?_cons_succ, List.nil_append, List.append_nil, Option.bind_some, Option.map_some, Option.some.injEq, exists_eq_left', exists_eq', exists_eq, Prod.mk.injEq, exists_and_left, hE, decide_true, hb2.c0, hb2.c1, hb2.c2, hb2.c3, hb2.ca, netLenS hb2, netLenA hb2, netLenE hb2]
  obtain ⟨r, H3, hd3, hk3, rfl⟩ := containsFuncArc (caps := []) (fid := 18) (fun a => !decide (a.inn = a.out)) hb2.har hsm.ar hk12.wf (fun H' hk a ha => autoUnlike hk.wf)
  refine ⟨_, _, hd3, ?_⟩
  have hb3 := hb2.kept hk12.wf hk3
  have hk13 := hk12.trans hk3
  cases hu : N.arcs.any (fun a => !decide (a.inn = a.out)) with
  | true => simp only [↓Sh.stepDn, Sh.stepUp, seatFacts, exitTo, calm, isEff, Nat.reduceBEq, evs, evps, evo, isConst, reduceCtorEq, Nat.reduceEqDiff, resultsA, Sh.one, Sh.unit, forall_const, implies_true, eq_self, ne_eq, if_true, if_false, beq_self_eq_true, cond_true, cond_false, List.all_cons, List.all_nil, List.getElem?_cons_zero, List.getElem?_cons_succ, List.nil_append, List.append_nil, Option.bind_some, Option.map_some, Option.some.injEq, exists_eq_left', exists_eq', exists_eq, Prod.mk.injEq, exists_and_left, hres, accErr, hE, unlike, hu, if_true, if_false, hk13]
  | false =>
    simp only [↓Sh.stepDn, Sh.stepUp, seatFacts, exitTo, calm, isEff, Nat.reduceBEq, evs, evps, evo, isConst, reduceCtorEq, Nat.reduceEqDiff, resultsA, Sh.one, Sh.unit, forall_const, implies_true, eq_self, ne_eq, if_true, if_false, beq_self_eq_true, cond_true, cond_false, List.all_cons, List.all_nil, List.getElem?_cons_zero, List.getElem?_cons_succ, List.nil_append, List.append_nil, Option.bind_some, Option.map_some, Option.some.injEq, exists_eq_left', exists_eq', exists_eq, Prod.mk.injEq, exists_and_left, hb3.c0, hb3.c1, hb3.c2, hb3.c3, hb3.ca, netLenS hb3, netLenA hb3, netLenE hb3, Option.map_some]
    obtain ⟨r, H4, hd4, hk4, rfl⟩ := priced (m := 0) hb3.netAt hsm hk13.wf
    refine ⟨_, _, hd4, ?_⟩
    cases hp : pricedB N 0 with
    | true => simp only [↓Sh.stepDn, Sh.stepUp, seatFacts, exitTo, calm, isEff, Nat.reduceBEq, evs, evps, evo, isConst, reduceCtorEq, Nat.reduceEqDiff, resultsA, Sh.one, Sh.unit, forall_const, implies_true, eq_self, ne_eq, if_true, if_false, beq_self_eq_true, cond_true, cond_false, List.all_cons, List.all_nil, List.getElem?_cons_zero, List.getElem?_cons_succ, List.nil_append, List.append_nil, Option.bind_some, Option.map_some, Option.some.injEq, exists_eq_left', exists_eq', exists_eq, Prod.mk.injEq, exists_and_left, hres, accErr, hE, unlike, hu, free_priced, hp, if_true, if_false, hk13.trans hk4]
    | false => simp only [↓Sh.stepDn, Sh.stepUp, seatFacts, exitTo, calm, isEff, Nat.reduceBEq, evs, evps, evo, isConst, reduceCtorEq, Nat.reduceEqDiff, resultsA, Sh.one, Sh.unit, forall_const, implies_true, eq_self, ne_eq, if_true, if_false, beq_self_eq_true, cond_true, cond_false, List.all_cons, List.all_nil, List.getElem?_cons_zero, List.getElem?_cons_succ, List.nil_append, List.append_nil, Option.bind_some, Option.map_some, Option.some.injEq, exists_eq_left', exists_eq', exists_eq, Prod.mk.injEq, exists_and_left, hres, accErr, hE, unlike, hu, free_priced, hp, if_true, if_false, hk13.trans hk4]
end Go.Proofs.Ytfcmpclbhnjkgaa
/- slices.Clone. -/
set_option maxHeartbeats 4000000
set_option linter.unusedSimpArgs false
set_option linter.unusedVariables false
set_option pp.deepTerms.threshold 8
namespace Go.Proofs.Ytfcmpclbhnjkgaa
open Go Go.Proofs Go.Proofs.Sh
theorem cloneStr {H : AH} {v : Value} {l : List (List Value)} (hs : Sl H v 1 l) (hl : l.length ≤ 1048576) (hw : Wf H) :
    Sh.Call Try.prog (knows 6) 23 [v] H (fun r H' => Kept H H' ∧ ∃ b, Buf H' 1 r l b ∧ ∀ g, b = some g → H.next ≤ g) := by
  refine call_of rfl Try.func23 rfl (Nat.le_of_ble_eq_true rfl) ?_
  have hres : Try.f23.results.toList = [.tmp 2] := rfl
  obtain ⟨a, cap, rfl, h2, h3, h4⟩ := id hs
  cases a with
  | none =>
    obtain ⟨rfl, rfl⟩ := h3 rfl
    simp only [↓Sh.stepDn, Sh.stepUp, seatFacts, exitTo, calm, isEff, Nat.reduceBEq, evs, evps, evo, isConst, reduceCtorEq, Nat.reduceEqDiff, resultsA, Sh.one, Sh.unit, forall_const, implies_true, eq_self, ne_eq, if_true, if_false, beq_self_eq_true, cond_true, cond_false, List.all_cons, List.all_nil, List.getElem?_cons_zero, List.getElem?_cons_succ, List.nil_append, List.append_nil, Option.bind_some, Option.map_some, Option.some.injEq, exists_eq_left', exists_eq', exists_eq, Prod.mk.injEq, exists_and_left, List.length_nil, Option.isNone_none, hres]
    exact ⟨Kept.refl hw, none, .void none, fun g h => by cases h⟩
  | some a =>
    have hs1 := hs.grow (HGrow.new hw 1 [])
    have hk1 : Kept H (H.new 1 []).2 := Kept.new hw 1 []
    obtain ⟨v', H', b', e1, e2, e3, e4⟩ := (Buf.void (H := (H.new 1 []).2) (s := 1) (some ⟨H.next, 0, some 0⟩)).append hk1.wf h2
    have happ := app_22 (base := some ⟨H.next, 0, some 0⟩) (len := 0) (cap := 0) (hs1.srcKind Try.underlying22) hs1.newCells (by omega)
    have hk2 : Kept (H.new 1 []).2 H' := e3.kept fun g hg h => by cases h
    simp only [↓Sh.stepDn, Sh.stepUp, seatFacts, exitTo, calm, isEff, Nat.reduceBEq, evs, evps, evo, isConst, reduceCtorEq, Nat.reduceEqDiff, resultsA, Sh.one, Sh.unit, forall_const, implies_true, eq_self, ne_eq, if_true, if_false, beq_self_eq_true, cond_true, cond_false, List.all_cons, List.all_nil, List.getElem?_cons_zero, List.getElem?_cons_succ, List.nil_append, List.append_nil, Option.bind_some, Option.map_some, Option.some.injEq, exists_eq_left', exists_eq', exists_eq, Prod.mk.injEq, exists_and_left, Option.isNone_some, happ, e1, hres]
    refine ⟨hk1.trans hk2, b', by simpa using e2, fun g hg => ?_⟩
    rcases e4 with rfl | ⟨rfl, _⟩
    · cases hg
    · cases hg; exact Nat.le_succ _
end Go.Proofs.Ytfcmpclbhnjkgaa
/- slices.Clone. -/
set_option maxHeartbeats 4000000
set_option linter.unusedSimpArgs false
set_option linter.unusedVariables false
set_option pp.deepTerms.threshold 8
namespace Go.Proofs.Ytfcmpclbhnjkgaa
open Go Go.Proofs Go.Proofs.Sh
theorem cloneArc {H : AH} {v : Value} {l : List (List Value)} (hs : Sl H v 5 l) (hl : l.length ≤ 1048576) (hw : Wf H) :
    Sh.Call Try.prog (knows 6) 24 [v] H (fun r H' => Kept H H' ∧ ∃ b, Buf H' 5 r l b ∧ ∀ g, b = some g → H.next ≤ g) := by
  refine call_of rfl Try.func24 rfl (Nat.le_of_ble_eq_true rfl) ?_
  have hres : Try.f24.results.toList = [.tmp 2] := rfl
  obtain ⟨a, cap, rfl, h2, h3, h4⟩ := id hs
  cases a with
  | none =>
    obtain ⟨rfl, rfl⟩ := h3 rfl
    simp only [↓Sh.stepDn, Sh.stepUp, seatFacts, exitTo, calm, isEff, Nat.reduceBEq, evs, evps, evo, isConst, reduceCtorEq, Nat.reduceEqDiff, resultsA, Sh.one, Sh.unit, forall_const, implies_true, eq_self, ne_eq, if_true, if_false, beq_self_eq_true, cond_true, cond_false, List.all_cons, List.all_nil, List.getElem?_cons_zero, List.getElem?_cons_succ, List.nil_append, List.append_nil, Option.bind_some, Option.map_some, Option.some.injEq, exists_eq_left', exists_eq', exists_eq, Prod.mk.injEq, exists_and_left, List.length_nil, Option.isNone_none, hres]
    exact ⟨Kept.refl hw, none, .void none, fun g h => by cases h⟩
  | some a =>
    have hs1 := hs.grow (HGrow.new hw 5 [])
    have hk1 : Kept H (H.new 5 []).2 := Kept.new hw 5 []
    obtain ⟨v', H', b', e1, e2, e3, e4⟩ := (Buf.void (H := (H.new 5 []).2) (s := 5) (some ⟨H.next, 0, some 0⟩)).append hk1.wf h2
    have happ := app_23 (base := some ⟨H.next, 0, some 0⟩) (len := 0) (cap := 0) (hs1.srcKind Try.underlying23) hs1.newCells (by omega)
    have hk2 : Kept (H.new 5 []).2 H' := e3.kept fun g hg h => by cases h
    simp only [↓Sh.stepDn, Sh.stepUp, seatFacts, exitTo, calm, isEff, Nat.reduceBEq, evs, evps, evo, isConst, reduceCtorEq, Nat.reduceEqDiff, resultsA, Sh.one, Sh.unit, forall_const, implies_true, eq_self, ne_eq, if_true, if_false, beq_self_eq_true, cond_true, cond_false, List.all_cons, List.all_nil, List.getElem?_cons_zero, List.getElem?_cons_succ, List.nil_append, List.append_nil, Option.bind_some, Option.map_some, Option.some.injEq, exists_eq_left', exists_eq', exists_eq, Prod.mk.injEq, exists_and_left, Option.isNone_some, happ, e1, hres]
    refine ⟨hk1.trans hk2, b', by simpa using e2, fun g hg => ?_⟩
    rcases e4 with rfl | ⟨rfl, _⟩
    · cases hg
    · cases hg; exact Nat.le_succ _
end Go.Proofs.Ytfcmpclbhnjkgaa
/- slices.Clone. -/
set_option maxHeartbeats 4000000
set_option linter.unusedSimpArgs false
set_option linter.unusedVariables false
set_option pp.deepTerms.threshold 8
namespace Go.Proofs.Ytfcmpclbhnjkgaa
open Go Go.Proofs Go.Proofs.Sh
theorem cloneEnd {H : AH} {v : Value} {l : List (List Value)} (hs : Sl H v 2 l) (hl : l.length ≤ 1048576) (hw : Wf H) :
    Sh.Call Try.prog (knows 6) 25 [v] H (fun r H' => Kept H H' ∧ ∃ b, Buf H' 2 r l b ∧ ∀ g, b = some g → H.next ≤ g) := by
  refine call_of rfl Try.func25 rfl (Nat.le_of_ble_eq_true rfl) ?_
  have hres : Try.f25.results.toList = [.tmp 2] := rfl
  obtain ⟨a, cap, rfl, h2, h3, h4⟩ := id hs
  cases a with
  | none =>
    obtain ⟨rfl, rfl⟩ := h3 rfl
    simp only [↓Sh.stepDn, Sh.stepUp, seatFacts, exitTo, calm, isEff, Nat.reduceBEq, evs, evps, evo, isConst, reduceCtorEq, Nat.reduceEqDiff, resultsA, Sh.one, Sh.unit, forall_const, implies_true, eq_self, ne_eq, if_true, if_false, beq_self_eq_true, cond_true, cond_false, List.all_cons, List.all_nil, List.getElem?_cons_zero, List.getElem?_cons_succ, List.nil_append, List.append_nil, Option.bind_some, Option.map_some, Option.some.injEq, exists_eq_left', exists_eq', exists_eq, Prod.mk.injEq, exists_and_left, List.length_nil, Option.isNone_none, hres]
    exact ⟨Kept.refl hw, none, .void none, fun g h => by cases h⟩
  | some a =>
    have hs1 := hs.grow (HGrow.new hw 2 [])
    have hk1 : Kept H (H.new 2 []).2 := Kept.new hw 2 []
    obtain ⟨v', H', b', e1, e2, e3, e4⟩ := (Buf.void (H := (H.new 2 []).2) (s := 2) (some ⟨H.next, 0, some 0⟩)).append hk1.wf h2
    have happ := app_24 (base := some ⟨H.next, 0, some 0⟩) (len := 0) (cap := 0) (hs1.srcKind Try.underlying24) hs1.newCells (by omega)
    have hk2 : Kept (H.new 2 []).2 H' := e3.kept fun g hg h => by cases h
    simp only [↓Sh.stepDn, Sh.stepUp, seatFacts, exitTo, calm, isEff, Nat.reduceBEq, evs, evps, evo, isConst, reduceCtorEq, Nat.reduceEqDiff, resultsA, Sh.one, Sh.unit, forall_const, implies_true, eq_self, ne_eq, if_true, if_false, beq_self_eq_true, cond_true, cond_false, List.all_cons, List.all_nil, List.getElem?_cons_zero, List.getElem?_cons_succ, List.nil_append, List.append_nil, Option.bind_some, Option.map_some, Option.some.injEq, exists_eq_left', exists_eq', exists_eq, Prod.mk.injEq, exists_and_left, Option.isNone_some, happ, e1, hres]
    refine ⟨hk1.trans hk2, b', by simpa using e2, fun g hg => ?_⟩
    rcases e4 with rfl | ⟨rfl, _⟩
    · cases hg
    · cases hg; exact Nat.le_succ _
end Go.Proofs.Ytfcmpclbhnjkgaa
/- A copy of a net. -/
set_option maxHeartbeats 4000000
set_option linter.unusedSimpArgs false
set_option linter.unusedVariables false
set_option pp.deepTerms.threshold 8
namespace Go.Proofs.Ytfcmpclbhnjkgaa
open Go Go.Proofs Go.Proofs.Sh
theorem autoCopy {H : AH} {v : Value} {N : NetD} (h : NetAt H v N) (hsm : NetSmall N) (hw : Wf H) :
    Sh.Call Try.prog (knows 6) 10 [v] H (fun r H' => Kept H H' ∧ Nonempty (NetAt H' r N)) := by
  refine call_of rfl Try.func10 rfl (Nat.le_of_ble_eq_true rfl) ?_
  have hres : Try.f10.results.toList = [.cell 2 26] := rfl
  obtain ⟨sg, ar, en, rfl, hsg, har, hen⟩ := h
  have hb0 := NetBox.of (N := N) hw hsg har hen
  have hk1 : Kept H (H.new 4 [sg, .int .i64 N.states, ar, en]).2 := Kept.new hw 4 _
  have hb1 := hb0.new hk1.wf 4 [.slice none 0 0, .int .i64 0, .slice none 0 0, .slice none 0 0]
  have hk2 := hk1.news 4 [.slice none 0 0, .int .i64 0, .slice none 0 0, .slice none 0 0]
  have hO2 := (Obj.new (H := (H.new 4 [sg, .int .i64 N.states, ar, en]).2) 4 [.slice none 0 0, .int .i64 0, .slice none 0 0, .slice none 0 0]).arr
  have hO1 := (Obj.new (H := H) 4 [sg, .int .i64 N.states, ar, en]).arr.keep (H' := ((H.new 4 [sg, .int .i64 N.states, ar, en]).2.new 4 [.slice none 0 0, .int .i64 0, .slice none 0 0, .slice none 0 0]).2) (new_old (by simp only [new_nx]; omega))
  have hg2 : H.next < (H.new 4 [sg, .int .i64 N.states, ar, en]).2.next := Nat.lt_succ_self _
  simp only [↓Sh.stepDn, Sh.stepUp, seatFacts, exitTo, calm, isEff, Nat.reduceBEq, evs, evps, evo, isConst, reduceCtorEq, Nat.reduceEqDiff, resultsA, Sh.one, Sh.unit, forall_const, implies_true, eq_self, ne_eq, if_true, if_false, beq_self_eq_true, cond_true, cond_false, List.all_cons, List.all_nil, List.getElem?_cons_zero, List.getElem?_cons_succ, List.nil_append, List.append_nil, Option.bind_some, Option.map_some, Option.some.injEq, exists_eq_left', exists_eq', exists_eq, Prod.mk.injEq, exists_and_left, netNew hsg.isCell har.isCell hen.isCell, netZero]
  generalize ((H.new 4 [sg, .int .i64 N.states, ar, en]).2.new 4 [.slice none 0 0, .int .i64 0, .slice none 0 0, .slice none 0 0]).2 = H1 at hb1 hk2 hO1 hO2 ⊢
  generalize (H.new 4 [sg, .int .i64 N.states, ar, en]).2.next = g2 at hO2 hg2 ⊢
  generalize hg1 : H.next = g1 at hb1 hO1 hg2 ⊢
  obtain ⟨r1, K1, hd1, hk3, b1, hB1, hf1⟩ := cloneStr hb1.hsg (by simpa using hsm.sg) hk2.wf
  have hb2 := hb1.kept hk2.wf hk3
  obtain ⟨r2, K2, hd2, hk4, b2, hB2, hf2⟩ := cloneArc hb2.har (by simpa using hsm.ar) hk3.wf
  have hb3 := hb2.kept hk3.wf hk4
  obtain ⟨r3, K3, hd3, hk5, b3, hB3, hf3⟩ := cloneEnd hb3.hen (by simpa using hsm.en) hk4.wf
  have hsl1 := (hB1.toSl.grow (hk4.grow hk3.wf)).grow (hk5.grow hk4.wf)
  have hsl2 := hB2.toSl.grow (hk5.grow hk4.wf)
  have hsl3 := hB3.toSl
  refine wp_early (fl := [(0, true), (1, false), (3, true), (4, false), (6, true), (7, false), (2, false), (9, true), (5, false), (8, true), (10, true), (11, true), (12, true), (13, true), (14, true)]) (by kernel_rfl) (by kernel_rfl) hk2.wf ?_
  simp only [↓Sh.stepDn, Sh.stepUp, seatFacts, exitTo, calm, isEff, Nat.reduceBEq, evs, evps, evo, isConst, reduceCtorEq, Nat.reduceEqDiff, resultsA, Sh.one, Sh.unit, forall_const, implies_true, eq_self, ne_eq, if_true, if_false, beq_self_eq_true, cond_true, cond_false, List.all_cons, List.all_nil, List.getElem?_cons_zero, List.getElem?_cons_succ, List.nil_append, List.append_nil, Option.bind_some, Option.map_some, Option.some.injEq, exists_eq_left', exists_eq', exists_eq, Prod.mk.injEq, exists_and_left, wpg, Still, isEff, isMake, isRead, veq_ptr, veq_int, veq_str, veq_bool, veq_undef, forall_eq, forall_eq', hb1.c0, hb1.c1, hb1.c2, hb1.c3, hb1.ca, netLenS hb1, netLenA hb1, netLenE hb1, hb1.hsg.veq, hb1.har.veq, hb1.hen.veq]
  refine ⟨_, _, hd1, hk3.wf, hk3.grow hk2.wf, ?_⟩
  refine ⟨_, _, hd2, hk4.wf, hk4.grow hk3.wf, ?_⟩
  refine ⟨_, _, hd3, hk5.wf, ?_⟩
  have hO1c := ((hO1.keep (H' := K1) (hk3.old g1 (hO1.lt hk2.wf))).keep (hk4.old g1 (Nat.lt_of_lt_of_le (hO1.lt hk2.wf) hk3.next))).keep (hk5.old g1 (Nat.lt_of_lt_of_le (hO1.lt hk2.wf) (Nat.le_trans hk3.next hk4.next)))
  have hO2c := ((hO2.keep (H' := K1) (hk3.old g2 (hO2.lt hk2.wf))).keep (hk4.old g2 (Nat.lt_of_lt_of_le (hO2.lt hk2.wf) hk3.next))).keep (hk5.old g2 (Nat.lt_of_lt_of_le (hO2.lt hk2.wf) (Nat.le_trans hk3.next hk4.next)))
  have hk25 : Kept H1 K3 := (hk3.trans hk4).trans hk5
  obtain ⟨L1, e1, a1, n1, c1⟩ := hO1c.write hk5.wf (i := 0) (vs := [r1]) (by simp)
  obtain ⟨L2, e2, a2, n2, c2⟩ := a1.write c1.wf (i := 2) (vs := [r2]) (by simp [setCells])
  obtain ⟨L3, e3, a3, n3, c3⟩ := a2.write c2.wf (i := 3) (vs := [r3]) (by simp [setCells])
  have cL : Chg (fun x => x = g1) K3 L3 := (c1.trans c2).trans c3
  have hcells : L3.cells ⟨g1, 0, some 0⟩ 4 = some [r1, .int .i64 N.states, r2, r3] := by rw [a3.cells (by simp [setCells])]; rfl
  have hO2d := hO2c.keep (cL.old g2 (Nat.lt_of_lt_of_le (hO2.lt hk2.wf) hk25.next) (Nat.ne_of_gt hg2))
  obtain ⟨L4, e4, a4, n4, c4⟩ := hO2d.write c3.wf (i := 0) (vs := [r1, .int .i64 N.states, r2, r3]) (by simp)
  have hcells4 : L4.cells ⟨g2, 0, some 0⟩ 4 = some [r1, .int .i64 N.states, r2, r3] := by rw [a4.cells (by simp [setCells])]; rfl
  have s1 := store_cell (P := Try.prog) (H := K3) (t := 22) (a := ⟨g1, 0, some 0⟩) (v := r1) size_22 hB1.isCell
  have s2 := store_cell (P := Try.prog) (H := L1) (t := 23) (a := ⟨g1, 2, some 0⟩) (v := r2) size_23 hB2.isCell
  have s3 := store_cell (P := Try.prog) (H := L2) (t := 24) (a := ⟨g1, 3, some 0⟩) (v := r3) size_24 hB3.isCell
  simp only [↓Sh.stepDn, Sh.stepUp, seatFacts, exitTo, calm, isEff, Nat.reduceBEq, evs, evps, evo, isConst, reduceCtorEq, Nat.reduceEqDiff, resultsA, Sh.one, Sh.unit, forall_const, implies_true, eq_self, ne_eq, if_true, if_false, beq_self_eq_true, cond_true, cond_false, List.all_cons, List.all_nil, List.getElem?_cons_zero, List.getElem?_cons_succ, List.nil_append, List.append_nil, Option.bind_some, Option.map_some, Option.some.injEq, exists_eq_left', exists_eq', exists_eq, Prod.mk.injEq, exists_and_left, wpg, Still, isEff, isMake, isRead, veq_ptr, veq_int, veq_str, veq_bool, veq_undef, forall_eq, forall_eq', s1, s2, s3, e1, e2, e3, c1.wf, c2.wf, c3.wf, hcells, Option.map_some, netStore hB1.isCell hB2.isCell hB3.isCell, e4, hres, hcells4]
  have hend : Kept H L4 := by
    have c : Chg (fun x => x = g1 ∨ x = g2) H1 L4 := (hk25.chg.trans (cL.weak fun _ h => .inl h)).trans (c4.weak fun _ h => .inr h)
    exact (hk2.chg.trans c).kept fun g hg => by rw [hg1] at hg; omega
  have far : ∀ {v : Value} {s : Nat} {l : List (List Value)} {b : Option Nat}, Buf K3 s v l b → (∀ g, b = some g → H1.next ≤ g) → Sl L4 v s l := by
    intro v s l b hb hf
    have hx1 := hO1.lt hk2.wf
    have hx2 := hO2.lt hk2.wf
    refine Buf.toSl (b := b) ((hb.chg hk5.wf cL fun g hg => ?_).chg c3.wf c4 fun g hg => ?_)
    · have := hf g hg; omega
    · have := hf g hg; omega
  have f1 : Sl L4 r1 1 (N.sigma.map strCell) := far ((hB1.kept hk3.wf hk4).kept hk4.wf hk5) hf1
  have f2 : Sl L4 r2 5 (N.arcs.map ArcD.cells) := far (hB2.kept hk4.wf hk5) fun g hg => Nat.le_trans hk3.next (hf2 g hg)
  have f3 : Sl L4 r3 2 (N.ends.map EndD.cells) := far hB3 fun g hg => Nat.le_trans (Nat.le_trans hk3.next hk4.next) (hf3 g hg)
  exact ⟨hend, ⟨⟨r1, r2, r3, rfl, f1, f2, f3⟩⟩⟩
end Go.Proofs.Ytfcmpclbhnjkgaa
/- Nets that are alike are found alike. -/
set_option maxHeartbeats 4000000
set_option linter.unusedSimpArgs false
set_option linter.unusedVariables false
set_option pp.deepTerms.threshold 8
namespace Go.Proofs.Ytfcmpclbhnjkgaa
open Go Go.Proofs Go.Proofs.Sh
theorem sameNet {H : AH} {v u : Value} {N : NetD} (h : NetAt H v N) (h' : NetAt H u N) (hsm : NetSmall N) (hw : Wf H) :
    Sh.Call Try.prog (knows 6) 9 [v, u] H (fun r H' => Kept H H' ∧ r = .bool true) := by
  refine call_of rfl Try.func9 rfl (Nat.le_of_ble_eq_true rfl) ?_
  have hres : Try.f9.results.toList = [.tmp 4] := rfl
  obtain ⟨sg, ar, en, rfl, hsg, har, hen⟩ := h
  obtain ⟨sg', ar', en', rfl, hsg', har', hen'⟩ := h'
  have hb0 := NetBox.of (N := N) hw hsg har hen
  have hk1 : Kept H (H.new 4 [sg, .int .i64 N.states, ar, en]).2 := Kept.new hw 4 _
  have hg0 := hk1.grow hw
  have hc1 := NetBox.of (N := N) hk1.wf (hsg'.grow hg0) (har'.grow hg0) (hen'.grow hg0)
  have hb1 := hb0.new hk1.wf 4 [sg', .int .i64 N.states, ar', en']
  have hk2 := hk1.news 4 [sg', .int .i64 N.states, ar', en']
  simp only [↓Sh.stepDn, Sh.stepUp, seatFacts, exitTo, calm, isEff, Nat.reduceBEq, evs, evps, evo, isConst, reduceCtorEq, Nat.reduceEqDiff, resultsA, Sh.one, Sh.unit, forall_const, implies_true, eq_self, ne_eq, if_true, if_false, beq_self_eq_true, cond_true, cond_false, List.all_cons, List.all_nil, List.getElem?_cons_zero, List.getElem?_cons_succ, List.nil_append, List.append_nil, Option.bind_some, Option.map_some, Option.some.injEq, exists_eq_left', exists_eq', exists_eq, Prod.mk.injEq, exists_and_left, netNew hsg.isCell har.isCell hen.isCell, netNew hsg'.isCell har'.isCell hen'.isCell]
  generalize ((H.new 4 [sg, .int .i64 N.states, ar, en]).2.new 4 [sg', .int .i64 N.states, ar', en']).2 = H1 at hb1 hc1 hk2 ⊢
  generalize (H.new 4 [sg, .int .i64 N.states, ar, en]).2.next = g2 at hc1 ⊢
  generalize H.next = g1 at hb1 ⊢
  simp only [↓Sh.stepDn, Sh.stepUp, seatFacts, exitTo, calm, isEff, Nat.reduceBEq, evs, evps, evo, isConst, reduceCtorEq, Nat.reduceEqDiff, resultsA, Sh.one, Sh.unit, forall_const, implies_true, eq_self, ne_eq, if_true, if_false, beq_self_eq_true, cond_true, cond_false, List.all_cons, List.all_nil, List.getElem?_cons_zero, List.getElem?_cons_succ, List.nil_append, List.append_nil, Option.bind_some, Option.map_some, Option.some.injEq, exists_eq_left', exists_eq', exists_eq, Prod.mk.injEq, exists_and_left, hb1.c0, hb1.c1, hb1.c2, hb1.c3, hb1.ca, netLenS hb1, netLenA hb1, netLenE hb1, hc1.c0, hc1.c1, hc1.c2, hc1.c3, hc1.ca, netLenS hc1, netLenA hc1, netLenE hc1, decide_true]
  refine wp_for N.sigma.length 5 (List.range' 40 18 ++ [4, 5]) (fun i F H' => H' = H1) (by simp only [↓Sh.stepDn, Sh.stepUp, seatFacts, exitTo, calm, isEff, Nat.reduceBEq, evs, evps, evo, isConst, reduceCtorEq, Nat.reduceEqDiff, resultsA, Sh.one, Sh.unit, forall_const, implies_true, eq_self, ne_eq, if_true, if_false, beq_self_eq_true, cond_true, cond_false, List.all_cons, List.all_nil, List.getElem?_cons_zero, List.getElem?_cons_succ, List.nil_append, List.append_nil, Option.bind_some, Option.map_some, Option.some.injEq, exists_eq_left', exists_eq', exists_eq, Prod.mk.injEq, exists_and_left]) rfl ?_ ?_
  · rintro i F H' hlt hF f5 rfl k
    have f2 := hF 2 rfl
    have f3 := hF 3 rfl
    simp only [↓Sh.stepDn, Sh.stepUp, seatFacts, exitTo, calm, isEff, Nat.reduceBEq, evs, evps, evo, isConst, reduceCtorEq, Nat.reduceEqDiff, resultsA, Sh.one, Sh.unit, forall_const, implies_true, eq_self, ne_eq, if_true, if_false, beq_self_eq_true, cond_true, cond_false, List.all_cons, List.all_nil, List.getElem?_cons_zero, List.getElem?_cons_succ, List.nil_append, List.append_nil, Option.bind_some, Option.map_some, Option.some.injEq, exists_eq_left', exists_eq', exists_eq, Prod.mk.injEq, exists_and_left] at f2 f3
    obtain ⟨g, o, kk, hia, hc, hcc⟩ := hb1.hsg.at Try.underlying22 size_9 (i := i) (x := strCell N.sigma[i]) (by simp [hlt]) .i64
    obtain ⟨g', o', kk', hia', hc', hcc'⟩ := hc1.hsg.at Try.underlying22 size_9 (i := i) (x := strCell N.sigma[i]) (by simp [hlt]) .i64
    have hy := hcc 0 _ rfl
    have hy' := hcc' 0 _ rfl
    simp only [Nat.add_zero] at hy hy'
    simp only [↓Sh.stepDn, Sh.stepUp, seatFacts, exitTo, calm, isEff, Nat.reduceBEq, evs, evps, evo, isConst, reduceCtorEq, Nat.reduceEqDiff, resultsA, Sh.one, Sh.unit, forall_const, implies_true, eq_self, ne_eq, if_true, if_false, beq_self_eq_true, cond_true, cond_false, List.all_cons, List.all_nil, List.getElem?_cons_zero, List.getElem?_cons_succ, List.nil_append, List.append_nil, Option.bind_some, Option.map_some, Option.some.injEq, exists_eq_left', exists_eq', exists_eq, Prod.mk.injEq, exists_and_left, hb1.c0, hb1.c1, hb1.c2, hb1.c3, hb1.ca, netLenS hb1, netLenA hb1, netLenE hb1, hc1.c0, hc1.c1, hc1.c2, hc1.c3, hc1.ca, netLenS hc1, netLenA hc1, netLenE hc1, f2, f3, nat_lt, hlt, decide_true, f5, hia, hia', hy, hy', wrap_succ hlt hsm.sg]
    exact k _ _ (by repeat (first | refine Same.put ?_ rfl | exact Same.rfl' _)) (by simp only [↓Sh.stepDn, Sh.stepUp, seatFacts, exitTo, calm, isEff, Nat.reduceBEq, evs, evps, evo, isConst, reduceCtorEq, Nat.reduceEqDiff, resultsA, Sh.one, Sh.unit, forall_const, implies_true, eq_self, ne_eq, if_true, if_false, beq_self_eq_true, cond_true, cond_false, List.all_cons, List.all_nil, List.getElem?_cons_zero, List.getElem?_cons_succ, List.nil_append, List.append_nil, Option.bind_some, Option.map_some, Option.some.injEq, exists_eq_left', exists_eq', exists_eq, Prod.mk.injEq, exists_and_left]) rfl
  rintro F H' hF f5 rfl
  have f2 := hF 2 rfl
  have f3 := hF 3 rfl
  clear hF
  simp only [↓Sh.stepDn, Sh.stepUp, seatFacts, exitTo, calm, isEff, Nat.reduceBEq, evs, evps, evo, isConst, reduceCtorEq, Nat.reduceEqDiff, resultsA, Sh.one, Sh.unit, forall_const, implies_true, eq_self, ne_eq, if_true, if_false, beq_self_eq_true, cond_true, cond_false, List.all_cons, List.all_nil, List.getElem?_cons_zero, List.getElem?_cons_succ, List.nil_append, List.append_nil, Option.bind_some, Option.map_some, Option.some.injEq, exists_eq_left', exists_eq', exists_eq, Prod.mk.injEq, exists_and_left] at f2 f3
  simp only [↓Sh.stepDn, Sh.stepUp, seatFacts, exitTo, calm, isEff, Nat.reduceBEq, evs, evps, evo, isConst, reduceCtorEq, Nat.reduceEqDiff, resultsA, Sh.one, Sh.unit, forall_const, implies_true, eq_self, ne_eq, if_true, if_false, beq_self_eq_true, cond_true, cond_false, List.all_cons, List.all_nil, List.getElem?_cons_zero, List.getElem?_cons_succ, List.nil_append, List.append_nil, Option.bind_some, Option.map_some, Option.some.injEq, exists_eq_left', exists_eq', exists_eq, Prod.mk.injEq, exists_and_left, hb1.c0, hb1.c1, hb1.c2, hb1.c3, hb1.ca, netLenS hb1, netLenA hb1, netLenE hb1, hc1.c0, hc1.c1, hc1.c2, hc1.c3, hc1.ca, netLenS hc1, netLenA hc1, netLenE hc1, f2, f3, f5, nat_lt, Nat.lt_irrefl, decide_false]
  refine wp_for N.arcs.length 6 (List.range' 58 18 ++ [4, 6]) (fun i F H'' => H'' = H') (by simp only [↓Sh.stepDn, Sh.stepUp, seatFacts, exitTo, calm, isEff, Nat.reduceBEq, evs, evps, evo, isConst, reduceCtorEq, Nat.reduceEqDiff, resultsA, Sh.one, Sh.unit, forall_const, implies_true, eq_self, ne_eq, if_true, if_false, beq_self_eq_true, cond_true, cond_false, List.all_cons, List.all_nil, List.getElem?_cons_zero, List.getElem?_cons_succ, List.nil_append, List.append_nil, Option.bind_some, Option.map_some, Option.some.injEq, exists_eq_left', exists_eq', exists_eq, Prod.mk.injEq, exists_and_left]) rfl ?_ ?_
  · rintro i F' H'' hlt hF f6 rfl k
    have f2 := (hF 2 rfl)
    have f3 := (hF 3 rfl)
    simp only [↓Sh.stepDn, Sh.stepUp, seatFacts, exitTo, calm, isEff, Nat.reduceBEq, evs, evps, evo, isConst, reduceCtorEq, Nat.reduceEqDiff, resultsA, Sh.one, Sh.unit, forall_const, implies_true, eq_self, ne_eq, if_true, if_false, beq_self_eq_true, cond_true, cond_false, List.all_cons, List.all_nil, List.getElem?_cons_zero, List.getElem?_cons_succ, List.nil_append, List.append_nil, Option.bind_some, Option.map_some, Option.some.injEq, exists_eq_left', exists_eq', exists_eq, Prod.mk.injEq, exists_and_left, *] at f2 f3
    obtain ⟨g, o, kk, hia, hc, hcc⟩ := hb1.har.at Try.underlying23 size_43 (i := i) (x := N.arcs[i].cells) (by simp [hlt]) .i64
    obtain ⟨g', o', kk', hia', hc', hcc'⟩ := hc1.har.at Try.underlying23 size_43 (i := i) (x := N.arcs[i].cells) (by simp [hlt]) .i64
    clear hcc hcc'
    simp only [↓Sh.stepDn, Sh.stepUp, seatFacts, exitTo, calm, isEff, Nat.reduceBEq, evs, evps, evo, isConst, reduceCtorEq, Nat.reduceEqDiff, resultsA, Sh.one, Sh.unit, forall_const, implies_true, eq_self, ne_eq, if_true, if_false, beq_self_eq_true, cond_true, cond_false, List.all_cons, List.all_nil, List.getElem?_cons_zero, List.getElem?_cons_succ, List.nil_append, List.append_nil, Option.bind_some, Option.map_some, Option.some.injEq, exists_eq_left', exists_eq', exists_eq, Prod.mk.injEq, exists_and_left, hb1.c0, hb1.c1, hb1.c2, hb1.c3, hb1.ca, netLenS hb1, netLenA hb1, netLenE hb1, hc1.c0, hc1.c1, hc1.c2, hc1.c3, hc1.ca, netLenS hc1, netLenA hc1, netLenE hc1, f2, f3, nat_lt, hlt, decide_true, f6, hia, hia', hc, hc', Option.map_some, eqArc, wrap_succ hlt hsm.ar]
    exact k _ _ (by repeat (first | refine Same.put ?_ rfl | exact Same.rfl' _)) (by simp only [↓Sh.stepDn, Sh.stepUp, seatFacts, exitTo, calm, isEff, Nat.reduceBEq, evs, evps, evo, isConst, reduceCtorEq, Nat.reduceEqDiff, resultsA, Sh.one, Sh.unit, forall_const, implies_true, eq_self, ne_eq, if_true, if_false, beq_self_eq_true, cond_true, cond_false, List.all_cons, List.all_nil, List.getElem?_cons_zero, List.getElem?_cons_succ, List.nil_append, List.append_nil, Option.bind_some, Option.map_some, Option.some.injEq, exists_eq_left', exists_eq', exists_eq, Prod.mk.injEq, exists_and_left]) rfl
  rintro F' H'' hF f6 rfl
  have g2' := (hF 2 rfl)
  have g3' := (hF 3 rfl)
  clear hF
  simp only [↓Sh.stepDn, Sh.stepUp, seatFacts, exitTo, calm, isEff, Nat.reduceBEq, evs, evps, evo, isConst, reduceCtorEq, Nat.reduceEqDiff, resultsA, Sh.one, Sh.unit, forall_const, implies_true, eq_self, ne_eq, if_true, if_false, beq_self_eq_true, cond_true, cond_false, List.all_cons, List.all_nil, List.getElem?_cons_zero, List.getElem?_cons_succ, List.nil_append, List.append_nil, Option.bind_some, Option.map_some, Option.some.injEq, exists_eq_left', exists_eq', exists_eq, Prod.mk.injEq, exists_and_left, f2, f3] at g2' g3'
  simp only [↓Sh.stepDn, Sh.stepUp, seatFacts, exitTo, calm, isEff, Nat.reduceBEq, evs, evps, evo, isConst, reduceCtorEq, Nat.reduceEqDiff, resultsA, Sh.one, Sh.unit, forall_const, implies_true, eq_self, ne_eq, if_true, if_false, beq_self_eq_true, cond_true, cond_false, List.all_cons, List.all_nil, List.getElem?_cons_zero, List.getElem?_cons_succ, List.nil_append, List.append_nil, Option.bind_some, Option.map_some, Option.some.injEq, exists_eq_left', exists_eq', exists_eq, Prod.mk.injEq, exists_and_left, hb1.c0, hb1.c1, hb1.c2, hb1.c3, hb1.ca, netLenS hb1, netLenA hb1, netLenE hb1, hc1.c0, hc1.c1, hc1.c2, hc1.c3, hc1.ca, netLenS hc1, netLenA hc1, netLenE hc1, g2', g3', f6, nat_lt, Nat.lt_irrefl, decide_false]
  refine wp_for N.ends.length 7 (List.range' 76 18 ++ [4, 7]) (fun i F H' => H' = H'') (by simp only [↓Sh.stepDn, Sh.stepUp, seatFacts, exitTo, calm, isEff, Nat.reduceBEq, evs, evps, evo, isConst, reduceCtorEq, Nat.reduceEqDiff, resultsA, Sh.one, Sh.unit, forall_const, implies_true, eq_self, ne_eq, if_true, if_false, beq_self_eq_true, cond_true, cond_false, List.all_cons, List.all_nil, List.getElem?_cons_zero, List.getElem?_cons_succ, List.nil_append, List.append_nil, Option.bind_some, Option.map_some, Option.some.injEq, exists_eq_left', exists_eq', exists_eq, Prod.mk.injEq, exists_and_left]) rfl ?_ ?_
  · rintro i F' H' hlt hF f7 rfl k
    have f2 := (hF 2 rfl)
    have f3 := (hF 3 rfl)
    simp only [↓Sh.stepDn, Sh.stepUp, seatFacts, exitTo, calm, isEff, Nat.reduceBEq, evs, evps, evo, isConst, reduceCtorEq, Nat.reduceEqDiff, resultsA, Sh.one, Sh.unit, forall_const, implies_true, eq_self, ne_eq, if_true, if_false, beq_self_eq_true, cond_true, cond_false, List.all_cons, List.all_nil, List.getElem?_cons_zero, List.getElem?_cons_succ, List.nil_append, List.append_nil, Option.bind_some, Option.map_some, Option.some.injEq, exists_eq_left', exists_eq', exists_eq, Prod.mk.injEq, exists_and_left, *] at f2 f3
    obtain ⟨g, o, kk, hia, hc, hcc⟩ := hb1.hen.at Try.underlying24 size_45 (i := i) (x := N.ends[i].cells) (by simp [hlt]) .i64
    obtain ⟨g', o', kk', hia', hc', hcc'⟩ := hc1.hen.at Try.underlying24 size_45 (i := i) (x := N.ends[i].cells) (by simp [hlt]) .i64
    clear hcc hcc'
    simp only [↓Sh.stepDn, Sh.stepUp, seatFacts, exitTo, calm, isEff, Nat.reduceBEq, evs, evps, evo, isConst, reduceCtorEq, Nat.reduceEqDiff, resultsA, Sh.one, Sh.unit, forall_const, implies_true, eq_self, ne_eq, if_true, if_false, beq_self_eq_true, cond_true, cond_false, List.all_cons, List.all_nil, List.getElem?_cons_zero, List.getElem?_cons_succ, List.nil_append, List.append_nil, Option.bind_some, Option.map_some, Option.some.injEq, exists_eq_left', exists_eq', exists_eq, Prod.mk.injEq, exists_and_left, hb1.c0, hb1.c1, hb1.c2, hb1.c3, hb1.ca, netLenS hb1, netLenA hb1, netLenE hb1, hc1.c0, hc1.c1, hc1.c2, hc1.c3, hc1.ca, netLenS hc1, netLenA hc1, netLenE hc1, f2, f3, nat_lt, hlt, decide_true, f7, hia, hia', hc, hc', Option.map_some, eqEnd, wrap_succ hlt hsm.en]
    exact k _ _ (by repeat (first | refine Same.put ?_ rfl | exact Same.rfl' _)) (by simp only [↓Sh.stepDn, Sh.stepUp, seatFacts, exitTo, calm, isEff, Nat.reduceBEq, evs, evps, evo, isConst, reduceCtorEq, Nat.reduceEqDiff, resultsA, Sh.one, Sh.unit, forall_const, implies_true, eq_self, ne_eq, if_true, if_false, beq_self_eq_true, cond_true, cond_false, List.all_cons, List.all_nil, List.getElem?_cons_zero, List.getElem?_cons_succ, List.nil_append, List.append_nil, Option.bind_some, Option.map_some, Option.some.injEq, exists_eq_left', exists_eq', exists_eq, Prod.mk.injEq, exists_and_left]) rfl
  rintro F' H' hF f7 rfl
  have f2 := (hF 2 rfl)
  have f3 := (hF 3 rfl)
  simp only [↓Sh.stepDn, Sh.stepUp, seatFacts, exitTo, calm, isEff, Nat.reduceBEq, evs, evps, evo, isConst, reduceCtorEq, Nat.reduceEqDiff, resultsA, Sh.one, Sh.unit, forall_const, implies_true, eq_self, ne_eq, if_true, if_false, beq_self_eq_true, cond_true, cond_false, List.all_cons, List.all_nil, List.getElem?_cons_zero, List.getElem?_cons_succ, List.nil_append, List.append_nil, Option.bind_some, Option.map_some, Option.some.injEq, exists_eq_left', exists_eq', exists_eq, Prod.mk.injEq, exists_and_left, *] at f2 f3
  simp only [↓Sh.stepDn, Sh.stepUp, seatFacts, exitTo, calm, isEff, Nat.reduceBEq, evs, evps, evo, isConst, reduceCtorEq, Nat.reduceEqDiff, resultsA, Sh.one, Sh.unit, forall_const, implies_true, eq_self, ne_eq, if_true, if_false, beq_self_eq_true, cond_true, cond_false, List.all_cons, List.all_nil, List.getElem?_cons_zero, List.getElem?_cons_succ, List.nil_append, List.append_nil, Option.bind_some, Option.map_some, Option.some.injEq, exists_eq_left', exists_eq', exists_eq, Prod.mk.injEq, exists_and_left, hb1.c0, hb1.c1, hb1.c2, hb1.c3, hb1.ca, netLenS hb1, netLenA hb1, netLenE hb1, hc1.c0, hc1.c1, hc1.c2, hc1.c3, hc1.ca, netLenS hc1, netLenA hc1, netLenE hc1, f2, f3, f7, nat_lt, Nat.lt_irrefl, decide_false, hres, hk2]
end Go.Proofs.Ytfcmpclbhnjkgaa
/- Whether there is far more in a net than may be. -/
set_option maxHeartbeats 4000000
set_option linter.unusedSimpArgs false
set_option linter.unusedVariables false
set_option pp.deepTerms.threshold 8
namespace Go.Proofs.Ytfcmpclbhnjkgaa
open Go Go.Proofs Go.Proofs.Sh
def sizes (l : List ByteArray) : Nat := (l.map fun s => s.size).sum
def netSize (N : NetD) : Nat := N.sigma.length + N.arcs.length + N.ends.length + sizes N.sigma
theorem sizes_take_le (l : List ByteArray) (i : Nat) : sizes (l.take i) ≤ sizes l := by
  unfold sizes
  have : l = l.take i ++ l.drop i := (List.take_append_drop i l).symm
  conv => rhs; rw [this]
  rw [List.map_append, List.sum_append]
  omega
theorem isOver {H : AH} {v : Value} {N : NetD} (h : NetAt H v N) (hsm : NetSmall N) (hsz : sizes N.sigma ≤ 1048576) (hw : Wf H) :
    Sh.Call Try.prog (knows 6) 5 [v] H (fun r H' => Kept H H' ∧ r = .bool (decide (262144 < netSize N))) := by
  refine call_of rfl Try.func5 rfl (Nat.le_of_ble_eq_true rfl) ?_
  have hres : Try.f5.results.toList = [.tmp 2] := rfl
  obtain ⟨sg, ar, en, rfl, hsg, har, hen⟩ := h
  have hb1 := NetBox.of (N := N) hw hsg har hen
  have hk1 : Kept H (H.new 4 [sg, .int .i64 N.states, ar, en]).2 := Kept.new hw 4 _
  simp only [↓Sh.stepDn, Sh.stepUp, seatFacts, exitTo, calm, isEff, Nat.reduceBEq, evs, evps, evo, isConst, reduceCtorEq, Nat.reduceEqDiff, resultsA, Sh.one, Sh.unit, forall_const, implies_true, eq_self, ne_eq, if_true, if_false, beq_self_eq_true, cond_true, cond_false, List.all_cons, List.all_nil, List.getElem?_cons_zero, List.getElem?_cons_succ, List.nil_append, List.append_nil, Option.bind_some, Option.map_some, Option.some.injEq, exists_eq_left', exists_eq', exists_eq, Prod.mk.injEq, exists_and_left, netNew hsg.isCell har.isCell hen.isCell]
  generalize H.next = gg at hb1 ⊢
  generalize (H.new 4 [sg, .int .i64 N.states, ar, en]).2 = H1 at hb1 hk1 ⊢
  obtain ⟨z1, z2, z3, _⟩ := hsm
  have w1 : IntKind.wrap .i64 (IntKind.wrap .i64 ((N.sigma.length : Int) + (N.arcs.length : Int)) + (N.ends.length : Int)) = ((N.sigma.length + N.arcs.length + N.ends.length : Nat) : Int) := by
    rw [wrap64 (n := (N.sigma.length : Int) + (N.arcs.length : Int)) (by omega) (by omega), wrap64 (by omega) (by omega)]; rfl
  simp only [↓Sh.stepDn, Sh.stepUp, seatFacts, exitTo, calm, isEff, Nat.reduceBEq, evs, evps, evo, isConst, reduceCtorEq, Nat.reduceEqDiff, resultsA, Sh.one, Sh.unit, forall_const, implies_true, eq_self, ne_eq, if_true, if_false, beq_self_eq_true, cond_true, cond_false, List.all_cons, List.all_nil, List.getElem?_cons_zero, List.getElem?_cons_succ, List.nil_append, List.append_nil, Option.bind_some, Option.map_some, Option.some.injEq, exists_eq_left', exists_eq', exists_eq, Prod.mk.injEq, exists_and_left, hb1.c0, hb1.c1, hb1.c2, hb1.c3, hb1.ca, netLenS hb1, netLenA hb1, netLenE hb1, w1]
  refine wp_for N.sigma.length 4 (List.range' 16 15 ++ [3, 4]) (fun i F H' => H' = H1 ∧ F.get 3 = some (.int .i64 ((N.sigma.length + N.arcs.length + N.ends.length + sizes (N.sigma.take i) : Nat) : Int))) (by simp only [↓Sh.stepDn, Sh.stepUp, seatFacts, exitTo, calm, isEff, Nat.reduceBEq, evs, evps, evo, isConst, reduceCtorEq, Nat.reduceEqDiff, resultsA, Sh.one, Sh.unit, forall_const, implies_true, eq_self, ne_eq, if_true, if_false, beq_self_eq_true, cond_true, cond_false, List.all_cons, List.all_nil, List.getElem?_cons_zero, List.getElem?_cons_succ, List.nil_append, List.append_nil, Option.bind_some, Option.map_some, Option.some.injEq, exists_eq_left', exists_eq', exists_eq, Prod.mk.injEq, exists_and_left]) ⟨rfl, by simp only [↓Sh.stepDn, Sh.stepUp, seatFacts, exitTo, calm, isEff, Nat.reduceBEq, evs, evps, evo, isConst, reduceCtorEq, Nat.reduceEqDiff, resultsA, Sh.one, Sh.unit, forall_const, implies_true, eq_self, ne_eq, if_true, if_false, beq_self_eq_true, cond_true, cond_false, List.all_cons, List.all_nil, List.getElem?_cons_zero, List.getElem?_cons_succ, List.nil_append, List.append_nil, Option.bind_some, Option.map_some, Option.some.injEq, exists_eq_left', exists_eq', exists_eq, Prod.mk.injEq, exists_and_left]; rfl⟩ ?_ ?_
  · rintro i F H' hlt hF f4 ⟨rfl, f3⟩ k
    have f1 := hF 1 rfl
    simp only [↓Sh.stepDn, Sh.stepUp, seatFacts, exitTo, calm, isEff, Nat.reduceBEq, evs, evps, evo, isConst, reduceCtorEq, Nat.reduceEqDiff, resultsA, Sh.one, Sh.unit, forall_const, implies_true, eq_self, ne_eq, if_true, if_false, beq_self_eq_true, cond_true, cond_false, List.all_cons, List.all_nil, List.getElem?_cons_zero, List.getElem?_cons_succ, List.nil_append, List.append_nil, Option.bind_some, Option.map_some, Option.some.injEq, exists_eq_left', exists_eq', exists_eq, Prod.mk.injEq, exists_and_left] at f1
    obtain ⟨g, o, kk, hia, hc, hcc⟩ := hb1.hsg.at Try.underlying22 size_9 (i := i) (x := strCell N.sigma[i]) (by simp [hlt]) .i64
    have hy := hcc 0 _ rfl
    simp only [Nat.add_zero] at hy
    have hs1 : sizes (N.sigma.take (i + 1)) = sizes (N.sigma.take i) + N.sigma[i].size := by
      unfold sizes
      rw [List.take_add_one, List.getElem?_eq_getElem hlt, List.map_append, List.sum_append]
      simp
    have hle := sizes_take_le N.sigma (i + 1)
    have w2 : IntKind.wrap .i64 (((N.sigma.length + N.arcs.length + N.ends.length + sizes (N.sigma.take i) : Nat) : Int) + (N.sigma[i].size : Int)) = ((N.sigma.length + N.arcs.length + N.ends.length + sizes (N.sigma.take (i + 1)) : Nat) : Int) := by
      rw [wrap64 (by omega) (by omega), hs1]; omega
    simp only [↓Sh.stepDn, Sh.stepUp, seatFacts, exitTo, calm, isEff, Nat.reduceBEq, evs, evps, evo, isConst, reduceCtorEq, Nat.reduceEqDiff, resultsA, Sh.one, Sh.unit, forall_const, implies_true, eq_self, ne_eq, if_true, if_false, beq_self_eq_true, cond_true, cond_false, List.all_cons, List.all_nil, List.getElem?_cons_zero, List.getElem?_cons_succ, List.nil_append, List.append_nil, Option.bind_some, Option.map_some, Option.some.injEq, exists_eq_left', exists_eq', exists_eq, Prod.mk.injEq, exists_and_left, hb1.c0, hb1.c1, hb1.c2, hb1.c3, hb1.ca, netLenS hb1, netLenA hb1, netLenE hb1, f1, f3, f4, nat_lt, hlt, decide_true, hia, hy, w2, wrap_succ hlt z1]
    exact k _ _ (by repeat (first | refine Same.put ?_ rfl | exact Same.rfl' _)) (by simp only [↓Sh.stepDn, Sh.stepUp, seatFacts, exitTo, calm, isEff, Nat.reduceBEq, evs, evps, evo, isConst, reduceCtorEq, Nat.reduceEqDiff, resultsA, Sh.one, Sh.unit, forall_const, implies_true, eq_self, ne_eq, if_true, if_false, beq_self_eq_true, cond_true, cond_false, List.all_cons, List.all_nil, List.getElem?_cons_zero, List.getElem?_cons_succ, List.nil_append, List.append_nil, Option.bind_some, Option.map_some, Option.some.injEq, exists_eq_left', exists_eq', exists_eq, Prod.mk.injEq, exists_and_left]) ⟨rfl, by simp only [↓Sh.stepDn, Sh.stepUp, seatFacts, exitTo, calm, isEff, Nat.reduceBEq, evs, evps, evo, isConst, reduceCtorEq, Nat.reduceEqDiff, resultsA, Sh.one, Sh.unit, forall_const, implies_true, eq_self, ne_eq, if_true, if_false, beq_self_eq_true, cond_true, cond_false, List.all_cons, List.all_nil, List.getElem?_cons_zero, List.getElem?_cons_succ, List.nil_append, List.append_nil, Option.bind_some, Option.map_some, Option.some.injEq, exists_eq_left', exists_eq', exists_eq, Prod.mk.injEq, exists_and_left]⟩
  · rintro F H' hF f4 ⟨rfl, f3⟩
    have f1 := hF 1 rfl
    simp only [↓Sh.stepDn, Sh.stepUp, seatFacts, exitTo, calm, isEff, Nat.reduceBEq, evs, evps, evo, isConst, reduceCtorEq, Nat.reduceEqDiff, resultsA, Sh.one, Sh.unit, forall_const, implies_true, eq_self, ne_eq, if_true, if_false, beq_self_eq_true, cond_true, cond_false, List.all_cons, List.all_nil, List.getElem?_cons_zero, List.getElem?_cons_succ, List.nil_append, List.append_nil, Option.bind_some, Option.map_some, Option.some.injEq, exists_eq_left', exists_eq', exists_eq, Prod.mk.injEq, exists_and_left] at f1
    rw [List.take_length] at f3
    have e : decide ((262144 : Int) < ((N.sigma.length + N.arcs.length + N.ends.length + sizes N.sigma : Nat) : Int)) = decide (262144 < netSize N) := decide_eq_decide.2 (by unfold netSize; omega)
    simp only [↓Sh.stepDn, Sh.stepUp, seatFacts, exitTo, calm, isEff, Nat.reduceBEq, evs, evps, evo, isConst, reduceCtorEq, Nat.reduceEqDiff, resultsA, Sh.one, Sh.unit, forall_const, implies_true, eq_self, ne_eq, if_true, if_false, beq_self_eq_true, cond_true, cond_false, List.all_cons, List.all_nil, List.getElem?_cons_zero, List.getElem?_cons_succ, List.nil_append, List.append_nil, Option.bind_some, Option.map_some, Option.some.injEq, exists_eq_left', exists_eq', exists_eq, Prod.mk.injEq, exists_and_left, hb1.c0, hb1.c1, hb1.c2, hb1.c3, hb1.ca, netLenS hb1, netLenA hb1, netLenE hb1, f1, f3, f4, nat_lt, Nat.lt_irrefl, decide_false, hres, e, hk1]
end Go.Proofs.Ytfcmpclbhnjkgaa
/- What comes in: lists of texts, nets. -/
set_option maxHeartbeats 4000000
set_option linter.unusedSimpArgs false
set_option linter.unusedVariables false
namespace Go.Proofs.Ytfcmpclbhnjkgaa
open Go Go.Proofs Go.Proofs.Sh
section
variable {K : Type}
theorem bulk_pos : ∀ (d : DataW K), 1 ≤ Rows.uptoBulk d
  | .lit l => by cases l <;> simp [Rows.uptoBulk]
  | .nil => by simp [Rows.uptoBulk]
  | .ptr d => by simp [Rows.uptoBulk]
  | .slice a b => by simp [Rows.uptoBulk]
  | .agg a => by simp [Rows.uptoBulk]
  | .iface n d => by simp [Rows.uptoBulk]
  | .map es => by simp [Rows.uptoBulk]
  | .held h => by simp [Rows.uptoBulk]
theorem bulk_len : ∀ (ds : List (DataW K)), ds.length ≤ Rows.uptoBulkAll ds
  | [] => Nat.zero_le _
  | d :: ds => by
    have := bulk_pos d
    have := bulk_len ds
    simp only [Rows.uptoBulkAll, List.length_cons]; omega
theorem bulk_mem : ∀ {ds : List (DataW K)} {d : DataW K}, d ∈ ds → Rows.uptoBulk d ≤ Rows.uptoBulkAll ds
  | d :: ds, x, h => by
    simp only [Rows.uptoBulkAll]
    rcases List.mem_cons.1 h with rfl | h
    · omega
    · have := bulk_mem h; omega
theorem exists_map {α β : Type} {f : α → β} : ∀ {l : List β}, (∀ x ∈ l, ∃ a, x = f a) → ∃ L : List α, l = L.map f
  | [], _ => ⟨[], rfl⟩
  | x :: l, h => by
    obtain ⟨a, rfl⟩ := h x List.mem_cons_self
    obtain ⟨L, rfl⟩ := exists_map (l := l) fun y hy => h y (List.mem_cons_of_mem _ hy)
    exact ⟨a :: L, rfl⟩
/-- A list whose elements read so. -/
theorem list_in {α : Type} {enc : α → List Value} {H : AH} {f t e s : Nat} {cs : List Value} {d : DataW K} (R : α → DataW K → Prop) (hu : Try.prog.underlying t = some (.slice e)) (hs : Try.prog.cellsOf e = s)
    (hR : ∀ f x y, RD Try.prog H f e x y → ∃ a, x = enc a ∧ R a y) (h : RD Try.prog H f t cs d) :
    ∃ u, ∃ L : List α, ∃ ds, cs = [u] ∧ Sl H u s (L.map enc) ∧ L.length = ds.length ∧ (∀ (i : Nat) a y, L[i]? = some a → ds[i]? = some y → enc a = enc a → ∃ a', enc a' = enc a ∧ R a' y) ∧ Rows.uptoBulkAll ds < Rows.uptoBulk d := by
  obtain ⟨l, ds, ⟨u, rfl, hsl⟩, hlen, hel, hd⟩ := RD.slice hu hs h
  have hget : ∀ (i : Nat) x, l[i]? = some x → ∃ y a, ds[i]? = some y ∧ x = enc a ∧ R a y := by
    intro i x hx
    have hi := (List.getElem?_eq_some_iff.1 hx).1
    have hy : ds[i]? = some (ds[i]'(by omega)) := List.getElem?_eq_getElem (by omega)
    obtain ⟨f', hf⟩ := hel i x _ hx hy
    obtain ⟨a, h1, h2⟩ := hR f' x _ hf
    exact ⟨_, a, hy, h1, h2⟩
  obtain ⟨L, rfl⟩ := exists_map (f := enc) (l := l) fun x hx => by
    obtain ⟨i, hi⟩ := List.mem_iff_getElem?.1 hx
    obtain ⟨y, a, _, h2, _⟩ := hget i x hi
    exact ⟨a, h2⟩
  refine ⟨u, L, ds, rfl, hsl, by simpa using hlen, fun i a y ha hy _ => ?_, ?_⟩
  · obtain ⟨y', a', h1, h2, h3⟩ := hget i (enc a) (by simp [ha])
    rw [hy] at h1
    injection h1 with h1
    subst h1
    exact ⟨a', h2.symm, h3⟩
  · rcases hd with ⟨rfl, rfl⟩ | ⟨sp, rfl⟩
    · simp [Rows.uptoBulk, Rows.uptoBulkAll]
    · simp only [Rows.uptoBulk]; omega
theorem str_in {H : AH} {f : Nat} {x : List Value} {y : DataW K} (h : RD Try.prog H f 9 x y) : ∃ s, x = strCell s ∧ y = .lit (.string s.data.toList) := RD.str Try.underlying9 h
theorem int_in {H : AH} {f : Nat} {x : List Value} {y : DataW K} (h : RD Try.prog H f 3 x y) : ∃ n, x = [.int .i64 n] ∧ -9223372036854775808 ≤ n ∧ n < 9223372036854775808 := RD.int Try.underlying3 h
theorem bulk_strs : ∀ {L : List ByteArray} {ds : List (DataW K)}, L.length = ds.length → (∀ (i : Nat) a y, L[i]? = some a → ds[i]? = some y → y = .lit (.string a.data.toList)) → Rows.uptoBulkAll ds = sizes L + L.length
  | [], [], _, _ => rfl
  | [], _ :: _, h, _ => by simp at h
  | _ :: _, [], h, _ => by simp at h
  | a :: L, d :: ds, h, hr => by
    have h0 := hr 0 a d rfl rfl
    have ih := bulk_strs (L := L) (ds := ds) (by simpa using h) fun i a y h1 h2 => hr (i + 1) a y (by simpa using h1) (by simpa using h2)
    subst h0
    have e : a.data.toList.length = a.size := by rw [Array.length_toList]; rfl
    simp only [Rows.uptoBulkAll, Rows.uptoBulk, ih, sizes, List.map_cons, List.sum_cons, List.length_cons, e]
    omega
theorem strCell_inj {a b : ByteArray} (h : strCell a = strCell b) : a = b := by
  simp only [strCell, List.cons.injEq, Value.string.injEq, and_true] at h; exact h
/-- A list of texts. -/
theorem strs_in {H : AH} {f : Nat} {cs : List Value} {d : DataW K} (h : RD Try.prog H f 22 cs d) : ∃ u, ∃ L : List ByteArray, cs = [u] ∧ Sl H u 1 (L.map strCell) ∧ sizes L + L.length < Rows.uptoBulk d := by
  obtain ⟨u, L, ds, h1, h2, h3, h4, h5⟩ := list_in (enc := strCell) (fun s y => y = .lit (.string s.data.toList)) Try.underlying22 cells_9 (fun f x y hf => str_in hf) h
  refine ⟨u, L, h1, h2, ?_⟩
  rw [← bulk_strs h3 fun i a y ha hy => by
    obtain ⟨a', e, hr⟩ := h4 i a y ha hy rfl
    rw [← strCell_inj e]; exact hr]
  exact h5
theorem sizes_mem {L : List ByteArray} {x : ByteArray} (h : x ∈ L) : x.size ≤ sizes L := by
  induction L with
  | nil => cases h
  | cons a L ih =>
    simp only [sizes, List.map_cons, List.sum_cons] at ih ⊢
    rcases List.mem_cons.1 h with rfl | h
    · omega
    · have := ih h; omega
theorem four {c : List Value} (h : c.length = 4) : ∃ a b x y, c = [a, b, x, y] := by
  match c, h with
  | [a, b, x, y], _ => exact ⟨a, b, x, y, rfl⟩
theorem five {c : List Value} (h : c.length = 5) : ∃ a b x y z, c = [a, b, x, y, z] := by
  match c, h with
  | [a, b, x, y, z], _ => exact ⟨a, b, x, y, z, rfl⟩
theorem two {c : List Value} (h : c.length = 2) : ∃ a b, c = [a, b] := by
  match c, h with
  | [a, b], _ => exact ⟨a, b, rfl⟩
theorem get_some {ds : List (DataW K)} {n i : Nat} (h : ds.length = n) (hi : i < n) : ∃ x, ds[i]? = some x := ⟨ds[i]'(by omega), List.getElem?_eq_getElem (by omega)⟩
theorem arc_in {H : AH} {f : Nat} {x : List Value} {y : DataW K} (h : RD Try.prog H f 43 x y) : ∃ a : ArcD, x = a.cells ∧ True := by
  · obtain ⟨f', ds, rfl, h1, h2, h3⟩ := RD.struct Try.underlying43 h
    rw [cells_43] at h1
    obtain ⟨a, b, c, d, e, rfl⟩ := five h1
    have h2' : ds.length = 5 := h2
    obtain ⟨d0, e0⟩ := get_some h2' (i := 0) (by omega)
    obtain ⟨d1, e1⟩ := get_some h2' (i := 1) (by omega)
    obtain ⟨d2, e2⟩ := get_some h2' (i := 2) (by omega)
    obtain ⟨d3, e3⟩ := get_some h2' (i := 3) (by omega)
    obtain ⟨d4, e4⟩ := get_some h2' (i := 4) (by omega)
    have g0 := h3 0 _ _ rfl e0
    have g1 := h3 1 _ _ rfl e1
    have g2 := h3 2 _ _ rfl e2
    have g3 := h3 3 _ _ rfl e3
    have g4 := h3 4 _ _ rfl e4
    simp only [cells_3, cells_9, List.drop_zero, List.drop_succ_cons, List.take_succ_cons, List.take_zero, List.getElem_toArray, List.getElem_cons_zero, List.getElem_cons_succ] at g0 g1 g2 g3 g4
    obtain ⟨n0, q0, _⟩ := int_in g0
    obtain ⟨s1, q1, _⟩ := str_in g1
    obtain ⟨s2, q2, _⟩ := str_in g2
    obtain ⟨n3, q3, _⟩ := int_in g3
    obtain ⟨n4, q4, _⟩ := int_in g4
    simp only [strCell, List.cons.injEq, and_true] at q0 q1 q2 q3 q4
    subst q0 q1 q2 q3 q4
    exact ⟨⟨n0, s1, s2, n3, n4⟩, rfl, trivial⟩
theorem end_in {H : AH} {f : Nat} {x : List Value} {y : DataW K} (h : RD Try.prog H f 45 x y) : ∃ a : EndD, x = a.cells ∧ True := by
  · obtain ⟨f', ds, rfl, h1, h2, h3⟩ := RD.struct Try.underlying45 h
    rw [cells_45] at h1
    obtain ⟨a, b, rfl⟩ := two h1
    have h2' : ds.length = 2 := h2
    obtain ⟨d0, e0⟩ := get_some h2' (i := 0) (by omega)
    obtain ⟨d1, e1⟩ := get_some h2' (i := 1) (by omega)
    have g0 := h3 0 _ _ rfl e0
    have g1 := h3 1 _ _ rfl e1
    simp only [cells_3, List.drop_zero, List.drop_succ_cons, List.take_succ_cons, List.take_zero, List.getElem_toArray, List.getElem_cons_zero, List.getElem_cons_succ] at g0 g1
    obtain ⟨n0, q0, _⟩ := int_in g0
    obtain ⟨n1, q1, _⟩ := int_in g1
    simp only [List.cons.injEq, and_true] at q0 q1
    subst q0 q1
    exact ⟨⟨n0, n1⟩, rfl, trivial⟩
theorem agg_of {v : Value} {a b : Value} {l : List Value} (h : vcells v = a :: b :: l) : v = .agg (a :: b :: l).toArray := by
  cases v <;> simp only [vcells] at h <;> try (cases h; done)
  rw [← h]
/-- A net. -/
theorem net_in {H : AH} {f : Nat} {v : Value} {d : DataW K} (h : RD Try.prog H f 26 (vcells v) d) (hb : Rows.uptoBulk d ≤ 1048576) : ∃ N : NetD, Nonempty (NetAt H v N) ∧ NetSmall N ∧ sizes N.sigma ≤ 1048576 := by
  · obtain ⟨f', ds, rfl, h1, h2, h3⟩ := RD.struct Try.underlying26 h
    rw [cells_26] at h1
    obtain ⟨a, b, c, e, hv⟩ := four h1
    rw [hv] at h3
    have h2' : ds.length = 4 := h2
    obtain ⟨d0, e0⟩ := get_some h2' (i := 0) (by omega)
    obtain ⟨d1, e1⟩ := get_some h2' (i := 1) (by omega)
    obtain ⟨d2, e2⟩ := get_some h2' (i := 2) (by omega)
    obtain ⟨d3, e3⟩ := get_some h2' (i := 3) (by omega)
    have g0 := h3 0 _ _ rfl e0
    have g1 := h3 1 _ _ rfl e1
    have g2 := h3 2 _ _ rfl e2
    have g3 := h3 3 _ _ rfl e3
    simp only [cells_3, cells_22, cells_23, cells_24, List.drop_zero, List.drop_succ_cons, List.take_succ_cons, List.take_zero, List.getElem_toArray, List.getElem_cons_zero, List.getElem_cons_succ] at g0 g1 g2 g3
    obtain ⟨u0, L0, q0, s0, b0⟩ := strs_in g0
    obtain ⟨n1, q1, _⟩ := int_in g1
    obtain ⟨u2, L2, ds2, q2, s2, k2, _, b2⟩ := list_in (enc := ArcD.cells) (fun _ _ => True) Try.underlying23 cells_43 (fun f x y hf => arc_in hf) g2
    obtain ⟨u3, L3, ds3, q3, s3, k3, _, b3⟩ := list_in (enc := EndD.cells) (fun _ _ => True) Try.underlying24 cells_45 (fun f x y hf => end_in hf) g3
    simp only [List.cons.injEq, and_true] at q0 q1 q2 q3
    subst q0 q1 q2 q3
    have m0 := bulk_mem (List.mem_of_getElem? e0)
    have m2 := bulk_mem (List.mem_of_getElem? e2)
    have m3 := bulk_mem (List.mem_of_getElem? e3)
    have l2 := bulk_len ds2
    have l3 := bulk_len ds3
    simp only [Rows.uptoBulk] at hb
    refine ⟨⟨L0, n1, L2, L3⟩, ⟨⟨a, c, e, agg_of hv, s0, s2, s3⟩⟩, ⟨?_, ?_, ?_, fun x hx => ?_⟩, ?_⟩
    · show L0.length ≤ _; omega
    · show L2.length ≤ _; omega
    · show L3.length ≤ _; omega
    · have := sizes_mem hx; show x.size ≤ _; have h' : x.size ≤ sizes L0 := this; omega
    · show sizes L0 ≤ _; omega
end
end Go.Proofs.Ytfcmpclbhnjkgaa
/- For every net, of any kind, that holds no more than 1048576 values and letters: auto.Validate answers what the reference answers, and a copy of it is equal to it. -/
set_option maxHeartbeats 4000000
set_option linter.unusedSimpArgs false
set_option linter.unusedVariables false
set_option pp.deepTerms.threshold 8
namespace Go.Proofs.Ytfcmpclbhnjkgaa
open Go Go.Proofs Go.Proofs.Sh
theorem knownCall {H : AH} : Sh.Call Try.prog (knows 6) 6 [] H (fun r H' => H' = H ∧ r = .bool true) := ⟨_, _, ⟨0, rfl⟩, rfl, rfl⟩
theorem autoValidates {H : AH} {v : Value} {N : NetD} (h : NetAt H v N) (hsm : NetSmall N) (hsz : sizes N.sigma ≤ 1048576) (hw : Wf H) :
    Sh.Call Try.prog (knows 6) 3 [v] H (fun r _ => r = .bool true) := by
  refine call_of rfl Try.func3 rfl (Nat.le_of_ble_eq_true rfl) ?_
  have hres : Try.f3.results.toList = [.tmp 2] := rfl
  obtain ⟨sg, ar, en, rfl, hsg, har, hen⟩ := h
  have hb1 := NetBox.of (N := N) hw hsg har hen
  have hk1 : Kept H (H.new 4 [sg, .int .i64 N.states, ar, en]).2 := Kept.new hw 4 _
  simp only [↓Sh.stepDn, Sh.stepUp, seatFacts, exitTo, calm, isEff, Nat.reduceBEq, evs, evps, evo, isConst, reduceCtorEq, Nat.reduceEqDiff, resultsA, Sh.one, Sh.unit, forall_const, implies_true, eq_self, ne_eq, if_true, if_false, beq_self_eq_true, cond_true, cond_false, List.all_cons, List.all_nil, List.getElem?_cons_zero, List.getElem?_cons_succ, List.nil_append, List.append_nil, Option.bind_some, Option.map_some, Option.some.injEq, exists_eq_left', exists_eq', exists_eq, Prod.mk.injEq, exists_and_left, netNew hsg.isCell har.isCell hen.isCell]
  generalize H.next = gg at hb1 ⊢
  generalize (H.new 4 [sg, .int .i64 N.states, ar, en]).2 = H1 at hb1 hk1 ⊢
  simp only [↓Sh.stepDn, Sh.stepUp, seatFacts, exitTo, calm, isEff, Nat.reduceBEq, evs, evps, evo, isConst, reduceCtorEq, Nat.reduceEqDiff, resultsA, Sh.one, Sh.unit, forall_const, implies_true, eq_self, ne_eq, if_true, if_false, beq_self_eq_true, cond_true, cond_false, List.all_cons, List.all_nil, List.getElem?_cons_zero, List.getElem?_cons_succ, List.nil_append, List.append_nil, Option.bind_some, Option.map_some, Option.some.injEq, exists_eq_left', exists_eq', exists_eq, Prod.mk.injEq, exists_and_left, hb1.c0, hb1.c1, hb1.c2, hb1.c3, hb1.ca, netLenS hb1, netLenA hb1, netLenE hb1, Option.map_some]
  obtain ⟨r, H2, hd, hk2, rfl⟩ := isOver hb1.netAt hsm hsz hk1.wf
  refine ⟨_, _, hd, ?_⟩
  have hb2 := hb1.kept hk1.wf hk2
  cases ho : decide (262144 < netSize N) with
  | true =>
    obtain ⟨r, H3, hd3, rfl, rfl⟩ := knownCall (H := H2)
    simp only [↓Sh.stepDn, Sh.stepUp, seatFacts, exitTo, calm, isEff, Nat.reduceBEq, evs, evps, evo, isConst, reduceCtorEq, Nat.reduceEqDiff, resultsA, Sh.one, Sh.unit, forall_const, implies_true, eq_self, ne_eq, if_true, if_false, beq_self_eq_true, cond_true, cond_false, List.all_cons, List.all_nil, List.getElem?_cons_zero, List.getElem?_cons_succ, List.nil_append, List.append_nil, Option.bind_some, Option.map_some, Option.some.injEq, exists_eq_left', exists_eq', exists_eq, Prod.mk.injEq, exists_and_left]
    refine ⟨_, _, hd3, ?_⟩
    simp only [↓Sh.stepDn, Sh.stepUp, seatFacts, exitTo, calm, isEff, Nat.reduceBEq, evs, evps, evo, isConst, reduceCtorEq, Nat.reduceEqDiff, resultsA, Sh.one, Sh.unit, forall_const, implies_true, eq_self, ne_eq, if_true, if_false, beq_self_eq_true, cond_true, cond_false, List.all_cons, List.all_nil, List.getElem?_cons_zero, List.getElem?_cons_succ, List.nil_append, List.append_nil, Option.bind_some, Option.map_some, Option.some.injEq, exists_eq_left', exists_eq', exists_eq, Prod.mk.injEq, exists_and_left, hres]
  | false =>
    simp only [↓Sh.stepDn, Sh.stepUp, seatFacts, exitTo, calm, isEff, Nat.reduceBEq, evs, evps, evo, isConst, reduceCtorEq, Nat.reduceEqDiff, resultsA, Sh.one, Sh.unit, forall_const, implies_true, eq_self, ne_eq, if_true, if_false, beq_self_eq_true, cond_true, cond_false, List.all_cons, List.all_nil, List.getElem?_cons_zero, List.getElem?_cons_succ, List.nil_append, List.append_nil, Option.bind_some, Option.map_some, Option.some.injEq, exists_eq_left', exists_eq', exists_eq, Prod.mk.injEq, exists_and_left]
    obtain ⟨r1, K1, hd1, hq1, rfl⟩ := autoValidate hb2.netAt hsm hk2.wf
    have hb3 := hb2.kept hk2.wf hq1
    obtain ⟨r2, K2, hd2, hq2, rfl⟩ := refValidate hb3.netAt hsm hq1.wf
    have hb4 := hb3.kept hq1.wf hq2
    obtain ⟨r3, K3, hd3, hq3, ⟨hn3⟩⟩ := autoCopy hb4.netAt hsm hq2.wf
    have hb5 := hb4.kept hq2.wf hq3
    obtain ⟨r4, K4, hd4, hq4, rfl⟩ := sameNet hn3 hb5.netAt hsm hq3.wf
    obtain ⟨r5, K5, hd5, rfl, rfl⟩ := knownCall (H := K4)
    refine wp_early (fl := [(0, false), (2, false), (1, false), (3, true), (4, true), (5, true), (6, false), (8, false), (7, false), (9, true), (10, true), (11, true), (12, true), (13, true), (14, true)]) (by kernel_rfl) (by kernel_rfl) hk2.wf ?_
    have hvq : veq (.agg #[sg, .int .i64 N.states, ar, en]) (.agg #[sg, .int .i64 N.states, ar, en]) = true := veq_agg (by simp only [veqs_cons, veqs_nil, veq_int, hsg.veq, har.veq, hen.veq, Bool.and_self])
    simp only [↓Sh.stepDn, Sh.stepUp, seatFacts, exitTo, calm, isEff, Nat.reduceBEq, evs, evps, evo, isConst, reduceCtorEq, Nat.reduceEqDiff, resultsA, Sh.one, Sh.unit, forall_const, implies_true, eq_self, ne_eq, if_true, if_false, beq_self_eq_true, cond_true, cond_false, List.all_cons, List.all_nil, List.getElem?_cons_zero, List.getElem?_cons_succ, List.nil_append, List.append_nil, Option.bind_some, Option.map_some, Option.some.injEq, exists_eq_left', exists_eq', exists_eq, Prod.mk.injEq, exists_and_left, wpg, Still, isEff, isMake, isRead, veq_ptr, veq_int, veq_str, veq_bool, veq_undef, forall_eq, forall_eq', hb2.c0, hb2.c1, hb2.c2, hb2.c3, hb2.ca, netLenS hb2, netLenA hb2, netLenE hb2, Option.map_some, hvq]
    refine ⟨_, _, hd1, hq1.wf, hq1.grow hk2.wf, ?_⟩
    refine ⟨_, _, hd2, hq2.wf, ?_⟩
    simp only [↓Sh.stepDn, Sh.stepUp, seatFacts, exitTo, calm, isEff, Nat.reduceBEq, evs, evps, evo, isConst, reduceCtorEq, Nat.reduceEqDiff, resultsA, Sh.one, Sh.unit, forall_const, implies_true, eq_self, ne_eq, if_true, if_false, beq_self_eq_true, cond_true, cond_false, List.all_cons, List.all_nil, List.getElem?_cons_zero, List.getElem?_cons_succ, List.nil_append, List.append_nil, Option.bind_some, Option.map_some, Option.some.injEq, exists_eq_left', exists_eq', exists_eq, Prod.mk.injEq, exists_and_left, wpg, Still, isEff, isMake, isRead, veq_ptr, veq_int, veq_str, veq_bool, veq_undef, forall_eq, forall_eq', decide_true, hb4.c0, hb4.c1, hb4.c2, hb4.c3, hb4.ca, netLenS hb4, netLenA hb4, netLenE hb4, Option.map_some, hvq]
    refine ⟨_, _, hd3, hq3.wf, hq3.grow hq2.wf, ?_⟩
    refine ⟨_, _, hd4, hq4.wf, ?_⟩
    simp only [↓Sh.stepDn, Sh.stepUp, seatFacts, exitTo, calm, isEff, Nat.reduceBEq, evs, evps, evo, isConst, reduceCtorEq, Nat.reduceEqDiff, resultsA, Sh.one, Sh.unit, forall_const, implies_true, eq_self, ne_eq, if_true, if_false, beq_self_eq_true, cond_true, cond_false, List.all_cons, List.all_nil, List.getElem?_cons_zero, List.getElem?_cons_succ, List.nil_append, List.append_nil, Option.bind_some, Option.map_some, Option.some.injEq, exists_eq_left', exists_eq', exists_eq, Prod.mk.injEq, exists_and_left, wpg, Still, isEff, isMake, isRead, veq_ptr, veq_int, veq_str, veq_bool, veq_undef, forall_eq, forall_eq']
    refine ⟨_, _, hd5, hq4.wf, ?_⟩
    simp only [↓Sh.stepDn, Sh.stepUp, seatFacts, exitTo, calm, isEff, Nat.reduceBEq, evs, evps, evo, isConst, reduceCtorEq, Nat.reduceEqDiff, resultsA, Sh.one, Sh.unit, forall_const, implies_true, eq_self, ne_eq, if_true, if_false, beq_self_eq_true, cond_true, cond_false, List.all_cons, List.all_nil, List.getElem?_cons_zero, List.getElem?_cons_succ, List.nil_append, List.append_nil, Option.bind_some, Option.map_some, Option.some.injEq, exists_eq_left', exists_eq', exists_eq, Prod.mk.injEq, exists_and_left, wpg, Still, isEff, isMake, isRead, veq_ptr, veq_int, veq_str, veq_bool, veq_undef, forall_eq, forall_eq', hres]
end Go.Proofs.Ytfcmpclbhnjkgaa
