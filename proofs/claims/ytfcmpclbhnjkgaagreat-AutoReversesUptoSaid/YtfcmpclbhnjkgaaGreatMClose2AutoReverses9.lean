/- A part of the proof: GraphX, GraphAdd, GraphNet, GraphClosed, IndexFuncNat, GraphRun, GraphBack, GraphFrom, RefGraph, SortIntsInt, SortInts, RefClose, RefRun, RefRev, RefSpread, RefAlive, SymsSmall, IndexFuncStr, SymsValidate, WordVal, RefAcc, GraphCheck, IndexFuncArc, Priced, AutoValidate, AutoAcc, RowsTotal, AutoReverse, RefReverse, Same, Turned, SameNet, IsOver. -/
import Derived.Test.YtfcmpclbhnjkgaaGreatMClose2AutoReverses3
import Derived.Test.YtfcmpclbhnjkgaaGreatMClose2AutoReverses8
import Derived.Test.YtfcmpclbhnjkgaaGreatMClose2AutoReverses7
import Derived.Test.YtfcmpclbhnjkgaaGreatMClose2AutoReverses5
import Derived.Test.YtfcmpclbhnjkgaaGreatMClose2AutoReverses4
import Derived.Test.YtfcmpclbhnjkgaaGreatMClose2AutoReverses6
set_option linter.unusedVariables false
set_option linter.unusedSimpArgs false
/- (*graph.Graph).Arc, End, State, of a graph that keeps to its own places. -/
set_option maxHeartbeats 4000000
set_option maxRecDepth 20000
set_option linter.unusedSimpArgs false
set_option linter.unusedVariables false
set_option pp.deepTerms.threshold 8
namespace Go.Proofs.YtfcmpclbhnjkgaaGreat
open Go Go.Proofs Go.Proofs.Sh
theorem grArcX {H : AH} {X : Nat → Prop} {g : Nat} {sigma : List ByteArray} {rows : List (List (List Value))} {ends costs : List Int} {s : Nat} {r : List (List Value)} {x0 x1 x2 x3 : Int}
    (h : GrX H X g sigma rows ends costs) (hr : rows[s]? = some r) (hl : r.length ≤ 1073741823) (hw : Wf H) :
    Sh.Call Tryz.prog (knows 10) 52 [.pointer (some ⟨g, 0, some 0⟩), .int .i64 (s : Int), .int .i64 x0, .int .i64 x1, .int .i64 x2, .int .i64 x3] H (fun _ H' => Chg X H H' ∧ GrX H' (fun y => X y ∨ H.next ≤ y) g sigma (rows.set s (r ++ [[.int .i64 x0, .int .i64 x1, .int .i64 x2, .int .i64 x3]])) ends costs) := by
  obtain ⟨sv, av, ev, cv, os, ot, oe, oc, vals, obs, h, ho⟩ := h
  refine (graphArc h.arr h.jag h.gj hr hl hw).mono ?_
  rintro _ H' ⟨hc, vals', obs', hj, hin⟩
  have hg := h.arr.lt hw
  refine ⟨hc.weak fun y hy => ho y (.inr (.inr (.inl hy))), sv, av, ev, cv, os, ot, oe, oc, vals', obs', ?_, ?_⟩
  · exact { h with
    arr := h.arr.keep (hc.old g hg h.gj)
    sg := h.sg.chg hw hc h.sj
    jag := hj
    en := h.en.chg hw hc h.je
    co := h.co.chg hw hc h.jc
    fj := fun _ _ => Nat.zero_le _
    gj := fun hy => by
      rcases hin g hy with h1 | h1
      · exact h.gj h1
      · omega
    sj := fun y hy hy2 => by
      rcases hin y hy2 with h1 | h1
      · exact h.sj y hy h1
      · have := h.sg.lt hw y hy; omega
    je := fun y hy hy2 => by
      rcases hin y hy2 with h1 | h1
      · exact h.je y hy h1
      · have := h.en.lt hw y hy; omega
    jc := fun y hy hy2 => by
      rcases hin y hy2 with h1 | h1
      · exact h.jc y hy h1
      · have := h.co.lt hw y hy; omega }
  · rintro y (hy | hy | hy | hy | hy)
    · exact .inl (ho y (.inl hy))
    · exact .inl (ho y (.inr (.inl hy)))
    · rcases hin y hy with h1 | h1
      · exact .inl (ho y (.inr (.inr (.inl h1))))
      · exact .inr h1
    · exact .inl (ho y (.inr (.inr (.inr (.inl hy)))))
    · exact .inl (ho y (.inr (.inr (.inr (.inr hy)))))
theorem grEndX {H : AH} {X : Nat → Prop} {g : Nat} {sigma : List ByteArray} {rows : List (List (List Value))} {ends costs : List Int} {s : Nat} {x : Int}
    (h : GrX H X g sigma rows ends costs) (hs : s < ends.length) (hs' : s < costs.length) (hw : Wf H) (h0 : 0 ≤ ends[s]) (h1 : ends[s] ≤ 1048576) :
    Sh.Call Tryz.prog (knows 10) 53 [.pointer (some ⟨g, 0, some 0⟩), .int .i64 (s : Int), .int .i64 x] H (fun _ H' => Chg X H H' ∧ GrX H' X g sigma rows (ends.set s (ends[s] + 1)) (costs.set s (endCost ends[s] costs[s] x))) := by
  obtain ⟨sv, av, ev, cv, os, ot, oe, oc, vals, obs, h, ho⟩ := h
  refine (graphEnd h.arr h.en h.co h.ge h.gc h.ec hs hs' hw h0 h1).mono ?_
  rintro _ H' ⟨hc, hn, he, hcc⟩
  refine ⟨hc.weak fun y hy => ?_, sv, av, ev, cv, os, ot, oe, oc, vals, obs, { h with arr := h.arr.keep (hc.old g (h.arr.lt hw) ?_), sg := h.sg.chg hw hc ?_, jag := h.jag.chg hw hc ?_, en := he, co := hcc }, ho⟩
  · rcases hy with hy | hy
    · exact ho y (.inr (.inr (.inr (.inl hy))))
    · exact ho y (.inr (.inr (.inr (.inr hy))))
  · rintro (hy | hy)
    · exact h.ge hy
    · exact h.gc hy
  · rintro y hy (hy2 | hy2)
    · exact h.se y hy hy2
    · exact h.sc y hy hy2
  · rintro y hy (hy2 | hy2)
    · exact h.je y hy2 hy
    · exact h.jc y hy2 hy
theorem made_new {H H2 : AH} {s : Nat} {vals : List Value} (hv : veqs vals vals = true) (he : H2.objs.get H.next = (H.new s vals).2.objs.get H.next) : MadeQ H.next (H.new s vals).2 H2 := by
  intro x hx
  have := Sh.Obj.new (H := H) s vals
  unfold Sh.Obj at this
  rw [he]
  refine ⟨hx, ?_⟩
  rw [this] at hx
  injection hx with hx
  subst hx
  simp [objEq, rowEq, hv]
theorem grState {H : AH} {X : Nat → Prop} {g : Nat} {sigma : List ByteArray} {rows : List (List (List Value))} {ends costs : List Int}
    (h : GrX H X g sigma rows ends costs) (hl : rows.length ≤ 1048576) (he : ends.length = rows.length) (hc : costs.length = rows.length) (hw : Wf H) :
    Sh.Call Tryz.prog (knows 10) 71 [.pointer (some ⟨g, 0, some 0⟩)] H (fun r H' => Chg X H H' ∧ r = .int .i64 (rows.length : Int) ∧ GrX H' (fun y => X y ∨ H.next ≤ y) g sigma (rows ++ [[]]) (ends ++ [0]) (costs ++ [0])) := by
  refine call_of rfl Tryz.func71 rfl (Nat.le_of_ble_eq_true rfl) ?_
  have hres : Tryz.f71.results.toList = [.tmp 2] := rfl
  obtain ⟨sv, av, ev, cv, os, ot, oe, oc, vals, obs, h, ho⟩ := h
  have hg := h.arr.lt hw
  -- three times room for one element
  have b1 := build1_73 (H := H) (x := .slice none 0 0) rfl rfl
  have k1 := Kept.new hw 1 [.slice none 0 0]
  have q1 : Buf (H.new 1 [.slice none 0 0]).2 1 (.slice (some ⟨H.next, 0, some 0⟩) 1 1) [[.slice none 0 0]] (some H.next) := Buf.fresh (H := H) (s := 1) (xs := [[.slice none 0 0]]) hw (by simp) (by simp) 1 rfl
  have m1 := fun H2 => made_new (H := H) (H2 := H2) (s := 1) (vals := [.slice none 0 0]) (by simp [veqs_cons, veqs_nil, veq_slice])
  have n1 : (H.new 1 [.slice none 0 0]).2.next = H.next + 1 := rfl
  obtain ⟨K1, hK1⟩ : ∃ K, (H.new 1 [.slice none 0 0]).2 = K := ⟨_, rfl⟩
  simp only [vcells] at b1
  rw [hK1] at b1 k1 q1 m1 n1
  have b2 := build1_74 (H := K1) (x := .int .i64 0) rfl rfl
  have k2 := Kept.new k1.wf 1 [.int .i64 0]
  have q2 : Buf (K1.new 1 [.int .i64 0]).2 1 (.slice (some ⟨K1.next, 0, some 0⟩) 1 1) [[.int .i64 0]] (some K1.next) := Buf.fresh (H := K1) (s := 1) (xs := [[.int .i64 0]]) k1.wf (by simp) (by simp) 1 rfl
  have m2 := fun H2 => made_new (H := K1) (H2 := H2) (s := 1) (vals := [.int .i64 0]) (by simp [veqs_cons, veqs_nil, veq_int])
  have n2 : (K1.new 1 [.int .i64 0]).2.next = K1.next + 1 := rfl
  obtain ⟨K2, hK2⟩ : ∃ K, (K1.new 1 [.int .i64 0]).2 = K := ⟨_, rfl⟩
  simp only [vcells] at b2
  rw [hK2] at b2 k2 q2 m2 n2
  have b3 := build1_74 (H := K2) (x := .int .i64 0) rfl rfl
  have k3 := Kept.new k2.wf 1 [.int .i64 0]
  have q3 : Buf (K2.new 1 [.int .i64 0]).2 1 (.slice (some ⟨K2.next, 0, some 0⟩) 1 1) [[.int .i64 0]] (some K2.next) := Buf.fresh (H := K2) (s := 1) (xs := [[.int .i64 0]]) k2.wf (by simp) (by simp) 1 rfl
  have m3 := fun H2 => made_new (H := K2) (H2 := H2) (s := 1) (vals := [.int .i64 0]) (by simp [veqs_cons, veqs_nil, veq_int])
  have n3 : (K2.new 1 [.int .i64 0]).2.next = K2.next + 1 := rfl
  obtain ⟨K3, hK3⟩ : ∃ K, (K2.new 1 [.int .i64 0]).2 = K := ⟨_, rfl⟩
  simp only [vcells] at b3
  rw [hK3] at b3 k3 q3 m3 n3
  have k12 := k1.trans k2
  have k13 := k12.trans k3
  have h3 : GrB K3 0 g sv av ev cv os ot oe oc vals obs sigma rows ends costs := h.chg hw (k13.chg (X := none')) fun _ _ h => h
  have hg3 := h3.arr.lt k3.wf
  -- the three appends
  obtain ⟨a1, c1, av', A1, ot', rfl, e1, hj1, g1, i1, in1⟩ := h3.jag.addRow k3.wf
  have q1a := (q1.kept k1.wf (k2.trans k3)).toSl
  have ap1 := app_73 (base := a1) (len := rows.length) (cap := c1) (q1a.srcKind Tryz.underlying73) q1a.newCells (by simp; omega)
  have hfl1 : flat [[Value.slice none 0 0]] = [.slice none 0 0] := by simp [flat]
  have hfl2 : flat [[Value.int .i64 0]] = [.int .i64 0] := by simp [flat]
  simp only [List.length_singleton, hfl1] at ap1
  rw [e1] at ap1
  have otK : ∀ y, ot = some y → y < H.next := fun y hy => h.jag.top.lt hw y hy
  have jK : ∀ y, JIn ot obs y → y < H.next := fun y hy => h.jag.lt hw y hy
  have oeK : ∀ y, oe = some y → y < H.next := fun y hy => h.en.lt hw y hy
  have ocK : ∀ y, oc = some y → y < H.next := fun y hy => h.co.lt hw y hy
  have x1 := g1.next
  have en1 := h3.en.chg k3.wf g1 fun y hy hyt => h3.je y hy (.inl hyt)
  have co1 := h3.co.chg k3.wf g1 fun y hy hyt => h3.jc y hy (.inl hyt)
  have q2a := (q2.kept k2.wf k3).chg k3.wf g1 fun y hy hyt => by have := otK y hyt; have := Option.some.inj hy; omega
  have q3a := q3.chg k3.wf g1 fun y hy hyt => by have := otK y hyt; have := Option.some.inj hy; omega
  obtain ⟨a2, c2, hev⟩ := en1.shape
  rw [List.length_map] at hev
  subst hev
  obtain ⟨ev', A2, oe', e2, hj2, g2, ne2⟩ := en1.append g1.wf (xs := [[.int .i64 0]]) (by simp)
  have ap2 := app_74 (base := a2) (len := ends.length) (cap := c2) (q2a.toSl.srcKind Tryz.underlying74) q2a.toSl.newCells (by simp; omega)
  simp only [List.length_singleton, hfl2] at ap2 e2
  rw [e2] at ap2
  have x2 := g2.next
  have co2 := co1.chg g1.wf g2 fun y hy hye => h3.ec y hye hy
  have q3b := q3a.chg g1.wf g2 fun y hy hye => by have := oeK y hye; have := Option.some.inj hy; omega
  obtain ⟨a3, c3, hcv⟩ := co2.shape
  rw [List.length_map] at hcv
  subst hcv
  obtain ⟨cv', A3, oc', e3, hj3, g3, ne3⟩ := co2.append g2.wf (xs := [[.int .i64 0]]) (by simp)
  have ap3 := app_74 (base := a3) (len := costs.length) (cap := c3) (q3b.toSl.srcKind Tryz.underlying74) q3b.toSl.newCells (by simp; omega)
  simp only [List.length_singleton, hfl2] at ap3 e3
  rw [e3] at ap3
  have x3 := g3.next
  -- the three fields
  have arr1 := h3.arr.keep (g1.old g hg3 fun hy => h3.gj (.inl hy))
  have arr2 := arr1.keep (g2.old g (Nat.lt_of_lt_of_le hg3 x1) h3.ge)
  have arr3 := arr2.keep (g3.old g (Nat.lt_of_lt_of_le hg3 (Nat.le_trans x1 x2)) h3.gc)
  obtain ⟨S1, w1, ar1, v1, z1⟩ := arr3.write g3.wf (i := 1) (vs := [av']) (by simp)
  have sc1 : setCells [sv, .slice a1 rows.length c1, .slice a2 ends.length c2, .slice a3 costs.length c3] 1 [av'] = [sv, av', .slice a2 ends.length c2, .slice a3 costs.length c3] := rfl
  rw [sc1] at ar1
  obtain ⟨S2, w2, ar2, v2, z2⟩ := ar1.write z1.wf (i := 2) (vs := [ev']) (by simp)
  have sc2 : setCells [sv, av', .slice a2 ends.length c2, .slice a3 costs.length c3] 2 [ev'] = [sv, av', ev', .slice a3 costs.length c3] := rfl
  rw [sc2] at ar2
  obtain ⟨S3, w3, ar3, v3, z3⟩ := ar2.write z2.wf (i := 3) (vs := [cv']) (by simp)
  have sc3 : setCells [sv, av', ev', .slice a3 costs.length c3] 3 [cv'] = [sv, av', ev', cv'] := rfl
  rw [sc3] at ar3
  have ih1 := hj1.top.isCell
  have ih2 := hj2.isCell
  have ih3 := hj3.isCell
  have st1 : astore Tryz.prog 73 A3 av' (.pointer (some ⟨g, 1, some 0⟩)) = some S1 := by rw [store_cell size_73 ih1, w1]
  have st2 : astore Tryz.prog 74 S1 ev' (.pointer (some ⟨g, 2, some 0⟩)) = some S2 := by rw [store_cell size_74 ih2, w2]
  have st3 : astore Tryz.prog 74 S2 cv' (.pointer (some ⟨g, 3, some 0⟩)) = some S3 := by rw [store_cell size_74 ih3, w3]
  have l1 := h.arr.cell 1
  have l2 : K1.cell ⟨g, 2, some 0⟩ = some (.slice a2 ends.length c2) := (h.arr.keep (k1.old g hg)).cell 2
  have l3 : K2.cell ⟨g, 3, some 0⟩ = some (.slice a3 costs.length c3) := (h.arr.keep (k12.old g hg)).cell 3
  have r2 : A1.cell ⟨g, 2, some 0⟩ = some (.slice a2 ends.length c2) := arr1.cell 2
  have r3 : A1.cell ⟨g, 3, some 0⟩ = some (.slice a3 costs.length c3) := arr1.cell 3
  have r4 : A2.cell ⟨g, 3, some 0⟩ = some (.slice a3 costs.length c3) := arr2.cell 3
  have u1 : MadeQ K1.next K2 A1 := m2 A1 ((g1.old K1.next (by omega) fun hy => by have := otK _ hy; omega).trans (k3.old K1.next (by omega)))
  have u2 : MadeQ K2.next K3 A1 := m3 A1 (g1.old K2.next (by omega) fun hy => by have := otK _ hy; omega)
  have u3 : MadeQ K2.next K3 A2 := m3 A2 ((g2.old K2.next (by omega) fun hy => by have := oeK _ hy; omega).trans (g1.old K2.next (by omega) fun hy => by have := otK _ hy; omega))
  have hlenA : ∀ H', abuiltin Tryz.prog .len [73] [av'] H' = some (.int .i64 ((rows.length + 1 : Nat) : Int), H') := fun H' => by
    rw [hj1.top.toSl.len Tryz.underlying73]; simp [h.jag.len1]
  have wl : IntKind.wrap .i64 (((rows.length + 1 : Nat) : Int) - 1) = (rows.length : Int) := by rw [wrap64 (by omega) (by omega)]; omega
  have lf : S3.cell ⟨g, 1, some 0⟩ = some av' := ar3.cell 1
  simp only [↓Sh.dn, sx, Nat.reduceBEq, reduceCtorEq, Nat.reduceEqDiff]
  refine wp_made (fl := [(0, [], [], []), (1, [], [], []), (2, [], [], []), (3, [], [], []), (4, [], [], []), (5, [], [], []), (6, [], [], []), (7, [], [], []), (9, [], [], []), (10, [], [], []), (11, [], [], []), (12, [], [], []), (13, [], [], []), (15, [], [], []), (16, [], [], []), (17, [], [], []), (18, [], [], []), (19, [], [], []), (8, [18, 12], [true, true, false], [true, true, false]), (14, [18], [true, false], [true, false]), (20, [], [false], [false]), (21, [], [], []), (22, [], [], []), (23, [], [], []), (24, [], [], []), (25, [], [], []), (26, [], [], []), (27, [], [], []), (28, [], [], []), (29, [], [], [])]) (by kernel_rfl) (by kernel_rfl) (by kernel_rfl) ?_
  simp only [↓Sh.dn, sx, Nat.reduceBEq, reduceCtorEq, Nat.reduceEqDiff, wpm, nextM, holdQ, keepQ, again, isEff, isMake, veq_ptr, veq_int, veq_str, veq_bool, veq_undef, veq_slice, forall_eq, forall_eq', l1, l2, l3, b1, b2, b3, hK1, hK2, hK3, ap1, ap2, ap3, r2, r3, r4, u1, u2, u3, st1, st2, st3, lf, hlenA, wl, hres]
  have hX : ∀ y, (ot = some y ∨ oe = some y ∨ oc = some y ∨ y = g) → X y := by
    rintro y (hy | hy | hy | hy)
    · exact ho y (.inr (.inr (.inl (.inl hy))))
    · exact ho y (.inr (.inr (.inr (.inl hy))))
    · exact ho y (.inr (.inr (.inr (.inr hy))))
    · exact ho y (.inl hy)
  have tot : Chg X H S3 := ((((((k13.chg (X := X)).trans (g1.weak fun y hy => hX y (.inl hy))).trans (g2.weak fun y hy => hX y (.inr (.inl hy)))).trans (g3.weak fun y hy => hX y (.inr (.inr (.inl hy))))).trans (z1.weak fun y hy => hX y (.inr (.inr (.inr hy))))).trans (z2.weak fun y hy => hX y (.inr (.inr (.inr hy))))).trans (z3.weak fun y hy => hX y (.inr (.inr (.inr hy))))
  refine ⟨tot, sv, av', ev', cv', os, ot', oe', oc', vals ++ [.slice none 0 0], obs ++ [none], ?_, ?_⟩
  · have hen : (ends ++ [0]).map intC = ends.map intC ++ [[.int .i64 0]] := by simp [intC]
    have hco : (costs ++ [0]).map intC = costs.map intC ++ [[.int .i64 0]] := by simp [intC]
    have jn : ∀ y, JIn ot' (obs ++ [none]) y → JIn ot obs y ∨ K3.next ≤ y ∧ y < A1.next := fun y hy => (in1 y hy).imp id fun h => ⟨h, hj1.lt g1.wf y hy⟩
    have en' : ∀ y, oe' = some y → oe = some y ∨ y = A1.next ∧ A1.next < A2.next := fun y hy => by
      rcases ne2 with h4 | ⟨h4, h5⟩
      · exact .inl (by rw [← h4]; exact hy)
      · rw [h4] at hy; exact .inr ⟨(Option.some.inj hy).symm, h5⟩
    have cn' : ∀ y, oc' = some y → oc = some y ∨ y = A2.next := fun y hy => by
      rcases ne3 with h4 | ⟨h4, h5⟩
      · exact .inl (by rw [← h4]; exact hy)
      · rw [h4] at hy; exact .inr (Option.some.inj hy).symm
    have osK : ∀ y, os = some y → y < H.next := fun y hy => h.sg.lt hw y hy
    have gtot : ∀ {B : AH}, Chg (fun y => y = g) A3 B → True := fun _ => trivial
    have z12 := z1.trans (z2.trans z3)
    have kS := (z1.trans z2).trans z3
    refine { arr := ar3, sg := ?_, jag := ?_, en := ?_, co := ?_, fg := Nat.zero_le _, fs := fun _ _ => Nat.zero_le _, fj := fun _ _ => Nat.zero_le _, fe := fun _ _ => Nat.zero_le _, fc := fun _ _ => Nat.zero_le _, gs := h.gs, gj := ?_, ge := ?_, gc := ?_, sj := ?_, se := ?_, sc := ?_, je := ?_, jc := ?_, ec := ?_ }
    · exact (((h3.sg.chg k3.wf g1 fun y hy hyt => h3.sj y hy (.inl hyt)).chg g1.wf g2 fun y hy hye => h3.se y hy hye).chg g2.wf g3 fun y hy hyc => h3.sc y hy hyc).chg g3.wf kS fun y hy hyg => h.gs (by rw [hy, hyg])
    · refine ((hj1.chg g1.wf g2 fun y hy hye => ?_).chg g2.wf g3 fun y hy hyc => ?_).chg g3.wf kS fun y hy hyg => ?_
      · rcases jn y hy with h1 | h1
        · exact h3.je y hye h1
        · have := oeK y hye; omega
      · rcases jn y hy with h1 | h1
        · exact h3.jc y hyc h1
        · have := ocK y hyc; omega
      · rcases jn y hy with h1 | h1
        · exact h.gj (hyg ▸ h1)
        · omega
    · rw [hen]
      refine (hj2.chg g2.wf g3 fun y hy hyc => ?_).chg g3.wf kS fun y hy hyg => ?_
      · rcases en' y hy with h1 | ⟨h1, _⟩
        · exact h3.ec y h1 hyc
        · have := ocK y hyc; omega
      · rcases en' y hy with h1 | ⟨h1, _⟩
        · exact h.ge (hyg ▸ h1)
        · omega
    · rw [hco]
      refine hj3.chg g3.wf kS fun y hy hyg => ?_
      rcases cn' y hy with h1 | h1
      · exact h.gc (hyg ▸ h1)
      · omega
    · intro hy
      rcases jn g hy with h1 | h1
      · exact h.gj h1
      · omega
    · intro hy
      rcases en' g hy with h1 | ⟨h1, _⟩
      · exact h.ge h1
      · omega
    · intro hy
      rcases cn' g hy with h1 | h1
      · exact h.gc h1
      · omega
    · intro y hy hy2
      rcases jn y hy2 with h1 | h1
      · exact h.sj y hy h1
      · have := osK y hy; omega
    · intro y hy hy2
      rcases en' y hy2 with h1 | ⟨h1, _⟩
      · exact h.se y hy h1
      · have := osK y hy; omega
    · intro y hy hy2
      rcases cn' y hy2 with h1 | h1
      · exact h.sc y hy h1
      · have := osK y hy; omega
    · intro y hy hy2
      rcases en' y hy with h1 | ⟨h1, h5⟩
      · rcases jn y hy2 with h2 | h2
        · exact h.je y h1 h2
        · have := oeK y h1; omega
      · rcases jn y hy2 with h2 | h2
        · have := jK y h2; omega
        · omega
    · intro y hy hy2
      rcases cn' y hy with h1 | h1
      · rcases jn y hy2 with h2 | h2
        · exact h.jc y h1 h2
        · have := ocK y h1; omega
      · rcases jn y hy2 with h2 | h2
        · have := jK y h2; omega
        · omega
    · intro y hy hy2
      rcases en' y hy with h1 | ⟨h1, h5⟩
      · rcases cn' y hy2 with h2 | h2
        · exact h.ec y h1 h2
        · have := oeK y h1; omega
      · rcases cn' y hy2 with h2 | h2
        · have := ocK y h2; omega
        · omega
  · rintro y (hy | hy | hy | hy | hy)
    · exact .inl (ho y (.inl hy))
    · exact .inl (ho y (.inr (.inl hy)))
    · rcases in1 y hy with h1 | h1
      · exact .inl (ho y (.inr (.inr (.inl h1))))
      · exact .inr (by omega)
    · rcases ne2 with h4 | ⟨h4, h5⟩
      · exact .inl (ho y (.inr (.inr (.inr (.inl (by rw [← h4]; exact hy))))))
      · rw [h4] at hy; have := Option.some.inj hy; exact .inr (by omega)
    · rcases ne3 with h4 | ⟨h4, h5⟩
      · exact .inl (ho y (.inr (.inr (.inr (.inr (by rw [← h4]; exact hy))))))
      · rw [h4] at hy; have := Option.some.inj hy; exact .inr (by omega)
end Go.Proofs.YtfcmpclbhnjkgaaGreat
/- (*graph.Graph).Add: another graph is put into one. -/
set_option maxHeartbeats 4000000
set_option maxRecDepth 20000
set_option linter.unusedSimpArgs false
set_option linter.unusedVariables false
set_option pp.deepTerms.threshold 8
namespace Go.Proofs.YtfcmpclbhnjkgaaGreat
open Go Go.Proofs Go.Proofs.Sh
theorem GrX.steady {H : AH} {X Y : Nat → Prop} {g : Nat} {sigma : List ByteArray} {rows : List (List (List Value))} {ends costs : List Int} (h : GrX H Y g sigma rows ends costs) (hw : Wf H) (hd : ∀ y, Y y → ¬X y) :
    ∃ sv av ev cv vals, ∀ H', Chg X H H' → GrR H' g sv av ev cv vals sigma rows ends costs := by
  obtain ⟨sv, av, ev, cv, os, ot, oe, oc, vals, obs, h, ho⟩ := h
  refine ⟨sv, av, ev, cv, vals, fun H' hc => ⟨h.arr.keep (hc.old g (h.arr.lt hw) (hd g (ho g (.inl rfl)))), (h.sg.chg hw hc fun y hy => hd y (ho y (.inr (.inl hy)))).toSl, (h.jag.chg hw hc fun y hy => hd y (ho y (.inr (.inr (.inl hy))))).read, (h.en.chg hw hc fun y hy => hd y (ho y (.inr (.inr (.inr (.inl hy)))))).toSl, (h.co.chg hw hc fun y hy => hd y (ho y (.inr (.inr (.inr (.inr hy)))))).toSl⟩⟩
/-- An end and its cost are set. -/
theorem GrX.setEC {H : AH} {X : Nat → Prop} {g : Nat} {sigma : List ByteArray} {rows : List (List (List Value))} {ends costs : List Int} {s : Nat} (h : GrX H X g sigma rows ends costs) (hw : Wf H) (hs : s < ends.length) (hs' : s < costs.length) (x y : Int) :
    ∃ ev cv p1 p2 H1 H2, H.cell ⟨g, 2, some 0⟩ = some ev ∧ H.cell ⟨g, 3, some 0⟩ = some cv ∧ H1.cell ⟨g, 3, some 0⟩ = some cv ∧ veq cv cv = true ∧ aindexAddr Tryz.prog 74 ev (.int .i64 (s : Int)) = some (.pointer (some p1)) ∧ aindexAddr Tryz.prog 74 cv (.int .i64 (s : Int)) = some (.pointer (some p2)) ∧
      astore Tryz.prog 3 H (.int .i64 x) (.pointer (some p1)) = some H1 ∧ astore Tryz.prog 3 H1 (.int .i64 y) (.pointer (some p2)) = some H2 ∧ Chg X H H1 ∧ Chg X H H2 ∧ GrX H2 X g sigma rows (ends.set s x) (costs.set s y) := by
  obtain ⟨sv, av, ev, cv, os, ot, oe, oc, vals, obs, h, ho⟩ := h
  obtain ⟨p1, H1, i1, e1, b1, c1, n1⟩ := Buf.set (P := Tryz.prog) h.en hw (i := s) (x := intC x) (by simpa using hs) rfl
  have hco1 := h.co.chg hw c1 fun y hy hye => h.ec y hye hy
  obtain ⟨p2, H2, i2, e2, b2, c2, n2⟩ := Buf.set (P := Tryz.prog) hco1 c1.wf (i := s) (x := intC y) (by simpa using hs') rfl
  have a1 := h.arr.keep (c1.old g (h.arr.lt hw) h.ge)
  have hX1 : Chg X H H1 := c1.weak fun y hy => ho y (.inr (.inr (.inr (.inl hy))))
  have hX2 : Chg X H1 H2 := c2.weak fun y hy => ho y (.inr (.inr (.inr (.inr hy))))
  have c12 : Chg (fun y => oe = some y ∨ oc = some y) H H2 := (c1.weak fun y hy => .inl hy).trans (c2.weak fun y hy => .inr hy)
  refine ⟨ev, cv, p1, p2, H1, H2, h.arr.cell 2, h.arr.cell 3, a1.cell 3, h.co.toSl.veq, i1 Tryz.underlying74 size_3, i2 Tryz.underlying74 size_3, by rw [store_cell size_3 rfl]; exact e1, by rw [store_cell size_3 rfl]; exact e2, hX1, hX1.trans hX2, sv, av, ev, cv, os, ot, oe, oc, vals, obs, { h with arr := h.arr.keep (c12.old g (h.arr.lt hw) ?_), sg := h.sg.chg hw c12 ?_, jag := h.jag.chg hw c12 ?_, en := ?_, co := ?_ }, ho⟩
  · rintro (hy | hy)
    · exact h.ge hy
    · exact h.gc hy
  · rintro y hy (hy2 | hy2)
    · exact h.se y hy hy2
    · exact h.sc y hy hy2
  · rintro y hy (hy2 | hy2)
    · exact h.je y hy2 hy
    · exact h.jc y hy2 hy
  · rw [List.map_set]; exact b1.chg c1.wf c2 fun y hy hyc => h.ec y hy hyc
  · rw [List.map_set]; exact b2
def shiftE (at_ : Nat) (e : Nat × Int × Int × Int) : Nat × Int × Int × Int := (at_ + e.1, e.2)
def shiftRows (at_ : Nat) (E : List (List (Nat × Int × Int × Int))) : List (List (Nat × Int × Int × Int)) := E.map fun r => r.map (shiftE at_)
theorem set_last {α : Type} (A : List α) (x y : α) : (A ++ [x]).set A.length y = A ++ [y] := by
  rw [List.set_append_right _ _ (Nat.le_refl _), Nat.sub_self]; rfl
theorem grAdd {H : AH} {X Y : Nat → Prop} {g g2 n : Nat} {sigma sigma2 : List ByteArray} {rows : List (List (List Value))} {ends costs ends2 costs2 : List Int} {E : List (List (Nat × Int × Int × Int))}
    (h : GrX H X g sigma rows ends costs) (h2 : GrX H Y g2 sigma2 (gCells E) ends2 costs2) (hd : ∀ y, Y y → ¬X y ∧ y < H.next) (hel : ends.length = rows.length) (hcl : costs.length = rows.length) (hE : E.length = n) (he2 : ends2.length = n) (hc2 : costs2.length = n) (hn1 : 1 ≤ n) (hn : n ≤ 3000) (hrl : rows.length ≤ 10000)
    (hto : ∀ r ∈ E, r.length ≤ 180000000 ∧ ∀ e ∈ r, e.1 < n) (hw : Wf H) :
    Sh.Call Tryz.prog (knows 10) 50 [.pointer (some ⟨g, 0, some 0⟩), .pointer (some ⟨g2, 0, some 0⟩)] H (fun r H' => r = .int .i64 (rows.length : Int) ∧ Chg (fun y => X y ∨ H.next ≤ y) H H' ∧ GrX H' (fun y => X y ∨ H.next ≤ y) g sigma (rows ++ gCells (shiftRows rows.length E)) (ends ++ ends2) (costs ++ costs2)) := by
  refine call_of rfl Tryz.func50 rfl (Nat.le_of_ble_eq_true rfl) ?_
  have hres : Tryz.f50.results.toList = [.tmp 4] := rfl
  simp only [↓Sh.dn, sx, Nat.reduceBEq, reduceCtorEq, Nat.reduceEqDiff]
  have inner : Sh.Call Tryz.prog (knows 10) 100 [.pointer (some ⟨g, 0, some 0⟩), .pointer (some ⟨g2, 0, some 0⟩)] H (fun r H' => r = .int .i64 (rows.length : Int) ∧ Chg (fun y => X y ∨ H.next ≤ y) H H' ∧ GrX H' (fun y => X y ∨ H.next ≤ y) g sigma (rows ++ gCells (shiftRows rows.length E)) (ends ++ ends2) (costs ++ costs2)) := by
    refine call_of rfl Tryz.func100 rfl (Nat.le_of_ble_eq_true rfl) ?_
    have hres : Tryz.f100.results.toList = [.tmp 4] := rfl
    obtain ⟨sv, av, ev, cv, vals, hst⟩ := GrX.steady (X := fun y => X y ∨ H.next ≤ y) h2 hw fun y hy h => by
      have := hd y hy
      rcases h with h | h
      · exact this.1 h
      · omega
    have hR0 := hst H (Chg.refl hw)
    obtain ⟨sv0, av0, ev0, cv0, vals0, hg0⟩ := h.read
    have hlen0 : abuiltin Tryz.prog .len [73] [av0] H = some (.int .i64 (rows.length : Int), H) := by
      rw [hg0.jag.sl.len Tryz.underlying73, List.length_map, hg0.jag.len]
    have hlen2 : abuiltin Tryz.prog .len [73] [av] H = some (.int .i64 (n : Int), H) := by
      rw [hR0.jag.sl.len Tryz.underlying73, List.length_map, hR0.jag.len]; unfold gCells; rw [List.length_map, hE]
    have c0 := hg0.arr.cell 1
    have c2 := hR0.arr.cell 1
    simp only [↓Sh.dn, sx, Nat.reduceBEq, reduceCtorEq, Nat.reduceEqDiff, c0, c2, hlen0, hlen2]
    obtain ⟨Z, hZ⟩ : ∃ Z, (fun y => X y ∨ H.next ≤ y) = Z := ⟨_, rfl⟩
    rw [hZ] at hst ⊢
    have hXZ : ∀ y, X y → Z y := fun y hy => by rw [← hZ]; exact .inl hy
    have hNZ : ∀ {H'}, Chg Z H H' → ∀ y, Z y ∨ H'.next ≤ y → Z y := fun hc y hy => by
      rcases hy with hy | hy
      · exact hy
      · rw [← hZ]; exact .inr (Nat.le_trans hc.next hy)
    have hpg : ∀ {H'}, Chg Z H H' → PG H' g2 n 180000000 E ends2 sv av ev cv vals sigma2 costs2 := fun hc => ⟨hst _ hc, hE, he2, hn1, hn, fun s r hr => hto r (List.mem_of_getElem? hr)⟩
    obtain ⟨at_, hat⟩ : ∃ k, rows.length = k := ⟨_, rfl⟩
    rw [hat]
    rw [hat] at hrl hel hcl
    refine wp_for n 20 (List.range' 20 60 ++ [6, 7, 9]) (fun i F H' => Chg Z H H' ∧ GrX H' Z g sigma (rows ++ gCells (shiftRows at_ (E.take i))) (ends ++ ends2.take i) (costs ++ costs2.take i)) (by simp only [↓Sh.dn, sx, Nat.reduceBEq, reduceCtorEq, Nat.reduceEqDiff]) ⟨Chg.refl hw, by simpa [gCells, shiftRows] using h.mono hXZ⟩ ?_ ?_
    · rintro i F H' hi hF f20 ⟨hc, hG⟩ k
      have f0 := hF 0 rfl
      have f1 := hF 1 rfl
      have f5 := hF 5 rfl
      have f18 := hF 18 rfl
      have f19 := hF 19 rfl
      simp only [↓Sh.dn, sx, Nat.reduceBEq, reduceCtorEq, Nat.reduceEqDiff, hat] at f0 f1 f5 f18 f19
      have hiE : i < E.length := by omega
      have hr : E[i]? = some E[i] := List.getElem?_eq_getElem hiE
      obtain ⟨hrl', hrt⟩ := hto E[i] (List.getElem_mem hiE)
      have htE : E.take (i + 1) = E.take i ++ [E[i]] := by rw [List.take_add_one, hr]; rfl
      generalize E[i] = r at hr hrl' hrt htE
      obtain ⟨R, hR⟩ : ∃ R, rows ++ gCells (shiftRows at_ (E.take i)) = R := ⟨_, rfl⟩
      have hRl : R.length = at_ + i := by rw [← hR]; simp [gCells, shiftRows, hat]; omega
      have hel' : (ends ++ ends2.take i).length = at_ + i := by simp [hel]; omega
      have hcl' : (costs ++ costs2.take i).length = at_ + i := by simp [hcl]; omega
      rw [hR] at hG
      obtain ⟨pr, wr, hiar, hcr, hsr, hlr⟩ := PG.row (hpg hc) hr
      have hvl : i < vals.length := by rw [hR0.jag.len]; unfold gCells; rw [List.length_map]; omega
      have key : ∀ {Hx wx}, Chg Z H Hx → Hx.cell pr = some wx → wx = vals[i] := by
        intro Hx wx hcx hx
        obtain ⟨p', h1, h2⟩ := Sl.elem (s := 1) Tryz.underlying73 size_94 (hst Hx hcx).jag.sl (i := i) (u := vals[i]) (by rw [List.getElem?_map, List.getElem?_eq_getElem hvl]; rfl)
        rw [hiar] at h1
        have e1 := Option.some.inj h1
        injection e1 with e1; injection e1 with e1
        subst e1
        rw [hx] at h2
        exact Option.some.inj h2
      obtain ⟨r1, H1, hd1, hc1, rfl, hG1⟩ := grState hG (by omega) (by omega) (by omega) hc.wf
      have hc01 := hc.trans hc1
      have hG1 := hG1.mono (hNZ hc)
      simp only [↓Sh.dn, sx, Nat.reduceBEq, reduceCtorEq, Nat.reduceEqDiff, f0, f18, f19, f20, nat_lt, hi, decide_true, hiar, hcr]
      refine ⟨_, _, hd1, ?_⟩
      simp only [↓Sh.dn, sx, Nat.reduceBEq, reduceCtorEq, Nat.reduceEqDiff, hlr]
      refine wp_for r.length 29 (List.range' 29 20 ++ [9]) (fun q F'' H'' => Chg Z H H'' ∧ GrX H'' Z g sigma (R ++ [((r.take q).map (shiftE at_)).map gCell]) (ends ++ ends2.take i ++ [0]) (costs ++ costs2.take i ++ [0])) (by simp only [↓Sh.dn, sx, Nat.reduceBEq, reduceCtorEq, Nat.reduceEqDiff]) ⟨hc01, by simpa using hG1⟩ ?_ ?_
      · rintro q F'' H'' hq hF'' f29 ⟨hc2, hG2⟩ k2
        have g0 := hF'' 0 rfl
        have g5 := hF'' 5 rfl
        have g6 := hF'' 6 rfl
        have g27 := hF'' 27 rfl
        have g28 := hF'' 28 rfl
        simp only [↓Sh.dn, sx, Nat.reduceBEq, reduceCtorEq, Nat.reduceEqDiff, f0, f5] at g0 g5 g6 g27 g28
        obtain ⟨pr2, wr2, hia2, hcr2, hsr2, hlr2⟩ := PG.row (hpg hc2) hr
        rw [hiar] at hia2
        have e1 := Option.some.inj hia2
        injection e1 with e1; injection e1 with e1
        subst e1
        have hwr : wr2 = wr := (key hc2 hcr2).trans (key hc hcr).symm
        subst hwr
        obtain ⟨pe, hiae, hce⟩ := PG.edge hsr2 hq
        have hrq : r[q] ∈ r := List.getElem_mem hq
        have htk : r.take (q + 1) = r.take q ++ [r[q]] := by rw [List.take_add_one, List.getElem?_eq_getElem hq]; rfl
        generalize r[q] = e at hce hrq htk
        have kn := Kept.new hc2.wf 4 (gCell e)
        have hc3 := hc2.trans (kn.chg (X := Z))
        have hG3 := hG2.kept hc2.wf kn
        have hrow : (R ++ [((r.take q).map (shiftE at_)).map gCell])[at_ + i]? = some (((r.take q).map (shiftE at_)).map gCell) := by
          rw [List.getElem?_append_right (by omega), hRl, Nat.sub_self]; rfl
        have hen := hrt e hrq
        have w1 : IntKind.wrap .i64 ((at_ : Int) + (i : Int)) = ((at_ + i : Nat) : Int) := by rw [wrap64 (by omega) (by omega)]; omega
        have w2 : IntKind.wrap .i64 ((at_ : Int) + (e.1 : Int)) = ((at_ + e.1 : Nat) : Int) := by rw [wrap64 (by omega) (by omega)]; omega
        obtain ⟨rr, H5, hd5, hc5, hG5⟩ := grArcX (x0 := ((at_ + e.1 : Nat) : Int)) (x1 := e.2.1) (x2 := e.2.2.1) (x3 := e.2.2.2) hG3 hrow (by rw [List.length_map, List.length_map, List.length_take]; omega) hc3.wf
        simp only [↓Sh.dn, sx, Nat.reduceBEq, reduceCtorEq, Nat.reduceEqDiff, f29, g0, g5, g6, g27, g28, hiae, hce, nat_lt, hq, decide_true, Option.map_some, geZero, geStore, geOver, ge0, ge1, ge2, ge3, w1, w2]
        refine ⟨_, _, hd5, ?_⟩
        simp only [↓Sh.dn, sx, Nat.reduceBEq, reduceCtorEq, Nat.reduceEqDiff, f29, wrap_succ' hq (Nat.le_trans hrl' (by decide))]
        refine k2 _ _ (by repeat (first | refine Same.put ?_ rfl | exact Same.rfl' _)) (by simp only [↓Sh.dn, sx, Nat.reduceBEq, reduceCtorEq, Nat.reduceEqDiff]) ⟨hc3.trans hc5, ?_⟩
        have := hG5.mono (hNZ hc3)
        rw [← hRl, set_last] at this
        rw [htk]
        simpa [gCell, shiftE] using this
      · rintro F'' H'' hF'' f29 ⟨hc2, hG2⟩
        rw [List.take_length] at hG2
        have g0 := hF'' 0 rfl
        have g1 := hF'' 1 rfl
        have g5 := hF'' 5 rfl
        have g6 := hF'' 6 rfl
        have g20 := hF'' 20 rfl
        have g28 := hF'' 28 rfl
        simp only [↓Sh.dn, sx, Nat.reduceBEq, reduceCtorEq, Nat.reduceEqDiff, f0, f1, f5, f20] at g0 g1 g5 g6 g20 g28
        have hi2 : i < ends2.length := by omega
        have hi3 : i < costs2.length := by omega
        have hR2 := hst H'' hc2
        obtain ⟨evg, cvg, p1, p2, H6, H7, z1, z2, z3, zq, i1, i2, s1, s2, ch1, ch2, hG3⟩ := GrX.setEC (s := at_ + i) hG2 hc2.wf (by simp only [List.length_append, List.length_singleton] at hel' ⊢; omega) (by simp only [List.length_append, List.length_singleton] at hcl' ⊢; omega) ends2[i] costs2[i]
        have hR3 := hst H6 (hc2.trans ch1)
        have y1 := hR2.arr.cell 2
        have y2 := hR2.arr.cell 3
        have y3 := hR3.arr.cell 3
        obtain ⟨pa, ia, ca⟩ := Sl.elem (s := 1) Tryz.underlying74 size_3 hR2.en (i := i) (u := .int .i64 ends2[i]) (by rw [List.getElem?_map, List.getElem?_eq_getElem hi2]; rfl)
        obtain ⟨pb, ib, cb⟩ := Sl.elem (s := 1) Tryz.underlying74 size_3 hR2.co (i := i) (u := .int .i64 costs2[i]) (by rw [List.getElem?_map, List.getElem?_eq_getElem hi3]; rfl)
        obtain ⟨pb', ib', cb'⟩ := Sl.elem (s := 1) Tryz.underlying74 size_3 hR3.co (i := i) (u := .int .i64 costs2[i]) (by rw [List.getElem?_map, List.getElem?_eq_getElem hi3]; rfl)
        rw [ib] at ib'
        have e1 := Option.some.inj ib'
        injection e1 with e1; injection e1 with e1
        subst e1
        have w1 : IntKind.wrap .i64 ((at_ : Int) + (i : Int)) = ((at_ + i : Nat) : Int) := by rw [wrap64 (by omega) (by omega)]; omega
        have qv := hR2.co.veq
        simp only [↓Sh.dn, sx, Nat.reduceBEq, reduceCtorEq, Nat.reduceEqDiff, f29, g28, nat_lt, Nat.lt_irrefl, decide_false]
        refine wp_pend (fl := [(0, []), (1, []), (2, []), (3, []), (4, []), (5, []), (6, []), (7, []), (8, []), (9, []), (10, []), (11, []), (12, []), (13, []), (14, []), (15, []), (16, []), (17, []), (18, []), (19, []), (20, []), (21, []), (22, []), (23, []), (24, []), (25, []), (26, []), (27, []), (28, []), (29, []), (30, []), (31, [])]) (by kernel_rfl) (by kernel_rfl) (by kernel_rfl) ?_
        simp only [↓Sh.dn, sx, Nat.reduceBEq, reduceCtorEq, Nat.reduceEqDiff, wpr, again, isMake, veq_ptr, veq_int, veq_str, veq_bool, veq_undef, veq_slice, forall_eq, forall_eq', g0, g1, g5, g6, g20, z1, z2, z3, zq, i1, i2, s1, s2, y1, y2, y3, qv, ia, ca, ib, cb, cb', w1, wrap_succ' hi (Nat.le_trans hn (by decide))]
        refine k _ _ ?_ (by simp only [↓Sh.dn, sx, Nat.reduceBEq, reduceCtorEq, Nat.reduceEqDiff]) ⟨hc2.trans ch2, ?_⟩
        · repeat refine Same.put ?_ rfl
          exact Same.trans (by repeat (first | refine Same.put ?_ rfl | exact Same.rfl' _)) (hF''.sub rfl)
        · have t1 : ends2.take (i + 1) = ends2.take i ++ [ends2[i]] := by rw [List.take_add_one, List.getElem?_eq_getElem hi2]; rfl
          have t2 : costs2.take (i + 1) = costs2.take i ++ [costs2[i]] := by rw [List.take_add_one, List.getElem?_eq_getElem hi3]; rfl
          have s3 := set_last (ends ++ ends2.take i) 0 ends2[i]
          rw [hel'] at s3
          have s4 := set_last (costs ++ costs2.take i) 0 costs2[i]
          rw [hcl'] at s4
          rw [s3, s4] at hG3
          rw [t1, t2, htE]
          have : rows ++ gCells (shiftRows at_ (E.take i ++ [r])) = R ++ [(r.map (shiftE at_)).map gCell] := by rw [← hR]; simp [gCells, shiftRows]
          rw [this, ← List.append_assoc, ← List.append_assoc]
          exact hG3
    · rintro F H' hF f20 ⟨hc, hG⟩
      have f5 := hF 5 rfl
      have f19 := hF 19 rfl
      simp only [↓Sh.dn, sx, Nat.reduceBEq, reduceCtorEq, Nat.reduceEqDiff, hat] at f5 f19
      rw [← hE, List.take_length, hE, ← he2, List.take_length, he2, ← hc2, List.take_length] at hG
      simp only [↓Sh.dn, sx, Nat.reduceBEq, reduceCtorEq, Nat.reduceEqDiff, f5, f19, f20, nat_lt, Nat.lt_irrefl, decide_false, hres]
      exact ⟨hc, hG⟩
  obtain ⟨r, H1, hd1, h1, h2, h3⟩ := inner
  refine ⟨_, _, hd1, ?_⟩
  simp only [↓Sh.dn, sx, Nat.reduceBEq, reduceCtorEq, Nat.reduceEqDiff, hres]
  exact ⟨h1, h2, h3⟩
end Go.Proofs.YtfcmpclbhnjkgaaGreat
/- (*graph.Graph).Net: the net of a graph. -/
set_option maxHeartbeats 4000000
set_option maxRecDepth 20000
set_option linter.unusedSimpArgs false
set_option linter.unusedVariables false
set_option pp.deepTerms.threshold 8
namespace Go.Proofs.YtfcmpclbhnjkgaaGreat
open Go Go.Proofs Go.Proofs.Sh
def textOf (sigma : List ByteArray) (k : Int) : ByteArray := if k < 0 then ⟨#[]⟩ else sigma.getD k.toNat ⟨#[]⟩
theorem graphText {H : AH} {g : Nat} {sv av ev cv : Value} {vals : List Value} {sigma : List ByteArray} {rows : List (List (List Value))} {ends costs : List Int} (h : GrR H g sv av ev cv vals sigma rows ends costs) {k : Int} (hk : k < sigma.length) :
    Sh.Call Tryz.prog (knows 10) 101 [.pointer (some ⟨g, 0, some 0⟩), .int .i64 k] H (fun r H' => H' = H ∧ r = .string (textOf sigma k)) := by
  refine call_of rfl Tryz.func101 rfl (Nat.le_of_ble_eq_true rfl) ?_
  have hres : Tryz.f101.results.toList = [.tmp 4] := rfl
  have hc := h.arr.cell 0
  by_cases h0 : k < 0
  · have : textOf sigma k = ⟨#[]⟩ := if_pos h0
    simp only [↓Sh.dn, sx, Nat.reduceBEq, reduceCtorEq, Nat.reduceEqDiff, h0, decide_true, hres, this]
  · obtain ⟨i, rfl⟩ : ∃ i : Nat, k = (i : Int) := ⟨k.toNat, by omega⟩
    have hi : i < sigma.length := by omega
    have : textOf sigma (i : Int) = sigma[i] := by unfold textOf; rw [if_neg h0]; simp [List.getD, hi]
    obtain ⟨p, hia, hcc⟩ := Sl.elem (s := 1) Tryz.underlying22 size_9 h.sg (i := i) (u := .string sigma[i]) (by rw [List.getElem?_map, List.getElem?_eq_getElem hi]; rfl)
    simp only [↓Sh.dn, sx, Nat.reduceBEq, reduceCtorEq, Nat.reduceEqDiff, h0, decide_false, hc, hia, hcc, hres, this]
abbrev GE := Nat × Int × Int × Int
def geK (e : GE) : Value := .agg (gCell e).toArray
theorem held_ge : Tryz.prog.stoodInHeld 96 = false := by kernel_rfl
theorem geK_eq (a b : GE) : eqT Tryz.prog eqDepth 96 (geK a) (geK b) = some (decide (a = b)) := by
  show eqT Tryz.prog (19 + 1) _ _ _ = _
  obtain ⟨a0, a1, a2, a3⟩ := a
  obtain ⟨b0, b1, b2, b3⟩ := b
  rw [eqT.eq_def]
  simp only [geK, gCell, Tryz.underlying96, held_ge, cond_false, eqFields, apart, agg_3, List.getElem?_cons_zero, List.getElem?_cons_succ, Option.bind_some, eqT_int (d := 18)]
  have s1 : ("To" == "_") = false := rfl
  have s2 : ("In" == "_") = false := rfl
  have s3 : ("Out" == "_") = false := rfl
  have s4 : ("Cost" == "_") = false := rfl
  simp only [s1, s2, s3, s4, cond_false]
  have e0 : ((a0 : Int) = (b0 : Int)) ↔ a0 = b0 := Int.ofNat_inj
  simp only [e0, Prod.mk.injEq]
  by_cases h0 : a0 = b0
  · by_cases h1 : a1 = b1
    · by_cases h2 : a2 = b2
      · by_cases h3 : a3 = b3
        · simp [h0, h1, h2, h3]
        · simp [h0, h1, h2, h3]
      · simp [h0, h1, h2]
    · simp [h0, h1]
  · simp [h0]
theorem geK_may (a : GE) : mayKey Tryz.prog 96 (geK a) = true := by
  obtain ⟨a0, a1, a2, a3⟩ := a
  unfold mayKey
  rw [Bool.and_eq_true]
  refine ⟨rfl, ?_⟩
  show keyT Tryz.prog (19 + 1) _ _ = true
  rw [keyT.eq_def]
  simp only [geK, gCell, Tryz.underlying96]
  have hk : ∀ n : Int, keyT Tryz.prog 19 3 (.int .i64 n) = true := fun n => by
    show keyT Tryz.prog (18 + 1) _ _ = true
    rw [keyT.eq_def]
    simp only [Tryz.underlying3]
  simp only [List.all_cons, List.all_nil, apart, agg_3, List.getElem?_cons_zero, List.getElem?_cons_succ, hk, Bool.or_true, Bool.and_self]
/-- A map of edges. -/
def EMap (H : AH) (g : Nat) (D : List GE) : Prop := MapIs H g geK (D.map fun t => (t, .bool true))
theorem mapGet_any {α : Type} [DecidableEq α] (v : Value) (D : List α) (t : α) : mapGet (D.map fun t => (t, v)) t = if t ∈ D then some v else none := by
  unfold mapGet
  by_cases h : t ∈ D
  · rw [if_pos h]
    cases hf : (D.map fun t => (t, v)).find? fun p => decide (t = p.1) with
    | none =>
      rw [List.find?_eq_none] at hf
      have := hf (t, v) (List.mem_map.2 ⟨t, h, rfl⟩)
      simp at this
    | some p =>
      have := List.mem_of_find?_eq_some hf
      obtain ⟨u, _, rfl⟩ := List.mem_map.1 this
      rfl
  · rw [if_neg h]
    have : (D.map fun t => (t, v)).find? (fun p => decide (t = p.1)) = none := by
      rw [List.find?_eq_none]
      rintro p hp
      obtain ⟨u, hu, rfl⟩ := List.mem_map.1 hp
      simp only [decide_eq_true_eq]
      rintro rfl
      exact h hu
    rw [this]; rfl
theorem EMap.look {H : AH} {g : Nat} {D : List GE} (h : EMap H g D) (t : GE) : alookup Tryz.prog 136 (.map (some g)) (.agg (gCell t).toArray) false H = some (.bool (decide (t ∈ D))) := by
  have := MapIs.look (P := Tryz.prog) (ok := false) Tryz.underlying136 zero_4 geK_may geK_eq h t
  rw [mapGet_any] at this
  unfold geK at this
  rw [this]
  by_cases hd : t ∈ D <;> simp [hd]
theorem EMap.add {H : AH} {g : Nat} {D : List GE} (h : EMap H g D) (hw : Wf H) {t : GE} (ht : t ∉ D) : ∃ H', amapUpdate Tryz.prog 136 (.map (some g)) (.agg (gCell t).toArray) (.bool true) H = some H' ∧ EMap H' g (D ++ [t]) ∧ Chg (fun y => y = g) H H' ∧ H'.next = H.next := by
  obtain ⟨H', h1, h2, h3, h4⟩ := MapIs.add (P := Tryz.prog) Tryz.underlying136 geK_may geK_eq h hw (a := t) (by rw [mapGet_any, if_neg ht]) (.bool true)
  exact ⟨H', h1, by unfold EMap; rw [List.map_append]; exact h2, h3, h4⟩
/-- A net that is being made, in a box. -/
structure NB (H : AH) (base gb : Nat) (cl av ev : Value) (os oa oe : Option Nat) (n : Nat) (sigma : List ByteArray) (arcs : List ArcD) (es : List EndD) : Prop where
  bx : Arr H gb 0 4 [cl, .int .i64 (n : Int), av, ev]
  sg : Buf H 1 cl (sigma.map strCell) os
  ar : Buf H 5 av (arcs.map ArcD.cells) oa
  en : Buf H 2 ev (es.map EndD.cells) oe
  b0 : base ≤ gb
  bs : ∀ y, os = some y → base ≤ y ∧ y ≠ gb
  ba : ∀ y, oa = some y → base ≤ y ∧ y ≠ gb ∧ os ≠ some y
  be : ∀ y, oe = some y → base ≤ y ∧ y ≠ gb ∧ os ≠ some y ∧ oa ≠ some y
section
variable {H H' : AH} {base gb n : Nat} {cl av ev : Value} {os oa oe : Option Nat} {sigma : List ByteArray} {arcs : List ArcD} {es : List EndD}
theorem NB.chg (h : NB H base gb cl av ev os oa oe n sigma arcs es) (hw : Wf H) {X : Nat → Prop} (hc : Chg X H H') (hx : ∀ y, X y → y ≠ gb ∧ os ≠ some y ∧ oa ≠ some y ∧ oe ≠ some y) : NB H' base gb cl av ev os oa oe n sigma arcs es :=
  { h with
    bx := h.bx.keep (hc.old gb (h.bx.lt hw) fun hy => (hx gb hy).1 rfl)
    sg := h.sg.chg hw hc fun y hy hX => (hx y hX).2.1 hy
    ar := h.ar.chg hw hc fun y hy hX => (hx y hX).2.2.1 hy
    en := h.en.chg hw hc fun y hy hX => (hx y hX).2.2.2 hy }
theorem NB.kept (h : NB H base gb cl av ev os oa oe n sigma arcs es) (hw : Wf H) (hk : Kept H H') : NB H' base gb cl av ev os oa oe n sigma arcs es := h.chg hw (hk.chg (X := none')) fun y hy => hy.elim
/-- One more arc. -/
theorem NB.pushArc (h : NB H base gb cl av ev os oa oe n sigma arcs es) (hw : Wf H) (a : ArcD) (hl : arcs.length ≤ 1073741823) :
    ∃ b cap av' H1 H2 oa', av = .slice b arcs.length cap ∧ abuildSlice Tryz.prog 23 1 [(0, .agg a.cells.toArray)] H = some (.slice (some ⟨H.next, 0, some 0⟩) 1 1, (H.new 5 a.cells).2) ∧
      abuiltin Tryz.prog .append [23, 23] [.slice b arcs.length cap, .slice (some ⟨H.next, 0, some 0⟩) 1 1] (H.new 5 a.cells).2 = some (av', H1) ∧
      astore Tryz.prog 23 H1 av' (.pointer (some ⟨gb, 2, some 0⟩)) = some H2 ∧ NB H2 base gb cl av' ev os oa' oe n sigma (arcs ++ [a]) es ∧ Chg (fun y => base ≤ y ∧ (y = gb ∨ oa = some y)) H H2 ∧ ∀ y, oa' = some y → oa = some y ∨ H.next ≤ y := by
  obtain ⟨b, cap, av', H1, oa', rfl, e1, e2, e3, e4⟩ := h.ar.push hw (x := a.cells) rfl
  rw [List.length_map] at e1
  have hbs := build1_23 (H := H) (x := .agg a.cells.toArray) rfl rfl
  have va : ∀ xs : Array Value, vcells (.agg xs) = xs.toList := fun _ => rfl
  simp only [va] at hbs
  have ha := app1_23 (H := H) (base := b) (len := arcs.length) (cap := cap) (x := a.cells) rfl hl
  rw [e1] at ha
  have hgb := h.bx.lt hw
  have bx1 := h.bx.keep (e3.old gb hgb fun hy => (h.ba gb hy).2.1 rfl)
  obtain ⟨H2, w1, ar1, v1, z1⟩ := bx1.write e3.wf (i := 2) (vs := [av']) (by simp)
  have sc : setCells [cl, .int .i64 (n : Int), .slice b arcs.length cap, ev] 2 [av'] = [cl, .int .i64 (n : Int), av', ev] := rfl
  rw [List.length_map] at ar1
  rw [sc] at ar1
  have st : astore Tryz.prog 23 H1 av' (.pointer (some ⟨gb, 2, some 0⟩)) = some H2 := by rw [store_cell size_23 e2.isCell, w1]
  have old : ∀ y, oa' = some y → oa = some y ∨ H.next ≤ y := e4
  have z0 : Chg (fun y => base ≤ y ∧ (y = gb ∨ oa = some y)) H H1 := e3.weak fun y hy => ⟨(h.ba y hy).1, .inr hy⟩
  have z2 : Chg (fun y => base ≤ y ∧ (y = gb ∨ oa = some y)) H1 H2 := z1.weak fun y hy => ⟨by rw [hy]; exact h.b0, .inl hy⟩
  refine ⟨b, cap, av', H1, H2, oa', by rw [List.length_map], hbs, ha, st, ⟨ar1, ?_, ?_, ?_, h.b0, h.bs, fun y hy => ?_, fun y hy => ?_⟩, z0.trans z2, old⟩
  · exact (h.sg.chg hw e3 fun y hy hya => (h.ba y hya).2.2 hy).chg e3.wf z1 fun y hy hyg => (h.bs y hy).2 hyg
  · rw [List.map_append]
    refine e2.chg e3.wf z1 fun y hy hyg => ?_
    rcases old y hy with h1 | h1
    · exact (h.ba y h1).2.1 hyg
    · omega
  · exact (h.en.chg hw e3 fun y hy hya => (h.be y hy).2.2.2 hya).chg e3.wf z1 fun y hy hyg => (h.be y hy).2.1 hyg
  · rcases old y hy with h1 | h1
    · exact h.ba y h1
    · have h0 := h.b0
      exact ⟨by omega, by omega, fun hs => by have := h.sg.lt hw y hs; omega⟩
  · have h5 := h.be y hy
    refine ⟨h5.1, h5.2.1, h5.2.2.1, fun ha => ?_⟩
    rcases old y ha with h1 | h1
    · exact h5.2.2.2 h1
    · have := h.en.lt hw y hy; omega
/-- One more end. -/
theorem NB.pushEnd (h : NB H base gb cl av ev os oa oe n sigma arcs es) (hw : Wf H) (x : EndD) (hl : es.length ≤ 1073741823) :
    ∃ b cap ev' H1 H2 oe', ev = .slice b es.length cap ∧ abuildSlice Tryz.prog 24 1 [(0, .agg x.cells.toArray)] H = some (.slice (some ⟨H.next, 0, some 0⟩) 1 1, (H.new 2 x.cells).2) ∧
      abuiltin Tryz.prog .append [24, 24] [.slice b es.length cap, .slice (some ⟨H.next, 0, some 0⟩) 1 1] (H.new 2 x.cells).2 = some (ev', H1) ∧
      astore Tryz.prog 24 H1 ev' (.pointer (some ⟨gb, 3, some 0⟩)) = some H2 ∧ NB H2 base gb cl av ev' os oa oe' n sigma arcs (es ++ [x]) ∧ Chg (fun y => base ≤ y ∧ (y = gb ∨ oe = some y)) H H2 := by
  obtain ⟨b, cap, ev', H1, oe', rfl, e1, e2, e3, e4⟩ := h.en.push hw (x := x.cells) rfl
  rw [List.length_map] at e1
  have hbs := build1_24 (H := H) (x := .agg x.cells.toArray) rfl rfl
  have va : ∀ xs : Array Value, vcells (.agg xs) = xs.toList := fun _ => rfl
  simp only [va] at hbs
  have ha := app1_24 (H := H) (base := b) (len := es.length) (cap := cap) (x := x.cells) rfl hl
  rw [e1] at ha
  have hgb := h.bx.lt hw
  have bx1 := h.bx.keep (e3.old gb hgb fun hy => (h.be gb hy).2.1 rfl)
  obtain ⟨H2, w1, ar1, v1, z1⟩ := bx1.write e3.wf (i := 3) (vs := [ev']) (by simp)
  have sc : setCells [cl, .int .i64 (n : Int), av, .slice b es.length cap] 3 [ev'] = [cl, .int .i64 (n : Int), av, ev'] := rfl
  rw [List.length_map] at ar1
  rw [sc] at ar1
  have st : astore Tryz.prog 24 H1 ev' (.pointer (some ⟨gb, 3, some 0⟩)) = some H2 := by rw [store_cell size_24 e2.isCell, w1]
  have old : ∀ y, oe' = some y → oe = some y ∨ H.next ≤ y := e4
  have z0 : Chg (fun y => base ≤ y ∧ (y = gb ∨ oe = some y)) H H1 := e3.weak fun y hy => ⟨(h.be y hy).1, .inr hy⟩
  have z2 : Chg (fun y => base ≤ y ∧ (y = gb ∨ oe = some y)) H1 H2 := z1.weak fun y hy => ⟨by rw [hy]; exact h.b0, .inl hy⟩
  refine ⟨b, cap, ev', H1, H2, oe', by rw [List.length_map], hbs, ha, st, ⟨ar1, ?_, ?_, ?_, h.b0, h.bs, h.ba, fun y hy => ?_⟩, z0.trans z2⟩
  · exact (h.sg.chg hw e3 fun y hy hye => (h.be y hye).2.2.1 hy).chg e3.wf z1 fun y hy hyg => (h.bs y hy).2 hyg
  · exact (h.ar.chg hw e3 fun y hy hye => (h.be y hye).2.2.2 hy).chg e3.wf z1 fun y hy hyg => (h.ba y hy).2.1 hyg
  · rw [List.map_append]
    refine e2.chg e3.wf z1 fun y hy hyg => ?_
    rcases old y hy with h1 | h1
    · exact (h.be y h1).2.1 hyg
    · omega
  · rcases old y hy with h1 | h1
    · exact h.be y h1
    · have h0 := h.b0
      exact ⟨by omega, by omega, fun hs => by have := h.sg.lt hw y hs; omega, fun ha => by have := h.ar.lt hw y ha; omega⟩
end
def arcOf (sigma : List ByteArray) (s : Nat) (e : GE) : ArcD := ⟨s, textOf sigma e.2.1, textOf sigma e.2.2.1, e.1, e.2.2.2⟩
theorem graphNet {H : AH} {X : Nat → Prop} {g n : Nat} {sigma : List ByteArray} {ends costs : List Int} {E : List (List GE)}
    (h : GrX H X g sigma (gCells E) ends costs) (hE : E.length = n) (he : ends.length = n) (hcl : costs.length = n) (hn1 : 1 ≤ n) (hn : n ≤ 3000) (hsg : sigma.length ≤ 1048576) (hto : ∀ r ∈ E, ∀ e ∈ r, e.1 < n ∧ e.2.1 < sigma.length ∧ e.2.2.1 < sigma.length) (htot : (E.map List.length).sum ≤ 1048576) (hw : Wf H) :
    Sh.Call Tryz.prog (knows 10) 54 [.pointer (some ⟨g, 0, some 0⟩)] H (fun r H' => Kept H H' ∧ ∃ M : NetD, (∀ H'', (∀ y, H.next ≤ y → H''.objs.get y = H'.objs.get y) → Nonempty (NetAt H'' r M)) ∧ M.sigma = sigma ∧ M.states = (n : Int) ∧ M.arcs.length ≤ (E.map List.length).sum ∧ (∀ a, a ∈ M.arcs ↔ ∃ (s : Nat) (r : List GE), E[s]? = some r ∧ ∃ e ∈ r, a = arcOf sigma s e) ∧ M.ends.length ≤ n ∧ ∀ x, x ∈ M.ends ↔ ∃ s : Nat, s < n ∧ 0 < ends.getD s 0 ∧ x = ⟨(s : Int), costs.getD s 0⟩) := by
  refine call_of rfl Tryz.func54 rfl (Nat.le_of_ble_eq_true rfl) ?_
  have hres : Tryz.f54.results.toList = [.cell 2 26] := rfl
  obtain ⟨sv, av, ev, cv, vals, hR⟩ := h.read
  have hpre : ∀ i, ((E.take i).map List.length).sum ≤ (E.map List.length).sum := fun i => by
    have h1 : ((E.take i).map List.length).sum + ((E.drop i).map List.length).sum = (E.map List.length).sum := by
      rw [← List.sum_append, ← List.map_append, List.take_append_drop]
    omega
  have hrl : ∀ (s : Nat) r, E[s]? = some r → r.length ≤ 1048576 := fun s r hr => by
    have h1 := hpre (s + 1)
    have h2 : E.take (s + 1) = E.take s ++ [r] := by rw [List.take_add_one, hr]; rfl
    rw [h2, List.map_append, List.sum_append] at h1
    simp at h1; omega
  have hP : PG H g n 1048576 E ends sv av ev cv vals sigma costs := ⟨hR, hE, he, hn1, hn, fun s r hr => ⟨hrl s r hr, fun e he' => (hto r (List.mem_of_getElem? hr) e he').1⟩⟩
  have hlenA : ∀ H', abuiltin Tryz.prog .len [73] [av] H' = some (.int .i64 (n : Int), H') := fun H' => by
    rw [hR.jag.sl.len Tryz.underlying73, List.length_map, hR.jag.len]; unfold gCells; rw [List.length_map, hE]
  -- the two boxes, the alphabet
  simp only [↓Sh.dn, sx, Nat.reduceBEq, reduceCtorEq, Nat.reduceEqDiff, netZero]
  have k0 := Kept.new hw 4 [.slice none 0 0, .int .i64 0, .slice none 0 0, .slice none 0 0]
  have o0 := Sh.Obj.new (H := H) 4 [.slice none 0 0, .int .i64 0, .slice none 0 0, .slice none 0 0]
  have x0 : H.next < (H.new 4 [.slice none 0 0, .int .i64 0, .slice none 0 0, .slice none 0 0]).2.next := Nat.lt_succ_self _
  obtain ⟨go, hgo⟩ : ∃ y, H.next = y := ⟨_, rfl⟩
  rw [hgo] at o0 x0
  generalize (H.new 4 [.slice none 0 0, .int .i64 0, .slice none 0 0, .slice none 0 0]).2 = H0 at k0 o0 x0 ⊢
  have k1 := Kept.new k0.wf 4 [.slice none 0 0, .int .i64 0, .slice none 0 0, .slice none 0 0]
  have o1 := Sh.Obj.new (H := H0) 4 [.slice none 0 0, .int .i64 0, .slice none 0 0, .slice none 0 0]
  have x1 : H0.next < (H0.new 4 [.slice none 0 0, .int .i64 0, .slice none 0 0, .slice none 0 0]).2.next := Nat.lt_succ_self _
  have m1 : ∀ x, (H0.new 4 [.slice none 0 0, .int .i64 0, .slice none 0 0, .slice none 0 0]).2.objs.get H0.next = some x → objEq x x = true := by
    intro x hx
    have := o1
    unfold Sh.Obj at this
    rw [this] at hx
    injection hx with hx
    subst hx
    simp [objEq, rowEq, veqs_cons, veqs_nil, veq_slice, veq_int]
  obtain ⟨H1, hH1⟩ : ∃ K, (H0.new 4 [.slice none 0 0, .int .i64 0, .slice none 0 0, .slice none 0 0]).2 = K := ⟨_, rfl⟩
  have nz := netZero (H := H0)
  rw [hH1] at k1 o1 x1 m1 nz
  have k01 := k0.trans k1
  have hR0 := hR.kept hw k0
  have hR1 := hR.kept hw k01
  obtain ⟨r2, H2, hd2, hk2, os, hcb, hcf⟩ := cloneStr hR1.sg (by rw [List.length_map]; exact hsg) k1.wf
  have k02 := k01.trans hk2
  have ic := hcb.isCell
  have bq : abuild Tryz.prog 26 [(0, r2), (1, .int .i64 (n : Int))] = some (.agg #[r2, .int .i64 (n : Int), .slice none 0 0, .slice none 0 0]) := by
    have va : ∀ xs : Array Value, vcells (.agg xs) = xs.toList := fun _ => rfl
    have hci : isCell (.int .i64 (n : Int)) = true := rfl
    refine build_struct (pl := [(0, 1), (1, 1), (2, 1), (3, 1)]) Tryz.underlying26 zero_26 (by kernel_rfl) ?_
    simp [fillA, va, cell_vcells ic, cell_vcells hci, ic, hci, setCells, beq_dec, ble_dec]
  have arr2 := o1.arr.keep (hk2.old H0.next x1)
  obtain ⟨H3, w3, ar3, v3, z3⟩ := arr2.write hk2.wf (i := 0) (vs := [r2, .int .i64 (n : Int), .slice none 0 0, .slice none 0 0]) (by simp)
  have sc : setCells [.slice none 0 0, .int .i64 0, .slice none 0 0, .slice none 0 0] 0 [r2, .int .i64 (n : Int), .slice none 0 0, .slice none 0 0] = [r2, .int .i64 (n : Int), .slice none 0 0, .slice none 0 0] := rfl
  rw [sc] at ar3
  have st3 := netStore (H := H2) (n := (n : Int)) (p := ⟨H0.next, 0, some 0⟩) ic (show isCell (.slice none 0 0) = true from rfl) (show isCell (.slice none 0 0) = true from rfl)
  rw [w3] at st3
  have k03 : Kept H0 H3 := (k1.trans hk2).then (Nat.le_refl _) (z3.weak fun y hy => by omega)
  have hnb : NB H3 H0.next H0.next r2 (.slice none 0 0) (.slice none 0 0) os none none n sigma [] [] :=
    ⟨ar3, hcb.chg hk2.wf z3 fun y hy e => by have := hcf y hy; omega, .void none, .void none, Nat.le_refl _, fun y hy => by have := hcf y hy; exact ⟨by omega, by omega⟩, fun y hy => (by cases hy), fun y hy => by cases hy⟩
  have hav := hR.jag.sl.veq
  have hsv := hR.sg.veq
  refine wp_early (fl := [(0, true), (1, true), (2, true), (3, false), (5, true), (6, true), (7, true), (8, false), (9, false), (11, false), (4, false), (10, true), (12, true)]) (by kernel_rfl) (by kernel_rfl) k0.wf ?_
  have q0 := hR0.arr.cell 0
  have q1 := hR0.arr.cell 1
  have q0' := hR1.arr.cell 0
  have q1' := hR1.arr.cell 1
  simp only [↓Sh.dn, sx, Nat.reduceBEq, reduceCtorEq, Nat.reduceEqDiff, wpg, Still, isEff, isMake, isRead, veq_ptr, veq_int, veq_str, veq_bool, veq_undef, forall_eq, forall_eq', q0, q1, q0', q1', hlenA, nz, hH1, hav, hsv]
  refine ⟨m1, _, _, hd2, hk2.wf, ?_⟩
  try refine ⟨hk2.grow k1.wf, ?_⟩
  have hR2 := hR.kept hw k02
  have q1'' := hR2.arr.cell 1
  have hR3 := hR.kept hw (k0.trans k03)
  have q3 := hR3.arr.cell 1
  simp only [↓Sh.dn, sx, Nat.reduceBEq, reduceCtorEq, Nat.reduceEqDiff, wpg, Still, isEff, isMake, isRead, veq_ptr, veq_int, veq_str, veq_bool, veq_undef, forall_eq, forall_eq', q1'', hlenA, bq, st3, hav]
  try refine ⟨hk2.grow k1.wf, ?_⟩
  try simp only [↓Sh.dn, sx, Nat.reduceBEq, reduceCtorEq, Nat.reduceEqDiff, wpg, Still, isEff, isMake, isRead, veq_ptr, veq_int, veq_str, veq_bool, veq_undef, forall_eq, forall_eq', q3, hlenA]
  refine ⟨k03.wf, ?_⟩
  refine wp_for n 25 (List.range' 25 61 ++ [4, 5, 6, 8]) (fun i F H' => Kept H0 H' ∧ ∃ av' ev' oa oe arcs es, NB H' H0.next H0.next r2 av' ev' os oa oe n sigma arcs es ∧ arcs.length ≤ ((E.take i).map List.length).sum ∧ (∀ a, a ∈ arcs ↔ ∃ (s : Nat) (r : List GE), s < i ∧ E[s]? = some r ∧ ∃ e ∈ r, a = arcOf sigma s e) ∧ es.length ≤ i ∧ ∀ x, x ∈ es ↔ ∃ s : Nat, s < i ∧ 0 < ends.getD s 0 ∧ x = ⟨(s : Int), costs.getD s 0⟩) (by simp only [↓Sh.dn, sx, Nat.reduceBEq, reduceCtorEq, Nat.reduceEqDiff]) ⟨k03, _, _, none, none, [], [], hnb, Nat.zero_le _, fun a => by simp, Nat.le_refl _, fun x => by simp⟩ ?_ ?_
  · rintro i F H' hi hF f25 ⟨hk, av', ev', oa, oe, arcs, es, hN, hal, hai, hel, hei⟩ k
    have f0 := hF 0 rfl
    have f3 := hF 3 rfl
    have f23 := hF 23 rfl
    have f24 := hF 24 rfl
    simp only [↓Sh.dn, sx, Nat.reduceBEq, reduceCtorEq, Nat.reduceEqDiff] at f0 f3 f23 f24
    have hiE : i < E.length := by omega
    have hr : E[i]? = some E[i] := List.getElem?_eq_getElem hiE
    have hrt := hto E[i] (List.getElem_mem hiE)
    have htE : E.take (i + 1) = E.take i ++ [E[i]] := by rw [List.take_add_one, hr]; rfl
    generalize E[i] = r at hr hrt htE
    have hrl2 := hrl i r hr
    have hsum : ((E.take (i + 1)).map List.length).sum = ((E.take i).map List.length).sum + r.length := by rw [htE]; simp
    have hp1 := hpre (i + 1)
    have hkH := fun {H'} (hk : Kept H0 H') => k0.trans hk
    obtain ⟨pr, wr, hiar, hcr0, hsr, hlr⟩ := PG.row hP hr
    have hcr := cell_grow ((hkH hk).grow hw) hcr0
    have km := Kept.push hk.wf (.map [])
    have hm0 : EMap (H'.push (.map [])).2 H'.next [] := MapIs.new
    have hN0 := hN.kept hk.wf km
    have hgbl := hN.bx.lt hk.wf
    have osl := fun y h => hN.sg.lt hk.wf y h
    have oal := fun y h => hN.ar.lt hk.wf y h
    have oel := fun y h => hN.en.lt hk.wf y h
    have hkm := hk.trans km
    simp only [↓Sh.dn, sx, Nat.reduceBEq, reduceCtorEq, Nat.reduceEqDiff, f23, f24, f25, nat_lt, hi, decide_true, hiar, hcr, hlr]
    have nx : H'.next < (H'.push (.map [])).2.next := Nat.lt_succ_self _
    obtain ⟨gm, hgm⟩ : ∃ gm, H'.next = gm := ⟨_, rfl⟩
    rw [hgm] at hm0 hgbl osl oal oel nx
    refine wp_for r.length 33 (List.range' 33 30 ++ [8]) (fun q F'' H'' => Kept H0 H'' ∧ ∃ av' oa arcs D, NB H'' H0.next H0.next r2 av' ev' os oa oe n sigma arcs es ∧ EMap H'' gm D ∧ (∀ y, oa = some y → y ≠ gm) ∧ arcs.length ≤ ((E.take i).map List.length).sum + q ∧ (∀ e, e ∈ D ↔ e ∈ r.take q) ∧ ∀ a, a ∈ arcs ↔ (∃ (s : Nat) (r : List GE), s < i ∧ E[s]? = some r ∧ ∃ e ∈ r, a = arcOf sigma s e) ∨ ∃ e ∈ r.take q, a = arcOf sigma i e) (by simp only [↓Sh.dn, sx, Nat.reduceBEq, reduceCtorEq, Nat.reduceEqDiff]) ⟨hkm, av', oa, arcs, [], hN0, hm0, fun y hy => by have := oal y hy; omega, Nat.le_trans hal (Nat.le_add_right _ _), fun e => by simp, fun a => by rw [hai]; simp⟩ ?_ ?_
    · rintro q F'' H'' hq hF'' f33 ⟨hk'', av', oa, arcs, D, hN, hM, hom, hal, hD, hai⟩ k2
      have g0 := hF'' 0 rfl
      have g3 := hF'' 3 rfl
      have g4 := hF'' 4 rfl
      have g6 := hF'' 6 rfl
      have g31 := hF'' 31 rfl
      have g32 := hF'' 32 rfl
      simp only [↓Sh.dn, sx, Nat.reduceBEq, reduceCtorEq, Nat.reduceEqDiff, f0, f3, hgm] at g0 g3 g4 g6 g31 g32
      obtain ⟨pe, hiae, hce⟩ := PG.edge (hsr.grow ((hkH hk'').grow hw)) hq
      have hrq : r[q] ∈ r := List.getElem_mem hq
      have htk : r.take (q + 1) = r.take q ++ [r[q]] := by rw [List.take_add_one, List.getElem?_eq_getElem hq]; rfl
      generalize r[q] = e at hce hrq htk
      obtain ⟨ht1, ht2, ht3⟩ := hrt e hrq
      have kn := Kept.new hk''.wf 4 (gCell e)
      have hk3 := hk''.trans kn
      have hN3 := hN.kept hk''.wf kn
      have hM3 : EMap (H''.new 4 (gCell e)).2 gm D := hM.keep (kn.old _ (hM.lt hk''.wf))
      have hlk := hM3.look e
      have hgml := hM.lt hk''.wf
      have hall : (H''.new 4 (gCell e)).2.cells ⟨H''.next, 0, some 0⟩ 4 = some (gCell e) := geAll
      have hj : ∀ (p : GE → Prop), (∃ e' ∈ r.take (q + 1), p e') ↔ (∃ e' ∈ r.take q, p e') ∨ p e := fun p => by
        rw [htk]
        simp only [List.mem_append, List.mem_singleton]
        constructor
        · rintro ⟨e', h1 | h1, h2⟩
          · exact .inl ⟨e', h1, h2⟩
          · subst h1; exact .inr h2
        · rintro (⟨e', h1, h2⟩ | h2)
          · exact ⟨e', .inl h1, h2⟩
          · exact ⟨e, .inr rfl, h2⟩
      simp only [↓Sh.dn, sx, Nat.reduceBEq, reduceCtorEq, Nat.reduceEqDiff, f33, g6, g31, g32, hiae, hce, nat_lt, hq, decide_true, Option.map_some, geZero, geStore, geOver, hall, hlk]
      by_cases hin : e ∈ D
      · simp only [↓Sh.dn, sx, Nat.reduceBEq, reduceCtorEq, Nat.reduceEqDiff, hin, decide_true, f33, wrap_succ' hq (Nat.le_trans hrl2 (by decide))]
        refine k2 _ _ (by repeat (first | refine Same.put ?_ rfl | exact Same.rfl' _)) (by simp only [↓Sh.dn, sx, Nat.reduceBEq, reduceCtorEq, Nat.reduceEqDiff]) ⟨hk3, av', oa, arcs, D, hN3, hM3, hom, by omega, fun e' => ?_, fun a => ?_⟩
        · rw [hD, htk, List.mem_append, List.mem_singleton]
          exact ⟨.inl, fun h => h.elim id fun h => by rw [h]; exact (hD e).1 hin⟩
        · rw [hai, hj]
          constructor
          · rintro (h1 | h1)
            · exact .inl h1
            · exact .inr (.inl h1)
          · rintro (h1 | h1 | h1)
            · exact .inl h1
            · exact .inr h1
            · exact .inr ⟨e, (hD e).1 hin, h1⟩
      · obtain ⟨K1, e1, hM4, c4, n4⟩ := hM3.add hk3.wf hin
        have hN4 := hN3.chg hk3.wf c4 fun y hy => by
          subst hy
          exact ⟨by omega, fun h => by have := osl _ h; omega, fun h => hom _ h rfl, fun h => by have := oel _ h; omega⟩
        have hk4 : Kept H0 K1 := hk3.then (Nat.le_refl _) (c4.weak fun y hy => by rw [hy, ← hgm]; exact hk.next)
        have hR4 := hR.kept hw (hkH hk4)
        have ob := (Sh.Obj.new (H := H'') 4 (gCell e)).arr.keep (c4.old H''.next (Nat.lt_succ_self _) (by omega))
        have c0 : K1.cell ⟨H''.next, 0, some 0⟩ = some (.int .i64 (e.1 : Int)) := ob.cell 0
        have c1 : K1.cell ⟨H''.next, 1, some 0⟩ = some (.int .i64 e.2.1) := ob.cell 1
        have c2 : K1.cell ⟨H''.next, 2, some 0⟩ = some (.int .i64 e.2.2.1) := ob.cell 2
        have c3 : K1.cell ⟨H''.next, 3, some 0⟩ = some (.int .i64 e.2.2.2) := ob.cell 3
        have bx2 := hN4.bx.cell 2
        obtain ⟨r5, K5, hd5, rfl, rfl⟩ := graphText hR4 ht2
        obtain ⟨r6, K6, hd6, rfl, rfl⟩ := graphText hR4 ht3
        obtain ⟨b, cap, av2, K7, K8, oa', rfl, e2, e3, e4, hN8, c8, new8⟩ := hN4.pushArc hk4.wf (arcOf sigma i e) (by omega)
        have bl : abuild Tryz.prog 54 [(0, .int .i64 (i : Int)), (1, .string (textOf sigma e.2.1)), (2, .string (textOf sigma e.2.2.1)), (3, .int .i64 (e.1 : Int)), (4, .int .i64 e.2.2.2)] = some (.agg (arcOf sigma i e).cells.toArray) := bld_54 rfl rfl rfl rfl rfl
        have hk8 : Kept H0 K8 := hk4.then (Nat.le_refl _) (c8.weak fun y hy => hy.1)
        have hgm4 := hM4.lt hk4.wf
        have hM8 : EMap K8 gm (D ++ [e]) := hM4.keep (c8.old gm hgm4 fun hy => by
          rcases hy.2 with h1 | h1
          · omega
          · exact hom gm h1 rfl)
        simp only [↓Sh.dn, sx, Nat.reduceBEq, reduceCtorEq, Nat.reduceEqDiff, hin, decide_false, g6, hall, e1]
        refine wp_pend (fl := [(0, []), (1, []), (2, []), (3, []), (4, []), (5, []), (7, []), (8, []), (9, []), (11, []), (12, []), (13, []), (14, []), (6, [14, 12, 9, 1]), (10, [14, 12, 1]), (15, []), (16, []), (17, []), (18, []), (19, [])]) (by kernel_rfl) (by kernel_rfl) (by kernel_rfl) ?_
        simp only [↓Sh.dn, sx, Nat.reduceBEq, reduceCtorEq, Nat.reduceEqDiff, wpr, again, isMake, veq_ptr, veq_int, veq_str, veq_bool, veq_undef, veq_slice, forall_eq, forall_eq', g0, g3, g4, bx2, c0, c1, c2, c3]
        refine ⟨_, _, hd5, ?_⟩
        simp only [↓Sh.dn, sx, Nat.reduceBEq, reduceCtorEq, Nat.reduceEqDiff, wpr, again, isMake, veq_ptr, veq_int, veq_str, veq_bool, veq_undef, veq_slice, forall_eq, forall_eq', g0, g3, g4, bx2, c0, c1, c2, c3]
        refine ⟨_, _, hd6, ?_⟩
        simp only [↓Sh.dn, sx, Nat.reduceBEq, reduceCtorEq, Nat.reduceEqDiff, wpr, again, isMake, veq_ptr, veq_int, veq_str, veq_bool, veq_undef, veq_slice, forall_eq, forall_eq', g0, g3, g4, bx2, c0, c1, c2, c3, bl, e2, e3, e4, f33, wrap_succ' hq (Nat.le_trans hrl2 (by decide))]
        refine k2 _ _ (by repeat (first | refine Same.put ?_ rfl | exact Same.rfl' _)) (by simp only [↓Sh.dn, sx, Nat.reduceBEq, reduceCtorEq, Nat.reduceEqDiff]) ⟨hk8, av2, oa', arcs ++ [arcOf sigma i e], D ++ [e], hN8, hM8, fun y hy => ?_, by simp only [List.length_append, List.length_singleton]; omega, fun e' => ?_, fun a => ?_⟩
        · rcases new8 y hy with h1 | h1
          · exact hom y h1
          · omega
        · rw [List.mem_append, hD, htk, List.mem_append]
        · rw [List.mem_append, List.mem_singleton, hai, hj]
          constructor
          · rintro ((h1 | h1) | h1)
            · exact .inl h1
            · exact .inr (.inl h1)
            · exact .inr (.inr h1)
          · rintro (h1 | h1 | h1)
            · exact .inl (.inl h1)
            · exact .inl (.inr h1)
            · exact .inr h1
    · rintro F'' H'' hF'' f33 ⟨hk'', av', oa, arcs, D, hN, hM, hom, hal, hD, hai⟩
      have g0 := hF'' 0 rfl
      have g3 := hF'' 3 rfl
      have g4 := hF'' 4 rfl
      have g25 := hF'' 25 rfl
      have g32 := hF'' 32 rfl
      simp only [↓Sh.dn, sx, Nat.reduceBEq, reduceCtorEq, Nat.reduceEqDiff, f0, f3, f25] at g0 g3 g4 g25 g32
      rw [List.take_length] at hai
      have hR4 := hR.kept hw (hkH hk'')
      have n2 := hR4.arr.cell 2
      have n3 := hR4.arr.cell 3
      have hie : i < ends.length := by omega
      have hic : i < costs.length := by omega
      obtain ⟨pa, ia, ca⟩ := Sl.elem (s := 1) Tryz.underlying74 size_3 hR4.en (i := i) (u := .int .i64 ends[i]) (by rw [List.getElem?_map, List.getElem?_eq_getElem hie]; rfl)
      obtain ⟨pb, ib, cb⟩ := Sl.elem (s := 1) Tryz.underlying74 size_3 hR4.co (i := i) (u := .int .i64 costs[i]) (by rw [List.getElem?_map, List.getElem?_eq_getElem hic]; rfl)
      have hge : ends.getD i 0 = ends[i] := by simp [List.getD, hie]
      have hgc : costs.getD i 0 = costs[i] := by simp [List.getD, hic]
      have hai2 : ∀ a, a ∈ arcs ↔ ∃ (s : Nat) (r : List GE), s < i + 1 ∧ E[s]? = some r ∧ ∃ e ∈ r, a = arcOf sigma s e := fun a => by
        rw [hai]
        constructor
        · rintro (⟨s, r', h1, h2⟩ | ⟨e, h1, h2⟩)
          · exact ⟨s, r', by omega, h2⟩
          · exact ⟨i, r, by omega, hr, e, h1, h2⟩
        · rintro ⟨s, r', h1, h2, e, h3, h4⟩
          by_cases hs : s = i
          · subst hs
            rw [hr] at h2
            exact .inr ⟨e, by rw [Option.some.inj h2]; exact h3, h4⟩
          · exact .inl ⟨s, r', by omega, h2, e, h3, h4⟩
      simp only [↓Sh.dn, sx, Nat.reduceBEq, reduceCtorEq, Nat.reduceEqDiff, f33, g0, g4, g32, nat_lt, Nat.lt_irrefl, decide_false, n2, ia, ca]
      by_cases hpos : 0 < ends[i]
      · obtain ⟨b, cap, ev2, K7, K8, oe', rfl, e2, e3, e4, hN8, c8⟩ := hN.pushEnd hk''.wf ⟨(i : Int), costs[i]⟩ (by omega)
        have bx3 := hN.bx.cell 3
        have bl : abuild Tryz.prog 56 [(0, .int .i64 (i : Int)), (1, .int .i64 costs[i])] = some (.agg (EndD.cells ⟨(i : Int), costs[i]⟩).toArray) := bld_56 rfl rfl
        have hk8 : Kept H0 K8 := hk''.then (Nat.le_refl _) (c8.weak fun y hy => hy.1)
        simp only [↓Sh.dn, sx, Nat.reduceBEq, reduceCtorEq, Nat.reduceEqDiff, hpos, decide_true]
        refine wp_pend (fl := [(0, []), (1, []), (2, []), (3, []), (4, []), (5, []), (6, []), (7, []), (8, []), (9, []), (10, []), (11, []), (12, []), (13, []), (14, [])]) (by kernel_rfl) (by kernel_rfl) (by kernel_rfl) ?_
        simp only [↓Sh.dn, sx, Nat.reduceBEq, reduceCtorEq, Nat.reduceEqDiff, wpr, again, isMake, veq_ptr, veq_int, veq_str, veq_bool, veq_undef, veq_slice, forall_eq, forall_eq', g0, g3, g4, g25, bx3, n3, ib, cb, bl, e2, e3, e4, wrap_succ' hi (Nat.le_trans hn (by decide))]
        refine k _ _ ?_ (by simp only [↓Sh.dn, sx, Nat.reduceBEq, reduceCtorEq, Nat.reduceEqDiff]) ⟨hk8, av', ev2, oa, oe', arcs, es ++ [⟨(i : Int), costs[i]⟩], hN8, by rw [hsum]; exact hal, hai2, by simp; omega, fun x => ?_⟩
        · repeat refine Same.put ?_ rfl
          exact Same.trans (by repeat (first | refine Same.put ?_ rfl | exact Same.rfl' _)) (hF''.sub rfl)
        · rw [List.mem_append, List.mem_singleton, hei]
          constructor
          · rintro (⟨s, h1, h2⟩ | h1)
            · exact ⟨s, by omega, h2⟩
            · exact ⟨i, by omega, by rw [hge]; exact hpos, by rw [hgc]; exact h1⟩
          · rintro ⟨s, h1, h2, h3⟩
            by_cases hs : s = i
            · subst hs; rw [hgc] at h3; exact .inr h3
            · exact .inl ⟨s, by omega, h2, h3⟩
      · simp only [↓Sh.dn, sx, Nat.reduceBEq, reduceCtorEq, Nat.reduceEqDiff, hpos, decide_false, g25, wrap_succ' hi (Nat.le_trans hn (by decide))]
        refine k _ _ ?_ (by simp only [↓Sh.dn, sx, Nat.reduceBEq, reduceCtorEq, Nat.reduceEqDiff]) ⟨hk'', av', ev', oa, oe, arcs, es, hN, by rw [hsum]; exact hal, hai2, by omega, fun x => ?_⟩
        · repeat refine Same.put ?_ rfl
          exact Same.trans (by repeat (first | refine Same.put ?_ rfl | exact Same.rfl' _)) (hF''.sub rfl)
        · rw [hei]
          constructor
          · rintro ⟨s, h1, h2⟩; exact ⟨s, by omega, h2⟩
          · rintro ⟨s, h1, h2, h3⟩
            by_cases hs : s = i
            · subst hs; rw [hge] at h2; exact absurd h2 hpos
            · exact ⟨s, by omega, h2, h3⟩
  · rintro F H' hF f25 ⟨hk, av', ev', oa, oe, arcs, es, hN, hal, hai, hel, hei⟩
    have f2 := hF 2 rfl
    have f3 := hF 3 rfl
    have f24 := hF 24 rfl
    simp only [↓Sh.dn, sx, Nat.reduceBEq, reduceCtorEq, Nat.reduceEqDiff, hgo] at f2 f3 f24
    rw [List.take_of_length_le (by omega)] at hal
    have o0' : Sh.Obj H' go 4 [.slice none 0 0, .int .i64 0, .slice none 0 0, .slice none 0 0] true := by
      unfold Sh.Obj at o0 ⊢
      rw [hk.old go x0]; exact o0
    obtain ⟨H6, w6, ar6, v6, z6⟩ := o0'.arr.write hk.wf (i := 0) (vs := [r2, .int .i64 (n : Int), av', ev']) (by simp)
    have sc6 : setCells [.slice none 0 0, .int .i64 0, .slice none 0 0, .slice none 0 0] 0 [r2, .int .i64 (n : Int), av', ev'] = [r2, .int .i64 (n : Int), av', ev'] := rfl
    rw [sc6] at ar6
    have st6 := netStore (H := H') (n := (n : Int)) (p := ⟨go, 0, some 0⟩) ic hN.ar.isCell hN.en.isCell
    rw [w6] at st6
    have hca := hN.bx.cells (i := 0) (n := 4) (by simp)
    have hcr := ar6.cells (i := 0) (n := 4) (by simp)
    have hgb := hN.b0
    have hN6 := hN.chg hk.wf z6 fun y hy => by
      subst hy
      exact ⟨by omega, fun h => by have := (hN.bs _ h).1; omega, fun h => by have := (hN.ba _ h).1; omega, fun h => by have := (hN.be _ h).1; omega⟩
    simp only [↓Sh.dn, sx, Nat.reduceBEq, reduceCtorEq, Nat.reduceEqDiff, f2, f3, f24, f25, nat_lt, Nat.lt_irrefl, decide_false, hca, Option.map_some, List.drop_zero, List.take_succ_cons, List.take_zero, st6, hres, hcr]
    refine ⟨(k0.trans hk).then (Nat.le_of_eq hgo) (z6.weak fun y hy => by omega), ⟨sigma, (n : Int), arcs, es⟩, fun H'' hh => ⟨⟨r2, av', ev', rfl, (hN6.sg.keep fun y hy => hh y (by have := (hN6.bs y hy).1; omega)).toSl, (hN6.ar.keep fun y hy => hh y (by have := (hN6.ba y hy).1; omega)).toSl, (hN6.en.keep fun y hy => hh y (by have := (hN6.be y hy).1; omega)).toSl⟩⟩, rfl, rfl, hal, fun a => ?_, hel, hei⟩
    rw [hai]
    constructor
    · rintro ⟨s, r, _, h2⟩; exact ⟨s, r, h2⟩
    · rintro ⟨s, r, h1, h2⟩
      exact ⟨s, r, by rw [← hE]; exact (List.getElem?_eq_some_iff.1 h1).1, h1, h2⟩
end Go.Proofs.YtfcmpclbhnjkgaaGreat
/- (*graph.Graph).closed: what is reached from states without reading a symbol. -/
set_option maxHeartbeats 4000000
set_option maxRecDepth 20000
set_option linter.unusedSimpArgs false
set_option linter.unusedVariables false
set_option pp.deepTerms.threshold 8
namespace Go.Proofs.YtfcmpclbhnjkgaaGreat
open Go Go.Proofs Go.Proofs.Sh
end Go.Proofs.YtfcmpclbhnjkgaaGreat
/- slices.IndexFunc and ContainsFunc: whether some element is so. -/
set_option maxHeartbeats 4000000
set_option maxRecDepth 20000
set_option linter.unusedSimpArgs false
set_option linter.unusedVariables false
set_option pp.deepTerms.threshold 8
namespace Go.Proofs.YtfcmpclbhnjkgaaGreat
open Go Go.Proofs Go.Proofs.Sh
end Go.Proofs.YtfcmpclbhnjkgaaGreat
/- (*graph.Graph).Begin, Step, Run, HasEnd. -/
set_option maxHeartbeats 4000000
set_option maxRecDepth 20000
set_option linter.unusedSimpArgs false
set_option linter.unusedVariables false
set_option pp.deepTerms.threshold 8
namespace Go.Proofs.YtfcmpclbhnjkgaaGreat
open Go Go.Proofs Go.Proofs.Sh
end Go.Proofs.YtfcmpclbhnjkgaaGreat
/- (*graph.Graph).Back: the graph with its arcs the other way round. -/
set_option maxHeartbeats 4000000
set_option maxRecDepth 20000
set_option linter.unusedSimpArgs false
set_option linter.unusedVariables false
set_option pp.deepTerms.threshold 8
namespace Go.Proofs.YtfcmpclbhnjkgaaGreat
open Go Go.Proofs Go.Proofs.Sh
end Go.Proofs.YtfcmpclbhnjkgaaGreat
/- (*graph.Graph).From, Lasting. -/
set_option maxHeartbeats 4000000
set_option maxRecDepth 20000
set_option linter.unusedSimpArgs false
set_option linter.unusedVariables false
set_option pp.deepTerms.threshold 8
namespace Go.Proofs.YtfcmpclbhnjkgaaGreat
open Go Go.Proofs Go.Proofs.Sh
end Go.Proofs.YtfcmpclbhnjkgaaGreat
/- The reference's graph: made of a net. -/
set_option maxHeartbeats 4000000
set_option maxRecDepth 20000
set_option linter.unusedSimpArgs false
set_option linter.unusedVariables false
set_option pp.deepTerms.threshold 8
namespace Go.Proofs.YtfcmpclbhnjkgaaGreat
open Go Go.Proofs Go.Proofs.Sh
theorem rgZero {H : AH} : anew Tryz.prog 65 H (.agg #[.int .i64 0, .slice none 0 0, .slice none 0 0]) = some (.pointer (some ⟨H.next, 0, some 0⟩), (H.new 3 [.int .i64 0, .slice none 0 0, .slice none 0 0]).2) := new_agg (vs := [.int .i64 0, .slice none 0 0, .slice none 0 0]) size_65 rfl rfl
theorem rgNew {H : AH} {ev bv : Value} (he : isCell ev = true) (hb : isCell bv = true) : anew Tryz.prog 65 H (.agg #[.int .i64 0, ev, bv]) = some (.pointer (some ⟨H.next, 0, some 0⟩), (H.new 3 [.int .i64 0, ev, bv]).2) :=
  new_agg (vs := [.int .i64 0, ev, bv]) size_65 rfl (by simp [he, hb, show isCell (.int .i64 0) = true from rfl])
theorem rgStore {H : AH} {ev bv : Value} {p : Addr} (he : isCell ev = true) (hb : isCell bv = true) : astore Tryz.prog 65 H (.agg #[.int .i64 0, ev, bv]) (.pointer (some p)) = H.write p [.int .i64 0, ev, bv] :=
  store_agg (vs := [.int .i64 0, ev, bv]) size_65 rfl (by simp [he, hb, show isCell (.int .i64 0) = true from rfl])
theorem rgOver {H : AH} {a b c x y z : Value} : (H.new 3 [a, b, c]).2.write ⟨H.next, 0, some 0⟩ [x, y, z] = some (H.new 3 [x, y, z]).2 := write_new rfl
theorem reZero {H : AH} : anew Tryz.prog 117 H (.agg #[.string ⟨#[]⟩, .int .i64 0]) = some (.pointer (some ⟨H.next, 0, some 0⟩), (H.new 2 [.string ⟨#[]⟩, .int .i64 0]).2) := new_agg (vs := [.string ⟨#[]⟩, .int .i64 0]) size_117 rfl rfl
theorem reStore {H : AH} {e : ByteArray × Nat} {p : Addr} : astore Tryz.prog 117 H (.agg (rEdge e).toArray) (.pointer (some p)) = H.write p (rEdge e) := store_agg size_117 rfl rfl
theorem reOver {H : AH} {e : ByteArray × Nat} {x0 x1 : Value} : (H.new 2 [x0, x1]).2.write ⟨H.next, 0, some 0⟩ (rEdge e) = some (H.new 2 (rEdge e)).2 := write_new rfl
theorem re0 {H : AH} {e : ByteArray × Nat} : (H.new 2 (rEdge e)).2.cell ⟨H.next, 0, some 0⟩ = some (.string e.1) := cell_new _ _ _
theorem re1 {H : AH} {e : ByteArray × Nat} : (H.new 2 (rEdge e)).2.cell ⟨H.next, 1, some 0⟩ = some (.int .i64 (e.2 : Int)) := cell_new _ _ _
theorem rgOut {H : AH} (hw : Wf H) {ev bv : Value} {g : Nat} (x y z : Value) (h : Sh.Obj H g 3 [x, y, z] true) (he : isCell ev = true) (hb : isCell bv = true) : ∃ H', astore Tryz.prog 65 H (.agg #[.int .i64 0, ev, bv]) (.pointer (some ⟨g, 0, some 0⟩)) = some H' ∧ Sh.Obj H' g 3 [.int .i64 0, ev, bv] true ∧ Chg (fun y => y = g) H H' := by
  obtain ⟨H', h1, h2, h3, h4⟩ := h.arr.write hw (i := 0) (vs := [.int .i64 0, ev, bv]) (by simp)
  have ho : Sh.Obj H' g 3 [.int .i64 0, ev, bv] true := by
    obtain ⟨H2, k1, k2, _⟩ := Sh.Obj.write h (i := 0) (vs := [.int .i64 0, ev, bv]) (by simp)
    rw [h1] at k1
    injection k1 with k1
    subst k1
    exact k2
  exact ⟨H', by rw [rgStore he hb]; exact h1, ho, h4.weak fun _ h => h⟩
theorem newGraph {H : AH} {n : Nat} (hn : n ≤ 1048576) (hw : Wf H) :
    Sh.Call Tryz.prog (knows 10) 84 [.int .i64 (n : Int)] H (fun r H' => Kept H H' ∧ ∃ ev bv, r = .agg #[.int .i64 0, ev, bv] ∧ ∃ g1, H.next ≤ g1 ∧ ∃ g2, g1 < g2 ∧ Jag H' ev (if n = 0 then none else some g1) 2 (List.replicate n (.slice none 0 0)) (List.replicate n []) (List.replicate n none) ∧ Buf H' 1 bv (List.replicate n [.bool false]) (if n = 0 then none else some g2)) := by
  refine call_of rfl Tryz.func84 rfl (Nat.le_of_ble_eq_true rfl) ?_
  have hres : Tryz.f84.results.toList = [.cell 2 65] := rfl
  simp only [↓Sh.dn, sx, Nat.reduceBEq, reduceCtorEq, Nat.reduceEqDiff, rgZero]
  have k0 := Kept.new hw 3 [.int .i64 0, .slice none 0 0, .slice none 0 0]
  have o0 := Sh.Obj.new (H := H) 3 [.int .i64 0, .slice none 0 0, .slice none 0 0]
  have x0 : H.next < (H.new 3 [.int .i64 0, .slice none 0 0, .slice none 0 0]).2.next := Nat.lt_succ_self _
  generalize (H.new 3 [.int .i64 0, .slice none 0 0, .slice none 0 0]).2 = H0 at k0 o0 x0 ⊢
  have m1 := mk_62 (H := H0) (l := n) (c := n) (Nat.le_refl _) (by omega)
  have k1 := Kept.new k0.wf 1 (List.replicate n (.slice none 0 0))
  have jg := Jag.make k0.wf 2 (n := n) (by omega)
  have o1 := objRep (H := H0) (n := n) (z := .slice none 0 0) rfl
  have x1 : H0.next < (H0.new 1 (List.replicate n (.slice none 0 0))).2.next := Nat.lt_succ_self _
  generalize (H0.new 1 (List.replicate n (.slice none 0 0))).2 = K1 at m1 k1 jg o1 x1 ⊢
  have m2 := mk_63 (H := K1) (l := n) (c := n) (Nat.le_refl _) (by omega)
  have k2 := Kept.new k1.wf 1 (List.replicate n (.bool false))
  have f2 := Buf.fill k1.wf (.bool false) (c := n) (by omega)
  have o2 := objRep (H := K1) (n := n) (z := .bool false) rfl
  generalize (K1.new 1 (List.replicate n (.bool false))).2 = K2 at m2 k2 f2 o2 ⊢
  have bq : abuild Tryz.prog 65 [(1, .slice (some ⟨H0.next, 0, some 0⟩) n n), (2, .slice (some ⟨K1.next, 0, some 0⟩) n n)] = some (.agg #[.int .i64 0, .slice (some ⟨H0.next, 0, some 0⟩) n n, .slice (some ⟨K1.next, 0, some 0⟩) n n]) := by
    have va : ∀ xs : Array Value, vcells (.agg xs) = xs.toList := fun _ => rfl
    refine build_struct (pl := [(0, 1), (1, 1), (2, 1)]) Tryz.underlying65 zero_65 (by kernel_rfl) ?_
    simp [fillA, va, vcells, isCell, setCells, beq_dec, ble_dec]
  have o0' : Sh.Obj K2 H.next 3 [.int .i64 0, .slice none 0 0, .slice none 0 0] true := by
    unfold Sh.Obj at o0 ⊢
    rw [(k1.trans k2).old H.next x0]; exact o0
  obtain ⟨K3, st, o3, c3⟩ := rgOut (ev := .slice (some ⟨H0.next, 0, some 0⟩) n n) (bv := .slice (some ⟨K1.next, 0, some 0⟩) n n) k2.wf _ _ _ o0' rfl rfl
  have k012 := (k0.trans k1).trans k2
  have c3' := o3.cells (i := 0) (n := 3) (by simp)
  refine wp_early (fl := [(0, true), (1, false), (2, true), (3, false), (4, true), (5, true)]) (by kernel_rfl) (by kernel_rfl) k0.wf ?_
  simp only [↓Sh.dn, sx, Nat.reduceBEq, reduceCtorEq, Nat.reduceEqDiff, wpg, Still, isEff, isMake, isRead, veq_ptr, veq_int, veq_str, veq_bool, veq_undef, forall_eq, forall_eq', m1, m2, bq, st, k1.wf, k2.wf, hres, c3', Option.map_some, List.drop_zero, List.take_succ_cons, List.take_zero]
  have j1 := (jg.kept k1.wf k2).chg k2.wf c3 (fun y hy e => by
    subst e
    have : ∀ y, JIn (if n = 0 then none else some H0.next) (List.replicate n none) y → y = H0.next := by
      rintro y (h | ⟨i, h⟩)
      · by_cases h0 : n = 0
        · rw [if_pos h0] at h; cases h
        · rw [if_neg h0] at h; exact (Option.some.inj h).symm
      · rw [List.getElem?_replicate] at h
        split at h <;> cases h
    have := this _ hy
    omega)
  have b1 := f2.chg k2.wf c3 (fun y hy e => by
    subst e
    by_cases h0 : n = 0
    · rw [if_pos h0] at hy; cases hy
    · rw [if_neg h0] at hy; have := Option.some.inj hy; omega)
  exact ⟨o1, o2, c3.wf, k012.then (Nat.le_refl _) (c3.weak fun y hy => by omega), _, _, rfl, H0.next, Nat.le_of_lt x0, K1.next, x1, j1, b1⟩
def rgRows (N : NetD) (l : List ArcD) : List (List (List Value)) := rowsOf ArcD.fr (fun a => rEdge (a.inn, a.to.toNat)) N.states.toNat l
theorem refGraphOf {H : AH} {v : Value} {N : NetD} (h : NetAt H v N) (hok : NetOk N) (hsm : NetSmall N) (hw : Wf H) :
    Sh.Call Tryz.prog (knows 10) 40 [v] H (fun r H' => Kept H H' ∧ ∃ ev bv vals, RG H' r N.states.toNat (edgesOf N) (marksOf EndD.state N.states.toNat N.ends) ev bv vals) := by
  refine call_of rfl Tryz.func40 rfl (Nat.le_of_ble_eq_true rfl) ?_
  have hres : Tryz.f40.results.toList = [.cell 2 65] := rfl
  obtain ⟨sg, ar, en, rfl, hsg, har, hen⟩ := h
  have hb1 := NetBox.of (N := N) hw hsg har hen
  have hk1 : Kept H (H.new 4 [sg, .int .i64 N.states, ar, en]).2 := Kept.new hw 4 _
  have h1 := hok.st1
  have h2 := hok.st2
  obtain ⟨n, hn⟩ : ∃ n : Nat, N.states = (n : Int) := ⟨N.states.toNat, by omega⟩
  have hnn : N.states.toNat = n := by omega
  simp only [↓Sh.dn, sx, Nat.reduceBEq, reduceCtorEq, Nat.reduceEqDiff, netNew hsg.isCell har.isCell hen.isCell, rgZero]
  have hnx : H.next < (H.new 4 [sg, .int .i64 N.states, ar, en]).2.next := Nat.lt_succ_self _
  have e0 : ∀ y, (H.new 4 [sg, .int .i64 N.states, ar, en]).2.next ≤ y → H.next ≤ y := fun y hy => Nat.le_trans (Nat.le_succ _) hy
  generalize H.next = gg at hb1 hnx ⊢
  generalize (H.new 4 [sg, .int .i64 N.states, ar, en]).2 = H1 at hb1 hk1 hnx e0 ⊢
  have hb2 := hb1.new hk1.wf 3 [.int .i64 0, .slice none 0 0, .slice none 0 0]
  have hk2 := hk1.news 3 [.int .i64 0, .slice none 0 0, .slice none 0 0]
  have o0 := Sh.Obj.new (H := H1) 3 [.int .i64 0, .slice none 0 0, .slice none 0 0]
  have x2 : H1.next < (H1.new 3 [.int .i64 0, .slice none 0 0, .slice none 0 0]).2.next := Nat.lt_succ_self _
  generalize H1.next = go at o0 x2 e0 ⊢
  generalize (H1.new 3 [.int .i64 0, .slice none 0 0, .slice none 0 0]).2 = H2 at hb2 hk2 o0 x2 ⊢
  obtain ⟨r, H3, hd3, hk3, ev, bv, rfl, g1, hg1, g2, hg2, hj, hbf⟩ := newGraph (n := n) (by omega) hk2.wf
  simp only [↓Sh.dn, sx, Nat.reduceBEq, reduceCtorEq, Nat.reduceEqDiff, hb2.c0, hb2.c1, hb2.c2, hb2.c3, hb2.ca, netLenS hb2, netLenA hb2, netLenE hb2, Option.map_some, hn]
  refine ⟨_, _, hd3, ?_⟩
  have hb3 := hb2.kept hk2.wf hk3
  have ic1 := hj.top.isCell
  have ic2 := hbf.isCell
  simp only [↓Sh.dn, sx, Nat.reduceBEq, reduceCtorEq, Nat.reduceEqDiff, hb3.c0, hb3.c1, hb3.c2, hb3.c3, hb3.ca, netLenS hb3, netLenA hb3, netLenE hb3, Option.map_some, rgZero, rgStore ic1 ic2, rgOver]
  have og := (Sh.Obj.new (H := H3) 3 [.int .i64 0, ev, bv]).arr
  have kn := Kept.new hk3.wf 3 [.int .i64 0, ev, bv]
  have xg : H3.next < (H3.new 3 [.int .i64 0, ev, bv]).2.next := Nat.lt_succ_self _
  have hj4 := hj.kept hk3.wf kn
  have hbf4 := hbf.kept hk3.wf kn
  have hk4 := hk3.trans kn
  have hx3 := hk3.next
  obtain ⟨ot, hot⟩ : ∃ ot, (if n = 0 then none else some g1) = ot := ⟨_, rfl⟩
  obtain ⟨ob, hob⟩ : ∃ ob, (if n = 0 then none else some g2) = ob := ⟨_, rfl⟩
  have lob : ∀ y, ob = some y → y = g2 := by
    intro y h
    rw [← hob] at h
    by_cases h0 : n = 0
    · rw [if_pos h0] at h; cases h
    · rw [if_neg h0] at h; exact (Option.some.inj h).symm
  have lot : ∀ y, JIn ot (List.replicate n none) y → y = g1 := by
    rintro y (h | ⟨i, h⟩)
    · rw [← hot] at h
      by_cases h0 : n = 0
      · rw [if_pos h0] at h; cases h
      · rw [if_neg h0] at h; exact (Option.some.inj h).symm
    · rw [List.getElem?_replicate] at h
      split at h <;> cases h
  rw [hot] at hj4
  rw [hob] at hbf4
  have lb := fun y h => hbf.lt hk3.wf y (by rw [hob]; exact h)
  have lj := fun y h => hj.lt hk3.wf y (by rw [hot]; exact h)
  generalize H3.next = gb at og xg hx3 lb lj ⊢
  generalize (H3.new 3 [.int .i64 0, ev, bv]).2 = H4 at og xg hj4 hbf4 hk4 ⊢
  refine wp_for N.arcs.length 4 (List.range' 4 36 ++ [4, 5]) (fun i F H' => Kept H2 H' ∧ Arr H' gb 0 3 [.int .i64 0, ev, bv] ∧ Buf H' 1 bv (List.replicate n [.bool false]) ob ∧ ∃ vals obs, Jag H' ev ot 2 vals (rgRows N (N.arcs.take i)) obs ∧ ∀ y, JIn ot obs y → H2.next ≤ y ∧ y ≠ gb ∧ ob ≠ some y) (by simp only [↓Sh.dn, sx, Nat.reduceBEq, reduceCtorEq, Nat.reduceEqDiff]) ⟨hk4, og, hbf4, _, _, by
    rw [List.take_zero]; unfold rgRows; rw [rowsOf_none, hnn]; exact hj4, fun y hy => by
      have e1 := lot y hy
      have e2 := lj y hy
      exact ⟨by omega, by omega, fun h => by have := lob y h; omega⟩⟩ ?_ ?_
  · rintro i F H' hlt hF f4 ⟨hk, hog, hbb, vals, obs, hJ, hin⟩ k
    have f1 := hF 1 rfl
    have f3 := hF 3 rfl
    simp only [↓Sh.dn, sx, Nat.reduceBEq, reduceCtorEq, Nat.reduceEqDiff] at f1 f3
    have hb' := hb2.kept hk2.wf hk
    obtain ⟨q, o, kk, hia, hc, hcc⟩ := hb'.har.at Tryz.underlying23 size_54 (i := i) (x := N.arcs[i].cells) (by simp [hlt]) .i64
    clear hcc
    have htake : N.arcs.take (i + 1) = N.arcs.take i ++ [N.arcs[i]] := by rw [List.take_add_one, List.getElem?_eq_getElem hlt]; rfl
    obtain ⟨k0, k1, k2, k3, k4, k5⟩ := hok.arc _ (List.getElem_mem hlt)
    have kn := Kept.new hk.wf 5 (N.arcs[i].cells)
    have hk3 := hk.news 5 (N.arcs[i].cells)
    generalize N.arcs[i] = a at hk3 kn hc htake k0 k1 k2 k3 k4 k5
    obtain ⟨s, hs⟩ : ∃ s : Nat, a.fr = (s : Int) := ⟨a.fr.toNat, by omega⟩
    have hto : (a.to.toNat : Int) = a.to := by omega
    have hsn : s < N.states.toNat := by omega
    have hrow := rowsOf_get (key := ArcD.fr) (f := fun a => rEdge (a.inn, a.to.toNat)) (l := N.arcs.take i) hsn
    have hrl := rowsOf_le hrow
    have hsmA := hsm.ar
    have htl : (N.arcs.take i).length ≤ 1048576 := by rw [List.length_take]; omega
    have hJ3 := hJ.kept hk.wf kn
    have hog3 := hog.keep (kn.old gb (hog.lt hk.wf))
    have hbb3 := hbb.kept hk.wf kn
    have hnj : ¬JIn ot obs H'.next := fun h => by have := hJ.lt hk.wf _ h; omega
    have hn := hog3.cell 1
    obtain ⟨ba, cap, w', H5, H6, o', p, e1, e2, e3, e4, e5, e6, e7, e8, e9⟩ := hJ3.pushAt Tryz.underlying62 size_115 hk3.wf hrow (x := rEdge (a.inn, a.to.toNat)) rfl
    rw [← hs] at e2
    have bl : abuild Tryz.prog 117 [(0, .string a.inn), (1, .int .i64 a.to)] = some (.agg (rEdge (a.inn, a.to.toNat)).toArray) := by
      have := bld_117 (v0 := .string a.inn) (v1 := .int .i64 a.to) rfl rfl
      rw [this]; simp [rEdge, hto]
    have hbs := build1_115 (H := (H'.new 5 a.cells).2) (x := .agg (rEdge (a.inn, a.to.toNat)).toArray) rfl rfl
    have ha := app1_115 (H := (H'.new 5 a.cells).2) (base := ba) (len := _) (cap := cap) (x := rEdge (a.inn, a.to.toNat)) rfl (Nat.le_trans hrl (by omega))
    rw [e1] at ha
    have hgj : ¬JIn ot obs gb := fun h => (hin gb h).2.1 rfl
    have hn5 := (hog3.keep (e7.old gb (hog3.lt hk3.wf) hgj)).cell 1
    have c4 := ((Sh.Obj.new (H := H') 5 a.cells).arr.keep (e7.old H'.next (Nat.lt_succ_self _) hnj)).cell 0
    have c4' : (a.cells)[0]? = some (.int .i64 a.fr) := rfl
    rw [c4'] at c4
    have st : astore Tryz.prog 115 H5 w' (.pointer (some p)) = some H6 := by rw [store_cell size_115 e8, e4]
    have va : ∀ xs : Array Value, vcells (.agg xs) = xs.toList := fun _ => rfl
    have hav := hJ3.top.veq
    simp only [va] at hbs
    simp only [↓Sh.dn, sx, Nat.reduceBEq, reduceCtorEq, Nat.reduceEqDiff, hb'.c0, hb'.c1, hb'.c2, hb'.c3, hb'.ca, netLenS hb', netLenA hb', netLenE hb', netZero, arcZero, endZero, arcNew, endNew, arcStore, endStore, arcOver, endOver, netOver, arc0, arc1, arc2, arc3, arc4, end0, end1, f1, f3, f4, Option.map_some, nat_lt, hlt, decide_true, hia, hc]
    refine wp_pend (fl := [(0, []), (1, []), (2, []), (3, []), (4, []), (5, []), (6, []), (7, []), (8, []), (9, []), (10, []), (11, []), (12, []), (13, []), (14, []), (15, []), (16, [3, 1]), (17, []), (18, [])]) (by kernel_rfl) (by kernel_rfl) (by kernel_rfl) ?_
    simp only [↓Sh.dn, sx, Nat.reduceBEq, reduceCtorEq, Nat.reduceEqDiff, wpr, again, isMake, veq_ptr, veq_int, veq_str, veq_bool, veq_undef, veq_slice, forall_eq, forall_eq', netZero, arcZero, endZero, arcNew, endNew, arcStore, endStore, arcOver, endOver, netOver, arc0, arc1, arc2, arc3, arc4, end0, end1, f1, f3, f4, hn, e2, e3, Option.map_some, hav, bl, hbs, ha, hn5, st, c4, wrap_succ hlt hsm.ar]
    refine k _ _ (by repeat (first | refine Same.put ?_ rfl | exact Same.rfl' _)) (by simp only [↓Sh.dn, sx, Nat.reduceBEq, reduceCtorEq, Nat.reduceEqDiff]) ⟨hk3.then (Nat.le_refl _) (e6.weak fun y hy => (hin y hy).1), hog3.keep (e6.old gb (hog3.lt hk3.wf) hgj), hbb3.chg hk3.wf e6 (fun y hy h => (hin y h).2.2 hy), vals.set s w', obs.set s o', ?_, ?_⟩
    · rw [htake]
      unfold rgRows
      rw [rowsOf_snoc hsn hs]
      exact e5
    · intro y hy
      rcases e9 y hy with h | h
      · exact hin y h
      · have := hk3.next
        have := hog3.lt hk3.wf
        exact ⟨by omega, by omega, fun h2 => by have := hbb3.lt hk3.wf y h2; omega⟩
  · rintro F H' hF f4 ⟨hk, hog, hbb, vals, obs, hJ, hin⟩
    have f1 := hF 1 rfl
    have f2 := hF 2 rfl
    have f3 := hF 3 rfl
    simp only [↓Sh.dn, sx, Nat.reduceBEq, reduceCtorEq, Nat.reduceEqDiff] at f1 f2 f3
    rw [List.take_length] at hJ
    have hb' := hb2.kept hk2.wf hk
    simp only [↓Sh.dn, sx, Nat.reduceBEq, reduceCtorEq, Nat.reduceEqDiff, hb'.c0, hb'.c1, hb'.c2, hb'.c3, hb'.ca, netLenS hb', netLenA hb', netLenE hb', f1, f3, f4, nat_lt, Nat.lt_irrefl, decide_false, Option.map_some]
    have hmk : ∀ b : Bool, ∀ m : Nat, (List.replicate m b).map boolC = List.replicate m [.bool b] := fun b m => by simp [boolC]
    refine wp_for N.ends.length 6 (List.range' 40 16 ++ [6]) (fun i F H' => Kept H2 H' ∧ Arr H' gb 0 3 [.int .i64 0, ev, bv] ∧ Buf H' 1 bv ((marksOf EndD.state N.states.toNat (N.ends.take i)).map boolC) ob ∧ Jag H' ev ot 2 vals (rgRows N N.arcs) obs) (by simp only [↓Sh.dn, sx, Nat.reduceBEq, reduceCtorEq, Nat.reduceEqDiff]) ⟨hk, hog, by rw [List.take_zero, marksOf_none, hnn, hmk]; exact hbb, hJ⟩ ?_ ?_
    · rintro i F' H' hlt hF' f6 ⟨hk, hog, hbb, hJ⟩ k
      have g1 := hF' 1 rfl
      have g3 := hF' 3 rfl
      simp only [↓Sh.dn, sx, Nat.reduceBEq, reduceCtorEq, Nat.reduceEqDiff, f1, f3] at g1 g3
      have hb' := hb2.kept hk2.wf hk
      obtain ⟨q, o, kk, hia, hc, hcc⟩ := hb'.hen.at Tryz.underlying24 size_56 (i := i) (x := N.ends[i].cells) (by simp [hlt]) .i64
      have hcs := hcc 0 _ rfl
      simp only [Nat.add_zero, List.getElem_cons_zero] at hcs
      clear hcc
      have htake : N.ends.take (i + 1) = N.ends.take i ++ [N.ends[i]] := by rw [List.take_add_one, List.getElem?_eq_getElem hlt]; rfl
      obtain ⟨k0, k1⟩ := hok.fin _ (List.getElem_mem hlt)
      generalize N.ends[i] = e at hc hcs htake k0 k1
      obtain ⟨s, hs⟩ : ∃ s : Nat, e.state = (s : Int) := ⟨e.state.toNat, by omega⟩
      have hsn : s < N.states.toNat := by omega
      have hn1 := hog.cell 1
      have hn2 := hog.cell 2
      obtain ⟨p, H6, ia, e1, e2, e3, e4⟩ := Buf.set (P := Tryz.prog) hbb hk.wf (i := s) (x := boolC true) (by simp [marksOf_length, hsn]) rfl
      have ia2 := ia Tryz.underlying63 size_4 (j := .i64)
      rw [← hs] at ia2
      have st : astore Tryz.prog 4 H' (.bool true) (.pointer (some p)) = some H6 := by rw [store_cell size_4 rfl]; exact e1
      simp only [↓Sh.dn, sx, Nat.reduceBEq, reduceCtorEq, Nat.reduceEqDiff, hb'.c0, hb'.c1, hb'.c2, hb'.c3, hb'.ca, netLenS hb', netLenA hb', netLenE hb', g1, g3, f6, Option.map_some, nat_lt, hlt, decide_true]
      first | refine (wp_free (by kernel_rfl)).2 ?_ | skip
      simp only [↓Sh.dn, sx, Nat.reduceBEq, reduceCtorEq, Nat.reduceEqDiff, hb'.c0, hb'.c1, hb'.c2, hb'.c3, hb'.ca, netLenS hb', netLenA hb', netLenE hb', g1, g3, f6, hn1, hn2, Option.map_some, hia, hcs, ia2, st, wrap_succ hlt hsm.en]
      refine k _ _ (by repeat (first | refine Same.put ?_ rfl | exact Same.rfl' _)) (by simp only [↓Sh.dn, sx, Nat.reduceBEq, reduceCtorEq, Nat.reduceEqDiff]) ⟨hk.then (Nat.le_refl _) (e3.weak fun y hy => by have := lob y hy; omega), hog.keep (e3.old gb (hog.lt hk.wf) (fun hy => by have := lb gb hy; omega)), ?_, hJ.chg hk.wf e3 fun y hy h => (hin y hy).2.2 h⟩
      rw [htake, marksOf_snoc hsn hs, List.map_set]
      exact e2
    · rintro F' H' hF' f6 ⟨hk, hog, hbb, hJ⟩
      have g1 := hF' 1 rfl
      have g2' := hF' 2 rfl
      have g3 := hF' 3 rfl
      simp only [↓Sh.dn, sx, Nat.reduceBEq, reduceCtorEq, Nat.reduceEqDiff, f1, f2, f3] at g1 g2' g3
      rw [List.take_length] at hbb
      have hb' := hb2.kept hk2.wf hk
      have o0' : Sh.Obj H' go 3 [.int .i64 0, .slice none 0 0, .slice none 0 0] true := by
        unfold Sh.Obj at o0 ⊢
        rw [hk.old go x2]; exact o0
      obtain ⟨H6, st, o3, c3⟩ := rgOut (ev := ev) (bv := bv) hk.wf _ _ _ o0' ic1 ic2
      have hca := hog.cells (i := 0) (n := 3) (by simp)
      have hcr := o3.cells (i := 0) (n := 3) (by simp)
      simp only [↓Sh.dn, sx, Nat.reduceBEq, reduceCtorEq, Nat.reduceEqDiff, hb'.c0, hb'.c1, hb'.c2, hb'.c3, hb'.ca, netLenS hb', netLenA hb', netLenE hb', g1, g2', g3, f6, nat_lt, Nat.lt_irrefl, decide_false, Option.map_some, hca, List.drop_zero, List.take_succ_cons, List.take_zero, st, hres, hcr]
      have hJ6 := (hJ.chg hk.wf c3 fun y hy e => by have := (hin y hy).1; omega).read
      have hb6 := (hbb.chg hk.wf c3 fun y hy e => by have := lob y hy; omega).toSl
      have er : rCells (edgesOf N) = rgRows N N.arcs := by unfold rCells edgesOf rgRows rowsOf; simp [Function.comp_def]
      rw [← hn]
      refine ⟨(hk2.trans hk).then (e0 go (Nat.le_refl _)) (c3.weak fun y hy => by omega), ev, bv, vals, rfl, by rw [er]; exact hJ6, hb6, by unfold edgesOf; rw [rowsOf_length], marksOf_length, by omega, by omega, fun s r hr => ⟨Nat.le_trans (rowsOf_le hr) hok.ar, fun e he => ?_⟩⟩
      obtain ⟨a, ha, _, rfl⟩ := (rowsOf_mem hr e).1 he
      have := hok.arc a ha
      show a.to.toNat < _
      omega
end Go.Proofs.YtfcmpclbhnjkgaaGreat
/- slices.Sort. -/
set_option maxHeartbeats 4000000
set_option maxRecDepth 20000
set_option linter.unusedSimpArgs false
set_option linter.unusedVariables false
set_option pp.deepTerms.threshold 8
namespace Go.Proofs.YtfcmpclbhnjkgaaGreat
open Go Go.Proofs Go.Proofs.Sh
theorem insVoidIntsInt {H : AH} {v : Value} : Sh.Call Tryz.prog (knows 10) 151 [v, .int .i64 0, .int .i64 0] H (fun r H' => H' = H) := by
  refine call_of rfl Tryz.func151 rfl (Nat.le_of_ble_eq_true rfl) ?_
  have hres : Tryz.f151.results.toList = [] := rfl
  have w1 : IntKind.wrap .i64 ((0 : Int) + 1) = 1 := rfl
  simp only [↓Sh.dn, sx, Nat.reduceBEq, reduceCtorEq, Nat.reduceEqDiff, w1]
  refine wp_while (fun m F H' => H' = H ∧ F.get 2 = some (.int .i64 0) ∧ F.get 6 = some (.int .i64 1)) (m := 0) ⟨rfl, by simp only [↓Sh.dn, sx, Nat.reduceBEq, reduceCtorEq, Nat.reduceEqDiff], by simp only [↓Sh.dn, sx, Nat.reduceBEq, reduceCtorEq, Nat.reduceEqDiff]⟩ ?_
  rintro m F H' ⟨rfl, f2, f6⟩ kk
  have d : decide ((1 : Int) < 0) = false := rfl
  simp only [↓Sh.dn, sx, Nat.reduceBEq, reduceCtorEq, Nat.reduceEqDiff, f2, f6, d, hres]
theorem pdqVoidIntsInt {H : AH} {v : Value} {lim : Int} : Sh.Call Tryz.prog (knows 10) 140 [v, .int .i64 0, .int .i64 0, .int .i64 lim] H (fun r H' => H' = H) := by
  refine call_of rfl Tryz.func140 rfl (Nat.le_of_ble_eq_true rfl) ?_
  have hres : Tryz.f140.results.toList = [] := rfl
  obtain ⟨r, H1, hd, rfl⟩ := insVoidIntsInt (H := H) (v := v)
  have w1 : IntKind.wrap .i64 ((0 : Int) - 0) = 0 := rfl
  have d : decide ((0 : Int) ≤ 12) = true := rfl
  simp only [↓Sh.dn, sx, Nat.reduceBEq, reduceCtorEq, Nat.reduceEqDiff]
  refine wp_while (fun m F H' => H' = H1 ∧ F.get 0 = some v ∧ F.get 1 = some (.int .i64 0) ∧ F.get 2 = some (.int .i64 0)) (m := 0) ⟨rfl, by simp only [↓Sh.dn, sx, Nat.reduceBEq, reduceCtorEq, Nat.reduceEqDiff], by simp only [↓Sh.dn, sx, Nat.reduceBEq, reduceCtorEq, Nat.reduceEqDiff], by simp only [↓Sh.dn, sx, Nat.reduceBEq, reduceCtorEq, Nat.reduceEqDiff]⟩ ?_
  rintro m F H' ⟨rfl, f0, f1, f2⟩ kk
  simp only [↓Sh.dn, sx, Nat.reduceBEq, reduceCtorEq, Nat.reduceEqDiff, f0, f1, f2, w1, d]
  refine ⟨_, _, hd, ?_⟩
  simp only [↓Sh.dn, sx, Nat.reduceBEq, reduceCtorEq, Nat.reduceEqDiff, hres]
theorem sortIntsInt {H : AH} {v : Value} {l : List Int} {ob : Option Nat} (hb : Buf H 1 v (l.map fun x => [Value.int .i64 x]) ob) (hl : l.length ≤ 1048576) (hw : Wf H) :
    Sh.Call Tryz.prog (knows 10) 138 [v] H (fun r H' => ∃ l' : List Int, l'.Perm l ∧ Srt intLt 0 l'.length l' ∧ Buf H' 1 v (l'.map fun x => [Value.int .i64 x]) ob ∧ Chg (fun y => ob = some y) H H') := by
  refine call_of rfl Tryz.func138 rfl (Nat.le_of_ble_eq_true rfl) ?_
  have hres : Tryz.f138.results.toList = [] := rfl
  have hlen := hb.toSl.len Tryz.underlying74 H
  rw [List.length_map] at hlen
  have wu : IntKind.wrap .u64 (l.length : Int) = (l.length : Int) := wrapU64 (by omega) (by omega)
  obtain ⟨r, H1, hd, rfl, c, rfl, _⟩ := bitsLen (H := H) (x := l.length) (by omega)
  simp only [↓Sh.dn, sx, Nat.reduceBEq, reduceCtorEq, Nat.reduceEqDiff, hlen, wu]
  refine ⟨_, _, hd, ?_⟩
  cases ob with
  | none =>
    have hl0 : l = [] := by
      generalize hL : (l.map fun x => [Value.int .i64 x]) = L at hb
      cases hb
      simpa using hL
    subst hl0
    obtain ⟨r, H2, hd2, rfl⟩ := pdqVoidIntsInt (H := H1) (v := v) (lim := (c : Int))
    simp only [↓Sh.dn, sx, Nat.reduceBEq, reduceCtorEq, Nat.reduceEqDiff, List.length_nil, Int.ofNat_zero]
    refine ⟨_, _, hd2, ?_⟩
    simp only [↓Sh.dn, sx, Nat.reduceBEq, reduceCtorEq, Nat.reduceEqDiff, hres]
    exact ⟨[], List.Perm.refl _, fun i j x y h1 h2 h3 => by simp at h3, hb, Chg.refl hw⟩
  | some g =>
    obtain ⟨k, cap, n, rfl, hc, hback⟩ := hb.cells
    obtain ⟨r, H2, hd2, l', q1, q2, q3, q4⟩ := pdqInt (cap := cap) l.length (a := 0) (b := l.length) (lim := (c : Int)) (by omega) hc hw hl (Nat.zero_le _) (Nat.le_refl _) (fun q x y h => absurd h (Nat.lt_irrefl 0))
    simp only [↓Sh.dn, sx, Nat.reduceBEq, reduceCtorEq, Nat.reduceEqDiff]
    refine ⟨_, _, hd2, ?_⟩
    simp only [↓Sh.dn, sx, Nat.reduceBEq, reduceCtorEq, Nat.reduceEqDiff, hres]
    exact ⟨l', q1.perm, by rw [q1.length]; exact q2, hback H2 l' q1.length q3, q4.weak fun x hx => by rw [hx]⟩
end Go.Proofs.YtfcmpclbhnjkgaaGreat
/- sort.Ints. -/
set_option maxHeartbeats 4000000
set_option maxRecDepth 20000
set_option linter.unusedSimpArgs false
set_option linter.unusedVariables false
set_option pp.deepTerms.threshold 8
namespace Go.Proofs.YtfcmpclbhnjkgaaGreat
open Go Go.Proofs Go.Proofs.Sh
theorem sortInts {H : AH} {v : Value} {l : List Int} {ob : Option Nat} (hb : Buf H 1 v (l.map fun x => [.int .i64 x]) ob) (hl : l.length ≤ 1048576) (hw : Wf H) :
    Sh.Call Tryz.prog (knows 10) 127 [v] H (fun r H' => ∃ l' : List Int, l'.Perm l ∧ Srt intLt 0 l'.length l' ∧ Buf H' 1 v (l'.map fun x => [.int .i64 x]) ob ∧ Chg (fun y => ob = some y) H H') := by
  refine call_of rfl Tryz.func127 rfl (Nat.le_of_ble_eq_true rfl) ?_
  have hres : Tryz.f127.results.toList = [] := rfl
  obtain ⟨r, H1, hd, hq⟩ := sortIntsInt hb hl hw
  simp only [↓Sh.dn, sx, Nat.reduceBEq, reduceCtorEq, Nat.reduceEqDiff]
  refine ⟨_, _, hd, ?_⟩
  simp only [↓Sh.dn, sx, Nat.reduceBEq, reduceCtorEq, Nat.reduceEqDiff, hres]
  exact hq
end Go.Proofs.YtfcmpclbhnjkgaaGreat
/- The reference's Close: a set of states with all that empty edges lead to. -/
set_option maxHeartbeats 4000000
set_option maxRecDepth 20000
set_option linter.unusedSimpArgs false
set_option linter.unusedVariables false
set_option pp.deepTerms.threshold 8
namespace Go.Proofs.YtfcmpclbhnjkgaaGreat
open Go Go.Proofs Go.Proofs.Sh
theorem refClose {H : AH} {v u ev bv : Value} {vals : List Value} {n : Nat} {E : List (List (ByteArray × Nat))} {ends : List Bool} {L : List Nat} (h : RG H v n E ends ev bv vals) (hL : Sl H u 1 (L.map natC)) (hlt : ∀ t ∈ L, t < n) (hll : L.length ≤ 1073741823) (hw : Wf H) :
    Sh.Call Tryz.prog (knows 10) 106 [v, u] H (fun r H' => SetOut H H' r n (Clo (goesE E noText) fun s => s ∈ L)) := by
  refine call_of rfl Tryz.func106 rfl (Nat.le_of_ble_eq_true rfl) ?_
  have hres : Tryz.f106.results.toList = [.tmp 4] := rfl
  have hrb := RBox.of h hw
  have hk1 : Kept H (H.new 3 [.int .i64 0, ev, bv]).2 := Kept.new hw 3 _
  have hE := h.ed.sl.isCell
  have hB := h.en.isCell
  rw [h.eq]
  simp only [↓Sh.dn, sx, Nat.reduceBEq, reduceCtorEq, Nat.reduceEqDiff, rgNew hE hB]
  have e0 : H.next ≤ (H.new 3 [.int .i64 0, ev, bv]).2.next := Nat.le_succ _
  generalize (H.new 3 [.int .i64 0, ev, bv]).2 = H1 at hrb hk1 e0 ⊢
  generalize H.next = gb at hrb e0 ⊢
  have hn1 := h.n1
  have hn2 := h.n2
  have hlenE : ∀ H', abuiltin Tryz.prog .len [62] [ev] H' = some (.int .i64 (n : Int), H') := fun H' => by
    rw [h.ed.sl.len Tryz.underlying62, List.length_map, h.ed.len]; unfold rCells; rw [List.length_map, h.le]
  have hmk := mk_63 (H := H1) (l := n) (c := n) (Nat.le_refl _) (by omega)
  have k2 := Kept.new hk1.wf 1 (List.replicate n (.bool false))
  have f2 := Buf.fill hk1.wf (.bool false) (c := n) (by omega)
  simp only [↓Sh.dn, sx, Nat.reduceBEq, reduceCtorEq, Nat.reduceEqDiff, hrb.c1, hlenE, hmk]
  obtain ⟨os, hos⟩ : ∃ os, (if n = 0 then none else some H1.next) = os := ⟨_, rfl⟩
  rw [hos] at f2
  have hM0 : MB (H1.new 1 (List.replicate n (.bool false))).2 H1.next n (.slice (some ⟨H1.next, 0, some 0⟩) n n) os (List.replicate n false) [] := by
    refine ⟨Marks.empty n, by rw [List.map_replicate]; exact f2, fun y hy => ?_⟩
    rw [← hos, if_neg (by omega)] at hy
    rw [← Option.some.inj hy]; exact Nat.le_refl _
  generalize (Value.slice (some ⟨H1.next, 0, some 0⟩) n n) = sv at hM0 ⊢
  generalize (H1.new 1 (List.replicate n (.bool false))).2 = H2 at k2 hM0 ⊢
  refine wp_for L.length 7 (List.range' 15 27 ++ [6, 7]) (fun i F H' => Kept H1 H' ∧ ∃ z, F.get 6 = some z ∧ ∃ seen out ob, MB H' H1.next n sv os seen out ∧ LB H' H1.next os z out ob ∧ (∀ t ∈ out, t ∈ L) ∧ ∀ (j t : Nat), j < i → L[j]? = some t → t ∈ out) (by simp only [↓Sh.dn, sx, Nat.reduceBEq, reduceCtorEq, Nat.reduceEqDiff]) ⟨k2, _, by simp only [↓Sh.dn, sx, Nat.reduceBEq, reduceCtorEq, Nat.reduceEqDiff], _, _, none, hM0, ⟨.void none, fun y hy => by cases hy⟩, fun t ht => (by cases ht), fun j t hj => by omega⟩ ?_ ?_
  · rintro i F H' hi hF f7 ⟨hk, z, f6, seen, out, ob, hM, hl, hsub, hdone⟩ k
    have f1 := hF 1 rfl
    have f5 := hF 5 rfl
    simp only [↓Sh.dn, sx, Nat.reduceBEq, reduceCtorEq, Nat.reduceEqDiff] at f1 f5
    have hL' := hL.grow ((hk1.trans hk).grow hw)
    have hlen := hL'.len Tryz.underlying74 H'
    rw [List.length_map] at hlen
    obtain ⟨p, hia, hc⟩ := natSl Tryz.underlying74 size_3 hL' hi
    have htn : L[i] < n := hlt _ (List.getElem_mem hi)
    have hget : L[i]? = some L[i] := List.getElem?_eq_getElem hi
    have hmem : L[i] ∈ L := List.getElem_mem hi
    generalize L[i] = t at hc htn hget hmem
    obtain ⟨p2, hia2, hc2⟩ := hM.see Tryz.underlying63 size_4 htn
    simp only [↓Sh.dn, sx, Nat.reduceBEq, reduceCtorEq, Nat.reduceEqDiff, f1, f5, f6, f7, nat_lt, hi, decide_true, hlen, hia, hc, hia2, hc2]
    by_cases hin : t ∈ out
    · simp only [↓Sh.dn, sx, Nat.reduceBEq, reduceCtorEq, Nat.reduceEqDiff, hin, decide_true, f7, wrap_succ' hi (Nat.le_trans hll (by decide))]
      refine k _ _ (by repeat (first | refine Same.put ?_ rfl | exact Same.rfl' _)) (by simp only [↓Sh.dn, sx, Nat.reduceBEq, reduceCtorEq, Nat.reduceEqDiff]) ⟨hk, z, by simp only [↓Sh.dn, sx, Nat.reduceBEq, reduceCtorEq, Nat.reduceEqDiff, f6], seen, out, ob, hM, hl, hsub, fun j t' hj ht' => ?_⟩
      by_cases hji : j = i
      · subst hji; rw [hget] at ht'; rw [← Option.some.inj ht']; exact hin
      · exact hdone j t' (by omega) ht'
    · obtain ⟨p3, H3, a, cap, w', H4, ob', e1, e2, e3, rfl, e5, e6, e7, e8, e9, e10, e11⟩ := markPush hk hM hl htn hin (by have := hM.ms.le; omega)
      obtain ⟨p4, hia4, hc4⟩ := natSl Tryz.underlying74 size_3 (hL.grow ((hk1.trans e5).grow hw)) hi
      rw [hia] at hia4
      injection hia4 with hq; injection hq with hq; injection hq with hq
      rw [← hq] at hc4
      have : L[i] = t := Option.some.inj ((List.getElem?_eq_getElem hi).symm.trans hget)
      rw [this] at hc4
      simp only [↓Sh.dn, sx, Nat.reduceBEq, reduceCtorEq, Nat.reduceEqDiff, hin, decide_false, f1, f5, f6, f7, hia, hc, e1, e3, hc4, e6, e7, wrap_succ' hi (Nat.le_trans hll (by decide))]
      refine k _ _ (by repeat (first | refine Same.put ?_ rfl | exact Same.rfl' _)) (by simp only [↓Sh.dn, sx, Nat.reduceBEq, reduceCtorEq, Nat.reduceEqDiff]) ⟨e8, _, by simp only [↓Sh.dn, sx, Nat.reduceBEq, reduceCtorEq, Nat.reduceEqDiff], _, _, ob', e9, e10, fun x hx => ?_, fun j t' hj ht' => ?_⟩
      · rcases List.mem_append.1 hx with h | h
        · exact hsub x h
        · rw [List.mem_singleton.1 h]; exact hmem
      · by_cases hji : j = i
        · subst hji; rw [hget] at ht'; rw [← Option.some.inj ht']; exact List.mem_append_right _ List.mem_cons_self
        · exact List.mem_append_left _ (hdone j t' (by omega) ht')
  · rintro F H' hF f7 ⟨hk, z, f6, seen, out, ob, hM, hl, hsub, hdone⟩
    have f2 := hF 2 rfl
    have f5 := hF 5 rfl
    have f1 := hF 1 rfl
    simp only [↓Sh.dn, sx, Nat.reduceBEq, reduceCtorEq, Nat.reduceEqDiff] at f1 f2 f5
    have hL' := hL.grow ((hk1.trans hk).grow hw)
    have hlen := hL'.len Tryz.underlying74 H'
    rw [List.length_map] at hlen
    have hLout : ∀ t ∈ L, t ∈ out := fun t ht => by
      obtain ⟨j, hj⟩ := List.mem_iff_getElem?.1 ht
      exact hdone j t (List.getElem?_eq_some_iff.1 hj).1 hj
    simp only [↓Sh.dn, sx, Nat.reduceBEq, reduceCtorEq, Nat.reduceEqDiff, f1, f2, f5, f6, f7, nat_lt, Nat.lt_irrefl, decide_false, hlen]
    refine wp_while (m := n + 1) (fun m F H' => ∃ i, m + i = n + 1 ∧ F.get 8 = some (.int .i64 (i : Int)) ∧ F.get 2 = some (.pointer (some ⟨gb, 0, some 0⟩)) ∧ F.get 5 = some sv ∧ Kept H1 H' ∧ ∃ z, F.get 6 = some z ∧ ∃ seen out ob, MB H' H1.next n sv os seen out ∧ LB H' H1.next os z out ob ∧ i ≤ out.length ∧ (∀ t ∈ L, t ∈ out) ∧ (∀ t ∈ out, Clo (goesE E noText) (fun s => s ∈ L) t) ∧ ∀ s ∈ out.take i, ∀ t, goesE E noText s t → t ∈ out) ⟨0, by omega, by simp only [↓Sh.dn, sx, Nat.reduceBEq, reduceCtorEq, Nat.reduceEqDiff]; rfl, by simp only [↓Sh.dn, sx, Nat.reduceBEq, reduceCtorEq, Nat.reduceEqDiff, f2], by simp only [↓Sh.dn, sx, Nat.reduceBEq, reduceCtorEq, Nat.reduceEqDiff, f5], hk, z, by simp only [↓Sh.dn, sx, Nat.reduceBEq, reduceCtorEq, Nat.reduceEqDiff, f6], seen, out, ob, hM, hl, Nat.zero_le _, hLout, fun t ht => .base (hsub t ht), fun s hs => by simp at hs⟩ ?_
    clear hk hM hl hsub hdone hLout f1 f2 f5 f6 f7 hL' hlen hF
    clear z seen out ob
    clear F H'
    rintro m F H' ⟨i, hmi, f8, f2, f5, hk, z, f6, seen, out, ob, hM, hl, hio, hLout, hclo, hcl⟩ k
    have hlen := hl.bf.toSl.len Tryz.underlying74 H'
    rw [List.length_map] at hlen
    have hout := hM.ms.le
    by_cases hi : i < out.length
    · simp only [↓Sh.dn, sx, Nat.reduceBEq, reduceCtorEq, Nat.reduceEqDiff, f6, f8, nat_lt, hi, decide_true, hlen]
      have hsn : out[i] < n := hM.ms.lt (List.getElem_mem hi)
      have hget : out[i]? = some out[i] := List.getElem?_eq_getElem hi
      have hcs : Clo (goesE E noText) (fun s => s ∈ L) out[i] := hclo _ (List.getElem_mem hi)
      generalize out[i] = s at hsn hget hcs
      obtain ⟨r, hr⟩ : ∃ r, E[s]? = some r := ⟨E[s]'(by rw [h.le]; exact hsn), List.getElem?_eq_getElem _⟩
      have hr' : (rCells E)[s]? = some (r.map rEdge) := by unfold rCells; rw [List.getElem?_map, hr]; rfl
      obtain ⟨hrl, hrt⟩ := h.to s r hr
      obtain ⟨ga, oa, ka, wr, hia, hca, hsr⟩ := (h.ed.grow (hk1.grow hw)).at Tryz.underlying62 size_115 hr'
      have hro : ∀ {H'}, Kept H1 H' → H'.cell ⟨ga, oa, some ka⟩ = some wr ∧ Sl H' wr 2 (r.map rEdge) ∧ abuiltin Tryz.prog .len [115] [wr] H' = some (.int .i64 (r.length : Int), H') := fun hk => by
        have h2 := hsr.grow (hk.grow hk1.wf)
        refine ⟨cell_grow (hk.grow hk1.wf) hca, h2, ?_⟩
        rw [h2.len Tryz.underlying115, List.length_map]
      refine wp_for r.length 9 (List.range' 48 44 ++ [6, 9, 10]) (fun q F'' H'' => Kept H1 H'' ∧ ∃ z', F''.get 6 = some z' ∧ ∃ seen' out' ob', MB H'' H1.next n sv os seen' out' ∧ LB H'' H1.next os z' out' ob' ∧ out'[i]? = some s ∧ out'.take i = out.take i ∧ (∀ x ∈ out, x ∈ out') ∧ (∀ t ∈ out', Clo (goesE E noText) (fun s => s ∈ L) t) ∧ ∀ e ∈ r.take q, e.1 = noText → e.2 ∈ out') (by simp only [↓Sh.dn, sx, Nat.reduceBEq, reduceCtorEq, Nat.reduceEqDiff]) ⟨hk, z, by simp only [↓Sh.dn, sx, Nat.reduceBEq, reduceCtorEq, Nat.reduceEqDiff, f6], seen, out, ob, hM, hl, hget, rfl, fun x hx => hx, hclo, fun e he => by simp at he⟩ ?_ ?_
      · rintro q F'' H'' hq hF'' f9 ⟨hk'', z', f6', seen', out', ob', hM', hl', hget', htk, hsub, hclo', hed⟩ k2
        have g2 := hF'' 2 rfl
        have g5 := hF'' 5 rfl
        have g8 := hF'' 8 rfl
        simp only [↓Sh.dn, sx, Nat.reduceBEq, reduceCtorEq, Nat.reduceEqDiff, f2, f5, f8] at g2 g5 g8
        obtain ⟨hc1, hs1, hl1⟩ := hro hk''
        have hb1 := hrb.kept hk1.wf hk''
        have hil : i < out'.length := (List.getElem?_eq_some_iff.1 hget').1
        have hgs : out'[i] = s := Option.some.inj ((List.getElem?_eq_getElem hil).symm.trans hget')
        obtain ⟨p1, hia1, hcc1⟩ := natSl Tryz.underlying74 size_3 hl'.bf.toSl hil
        rw [hgs] at hcc1
        obtain ⟨g', o', k', hia2, hcs2, _⟩ := hs1.at Tryz.underlying115 size_117 (i := q) (x := rEdge r[q]) (by simp [hq]) .i64
        have hrq : r[q] ∈ r := List.getElem_mem hq
        have htake : r.take (q + 1) = r.take q ++ [r[q]] := by rw [List.take_add_one, List.getElem?_eq_getElem hq]; rfl
        generalize r[q] = e at hcs2 hrq htake
        have kn := Kept.new hk''.wf 2 (rEdge e)
        have hk3 := hk''.trans kn
        have hM3 := hM'.kept hk''.wf kn
        have hl3 := hl'.kept hk''.wf kn
        simp only [↓Sh.dn, sx, Nat.reduceBEq, reduceCtorEq, Nat.reduceEqDiff, f6', f9, g2, g5, g8, hb1.c1, hia1, hcc1, hia, hc1, hl1, nat_lt, hq, decide_true]
        refine (wp_free (by kernel_rfl)).2 ?_
        simp only [↓Sh.dn, sx, Nat.reduceBEq, reduceCtorEq, Nat.reduceEqDiff, f6', f9, g2, g5, g8, hb1.c1, hia1, hcc1, hia, hc1, hia2, hcs2, Option.map_some, reZero, reStore, reOver, re0, re1]
        have hnext : ∀ {seen2 : List Bool} {out2 : List Nat} {ob2 : Option Nat} {z2 : Value} {F2 : Fr} {H2 : AH}, Same (List.range' 48 44 ++ [6, 9, 10]) F'' F2 → F2.get 6 = some z2 → F2.get 9 = some (.int .i64 ((q + 1 : Nat) : Int)) → Kept H1 H2 → MB H2 H1.next n sv os seen2 out2 → LB H2 H1.next os z2 out2 ob2 → (out2 = out' ∨ out2 = out' ++ [e.2] ∧ e.1 = noText) → (e.1 = noText → e.2 ∈ out2) →
            wp Tryz.prog (knows 10) _ _ F2 H2 := fun {seen2 out2 ob2 z2 F2 H2} a1 a2 a3 a4 a5 a6 a7 a8 => k2 F2 H2 a1 a3 ⟨a4, z2, a2, seen2, out2, ob2, a5, a6, by
              rcases a7 with h | ⟨h, _⟩
              · rw [h]; exact hget'
              · rw [h, List.getElem?_append_left hil]; exact hget', by
              rcases a7 with h | ⟨h, _⟩
              · rw [h]; exact htk
              · rw [h, List.take_append_of_le_length (by omega)]; exact htk, fun x hx => by
              rcases a7 with h | ⟨h, _⟩
              · rw [h]; exact hsub x hx
              · rw [h]; exact List.mem_append_left _ (hsub x hx), fun t ht => by
              rcases a7 with h | ⟨h, he⟩
              · rw [h] at ht; exact hclo' t ht
              · rw [h] at ht
                rcases List.mem_append.1 ht with h2 | h2
                · exact hclo' t h2
                · rw [List.mem_singleton.1 h2]; exact .step hcs ⟨r, hr, by rw [← he]; exact hrq⟩, fun x hx hxe => by
              rw [htake] at hx
              rcases List.mem_append.1 hx with h2 | h2
              · have := hed x h2 hxe
                rcases a7 with h | ⟨h, _⟩
                · rw [h]; exact this
                · rw [h]; exact List.mem_append_left _ this
              · rw [List.mem_singleton.1 h2] at hxe ⊢; exact a8 hxe⟩
        by_cases he : e.1 = ⟨#[]⟩
        · obtain ⟨p5, hia5, hc5⟩ := hM3.see Tryz.underlying63 size_4 (hrt e hrq)
          by_cases hin : e.2 ∈ out'
          · simp only [↓Sh.dn, sx, Nat.reduceBEq, reduceCtorEq, Nat.reduceEqDiff, he, decide_true, re1, g5, hia5, hc5, hin, f9, wrap_succ' hq (Nat.le_trans hrl (by decide))]
            exact hnext (by repeat (first | refine Same.put ?_ rfl | exact Same.rfl' _)) (by simp only [↓Sh.dn, sx, Nat.reduceBEq, reduceCtorEq, Nat.reduceEqDiff, f6']) (by simp only [↓Sh.dn, sx, Nat.reduceBEq, reduceCtorEq, Nat.reduceEqDiff]) hk3 hM3 hl3 (.inl rfl) fun _ => hin
          · obtain ⟨p3, H3, a, cap, w', H4, ob2, e1, e2, e3, rfl, e5, e6, e7, e8, e9, e10, e11⟩ := markPush hk3 hM3 hl3 (hrt e hrq) hin (by have := hM3.ms.le; omega)
            have hre : H3.cell ⟨H''.next, 1, some 0⟩ = some (.int .i64 (e.2 : Int)) := by
              have := ((Sh.Obj.new (H := H'') 2 (rEdge e)).arr.keep (e11.old H''.next (Nat.lt_succ_self _) fun hy => Nat.lt_irrefl _ (hM'.lt hk''.wf _ hy))).cell 1
              exact this
            simp only [↓Sh.dn, sx, Nat.reduceBEq, reduceCtorEq, Nat.reduceEqDiff, he, decide_true, re1, g5, e1, e2, e3, f6', hre, e6, e7, f9, wrap_succ' hq (Nat.le_trans hrl (by decide))]
            exact hnext (by repeat (first | refine Same.put ?_ rfl | exact Same.rfl' _)) (by simp only [↓Sh.dn, sx, Nat.reduceBEq, reduceCtorEq, Nat.reduceEqDiff]) (by simp only [↓Sh.dn, sx, Nat.reduceBEq, reduceCtorEq, Nat.reduceEqDiff]) e8 e9 e10 (.inr ⟨rfl, he⟩) fun _ => List.mem_append_right _ List.mem_cons_self
        · simp only [↓Sh.dn, sx, Nat.reduceBEq, reduceCtorEq, Nat.reduceEqDiff, he, decide_false, f9, wrap_succ' hq (Nat.le_trans hrl (by decide))]
          exact hnext (by repeat (first | refine Same.put ?_ rfl | exact Same.rfl' _)) (by simp only [↓Sh.dn, sx, Nat.reduceBEq, reduceCtorEq, Nat.reduceEqDiff, f6']) (by simp only [↓Sh.dn, sx, Nat.reduceBEq, reduceCtorEq, Nat.reduceEqDiff]) hk3 hM3 hl3 (.inl rfl) fun h => absurd h he
      · rintro F'' H'' hF'' f9 ⟨hk'', z', f6', seen', out', ob', hM', hl', hget', htk, hsub, hclo', hed⟩
        have g2 := hF'' 2 rfl
        have g5 := hF'' 5 rfl
        have g8 := hF'' 8 rfl
        simp only [↓Sh.dn, sx, Nat.reduceBEq, reduceCtorEq, Nat.reduceEqDiff, f2, f5, f8] at g2 g5 g8
        obtain ⟨hc1, hs1, hl1⟩ := hro hk''
        have hb1 := hrb.kept hk1.wf hk''
        have hil : i < out'.length := (List.getElem?_eq_some_iff.1 hget').1
        have hgs : out'[i] = s := Option.some.inj ((List.getElem?_eq_getElem hil).symm.trans hget')
        obtain ⟨p1, hia1, hcc1⟩ := natSl Tryz.underlying74 size_3 hl'.bf.toSl hil
        rw [hgs] at hcc1
        have hout' := hM'.ms.le
        simp only [↓Sh.dn, sx, Nat.reduceBEq, reduceCtorEq, Nat.reduceEqDiff, f6', f9, g2, g5, g8, hb1.c1, hia1, hcc1, hia, hc1, hl1, nat_lt, Nat.lt_irrefl, decide_false, wrap_succ' hil (Nat.le_trans (Nat.le_trans hout' hn2) (by decide))]
        refine k (n + 1 - (i + 1)) _ _ (by omega) ⟨i + 1, by omega, by simp only [↓Sh.dn, sx, Nat.reduceBEq, reduceCtorEq, Nat.reduceEqDiff], by simp only [↓Sh.dn, sx, Nat.reduceBEq, reduceCtorEq, Nat.reduceEqDiff, g2], by simp only [↓Sh.dn, sx, Nat.reduceBEq, reduceCtorEq, Nat.reduceEqDiff, g5], hk'', z', by simp only [↓Sh.dn, sx, Nat.reduceBEq, reduceCtorEq, Nat.reduceEqDiff, f6'], seen', out', ob', hM', hl', hil, fun t ht => hsub t (hLout t ht), hclo', fun x hx t hg => ?_⟩
        rw [List.take_add_one, hget'] at hx
        rcases List.mem_append.1 hx with hx | hx
        · rw [htk] at hx
          exact hsub t (hcl x hx t hg)
        · simp only [Option.toList, List.mem_singleton] at hx
          subst hx
          obtain ⟨r', hr2, hg2⟩ := hg
          rw [hr] at hr2
          rw [← Option.some.inj hr2] at hg2
          exact hed _ (by rw [List.take_length]; exact hg2) rfl
    · simp only [↓Sh.dn, sx, Nat.reduceBEq, reduceCtorEq, Nat.reduceEqDiff, f6, f8, nat_lt, hi, decide_false, hlen]
      obtain ⟨rr, H3, hd3, l', hperm, hsrt, hb3, hc3⟩ := sortInts (l := out.map fun (x : Nat) => (x : Int)) (by rw [natC_int]; exact hl.bf) (by rw [List.length_map]; omega) hk.wf
      refine ⟨_, _, hd3, ?_⟩
      simp only [↓Sh.dn, sx, Nat.reduceBEq, reduceCtorEq, Nat.reduceEqDiff, f6, hres]
      have hl' : l'.map (fun x => [Value.int .i64 x]) = (l'.map Int.toNat).map natC := by
        rw [List.map_map]
        refine List.map_congr_left fun x hx => ?_
        obtain ⟨y, _, rfl⟩ := List.mem_map.1 (hperm.mem_iff.1 hx)
        rfl
      rw [hl'] at hb3
      have hp2 : (l'.map Int.toNat).Perm out := by
        have := hperm.map Int.toNat
        rw [List.map_map] at this
        have e : out.map (Int.toNat ∘ fun (x : Nat) => (x : Int)) = out := by
          conv => rhs; rw [← List.map_id out]
          exact List.map_congr_left fun x _ => rfl
        rw [e] at this; exact this
      refine ⟨hk1.trans (hk.then (Nat.le_refl _) (hc3.weak fun y hy => (hl.fr y hy).1)), l'.map Int.toNat, ob, hb3, fun y hy => Nat.le_trans hk1.next (hl.fr y hy).1, hp2.nodup_iff.2 hM.ms.nod, fun t ht => hM.ms.lt (hp2.mem_iff.1 ht), fun t => ?_⟩
      rw [hp2.mem_iff]
      exact Clo.iff hLout hclo (fun s hs => hcl s (by rw [List.take_of_length_le (by omega)]; exact hs)) t
end Go.Proofs.YtfcmpclbhnjkgaaGreat
/- The reference's Step, Start, Run, IsEnd. -/
set_option maxHeartbeats 4000000
set_option maxRecDepth 20000
set_option linter.unusedSimpArgs false
set_option linter.unusedVariables false
set_option pp.deepTerms.threshold 8
namespace Go.Proofs.YtfcmpclbhnjkgaaGreat
open Go Go.Proofs Go.Proofs.Sh
theorem refIsEnd {H : AH} {v u ev bv : Value} {vals : List Value} {n : Nat} {E : List (List (ByteArray × Nat))} {ends : List Bool} {L : List Nat} (h : RG H v n E ends ev bv vals) (hL : Sl H u 1 (L.map natC)) (hlt : ∀ t ∈ L, t < n) (hll : L.length ≤ 1048576) (hw : Wf H) :
    Sh.Call Tryz.prog (knows 10) 58 [v, u] H (fun r H' => Kept H H' ∧ r = .bool (L.any fun t => decide (ends[t]? = some true))) := by
  refine call_of rfl Tryz.func58 rfl (Nat.le_of_ble_eq_true rfl) ?_
  have hres : Tryz.f58.results.toList = [.tmp 4] := rfl
  have hrb := RBox.of h hw
  have hk1 : Kept H (H.new 3 [.int .i64 0, ev, bv]).2 := Kept.new hw 3 _
  have hE := h.ed.sl.isCell
  have hB := h.en.isCell
  rw [h.eq]
  simp only [↓Sh.dn, sx, Nat.reduceBEq, reduceCtorEq, Nat.reduceEqDiff, rgNew hE hB]
  generalize (H.new 3 [.int .i64 0, ev, bv]).2 = H1 at hrb hk1 ⊢
  generalize H.next = gb at hrb ⊢
  have hL' := hL.grow (hk1.grow hw)
  have hlen := hL'.len Tryz.underlying74 H1
  rw [List.length_map] at hlen
  refine wp_for L.length 5 (List.range' 5 15) (fun i F H' => H' = H1 ∧ (L.take i).any (fun t => decide (ends[t]? = some true)) = false) (by simp only [↓Sh.dn, sx, Nat.reduceBEq, reduceCtorEq, Nat.reduceEqDiff]) ⟨rfl, rfl⟩ ?_ ?_
  · rintro i F H' hi hF f5 ⟨rfl, hall⟩ k
    have f1 := hF 1 rfl
    have f2 := hF 2 rfl
    simp only [↓Sh.dn, sx, Nat.reduceBEq, reduceCtorEq, Nat.reduceEqDiff] at f1 f2
    obtain ⟨p, hia, hc⟩ := natSl Tryz.underlying74 size_3 hL' hi
    have htn : L[i] < n := hlt _ (List.getElem_mem hi)
    have hmem : L[i] ∈ L := List.getElem_mem hi
    have htake : L.take (i + 1) = L.take i ++ [L[i]] := by rw [List.take_add_one, List.getElem?_eq_getElem hi]; rfl
    generalize L[i] = t at hc htn hmem htake
    obtain ⟨b, hb⟩ : ∃ b, ends[t]? = some b := ⟨ends[t]'(by rw [h.ln]; exact htn), List.getElem?_eq_getElem _⟩
    obtain ⟨p2, hia2, hc2⟩ := Sl.elem (s := 1) Tryz.underlying63 size_4 hrb.rg.en (i := t) (u := .bool b) (by rw [List.getElem?_map, hb]; rfl)
    simp only [↓Sh.dn, sx, Nat.reduceBEq, reduceCtorEq, Nat.reduceEqDiff, f1, f2, f5, nat_lt, hi, decide_true, hlen]
    first | refine (wp_free (by kernel_rfl)).2 ?_ | skip
    simp only [↓Sh.dn, sx, Nat.reduceBEq, reduceCtorEq, Nat.reduceEqDiff, f1, f2, f5, hrb.c2, hia, hc, hia2, hc2]
    cases b with
    | true =>
      have : (L.any fun t => decide (ends[t]? = some true)) = true := List.any_eq_true.2 ⟨t, hmem, by rw [hb]; rfl⟩
      simp only [↓Sh.dn, sx, Nat.reduceBEq, reduceCtorEq, Nat.reduceEqDiff, hres, this, hk1]
    | false =>
      simp only [↓Sh.dn, sx, Nat.reduceBEq, reduceCtorEq, Nat.reduceEqDiff, f5, wrap_succ hi hll]
      refine k _ _ (by repeat (first | refine Same.put ?_ rfl | exact Same.rfl' _)) (by simp only [↓Sh.dn, sx, Nat.reduceBEq, reduceCtorEq, Nat.reduceEqDiff]) ⟨rfl, ?_⟩
      rw [htake, List.any_append, hall]
      simp [hb]
  · rintro F H' hF f5 ⟨rfl, hall⟩
    have f1 := hF 1 rfl
    simp only [↓Sh.dn, sx, Nat.reduceBEq, reduceCtorEq, Nat.reduceEqDiff] at f1
    rw [List.take_length] at hall
    simp only [↓Sh.dn, sx, Nat.reduceBEq, reduceCtorEq, Nat.reduceEqDiff, f1, f5, nat_lt, Nat.lt_irrefl, decide_false, hlen, hres, hall, hk1]
theorem refStart {H : AH} {v ev bv : Value} {vals : List Value} {n : Nat} {E : List (List (ByteArray × Nat))} {ends : List Bool} (h : RG H v n E ends ev bv vals) (hw : Wf H) :
    Sh.Call Tryz.prog (knows 10) 87 [v] H (fun r H' => SetOut H H' r n (Clo (goesE E noText) fun s => s = 0)) := by
  refine call_of rfl Tryz.func87 rfl (Nat.le_of_ble_eq_true rfl) ?_
  have hres : Tryz.f87.results.toList = [.tmp 2] := rfl
  have hrb := RBox.of h hw
  have hk1 : Kept H (H.new 3 [.int .i64 0, ev, bv]).2 := Kept.new hw 3 _
  have hE := h.ed.sl.isCell
  have hB := h.en.isCell
  rw [h.eq]
  simp only [↓Sh.dn, sx, Nat.reduceBEq, reduceCtorEq, Nat.reduceEqDiff, rgNew hE hB]
  generalize (H.new 3 [.int .i64 0, ev, bv]).2 = H1 at hrb hk1 ⊢
  generalize H.next = gb at hrb ⊢
  have hbs := build1_74 (H := H1) (x := .int .i64 0) rfl rfl
  have k2 := Kept.new hk1.wf 1 [.int .i64 0]
  have hS : Sl (H1.new 1 [.int .i64 0]).2 (.slice (some ⟨H1.next, 0, some 0⟩) 1 1) 1 (([0] : List Nat).map natC) :=
    (Buf.fresh (H := H1) (s := 1) (xs := [natC 0]) hk1.wf (by intro x hx; rw [List.mem_singleton.1 hx]; rfl) (by simp) 1 rfl).toSl
  have hR := hrb.rg.kept hk1.wf k2
  obtain ⟨r, H3, hd3, ho⟩ := refClose hR hS (fun t ht => by rw [List.mem_singleton.1 ht]; exact h.n1) (by decide) k2.wf
  simp only [↓Sh.dn, sx, Nat.reduceBEq, reduceCtorEq, Nat.reduceEqDiff, hrb.c0, hrb.ca, Option.map_some, hbs, vcells]
  refine ⟨_, _, hd3, ?_⟩
  simp only [↓Sh.dn, sx, Nat.reduceBEq, reduceCtorEq, Nat.reduceEqDiff, hres]
  exact (ho.pre (hk1.trans k2)).iff fun t => by simp only [List.mem_singleton]
theorem refStep {H : AH} {v u ev bv : Value} {vals : List Value} {n : Nat} {E : List (List (ByteArray × Nat))} {ends : List Bool} {L : List Nat} {x : ByteArray} (h : RG H v n E ends ev bv vals) (hL : Sl H u 1 (L.map natC)) (hlt : ∀ t ∈ L, t < n) (hll : L.length ≤ 3000) (hw : Wf H) :
    Sh.Call Tryz.prog (knows 10) 67 [v, u, .string x] H (fun r H' => SetOut H H' r n (Clo (goesE E noText) fun t => ∃ s, s ∈ L ∧ goesE E x s t)) := by
  refine call_of rfl Tryz.func67 rfl (Nat.le_of_ble_eq_true rfl) ?_
  have hres : Tryz.f67.results.toList = [.tmp 6] := rfl
  have hrb := RBox.of h hw
  have hk1 : Kept H (H.new 3 [.int .i64 0, ev, bv]).2 := Kept.new hw 3 _
  have hE := h.ed.sl.isCell
  have hB := h.en.isCell
  rw [h.eq]
  simp only [↓Sh.dn, sx, Nat.reduceBEq, reduceCtorEq, Nat.reduceEqDiff, rgNew hE hB]
  generalize (H.new 3 [.int .i64 0, ev, bv]).2 = H1 at hrb hk1 ⊢
  generalize H.next = gb at hrb ⊢
  have hn2 := h.n2
  refine wp_for L.length 8 (List.range' 7 43) (fun i F H' => Kept H1 H' ∧ ∃ z, F.get 7 = some z ∧ ∃ out ob, LB H' H1.next none z out ob ∧ out.length ≤ i * 60000 ∧ (∀ t ∈ out, t < n) ∧ ∀ t, t ∈ out ↔ ∃ s ∈ L.take i, goesE E x s t) (by simp only [↓Sh.dn, sx, Nat.reduceBEq, reduceCtorEq, Nat.reduceEqDiff]) ⟨Kept.refl hk1.wf, _, by simp only [↓Sh.dn, sx, Nat.reduceBEq, reduceCtorEq, Nat.reduceEqDiff], [], none, ⟨.void none, fun y hy => by cases hy⟩, by simp, fun t ht => (by cases ht), fun t => by simp⟩ ?_ ?_
  · rintro i F H' hi hF f8 ⟨hk, z, f7, out, ob, hl, hol, hon, hiff⟩ k
    have f1 := hF 1 rfl
    have f2 := hF 2 rfl
    have f3 := hF 3 rfl
    simp only [↓Sh.dn, sx, Nat.reduceBEq, reduceCtorEq, Nat.reduceEqDiff] at f1 f2 f3
    have hL' := fun {H'} (hk : Kept H1 H') => hL.grow ((hk1.trans hk).grow hw)
    have hlen := (hL' hk).len Tryz.underlying74 H'
    rw [List.length_map] at hlen
    obtain ⟨p, hia, hc⟩ := natSl Tryz.underlying74 size_3 (hL' (Kept.refl hk1.wf)) hi
    have hc' := fun {H'} (hk : Kept H1 H') => cell_grow (hk.grow hk1.wf) hc
    have htn : L[i] < n := hlt _ (List.getElem_mem hi)
    have htake : L.take (i + 1) = L.take i ++ [L[i]] := by rw [List.take_add_one, List.getElem?_eq_getElem hi]; rfl
    clear hc
    generalize L[i] = s at hc' htn htake
    obtain ⟨r, hr⟩ : ∃ r, E[s]? = some r := ⟨E[s]'(by rw [h.le]; exact htn), List.getElem?_eq_getElem _⟩
    have hr' : (rCells E)[s]? = some (r.map rEdge) := by unfold rCells; rw [List.getElem?_map, hr]; rfl
    obtain ⟨hrl, hrt⟩ := h.to s r hr
    obtain ⟨ga, oa, ka, wr, hia2, hca, hsr⟩ := (h.ed.grow (hk1.grow hw)).at Tryz.underlying62 size_115 hr'
    have hro : ∀ {H'}, Kept H1 H' → H'.cell ⟨ga, oa, some ka⟩ = some wr ∧ Sl H' wr 2 (r.map rEdge) ∧ abuiltin Tryz.prog .len [115] [wr] H' = some (.int .i64 (r.length : Int), H') := fun hk => by
      have h2 := hsr.grow (hk.grow hk1.wf)
      refine ⟨cell_grow (hk.grow hk1.wf) hca, h2, ?_⟩
      rw [h2.len Tryz.underlying115, List.length_map]
    simp only [↓Sh.dn, sx, Nat.reduceBEq, reduceCtorEq, Nat.reduceEqDiff, f1, f8, nat_lt, hi, decide_true, hlen]
    refine wp_for r.length 9 (List.range' 17 33 ++ [7, 9, 10]) (fun q F'' H'' => Kept H1 H'' ∧ ∃ z', F''.get 7 = some z' ∧ ∃ out' ob', LB H'' H1.next none z' out' ob' ∧ out'.length ≤ i * 60000 + q ∧ (∀ t ∈ out', t < n) ∧ ∀ t, t ∈ out' ↔ (∃ s ∈ L.take i, goesE E x s t) ∨ ∃ e ∈ r.take q, e.1 = x ∧ e.2 = t) (by simp only [↓Sh.dn, sx, Nat.reduceBEq, reduceCtorEq, Nat.reduceEqDiff]) ⟨hk, z, by simp only [↓Sh.dn, sx, Nat.reduceBEq, reduceCtorEq, Nat.reduceEqDiff, f7], out, ob, hl, Nat.le_trans hol (Nat.le_add_right _ _), hon, fun t => by rw [hiff t]; simp⟩ ?_ ?_
    · rintro q F'' H'' hq hF'' f9 ⟨hk'', z', f7', out', ob', hl', hol', hon', hiff'⟩ k2
      have g1 := hF'' 1 rfl
      have g2 := hF'' 2 rfl
      have g3 := hF'' 3 rfl
      have g8 := hF'' 8 rfl
      simp only [↓Sh.dn, sx, Nat.reduceBEq, reduceCtorEq, Nat.reduceEqDiff, f1, f2, f3, f8] at g1 g2 g3 g8
      obtain ⟨hc1, hs1, hl1⟩ := hro hk''
      have hcc := hc' hk''
      have hb1 := hrb.kept hk1.wf hk''
      obtain ⟨g', o', k', hia3, hcs2, _⟩ := hs1.at Tryz.underlying115 size_117 (i := q) (x := rEdge r[q]) (by simp [hq]) .i64
      have hrq : r[q] ∈ r := List.getElem_mem hq
      have htk : r.take (q + 1) = r.take q ++ [r[q]] := by rw [List.take_add_one, List.getElem?_eq_getElem hq]; rfl
      generalize r[q] = e at hcs2 hrq htk
      have kn := Kept.new hk''.wf 2 (rEdge e)
      have hk3 := hk''.trans kn
      have hl3 := hl'.kept hk''.wf kn
      simp only [↓Sh.dn, sx, Nat.reduceBEq, reduceCtorEq, Nat.reduceEqDiff, f9, g1, g2, g3, g8, hb1.c1, hia, hcc, hia2, hc1, hl1, nat_lt, hq, decide_true]
      refine (wp_free (by kernel_rfl)).2 ?_
      simp only [↓Sh.dn, sx, Nat.reduceBEq, reduceCtorEq, Nat.reduceEqDiff, f9, g1, g2, g3, g8, hb1.c1, hia, hcc, hia2, hc1, hia3, hcs2, Option.map_some, reZero, reStore, reOver, re0, re1]
      have hj : ∀ t, (∃ e' ∈ r.take (q + 1), e'.1 = x ∧ e'.2 = t) ↔ (∃ e' ∈ r.take q, e'.1 = x ∧ e'.2 = t) ∨ e.1 = x ∧ e.2 = t := fun t => by
        rw [htk]
        simp only [List.mem_append, List.mem_singleton]
        constructor
        · rintro ⟨e', h1 | h1, h2⟩
          · exact .inl ⟨e', h1, h2⟩
          · subst h1; exact .inr h2
        · rintro (⟨e', h1, h2⟩ | h2)
          · exact ⟨e', .inl h1, h2⟩
          · exact ⟨e, .inr rfl, h2⟩
      by_cases he : e.1 = x
      · obtain ⟨a, cap, w', H4, ob2, rfl, e1, e2, e3, e4, e5⟩ := pushNat e.2 hk3 (fun y hy => by cases hy) hl3 (by omega)
        have hre := re1 (H := H'') (e := e)
        simp only [↓Sh.dn, sx, Nat.reduceBEq, reduceCtorEq, Nat.reduceEqDiff, he, decide_true, f7', f9, re1, e1, e2, wrap_succ' hq (Nat.le_trans hrl (by decide))]
        refine k2 _ _ (by repeat (first | refine Same.put ?_ rfl | exact Same.rfl' _)) (by simp only [↓Sh.dn, sx, Nat.reduceBEq, reduceCtorEq, Nat.reduceEqDiff]) ⟨e3, w', by simp only [↓Sh.dn, sx, Nat.reduceBEq, reduceCtorEq, Nat.reduceEqDiff], out' ++ [e.2], ob2, e4, by rw [List.length_append]; simp; omega, fun t ht => ?_, fun t => ?_⟩
        · rcases List.mem_append.1 ht with h2 | h2
          · exact hon' t h2
          · rw [List.mem_singleton.1 h2]; exact hrt e hrq
        · rw [hj, List.mem_append, List.mem_singleton, hiff' t]
          constructor
          · rintro ((h1 | h1) | h1)
            · exact .inl h1
            · exact .inr (.inl h1)
            · exact .inr (.inr ⟨he, h1.symm⟩)
          · rintro (h1 | h1 | ⟨_, h1⟩)
            · exact .inl (.inl h1)
            · exact .inl (.inr h1)
            · exact .inr h1.symm
      · simp only [↓Sh.dn, sx, Nat.reduceBEq, reduceCtorEq, Nat.reduceEqDiff, he, decide_false, f9, wrap_succ' hq (Nat.le_trans hrl (by decide))]
        refine k2 _ _ (by repeat (first | refine Same.put ?_ rfl | exact Same.rfl' _)) (by simp only [↓Sh.dn, sx, Nat.reduceBEq, reduceCtorEq, Nat.reduceEqDiff]) ⟨hk3, z', by simp only [↓Sh.dn, sx, Nat.reduceBEq, reduceCtorEq, Nat.reduceEqDiff, f7'], out', ob', hl3, by omega, hon', fun t => ?_⟩
        rw [hj, hiff' t]
        simp [he]
    · rintro F'' H'' hF'' f9 ⟨hk'', z', f7', out', ob', hl', hol', hon', hiff'⟩
      have g1 := hF'' 1 rfl
      have g2 := hF'' 2 rfl
      have g3 := hF'' 3 rfl
      have g8 := hF'' 8 rfl
      simp only [↓Sh.dn, sx, Nat.reduceBEq, reduceCtorEq, Nat.reduceEqDiff, f1, f2, f3, f8] at g1 g2 g3 g8
      obtain ⟨hc1, hs1, hl1⟩ := hro hk''
      have hcc := hc' hk''
      have hb1 := hrb.kept hk1.wf hk''
      simp only [↓Sh.dn, sx, Nat.reduceBEq, reduceCtorEq, Nat.reduceEqDiff, f9, g1, g2, g3, g8, hb1.c1, hia, hcc, hia2, hc1, hl1, nat_lt, Nat.lt_irrefl, decide_false, wrap_succ' hi (Nat.le_trans hll (by decide))]
      refine k _ _ ?_ (by simp only [↓Sh.dn, sx, Nat.reduceBEq, reduceCtorEq, Nat.reduceEqDiff]) ⟨hk'', z', by simp only [↓Sh.dn, sx, Nat.reduceBEq, reduceCtorEq, Nat.reduceEqDiff, f7'], out', ob', hl', by omega, hon', fun t => ?_⟩
      · repeat refine Same.put ?_ rfl
        exact Same.trans (by repeat (first | refine Same.put ?_ rfl | exact Same.rfl' _)) (hF''.sub rfl)
      · rw [hiff' t, htake, List.take_length]
        simp only [List.mem_append, List.mem_singleton]
        constructor
        · rintro (⟨s', h1, h2⟩ | ⟨e, h1, h2, h3⟩)
          · exact ⟨s', .inl h1, h2⟩
          · exact ⟨s, .inr rfl, r, hr, by rw [← h2, ← h3]; exact h1⟩
        · rintro ⟨s', h1 | h1, h2⟩
          · exact .inl ⟨s', h1, h2⟩
          · subst h1
            obtain ⟨r', h3, h4⟩ := h2
            rw [hr] at h3
            rw [← Option.some.inj h3] at h4
            exact .inr ⟨_, h4, rfl, rfl⟩
  · rintro F H' hF f8 ⟨hk, z, f7, out, ob, hl, hol, hon, hiff⟩
    have f1 := hF 1 rfl
    have f3 := hF 3 rfl
    simp only [↓Sh.dn, sx, Nat.reduceBEq, reduceCtorEq, Nat.reduceEqDiff] at f1 f3
    have hL' := hL.grow ((hk1.trans hk).grow hw)
    have hlen := hL'.len Tryz.underlying74 H'
    rw [List.length_map] at hlen
    rw [List.take_length] at hiff
    have hb1 := hrb.kept hk1.wf hk
    obtain ⟨r, H3, hd3, ho⟩ := refClose hb1.rg hl.bf.toSl hon (by omega) hk.wf
    simp only [↓Sh.dn, sx, Nat.reduceBEq, reduceCtorEq, Nat.reduceEqDiff, f1, f3, f7, f8, nat_lt, Nat.lt_irrefl, decide_false, hlen, hb1.ca, Option.map_some]
    refine ⟨_, _, hd3, ?_⟩
    simp only [↓Sh.dn, sx, Nat.reduceBEq, reduceCtorEq, Nat.reduceEqDiff, hres]
    refine (ho.pre (hk1.trans hk)).iff fun t => ?_
    have : (fun s => s ∈ out) = fun t => ∃ s, s ∈ L ∧ goesE E x s t := by
      funext t
      exact propext (hiff t)
    rw [this]
theorem refRun {H : AH} {v u ev bv : Value} {vals : List Value} {n : Nat} {E : List (List (ByteArray × Nat))} {ends : List Bool} {w : List ByteArray} (h : RG H v n E ends ev bv vals) (hu : Sl H u 1 (w.map strCell)) (hwl : w.length ≤ 1048576) (hw : Wf H) :
    Sh.Call Tryz.prog (knows 10) 59 [v, u] H (fun r H' => SetOut H H' r n fun t => (∀ x ∈ w, x ≠ noText) ∧ RunS (goesE E noText) (goesE E) (Clo (goesE E noText) fun s => s = 0) w t) := by
  refine call_of rfl Tryz.func59 rfl (Nat.le_of_ble_eq_true rfl) ?_
  have hres : Tryz.f59.results.toList = [.tmp 4] := rfl
  have hrb := RBox.of h hw
  have hk1 : Kept H (H.new 3 [.int .i64 0, ev, bv]).2 := Kept.new hw 3 _
  have hE := h.ed.sl.isCell
  have hB := h.en.isCell
  rw [h.eq]
  simp only [↓Sh.dn, sx, Nat.reduceBEq, reduceCtorEq, Nat.reduceEqDiff, rgNew hE hB]
  generalize (H.new 3 [.int .i64 0, ev, bv]).2 = H1 at hrb hk1 ⊢
  generalize H.next = gb at hrb ⊢
  have hn2 := h.n2
  have hu1 := hu.grow (hk1.grow hw)
  obtain ⟨r0, H2, hd2, hk2, out0, b0, hb0, hf0, hnd0, hlt0, hi0⟩ := refStart hrb.rg hk1.wf
  simp only [↓Sh.dn, sx, Nat.reduceBEq, reduceCtorEq, Nat.reduceEqDiff, hrb.ca, Option.map_some]
  refine ⟨_, _, hd2, ?_⟩
  obtain ⟨S0, hS0⟩ : ∃ S0, (Clo (goesE E noText) fun s => s = 0) = S0 := ⟨_, rfl⟩
  rw [hS0] at hi0 ⊢
  -- what is left if nothing is reached, or a text is empty
  have fin : ∀ {H' : AH} {z : Value} {out : List Nat} {b : Option Nat}, Kept H1 H' → Buf H' 1 z (out.map natC) b → (∀ y, b = some y → H1.next ≤ y) → out.Nodup → (∀ t ∈ out, t < n) → (∀ t, t ∈ out ↔ (∀ x ∈ w, x ≠ noText) ∧ RunS (goesE E noText) (goesE E) S0 w t) →
      SetOut H H' z n fun t => (∀ x ∈ w, x ≠ noText) ∧ RunS (goesE E noText) (goesE E) S0 w t :=
    fun {H' z out b} a1 a2 a3 a4 a5 a6 => ⟨hk1.trans a1, out, b, a2, fun y hy => Nat.le_trans hk1.next (a3 y hy), a4, a5, a6⟩
  refine wp_for w.length 6 (List.range' 9 23 ++ [5, 6]) (fun i F H' => Kept H1 H' ∧ ∃ z, F.get 5 = some z ∧ ∃ out b, Buf H' 1 z (out.map natC) b ∧ (∀ y, b = some y → H1.next ≤ y) ∧ out.Nodup ∧ (∀ t ∈ out, t < n) ∧ (∀ x ∈ w.take i, x ≠ noText) ∧ ∀ t, t ∈ out ↔ RunS (goesE E noText) (goesE E) S0 (w.take i) t) (by simp only [↓Sh.dn, sx, Nat.reduceBEq, reduceCtorEq, Nat.reduceEqDiff]) ⟨hk2, r0, by simp only [↓Sh.dn, sx, Nat.reduceBEq, reduceCtorEq, Nat.reduceEqDiff], out0, b0, hb0, hf0, hnd0, hlt0, fun x hx => by simp at hx, fun t => by rw [hi0 t]; rfl⟩ ?_ ?_
  · rintro i F H' hi hF f6 ⟨hk, z, f5, out, b, hb, hfr, hnd, hlt, hno, hiff⟩ k
    have f1 := hF 1 rfl
    have f2 := hF 2 rfl
    simp only [↓Sh.dn, sx, Nat.reduceBEq, reduceCtorEq, Nat.reduceEqDiff] at f1 f2
    have hu' := hu1.grow (hk.grow hk1.wf)
    have hlen := hu'.len Tryz.underlying22 H'
    rw [List.length_map] at hlen
    have hlen2 := hb.toSl.len Tryz.underlying74 H'
    rw [List.length_map] at hlen2
    have hol := nodup_le hnd hlt
    have hb1 := hrb.kept hk1.wf hk
    obtain ⟨p, hia, hc⟩ := Sl.elem (s := 1) Tryz.underlying22 size_9 hu' (i := i) (u := .string w[i]) (by rw [List.getElem?_map, List.getElem?_eq_getElem hi]; rfl)
    have htake : w.take (i + 1) = w.take i ++ [w[i]] := by rw [List.take_add_one, List.getElem?_eq_getElem hi]; rfl
    have hmem : w[i] ∈ w := List.getElem_mem hi
    generalize w[i] = x at hc htake hmem
    have hpos : decide ((0 : Int) < (out.length : Int)) = decide (out ≠ []) := by cases out <;> simp
    simp only [↓Sh.dn, sx, Nat.reduceBEq, reduceCtorEq, Nat.reduceEqDiff, f1, f5, f6, nat_lt, hi, decide_true, hlen, hlen2, hpos]
    by_cases ho : out = []
    · have ha : w = w.take i ++ w.drop i := (List.take_append_drop i w).symm
      simp only [↓Sh.dn, sx, Nat.reduceBEq, reduceCtorEq, Nat.reduceEqDiff, ho, decide_false, decide_true, f5, hres, Bool.not_true]
      refine fin hk hb hfr hnd hlt fun t => ?_
      rw [ho]
      constructor
      · intro h; cases h
      · rintro ⟨_, h2⟩
        rw [ha, RunS.append] at h2
        exact absurd h2 (RunS.none (fun s hs => by have := (hiff s).2 hs; rw [ho] at this; cases this) t)
    · simp only [↓Sh.dn, sx, Nat.reduceBEq, reduceCtorEq, Nat.reduceEqDiff, ho, decide_false, decide_true, f1, f6, hia, hc, Bool.not_false]
      by_cases hx : x = ⟨#[]⟩
      · simp only [↓Sh.dn, sx, Nat.reduceBEq, reduceCtorEq, Nat.reduceEqDiff, hx, decide_true, hres]
        exact fin (out := []) (b := none) hk (.void none) (fun y hy => by cases hy) List.nodup_nil (fun t ht => by cases ht) fun t => ⟨fun h => (by cases h), fun h => absurd hx (h.1 x hmem)⟩
      · obtain ⟨r, H3, hd3, hk3, out3, b3, hb3, hf3, hnd3, hlt3, hi3⟩ := refStep (x := x) hb1.rg hb.toSl hlt (by omega) hk.wf
        simp only [↓Sh.dn, sx, Nat.reduceBEq, reduceCtorEq, Nat.reduceEqDiff, hx, decide_false]
        first | refine (wp_free (by kernel_rfl)).2 ?_ | skip
        simp only [↓Sh.dn, sx, Nat.reduceBEq, reduceCtorEq, Nat.reduceEqDiff, f1, f2, f5, f6, hb1.ca, Option.map_some, hia, hc]
        refine ⟨_, _, hd3, ?_⟩
        simp only [↓Sh.dn, sx, Nat.reduceBEq, reduceCtorEq, Nat.reduceEqDiff, f6, wrap_succ hi hwl]
        refine k _ _ (by repeat (first | refine Same.put ?_ rfl | exact Same.rfl' _)) (by simp only [↓Sh.dn, sx, Nat.reduceBEq, reduceCtorEq, Nat.reduceEqDiff]) ⟨hk.trans hk3, r, by simp only [↓Sh.dn, sx, Nat.reduceBEq, reduceCtorEq, Nat.reduceEqDiff], out3, b3, hb3, fun y hy => Nat.le_trans hk.next (hf3 y hy), hnd3, hlt3, fun y hy => ?_, fun t => ?_⟩
        · rw [htake] at hy
          rcases List.mem_append.1 hy with h1 | h1
          · exact hno y h1
          · rw [List.mem_singleton.1 h1]; exact hx
        · rw [hi3 t, htake, RunS.append]
          simp only [RunS]
          have : (fun t => ∃ s, s ∈ out ∧ goesE E x s t) = fun t => ∃ s, RunS (goesE E noText) (goesE E) S0 (w.take i) s ∧ goesE E x s t := by
            funext t
            apply propext
            simp only [hiff]
          rw [this]
  · rintro F H' hF f6 ⟨hk, z, f5, out, b, hb, hfr, hnd, hlt, hno, hiff⟩
    have f1 := hF 1 rfl
    simp only [↓Sh.dn, sx, Nat.reduceBEq, reduceCtorEq, Nat.reduceEqDiff] at f1
    have hu' := hu1.grow (hk.grow hk1.wf)
    have hlen := hu'.len Tryz.underlying22 H'
    rw [List.length_map] at hlen
    rw [List.take_length] at hno hiff
    simp only [↓Sh.dn, sx, Nat.reduceBEq, reduceCtorEq, Nat.reduceEqDiff, f1, f5, f6, nat_lt, Nat.lt_irrefl, decide_false, hlen, hres]
    exact fin hk hb hfr hnd hlt fun t => by rw [hiff t]; exact ⟨fun h => ⟨hno, h⟩, fun h => h.2⟩
end Go.Proofs.YtfcmpclbhnjkgaaGreat
/- The reference's reversed: the edges turned round. -/
set_option maxHeartbeats 4000000
set_option maxRecDepth 20000
set_option linter.unusedSimpArgs false
set_option linter.unusedVariables false
set_option pp.deepTerms.threshold 8
namespace Go.Proofs.YtfcmpclbhnjkgaaGreat
open Go Go.Proofs Go.Proofs.Sh
end Go.Proofs.YtfcmpclbhnjkgaaGreat
/- The reference's spread: what is reached from marked states is marked. -/
set_option maxHeartbeats 4000000
set_option maxRecDepth 20000
set_option linter.unusedSimpArgs false
set_option linter.unusedVariables false
set_option pp.deepTerms.threshold 8
namespace Go.Proofs.YtfcmpclbhnjkgaaGreat
open Go Go.Proofs Go.Proofs.Sh
end Go.Proofs.YtfcmpclbhnjkgaaGreat
/- The reference's Alive, kept. -/
set_option maxHeartbeats 4000000
set_option maxRecDepth 20000
set_option linter.unusedSimpArgs false
set_option linter.unusedVariables false
set_option pp.deepTerms.threshold 8
namespace Go.Proofs.YtfcmpclbhnjkgaaGreat
open Go Go.Proofs Go.Proofs.Sh
end Go.Proofs.YtfcmpclbhnjkgaaGreat
/- syms.isLong and syms.isSymbol. -/
set_option maxHeartbeats 4000000
set_option maxRecDepth 20000
set_option linter.unusedSimpArgs false
set_option linter.unusedVariables false
set_option pp.deepTerms.threshold 8
namespace Go.Proofs.YtfcmpclbhnjkgaaGreat
open Go Go.Proofs Go.Proofs.Sh
theorem symsIsLong {H : AH} {x : ByteArray} : Sh.Call Tryz.prog (knows 10) 108 [.string x] H (fun r H' => H' = H ∧ r = .bool (decide (16 < x.size))) := by
  refine call_of rfl Tryz.func108 rfl (Nat.le_of_ble_eq_true rfl) ?_
  have hres : Tryz.f108.results.toList = [.tmp 2] := rfl
  have e : decide ((16 : Int) < (x.size : Int)) = decide (16 < x.size) := decide_eq_decide.2 (by omega)
  simp only [↓Sh.dn, sx, Nat.reduceBEq, reduceCtorEq, Nat.reduceEqDiff, hres, e]
/-- A symbol, however long. -/
def chOk (s : ByteArray) : Bool := !s.data.toList.any badByte && decide (1 ≤ s.size)
theorem symOk_chOk (s : ByteArray) : symOk s = (chOk s && decide (s.size ≤ 16)) := rfl
theorem size_empty {x : ByteArray} : decide (x = ⟨#[]⟩) = !decide (1 ≤ x.size) := by
  by_cases h : x = ⟨#[]⟩
  · subst h; rfl
  · have : 1 ≤ x.size := by
      refine Nat.one_le_iff_ne_zero.2 fun h0 => h (ByteArray.ext ?_)
      exact Array.eq_empty_of_size_eq_zero h0
    simp [h, this]
theorem symsIsSymbol {H : AH} {x : ByteArray} (hl : x.size ≤ 1048576) :
    Sh.Call Tryz.prog (knows 10) 109 [.string x] H (fun r H' => H' = H ∧ r = .bool (chOk x)) := by
  refine call_of rfl Tryz.func109 rfl (Nat.le_of_ble_eq_true rfl) ?_
  have hres : Tryz.f109.results.toList = [.tmp 2] := rfl
  have hsz : x.data.toList.length = x.size := by rw [Array.length_toList]; rfl
  simp only [↓Sh.dn, sx, Nat.reduceBEq, reduceCtorEq, Nat.reduceEqDiff]
  refine wp_for x.size 6 (List.range' 6 26 ++ [2, 3]) (fun i F H' => H' = H ∧ (x.data.toList.take i).any badByte = false) (by simp only [↓Sh.dn, sx, Nat.reduceBEq, reduceCtorEq, Nat.reduceEqDiff]) ⟨rfl, rfl⟩ ?_ ?_
  · rintro i F H' hlt hF f6 ⟨rfl, hall⟩ k
    have f0 := hF 0 rfl
    have f5 := hF 5 rfl
    simp only [↓Sh.dn, sx, Nat.reduceBEq, reduceCtorEq, Nat.reduceEqDiff] at f0 f5
    obtain ⟨u, hu⟩ : ∃ u, x.data.toList[i]? = some u := ⟨x.data.toList[i]'(by omega), List.getElem?_eq_getElem (by omega)⟩
    have hix := index_str (P := Tryz.prog) (j := .i64) Tryz.underlying9 hu
    have e33 : decide ((u.toNat : Int) < 33) = decide (u.toNat < 33) := decide_eq_decide.2 (by omega)
    have e126 : decide (126 < (u.toNat : Int)) = decide (126 < u.toNat) := decide_eq_decide.2 (by omega)
    have e60 : decide ((u.toNat : Int) = 60) = decide (u.toNat = 60) := decide_eq_decide.2 (by omega)
    have e62 : decide ((u.toNat : Int) = 62) = decide (u.toNat = 62) := decide_eq_decide.2 (by omega)
    have hbad : badByte u = true → chOk x = false := by
      intro h
      have : x.data.toList.any badByte = true := List.any_eq_true.2 ⟨_, List.mem_of_getElem? hu, h⟩
      simp [chOk, this]
    simp only [↓Sh.dn, sx, Nat.reduceBEq, reduceCtorEq, Nat.reduceEqDiff, f0, f5, f6, hix, nat_lt, hlt, e33, decide_true]
    by_cases h1 : u.toNat < 33
    · simp only [↓Sh.dn, sx, Nat.reduceBEq, reduceCtorEq, Nat.reduceEqDiff, h1, decide_true, hres, hbad (by simp [badByte, h1])]
    simp only [↓Sh.dn, sx, Nat.reduceBEq, reduceCtorEq, Nat.reduceEqDiff, f0, hix, h1, e126, decide_false]
    by_cases h2 : 126 < u.toNat
    · simp only [↓Sh.dn, sx, Nat.reduceBEq, reduceCtorEq, Nat.reduceEqDiff, h2, decide_true, hres, hbad (by simp [badByte, h2])]
    simp only [↓Sh.dn, sx, Nat.reduceBEq, reduceCtorEq, Nat.reduceEqDiff, f0, hix, h2, e60, decide_false]
    by_cases h3 : u.toNat = 60
    · simp only [↓Sh.dn, sx, Nat.reduceBEq, reduceCtorEq, Nat.reduceEqDiff, h3, decide_true, hres, hbad (by simp [badByte, h3])]
    simp only [↓Sh.dn, sx, Nat.reduceBEq, reduceCtorEq, Nat.reduceEqDiff, f0, hix, h3, e62, decide_false]
    by_cases h4 : u.toNat = 62
    · simp only [↓Sh.dn, sx, Nat.reduceBEq, reduceCtorEq, Nat.reduceEqDiff, h4, decide_true, hres, hbad (by simp [badByte, h4])]
    simp only [↓Sh.dn, sx, Nat.reduceBEq, reduceCtorEq, Nat.reduceEqDiff, f6, h4, decide_false, wrap_succ hlt hl]
    refine k _ _ (by repeat (first | refine Same.put ?_ rfl | exact Same.rfl' _)) (by simp only [↓Sh.dn, sx, Nat.reduceBEq, reduceCtorEq, Nat.reduceEqDiff]) ⟨rfl, ?_⟩
    rw [List.take_add_one, hu]
    simp only [Option.toList, List.any_append, hall, Bool.false_or, List.any_cons, List.any_nil, Bool.or_false, badByte, h1, h2, h3, h4, decide_false]
  · rintro F H' hF f6 ⟨rfl, hall⟩
    have f0 := hF 0 rfl
    have f5 := hF 5 rfl
    simp only [↓Sh.dn, sx, Nat.reduceBEq, reduceCtorEq, Nat.reduceEqDiff] at f0 f5
    rw [← hsz, List.take_length] at hall
    simp only [↓Sh.dn, sx, Nat.reduceBEq, reduceCtorEq, Nat.reduceEqDiff, f0, f5, f6, nat_lt, Nat.lt_irrefl, decide_false, hres, chOk, hall, size_empty]
end Go.Proofs.YtfcmpclbhnjkgaaGreat
/- slices.IndexFunc and ContainsFunc: whether some element is so. -/
set_option maxHeartbeats 4000000
set_option maxRecDepth 20000
set_option linter.unusedSimpArgs false
set_option linter.unusedVariables false
set_option pp.deepTerms.threshold 8
namespace Go.Proofs.YtfcmpclbhnjkgaaGreat
open Go Go.Proofs Go.Proofs.Sh
theorem indexFuncStr {H : AH} {v : Value} {l : List ByteArray} {fid : Nat} {caps : List Value} (p : ByteArray → Bool) (hs : Sl H v 1 (l.map strCell)) (hl : l.length ≤ 1048576) (hw : Wf H)
    (hp : ∀ H', Kept H H' → ∀ x ∈ l, Sh.Call Tryz.prog (knows 10) fid ((fun s => Value.string s) x :: caps) H' (fun r H'' => Kept H' H'' ∧ r = .bool (p x))) :
    Sh.Call Tryz.prog (knows 10) 128 [v, .func (.func fid) #[] caps.toArray] H (fun r H' => Kept H H' ∧ ∃ k : Int, r = .int .i64 k ∧ decide (0 ≤ k) = l.any p) := by
  refine call_of rfl Tryz.func128 rfl (Nat.le_of_ble_eq_true rfl) ?_
  have hres : Tryz.f128.results.toList = [.tmp 4] := rfl
  have hlen := hs.len Tryz.underlying22 H
  simp only [↓Sh.dn, sx, Nat.reduceBEq, reduceCtorEq, Nat.reduceEqDiff, hlen, List.length_map]
  refine wp_for l.length 8 [5, 8, 9, 10, 11, 12, 13, 14, 15, 16, 18] (fun i F H' => Kept H H' ∧ (l.take i).any p = false) (by simp only [↓Sh.dn, sx, Nat.reduceBEq, reduceCtorEq, Nat.reduceEqDiff]) ⟨Kept.refl hw, rfl⟩ ?_ ?_
  · rintro i F H' hlt hF f8 ⟨hk, hall⟩ k
    have hs1 := hs.grow (hk.grow hw)
    obtain ⟨g, o, kk, hia, hc, hcc⟩ := hs1.at Tryz.underlying22 size_9 (i := i) (x := strCell l[i]) (by simp [hlt]) .i64
    have hld := hcc 0 _ rfl; simp only [Nat.add_zero] at hld
    have f0 := hF 0 rfl
    have f1 := hF 1 rfl
    have f7 := hF 7 rfl
    simp only [↓Sh.dn, sx, Nat.reduceBEq, reduceCtorEq, Nat.reduceEqDiff] at f0 f1 f7
    obtain ⟨r, H2, hd, hk2, rfl⟩ := hp H' hk l[i] (List.getElem_mem hlt)
    simp only [↓Sh.dn, sx, Nat.reduceBEq, reduceCtorEq, Nat.reduceEqDiff, f0, f1, f7, f8, nat_lt, hlt, decide_true, hia, hld, Option.map_some, forall_const, reduceCtorEq, false_implies, and_true, true_and]
    refine ⟨_, _, hd, ?_⟩
    cases hpv : p l[i] with
    | true =>
      simp only [↓Sh.dn, sx, Nat.reduceBEq, reduceCtorEq, Nat.reduceEqDiff, hres, forall_const, reduceCtorEq, false_implies, and_true, true_and]
      refine ⟨hk.trans hk2, _, rfl, ?_⟩
      rw [List.any_eq_true.2 ⟨_, List.getElem_mem hlt, hpv⟩]
      simp
    | false =>
      simp only [↓Sh.dn, sx, Nat.reduceBEq, reduceCtorEq, Nat.reduceEqDiff, hres, f8, wrap_succ hlt hl, forall_const, reduceCtorEq, false_implies, and_true, true_and]
      refine k _ _ (by repeat (first | refine Same.put ?_ rfl | exact Same.rfl' _)) (by simp only [↓Sh.dn, sx, Nat.reduceBEq, reduceCtorEq, Nat.reduceEqDiff]) ⟨hk.trans hk2, ?_⟩
      rw [List.take_add_one, List.getElem?_eq_getElem hlt]
      simp only [Option.toList, List.any_append, hall, List.any_cons, List.any_nil, hpv, Bool.or_false]
  · rintro F H' hF f8 ⟨hk, hall⟩
    have f7 := hF 7 rfl
    simp only [↓Sh.dn, sx, Nat.reduceBEq, reduceCtorEq, Nat.reduceEqDiff] at f7
    rw [List.take_length] at hall
    simp only [↓Sh.dn, sx, Nat.reduceBEq, reduceCtorEq, Nat.reduceEqDiff, f7, f8, nat_lt, Nat.lt_irrefl, decide_false, hres, forall_const, reduceCtorEq, false_implies, and_true, true_and]
    exact ⟨hk, _, rfl, by rw [hall]; rfl⟩
theorem containsFuncStr {H : AH} {v : Value} {l : List ByteArray} {fid : Nat} {caps : List Value} (p : ByteArray → Bool) (hs : Sl H v 1 (l.map strCell)) (hl : l.length ≤ 1048576) (hw : Wf H)
    (hp : ∀ H', Kept H H' → ∀ x ∈ l, Sh.Call Tryz.prog (knows 10) fid ((fun s => Value.string s) x :: caps) H' (fun r H'' => Kept H' H'' ∧ r = .bool (p x))) :
    Sh.Call Tryz.prog (knows 10) 107 [v, .func (.func fid) #[] caps.toArray] H (fun r H' => Kept H H' ∧ r = .bool (l.any p)) := by
  refine call_of rfl Tryz.func107 rfl (Nat.le_of_ble_eq_true rfl) ?_
  have hres : Tryz.f107.results.toList = [.tmp 4] := rfl
  obtain ⟨r, H2, hd, hk, k, rfl, hk0⟩ := indexFuncStr p hs hl hw hp
  simp only [↓Sh.dn, sx, Nat.reduceBEq, reduceCtorEq, Nat.reduceEqDiff]
  refine ⟨_, _, hd, ?_⟩
  simp only [↓Sh.dn, sx, Nat.reduceBEq, reduceCtorEq, Nat.reduceEqDiff, hres, hk0, and_true]
  exact hk
end Go.Proofs.YtfcmpclbhnjkgaaGreat
/- What is wrong with an alphabet, by the program. -/
set_option maxHeartbeats 4000000
set_option maxRecDepth 20000
set_option linter.unusedSimpArgs false
set_option linter.unusedVariables false
set_option pp.deepTerms.threshold 8
namespace Go.Proofs.YtfcmpclbhnjkgaaGreat
open Go Go.Proofs Go.Proofs.Sh
theorem symsValidate {H : AH} {v : Value} {l : List ByteArray} (hs : Sl H v 1 (l.map strCell)) (hl : l.length ≤ 1048576) (hlx : ∀ x ∈ l, x.size ≤ 1048576) (hw : Wf H) :
    Sh.Call Tryz.prog (knows 10) 68 [v] H (fun r H' => Kept H H' ∧ r = .int .i64 (sigErr l)) := by
  refine call_of rfl Tryz.func68 rfl (Nat.le_of_ble_eq_true rfl) ?_
  have hres : Tryz.f68.results.toList = [.tmp 2] := rfl
  have hlen := hs.len Tryz.underlying22 H
  have e40 : decide ((40 : Int) < ((l.length : Nat) : Int)) = decide (40 < l.length) := decide_eq_decide.2 (by omega)
  simp only [↓Sh.dn, sx, Nat.reduceBEq, reduceCtorEq, Nat.reduceEqDiff, hlen, List.length_map, e40]
  by_cases h40 : 40 < l.length
  · simp only [↓Sh.dn, sx, Nat.reduceBEq, reduceCtorEq, Nat.reduceEqDiff, h40, decide_true, hres, sigErr, Bool.true_or, Kept.refl hw]
  simp only [↓Sh.dn, sx, Nat.reduceBEq, reduceCtorEq, Nat.reduceEqDiff, h40, decide_false]
  obtain ⟨r1, H1, hd1, hk1, rfl⟩ := containsFuncStr (caps := []) (fid := 108) (fun s => decide (16 < s.size)) hs hl hw (fun H' hk x hx => (symsIsLong (H := H') (x := x)).mono fun r H'' h => by rcases h with ⟨rfl, h⟩; exact ⟨Kept.refl hk.wf, h⟩)
  refine ⟨_, _, hd1, ?_⟩
  cases hL : (l.any fun s => decide (16 < s.size)) with
  | true => simp only [↓Sh.dn, sx, Nat.reduceBEq, reduceCtorEq, Nat.reduceEqDiff, hres, hL, sigErr, anyLongB, h40, decide_false, Bool.false_or, hk1]
  | false =>
    have hs1 := hs.grow (hk1.grow hw)
    have hlen1 := hs1.len Tryz.underlying22 H1
    simp only [↓Sh.dn, sx, Nat.reduceBEq, reduceCtorEq, Nat.reduceEqDiff, hlen1, List.length_map]
    have h16 : ∀ x ∈ l, decide (x.size ≤ 16) = true := by
      intro x hx
      have := List.any_eq_false.1 hL x hx
      simp only [decide_eq_true_eq, Nat.not_lt] at this
      simpa using this
    have e1 : (l.all symOk && ascB l) = false → sigErr l = 1 := by intro h; simp [sigErr, anyLongB, h40, hL]; simpa using h
    have e0 : (l.all symOk && ascB l) = true → sigErr l = 0 := by intro h; simp [sigErr, anyLongB, h40, hL]; simpa using h
    have hsy : ∀ x ∈ l, symOk x = chOk x := by intro x hx; rw [symOk_chOk, h16 x hx, Bool.and_true]
    refine wp_for l.length 14 (List.range' 14 22 ++ [2, 3, 4]) (fun i F H' => H' = H1 ∧ (∀ (j : Nat) x, j < i → l[j]? = some x → chOk x = true) ∧ (∀ (j : Nat) x y, j + 1 < i → l[j]? = some x → l[j + 1]? = some y → strLt x y = true)) (by simp only [↓Sh.dn, sx, Nat.reduceBEq, reduceCtorEq, Nat.reduceEqDiff]) ⟨rfl, fun j x h => by omega, fun j x y h => by omega⟩ ?_ ?_
    · rintro i F H' hlt hF f14 ⟨rfl, hall, hasc⟩ k
      have f0 := hF 0 rfl
      have f12 := hF 12 rfl
      have f13 := hF 13 rfl
      simp only [↓Sh.dn, sx, Nat.reduceBEq, reduceCtorEq, Nat.reduceEqDiff] at f0 f12 f13
      obtain ⟨g, o, kk, hia, hc, hcc⟩ := hs1.at Tryz.underlying22 size_9 (i := i) (x := strCell l[i]) (by simp [hlt]) .i64
      have hy := hcc 0 _ rfl
      simp only [Nat.add_zero] at hy
      have hget : l[i]? = some l[i] := List.getElem?_eq_getElem hlt
      obtain ⟨r, H2, hd2, rfl, rfl⟩ := symsIsSymbol (H := H') (x := l[i]) (hlx _ (List.getElem_mem hlt))
      simp only [↓Sh.dn, sx, Nat.reduceBEq, reduceCtorEq, Nat.reduceEqDiff, f0, f12, f13, f14, nat_lt, hlt, decide_true, hia, hy]
      refine ⟨_, _, hd2, ?_⟩
      cases hch : chOk l[i] with
      | false =>
        have hbad : sigErr l = 1 := e1 (by
          rw [Bool.and_eq_false_iff]; left
          exact List.all_eq_false.2 ⟨_, List.getElem_mem hlt, by rw [hsy _ (List.getElem_mem hlt), hch]; simp⟩)
        simp only [↓Sh.dn, sx, Nat.reduceBEq, reduceCtorEq, Nat.reduceEqDiff, hres, hbad, hk1]
      | true =>
        have hall' : ∀ (j : Nat) x, j < i + 1 → l[j]? = some x → chOk x = true := by
          intro j x hj hx
          by_cases he : j = i
          · subst he; rw [hget] at hx; rw [← Option.some.inj hx]; exact hch
          · exact hall j x (by omega) hx
        by_cases hi0 : 0 < i
        · have hlt1 : i - 1 < l.length := by omega
          obtain ⟨g', o', kk', hia', hc', hcc'⟩ := hs1.at Tryz.underlying22 size_9 (i := i - 1) (x := strCell l[i - 1]) (by simp [hlt1]) .i64
          have hy' := hcc' 0 _ rfl
          simp only [Nat.add_zero] at hy'
          have hw1 : IntKind.wrap .i64 ((i : Int) - 1) = ((i - 1 : Nat) : Int) := by rw [wrap64 (by omega) (by omega)]; omega
          have ei : decide ((0 : Int) < (i : Int)) = true := by simpa using hi0
          have hget' : l[i - 1]? = some l[i - 1] := List.getElem?_eq_getElem hlt1
          simp only [↓Sh.dn, sx, Nat.reduceBEq, reduceCtorEq, Nat.reduceEqDiff, f0, ei, hw1, hia', hy']
          cases hq : strLt l[i - 1] l[i] with
          | false =>
            have hbad : sigErr l = 1 := e1 (by
              rw [Bool.and_eq_false_iff]; right
              cases hb : ascB l with
              | false => rfl
              | true =>
                have := ascB_iff.1 hb (i - 1) _ _ hget' (by rw [show i - 1 + 1 = i by omega]; exact hget)
                rw [this] at hq; cases hq)
            simp only [↓Sh.dn, sx, Nat.reduceBEq, reduceCtorEq, Nat.reduceEqDiff, hres, hbad, hk1]
          | true =>
            simp only [↓Sh.dn, sx, Nat.reduceBEq, reduceCtorEq, Nat.reduceEqDiff, f14, wrap_succ hlt hl]
            refine k _ _ (by repeat (first | refine Same.put ?_ rfl | exact Same.rfl' _)) (by simp only [↓Sh.dn, sx, Nat.reduceBEq, reduceCtorEq, Nat.reduceEqDiff]) ⟨rfl, hall', fun j x y hj hx hy => ?_⟩
            by_cases he : j + 1 = i
            · have : j = i - 1 := by omega
              subst this
              rw [he, hget] at hy
              rw [hget'] at hx
              rw [← Option.some.inj hx, ← Option.some.inj hy]; exact hq
            · exact hasc j x y (by omega) hx hy
        · have ei : decide ((0 : Int) < (i : Int)) = false := by simpa using hi0
          simp only [↓Sh.dn, sx, Nat.reduceBEq, reduceCtorEq, Nat.reduceEqDiff, f14, ei, wrap_succ hlt hl]
          exact k _ _ (by repeat (first | refine Same.put ?_ rfl | exact Same.rfl' _)) (by simp only [↓Sh.dn, sx, Nat.reduceBEq, reduceCtorEq, Nat.reduceEqDiff]) ⟨rfl, hall', fun j x y hj hx hy => by omega⟩
    · rintro F H' hF f14 ⟨rfl, hall, hasc⟩
      have f13 := hF 13 rfl
      simp only [↓Sh.dn, sx, Nat.reduceBEq, reduceCtorEq, Nat.reduceEqDiff] at f13
      have hgood : sigErr l = 0 := e0 (by
        rw [Bool.and_eq_true]
        refine ⟨List.all_eq_true.2 fun x hx => ?_, ascB_iff.2 fun j x y hx hy => hasc j x y (List.getElem?_eq_some_iff.1 hy).1 hx hy⟩
        obtain ⟨j, hj⟩ := List.mem_iff_getElem?.1 hx
        rw [hsy x hx]
        exact hall j x (List.getElem?_eq_some_iff.1 hj).1 hj)
      simp only [↓Sh.dn, sx, Nat.reduceBEq, reduceCtorEq, Nat.reduceEqDiff, f13, f14, nat_lt, Nat.lt_irrefl, decide_false, hres, hgood, hk1]
end Go.Proofs.YtfcmpclbhnjkgaaGreat
/- What is wrong with a word: by the reference, by the program. -/
set_option maxHeartbeats 4000000
set_option maxRecDepth 20000
set_option linter.unusedSimpArgs false
set_option linter.unusedVariables false
set_option pp.deepTerms.threshold 8
namespace Go.Proofs.YtfcmpclbhnjkgaaGreat
open Go Go.Proofs Go.Proofs.Sh
def wordErr (l : List ByteArray) : Int := if (decide (60 < l.length) || anyLongB l) = true then 3 else if l.all symOk = true then 0 else 1
theorem refWord {H : AH} {v : Value} {l : List ByteArray} (hs : Sl H v 1 (l.map strCell)) (hl : l.length ≤ 1048576) (hlx : ∀ x ∈ l, x.size ≤ 1048576) (hw : Wf H) :
    Sh.Call Tryz.prog (knows 10) 73 [v] H (fun r H' => Kept H H' ∧ r = .int .i64 (wordErr l)) := by
  refine call_of rfl Tryz.func73 rfl (Nat.le_of_ble_eq_true rfl) ?_
  have hres : Tryz.f73.results.toList = [.tmp 2] := rfl
  have hlen := hs.len Tryz.underlying22 H
  have e60 : decide ((60 : Int) < ((l.length : Nat) : Int)) = decide (60 < l.length) := by by_cases h : 60 < l.length <;> simp [h] <;> omega
  simp only [↓Sh.dn, sx, Nat.reduceBEq, reduceCtorEq, Nat.reduceEqDiff, hlen, List.length_map, e60]
  by_cases h60 : 60 < l.length
  · simp only [↓Sh.dn, sx, Nat.reduceBEq, reduceCtorEq, Nat.reduceEqDiff, h60, decide_true, hres, wordErr, Bool.true_or, Kept.refl hw]
  · simp only [↓Sh.dn, sx, Nat.reduceBEq, reduceCtorEq, Nat.reduceEqDiff, h60, decide_false]
    obtain ⟨r1, H1, hd1, hk1, rfl⟩ := anyLong hs hl hw
    refine ⟨_, _, hd1, ?_⟩
    cases hL : (l.any fun s => decide (16 < s.size)) with
    | true => simp only [↓Sh.dn, sx, Nat.reduceBEq, reduceCtorEq, Nat.reduceEqDiff, hres, hL, wordErr, anyLongB, h60, decide_false, Bool.false_or, hk1]
    | false =>
      simp only [↓Sh.dn, sx, Nat.reduceBEq, reduceCtorEq, Nat.reduceEqDiff]
      obtain ⟨r2, H2, hd2, rfl, rfl⟩ := allSymbols (hs.grow (hk1.grow hw)) hl hlx hk1.wf
      refine ⟨_, _, hd2, ?_⟩
      cases hA : l.all symOk with
      | false => simp only [↓Sh.dn, sx, Nat.reduceBEq, reduceCtorEq, Nat.reduceEqDiff, hres, hL, hA, wordErr, anyLongB, h60, decide_false, Bool.false_or, hk1]
      | true => simp only [↓Sh.dn, sx, Nat.reduceBEq, reduceCtorEq, Nat.reduceEqDiff, hres, hL, hA, wordErr, anyLongB, h60, decide_false, Bool.false_or, hk1]
end Go.Proofs.YtfcmpclbhnjkgaaGreat
/- The reference's Accepts and Begins. -/
set_option maxHeartbeats 4000000
set_option maxRecDepth 20000
set_option linter.unusedSimpArgs false
set_option linter.unusedVariables false
set_option pp.deepTerms.threshold 8
namespace Go.Proofs.YtfcmpclbhnjkgaaGreat
open Go Go.Proofs Go.Proofs.Sh
def bothErr (N : NetD) (w : List ByteArray) : Int := if accErr N ≠ 0 then accErr N else wordErr w
theorem accErr_ok {N : NetD} (h : accErr N = 0) : NetOk N := by
  refine netOk ?_
  unfold accErr at h
  by_cases hE : netErr N = 0
  · exact hE
  · rw [if_pos hE] at h; exact absurd h hE
theorem refChecked {H : AH} {v u : Value} {N : NetD} {w : List ByteArray} (h : NetAt H v N) (hsm : NetSmall N) (hu : Sl H u 1 (w.map strCell)) (hwl : w.length ≤ 1048576) (hwx : ∀ x ∈ w, x.size ≤ 1048576) (hw : Wf H) :
    Sh.Call Tryz.prog (knows 10) 57 [v, u] H (fun r H' => Kept H H' ∧ r = .int .i64 (bothErr N w)) := by
  refine call_of rfl Tryz.func57 rfl (Nat.le_of_ble_eq_true rfl) ?_
  have hres : Tryz.f57.results.toList = [.tmp 4] := rfl
  obtain ⟨sg, ar, en, rfl, hsg, har, hen⟩ := h
  have hb1 := NetBox.of (N := N) hw hsg har hen
  have hk1 : Kept H (H.new 4 [sg, .int .i64 N.states, ar, en]).2 := Kept.new hw 4 _
  simp only [↓Sh.dn, sx, Nat.reduceBEq, reduceCtorEq, Nat.reduceEqDiff, netNew hsg.isCell har.isCell hen.isCell]
  generalize H.next = gg at hb1 ⊢
  generalize (H.new 4 [sg, .int .i64 N.states, ar, en]).2 = H1 at hb1 hk1 ⊢
  obtain ⟨r, H2, hd2, hk2, rfl⟩ := refValidate hb1.netAt hsm hk1.wf
  simp only [↓Sh.dn, sx, Nat.reduceBEq, reduceCtorEq, Nat.reduceEqDiff, hb1.c0, hb1.c1, hb1.c2, hb1.c3, hb1.ca, netLenS hb1, netLenA hb1, netLenE hb1, Option.map_some]
  refine ⟨_, _, hd2, ?_⟩
  by_cases hE : accErr N = 0
  case neg => simp only [↓Sh.dn, sx, Nat.reduceBEq, reduceCtorEq, Nat.reduceEqDiff, hE, decide_false, hres, bothErr, if_true, hk1.trans hk2]
  obtain ⟨r, H3, hd3, hk3, rfl⟩ := refWord (hu.grow ((hk1.trans hk2).grow hw)) hwl hwx hk2.wf
  simp only [↓Sh.dn, sx, Nat.reduceBEq, reduceCtorEq, Nat.reduceEqDiff, hE, decide_true]
  refine ⟨_, _, hd3, ?_⟩
  simp only [↓Sh.dn, sx, Nat.reduceBEq, reduceCtorEq, Nat.reduceEqDiff, hres, bothErr, hE, if_false, (hk1.trans hk2).trans hk3]
theorem goes_edges {N : NetD} (hok : NetOk N) : goesE (edgesOf N) = N.goes := by
  funext x s t
  apply propext
  unfold goesE edgesOf NetD.goes
  constructor
  · rintro ⟨r, h1, h2⟩
    obtain ⟨a, ha, h3, h4⟩ := (rowsOf_mem h1 _).1 h2
    have := hok.arc a ha
    injection h4 with h4 h5
    exact ⟨a, ha, h3, h4, by omega⟩
  · rintro ⟨a, ha, h1, h2, h3⟩
    have := hok.arc a ha
    have hs : s < N.states.toNat := by omega
    refine ⟨_, rowsOf_get hs, ?_⟩
    rw [rowsOf_mem (rowsOf_get hs)]
    exact ⟨a, ha, h1, by rw [h2, h3]; rfl⟩
theorem ends_marks {N : NetD} (hok : NetOk N) (t : Nat) : (marksOf EndD.state N.states.toNat N.ends)[t]? = some true ↔ N.isEnd t := by
  unfold NetD.isEnd
  constructor
  · intro h
    have ht := (List.getElem?_eq_some_iff.1 h).1
    rw [marksOf_length] at ht
    rw [marksOf_get ht] at h
    obtain ⟨e, h1, h2⟩ := List.any_eq_true.1 (Option.some.inj h)
    exact ⟨e, h1, of_decide_eq_true h2⟩
  · rintro ⟨e, h1, h2⟩
    have := hok.fin e h1
    rw [marksOf_get (by omega)]
    exact congrArg some (List.any_eq_true.2 ⟨e, h1, decide_eq_true h2⟩)
/-- Is a word accepted; does it begin one that is. -/
def accepts (N : NetD) (w : List ByteArray) : Prop := (∀ x ∈ w, x ≠ noText) ∧ ∃ t, N.run w t ∧ N.isEnd t
def begins (N : NetD) (w : List ByteArray) : Prop := (∀ x ∈ w, x ≠ noText) ∧ ∃ t, N.run w t ∧ N.alive t
noncomputable def isB (p : Prop) : Bool := @decide p (Classical.propDecidable p)
theorem isB_iff {p : Prop} : isB p = true ↔ p := @decide_eq_true_iff p (Classical.propDecidable p)
theorem isB_of {p : Prop} {b : Bool} (h : b = true ↔ p) : b = isB p := by
  rw [Bool.eq_iff_iff, isB_iff]; exact h
theorem isB_not {p : Prop} (h : ¬p) : isB p = false := by
  cases hb : isB p with
  | false => rfl
  | true => exact absurd (isB_iff.1 hb) h
noncomputable def accB (N : NetD) (w : List ByteArray) : Bool := isB (bothErr N w = 0 ∧ accepts N w)
theorem veq_rg {ev bv : Value} (h1 : veq ev ev = true) (h2 : veq bv bv = true) : veq (.agg #[.int .i64 0, ev, bv]) (.agg #[.int .i64 0, ev, bv]) = true := veq_agg (by simp only [veqs_cons, veqs_nil, veq_int, h1, h2, Bool.and_self])
theorem bothErr_ok {N : NetD} {w : List ByteArray} (hE : bothErr N w = 0) : NetOk N := accErr_ok (by
    unfold bothErr at hE
    by_cases h : accErr N = 0
    · exact h
    · rw [if_pos h] at hE; exact absurd hE h)
theorem refAccepts {H : AH} {v u : Value} {N : NetD} {w : List ByteArray} (h : NetAt H v N) (hsm : NetSmall N) (hu : Sl H u 1 (w.map strCell)) (hwl : w.length ≤ 1048576) (hwx : ∀ x ∈ w, x.size ≤ 1048576) (hw : Wf H) :
    Sh.Call Tryz.prog (knows 10) 26 [v, u] H (fun r H' => Kept H H' ∧ r = .tuple #[.bool (accB N w), .int .i64 (bothErr N w)]) := by
  refine call_of rfl Tryz.func26 rfl (Nat.le_of_ble_eq_true rfl) ?_
  have hres : Tryz.f26.results.toList = [.tmp 4, .tmp 5] := rfl
  obtain ⟨sg, ar, en, rfl, hsg, har, hen⟩ := h
  have hb1 := NetBox.of (N := N) hw hsg har hen
  have hk1 : Kept H (H.new 4 [sg, .int .i64 N.states, ar, en]).2 := Kept.new hw 4 _
  simp only [↓Sh.dn, sx, Nat.reduceBEq, reduceCtorEq, Nat.reduceEqDiff, netNew hsg.isCell har.isCell hen.isCell]
  generalize H.next = gg at hb1 ⊢
  generalize (H.new 4 [sg, .int .i64 N.states, ar, en]).2 = H1 at hb1 hk1 ⊢
  have hu1 := hu.grow (hk1.grow hw)
  obtain ⟨r, H2, hd2, hk2, rfl⟩ := refChecked hb1.netAt hsm hu1 hwl hwx hk1.wf
  have hb2 := hb1.kept hk1.wf hk2
  have hu2 := hu1.grow (hk2.grow hk1.wf)
  simp only [↓Sh.dn, sx, Nat.reduceBEq, reduceCtorEq, Nat.reduceEqDiff, hb1.c0, hb1.c1, hb1.c2, hb1.c3, hb1.ca, netLenS hb1, netLenA hb1, netLenE hb1, Option.map_some]
  refine ⟨_, _, hd2, ?_⟩
  by_cases hE : bothErr N w = 0
  case neg =>
    have : accB N w = false := by unfold accB; exact isB_not fun h => hE h.1
    simp only [↓Sh.dn, sx, Nat.reduceBEq, reduceCtorEq, Nat.reduceEqDiff, hE, decide_false, hres, this, hk1.trans hk2]
  have hok := bothErr_ok hE
  obtain ⟨r, H3, hd3, hk3, ev, bv, vals, hR⟩ := refGraphOf hb2.netAt hok hsm hk2.wf
  simp only [↓Sh.dn, sx, Nat.reduceBEq, reduceCtorEq, Nat.reduceEqDiff, hE, decide_true, hb2.c0, hb2.c1, hb2.c2, hb2.c3, hb2.ca, netLenS hb2, netLenA hb2, netLenE hb2, Option.map_some]
  refine ⟨_, _, hd3, ?_⟩
  have hE' := hR.ed.sl.isCell
  have hB' := hR.en.isCell
  have hkn := Kept.new hk3.wf 3 [.int .i64 0, ev, bv]
  have hbx := RBox.of hR hk3.wf
  rw [hR.eq] at *
  simp only [↓Sh.dn, sx, Nat.reduceBEq, reduceCtorEq, Nat.reduceEqDiff, rgZero, rgStore hE' hB', rgOver]
  have hu4 := (hu2.grow (hk3.grow hk2.wf)).grow (hkn.grow hk3.wf)
  generalize H3.next = gb at hbx ⊢
  generalize (H3.new 3 [.int .i64 0, ev, bv]).2 = H4 at hbx hkn hu4 ⊢
  obtain ⟨r5, H5, hd5, hk5, out, b, hbf, hfr, hnd, hlt, hiff⟩ := refRun hbx.rg hu4 hwl hkn.wf
  have hbx5 := hbx.kept hkn.wf hk5
  have hol := nodup_le hnd hlt
  have hn2 := hR.n2
  obtain ⟨r6, H6, hd6, hk6, rfl⟩ := refIsEnd hbx5.rg hbf.toSl hlt (by omega) hk5.wf
  have hvq := veq_rg hR.ed.sl.veq hR.en.veq
  refine wp_early (fl := [(0, false), (1, false), (2, true), (3, false), (4, true), (5, true), (6, true)]) (by kernel_rfl) (by kernel_rfl) hkn.wf ?_
  simp only [↓Sh.dn, sx, Nat.reduceBEq, reduceCtorEq, Nat.reduceEqDiff, wpg, Still, isEff, isMake, isRead, veq_ptr, veq_int, veq_str, veq_bool, veq_undef, forall_eq, forall_eq', hbx.ca, Option.map_some, hvq]
  refine ⟨_, _, hd5, hk5.wf, hk5.grow hkn.wf, ?_⟩
  refine ⟨_, _, hd6, hk6.wf, ?_⟩
  simp only [↓Sh.dn, sx, Nat.reduceBEq, reduceCtorEq, Nat.reduceEqDiff, wpg, Still, isEff, isMake, isRead, veq_ptr, veq_int, veq_str, veq_bool, veq_undef, forall_eq, forall_eq', hres]
  refine ⟨(((((hk1.trans hk2).trans hk3).trans hkn).trans hk5).trans hk6), ?_⟩
  have : (out.any fun t => decide ((marksOf EndD.state N.states.toNat N.ends)[t]? = some true)) = accB N w := by
    refine isB_of ?_
    rw [List.any_eq_true]
    simp only [hE, true_and, decide_eq_true_eq, hiff, ends_marks hok, goes_edges hok]
    unfold accepts NetD.run NetD.clo
    constructor
    · rintro ⟨t, ⟨h1, h2⟩, h3⟩; exact ⟨h1, t, h2, h3⟩
    · rintro ⟨h1, t, h2, h3⟩; exact ⟨t, ⟨h1, h2⟩, h3⟩
  rw [this]
end Go.Proofs.YtfcmpclbhnjkgaaGreat
/- What is wrong with a net of any kind, by the program. -/
set_option maxHeartbeats 4000000
set_option maxRecDepth 20000
set_option linter.unusedSimpArgs false
set_option linter.unusedVariables false
set_option pp.deepTerms.threshold 8
namespace Go.Proofs.YtfcmpclbhnjkgaaGreat
open Go Go.Proofs Go.Proofs.Sh
theorem checkIs {H : AH} {gg : Nat} {sg ar en : Value} {N : NetD} {s : ByteArray} (hb : NetBox H gg sg ar en N) (ha : Asc N.sigma) (hl : N.sigma.length ≤ 1048576) :
    Sh.Call Tryz.prog (knows 10) 116 [.string s, .pointer (some ⟨gg, 0, some 0⟩)] H (fun r H' => H' = H ∧ r = .bool (!badSym N s)) := by
  refine call_of rfl Tryz.func116 rfl (Nat.le_of_ble_eq_true rfl) ?_
  have hres : Tryz.f116.results.toList = [.tmp 3] := rfl
  obtain ⟨r, H1, hd, rfl, k, rfl, _, _⟩ := binarySearch (x := s) hb.hsg ha hl
  simp only [↓Sh.dn, sx, Nat.reduceBEq, reduceCtorEq, Nat.reduceEqDiff, hb.c0, hb.c1, hb.c2, hb.c3, hb.ca, netLenS hb, netLenA hb, netLenE hb]
  refine ⟨_, _, hd, ?_⟩
  simp only [↓Sh.dn, sx, Nat.reduceBEq, reduceCtorEq, Nat.reduceEqDiff, o_extract]
  by_cases h : s = ⟨#[]⟩
  · simp only [↓Sh.dn, sx, Nat.reduceBEq, reduceCtorEq, Nat.reduceEqDiff, h, decide_true, hres, badSym]
  · simp only [↓Sh.dn, sx, Nat.reduceBEq, reduceCtorEq, Nat.reduceEqDiff, h, decide_false, hres, badSym]
theorem graphCheck {H : AH} {v : Value} {N : NetD} (h : NetAt H v N) (hsm : NetSmall N) (hw : Wf H) :
    Sh.Call Tryz.prog (knows 10) 77 [v] H (fun r H' => Kept H H' ∧ r = .int .i64 (netErr N)) := by
  refine call_of rfl Tryz.func77 rfl (Nat.le_of_ble_eq_true rfl) ?_
  have hres : Tryz.f77.results.toList = [.tmp 2] := rfl
  obtain ⟨sg, ar, en, rfl, hsg, har, hen⟩ := h
  have hb1 := NetBox.of (N := N) hw hsg har hen
  have hk1 : Kept H (H.new 4 [sg, .int .i64 N.states, ar, en]).2 := Kept.new hw 4 _
  have eA : decide ((60000 : Int) < (N.arcs.length : Int)) = decide (60000 < N.arcs.length) := decide_eq_decide.2 (by omega)
  have eE : decide ((60000 : Int) < (N.ends.length : Int)) = decide (60000 < N.ends.length) := decide_eq_decide.2 (by omega)
  simp only [↓Sh.dn, sx, Nat.reduceBEq, reduceCtorEq, Nat.reduceEqDiff, netNew hsg.isCell har.isCell hen.isCell]
  generalize H.next = gg at hb1 ⊢
  generalize (H.new 4 [sg, .int .i64 N.states, ar, en]).2 = H1 at hb1 hk1 ⊢
  simp only [↓Sh.dn, sx, Nat.reduceBEq, reduceCtorEq, Nat.reduceEqDiff, hb1.c0, hb1.c1, hb1.c2, hb1.c3, hb1.ca, netLenS hb1, netLenA hb1, netLenE hb1]
  by_cases hA : 3000 < N.states
  · simp only [↓Sh.dn, sx, Nat.reduceBEq, reduceCtorEq, Nat.reduceEqDiff, hA, decide_true, hres, netErr, tooLarge, Bool.true_or, hk1]
  by_cases hB : 60000 < N.arcs.length
  · simp only [↓Sh.dn, sx, Nat.reduceBEq, reduceCtorEq, Nat.reduceEqDiff, hb1.c0, hb1.c1, hb1.c2, hb1.c3, hb1.ca, netLenS hb1, netLenA hb1, netLenE hb1, hA, eA, hB, decide_true, decide_false, hres, netErr, tooLarge, Bool.true_or, Bool.or_true, hk1]
  by_cases hC : 60000 < N.ends.length
  · simp only [↓Sh.dn, sx, Nat.reduceBEq, reduceCtorEq, Nat.reduceEqDiff, hb1.c0, hb1.c1, hb1.c2, hb1.c3, hb1.ca, netLenS hb1, netLenA hb1, netLenE hb1, hA, eA, eE, hB, hC, decide_true, decide_false, hres, netErr, tooLarge, Bool.true_or, Bool.or_true, hk1]
  have hT : tooLarge N = false := by simp [tooLarge, hA, hB, hC]
  simp only [↓Sh.dn, sx, Nat.reduceBEq, reduceCtorEq, Nat.reduceEqDiff, hb1.c0, hb1.c1, hb1.c2, hb1.c3, hb1.ca, netLenS hb1, netLenA hb1, netLenE hb1, hA, eA, eE, hB, hC, decide_true, decide_false, hres]
  obtain ⟨r, H2, hd, hk2, rfl⟩ := symsValidate hb1.hsg hsm.sg hsm.sx hk1.wf
  refine ⟨_, _, hd, ?_⟩
  have hb2 := hb1.kept hk1.wf hk2
  have hk12 := hk1.trans hk2
  by_cases hS : sigErr N.sigma = 0
  case neg => simp only [↓Sh.dn, sx, Nat.reduceBEq, reduceCtorEq, Nat.reduceEqDiff, hS, decide_false, hres, netErr, hT, Bool.false_eq_true, if_false, ne_eq, not_false_eq_true, if_true, hk12]
  have hasc := sigErr_asc hS
  simp only [↓Sh.dn, sx, Nat.reduceBEq, reduceCtorEq, Nat.reduceEqDiff, hS, decide_true, hb2.c0, hb2.c1, hb2.c2, hb2.c3, hb2.ca, netLenS hb2, netLenA hb2, netLenE hb2]
  by_cases hst : N.states < 1
  · simp only [↓Sh.dn, sx, Nat.reduceBEq, reduceCtorEq, Nat.reduceEqDiff, hst, decide_true, hres, netErr, hT, hS, ne_eq, not_true_eq_false, if_false, if_true, hk12, Bool.false_eq_true]
  simp only [↓Sh.dn, sx, Nat.reduceBEq, reduceCtorEq, Nat.reduceEqDiff, hst, decide_false, hb2.c0, hb2.c1, hb2.c2, hb2.c3, hb2.ca, netLenS hb2, netLenA hb2, netLenE hb2]
  have e1 : N.arcs.any (badArc N) = true → netErr N = 1 := by intro h; simp [netErr, hT, hS, hst, h]
  have e2 : N.ends.any (badEnd N) = true → netErr N = 1 := by intro h; simp [netErr, hT, hS, hst, h]
  have e3 : N.arcs.any (badArc N) = false → N.ends.any (badEnd N) = false → netErr N = 0 := by intro h h'; simp [netErr, hT, hS, hst, h, h']
  refine wp_for N.arcs.length 37 (List.range' 37 41 ++ [2, 6]) (fun i F H' => Kept H2 H' ∧ (N.arcs.take i).any (badArc N) = false) (by simp only [↓Sh.dn, sx, Nat.reduceBEq, reduceCtorEq, Nat.reduceEqDiff]) ⟨Kept.refl hk12.wf, rfl⟩ ?_ ?_
  · rintro i F H' hlt hF f37 ⟨hk, hall⟩ k
    have f1 := hF 1 rfl
    have f4 := hF 4 rfl
    have f35 := hF 35 rfl
    have f36 := hF 36 rfl
    simp only [↓Sh.dn, sx, Nat.reduceBEq, reduceCtorEq, Nat.reduceEqDiff] at f1 f4 f35 f36
    have hb' := hb2.kept hk12.wf hk
    have hb3 := hb'.new hk.wf 5 (N.arcs[i].cells)
    have hk3 := hk.news 5 (N.arcs[i].cells)
    obtain ⟨g, o, kk, hia, hc, hcc⟩ := hb'.har.at Tryz.underlying23 size_54 (i := i) (x := N.arcs[i].cells) (by simp [hlt]) .i64
    clear hcc
    have hin : N.arcs[i] ∈ N.arcs := List.getElem_mem hlt
    have hnext : badArc N N.arcs[i] = false → (N.arcs.take (i + 1)).any (badArc N) = false := by
      intro h
      rw [List.take_add_one, List.getElem?_eq_getElem hlt]
      simp only [Option.toList, List.any_append, hall, List.any_cons, List.any_nil, h, Bool.or_false]
    have hbad : badArc N N.arcs[i] = true → netErr N = 1 := fun h => e1 (List.any_eq_true.2 ⟨_, hin, h⟩)
    generalize N.arcs[i] = a at hb3 hk3 hc hnext hbad
    simp only [↓Sh.dn, sx, Nat.reduceBEq, reduceCtorEq, Nat.reduceEqDiff, hb'.c0, hb'.c1, hb'.c2, hb'.c3, hb'.ca, netLenS hb', netLenA hb', netLenE hb', netZero, arcZero, endZero, arcNew, endNew, arcStore, endStore, arcOver, endOver, netOver, arc0, arc1, arc2, arc3, arc4, end0, end1, f1, f35, f36, f37, Option.map_some, nat_lt, hlt, decide_true, hia, hc, hres]
    by_cases h1 : a.fr < 0
    · simp only [↓Sh.dn, sx, Nat.reduceBEq, reduceCtorEq, Nat.reduceEqDiff, hb3.c0, hb3.c1, hb3.c2, hb3.c3, hb3.ca, netLenS hb3, netLenA hb3, netLenE hb3, netZero, arcZero, endZero, arcNew, endNew, arcStore, endStore, arcOver, endOver, netOver, arc0, arc1, arc2, arc3, arc4, end0, end1, h1, decide_true, hres, hbad (by simp [badArc, h1]), hk12.trans hk3]
    simp only [↓Sh.dn, sx, Nat.reduceBEq, reduceCtorEq, Nat.reduceEqDiff, hb3.c0, hb3.c1, hb3.c2, hb3.c3, hb3.ca, netLenS hb3, netLenA hb3, netLenE hb3, netZero, arcZero, endZero, arcNew, endNew, arcStore, endStore, arcOver, endOver, netOver, arc0, arc1, arc2, arc3, arc4, end0, end1, f1, h1, decide_false]
    by_cases h2 : N.states ≤ a.fr
    · simp only [↓Sh.dn, sx, Nat.reduceBEq, reduceCtorEq, Nat.reduceEqDiff, hb3.c0, hb3.c1, hb3.c2, hb3.c3, hb3.ca, netLenS hb3, netLenA hb3, netLenE hb3, netZero, arcZero, endZero, arcNew, endNew, arcStore, endStore, arcOver, endOver, netOver, arc0, arc1, arc2, arc3, arc4, end0, end1, h2, decide_true, hres, hbad (by simp [badArc, h2]), hk12.trans hk3]
    simp only [↓Sh.dn, sx, Nat.reduceBEq, reduceCtorEq, Nat.reduceEqDiff, hb3.c0, hb3.c1, hb3.c2, hb3.c3, hb3.ca, netLenS hb3, netLenA hb3, netLenE hb3, netZero, arcZero, endZero, arcNew, endNew, arcStore, endStore, arcOver, endOver, netOver, arc0, arc1, arc2, arc3, arc4, end0, end1, f1, h2, decide_false]
    by_cases h3 : a.to < 0
    · simp only [↓Sh.dn, sx, Nat.reduceBEq, reduceCtorEq, Nat.reduceEqDiff, hb3.c0, hb3.c1, hb3.c2, hb3.c3, hb3.ca, netLenS hb3, netLenA hb3, netLenE hb3, netZero, arcZero, endZero, arcNew, endNew, arcStore, endStore, arcOver, endOver, netOver, arc0, arc1, arc2, arc3, arc4, end0, end1, h3, decide_true, hres, hbad (by simp [badArc, h3]), hk12.trans hk3]
    simp only [↓Sh.dn, sx, Nat.reduceBEq, reduceCtorEq, Nat.reduceEqDiff, hb3.c0, hb3.c1, hb3.c2, hb3.c3, hb3.ca, netLenS hb3, netLenA hb3, netLenE hb3, netZero, arcZero, endZero, arcNew, endNew, arcStore, endStore, arcOver, endOver, netOver, arc0, arc1, arc2, arc3, arc4, end0, end1, f1, h3, decide_false]
    by_cases h4 : N.states ≤ a.to
    · simp only [↓Sh.dn, sx, Nat.reduceBEq, reduceCtorEq, Nat.reduceEqDiff, hb3.c0, hb3.c1, hb3.c2, hb3.c3, hb3.ca, netLenS hb3, netLenA hb3, netLenE hb3, netZero, arcZero, endZero, arcNew, endNew, arcStore, endStore, arcOver, endOver, netOver, arc0, arc1, arc2, arc3, arc4, end0, end1, h4, decide_true, hres, hbad (by simp [badArc, h4]), hk12.trans hk3]
    obtain ⟨r, H4, hd4, rfl, rfl⟩ := checkIs (s := a.inn) hb3 hasc hsm.sg
    simp only [↓Sh.dn, sx, Nat.reduceBEq, reduceCtorEq, Nat.reduceEqDiff, hb3.c0, hb3.c1, hb3.c2, hb3.c3, hb3.ca, netLenS hb3, netLenA hb3, netLenE hb3, netZero, arcZero, endZero, arcNew, endNew, arcStore, endStore, arcOver, endOver, netOver, arc0, arc1, arc2, arc3, arc4, end0, end1, f1, f4, h4, decide_false]
    refine ⟨_, _, hd4, ?_⟩
    have hb4 := hb3
    cases hI : badSym N a.inn with
    | true => simp only [↓Sh.dn, sx, Nat.reduceBEq, reduceCtorEq, Nat.reduceEqDiff, hres, hbad (by simp [badArc, hI]), hk12.trans hk3]
    | false =>
      obtain ⟨r, H5, hd5, rfl, rfl⟩ := checkIs (s := a.out) hb3 hasc hsm.sg
      simp only [↓Sh.dn, sx, Nat.reduceBEq, reduceCtorEq, Nat.reduceEqDiff, hb3.c0, hb3.c1, hb3.c2, hb3.c3, hb3.ca, netLenS hb3, netLenA hb3, netLenE hb3, netZero, arcZero, endZero, arcNew, endNew, arcStore, endStore, arcOver, endOver, netOver, arc0, arc1, arc2, arc3, arc4, end0, end1, f1, f4]
      refine ⟨_, _, hd5, ?_⟩
      cases hO : badSym N a.out with
      | true => simp only [↓Sh.dn, sx, Nat.reduceBEq, reduceCtorEq, Nat.reduceEqDiff, hres, hbad (by simp [badArc, hO]), hk12.trans hk3]
      | false =>
        simp only [↓Sh.dn, sx, Nat.reduceBEq, reduceCtorEq, Nat.reduceEqDiff, f37, wrap_succ hlt hsm.ar]
        exact k _ _ (by repeat (first | refine Same.put ?_ rfl | exact Same.rfl' _)) (by simp only [↓Sh.dn, sx, Nat.reduceBEq, reduceCtorEq, Nat.reduceEqDiff]) ⟨hk3, hnext (by simp [badArc, h1, h2, h3, h4, hI, hO])⟩
  · rintro F H' hF f37 ⟨hk, hall⟩
    have f1 := hF 1 rfl
    have f36 := hF 36 rfl
    simp only [↓Sh.dn, sx, Nat.reduceBEq, reduceCtorEq, Nat.reduceEqDiff] at f1 f36
    rw [List.take_length] at hall
    have hb' := hb2.kept hk12.wf hk
    simp only [↓Sh.dn, sx, Nat.reduceBEq, reduceCtorEq, Nat.reduceEqDiff, hb'.c0, hb'.c1, hb'.c2, hb'.c3, hb'.ca, netLenS hb', netLenA hb', netLenE hb', f1, f36, f37, nat_lt, Nat.lt_irrefl, decide_false]
    refine wp_for N.ends.length 81 (List.range' 81 15 ++ [2, 8]) (fun i F H'' => Kept H' H'' ∧ (N.ends.take i).any (badEnd N) = false) (by simp only [↓Sh.dn, sx, Nat.reduceBEq, reduceCtorEq, Nat.reduceEqDiff]) ⟨Kept.refl hk.wf, rfl⟩ ?_ ?_
    · rintro i F2 H'' hlt hF2 f81 ⟨hk2', hall2⟩ k
      have g1 := hF2 1 rfl
      have g79 := hF2 79 rfl
      have g80 := hF2 80 rfl
      simp only [↓Sh.dn, sx, Nat.reduceBEq, reduceCtorEq, Nat.reduceEqDiff, f1] at g1 g79 g80
      have hbx := hb'.kept hk.wf hk2'
      have hb3 := hbx.new hk2'.wf 2 (N.ends[i].cells)
      have hk3 := hk2'.news 2 (N.ends[i].cells)
      have hkk := (hk12.trans hk).trans hk3
      obtain ⟨g, o, kk, hia, hc, hcc⟩ := hbx.hen.at Tryz.underlying24 size_56 (i := i) (x := N.ends[i].cells) (by simp [hlt]) .i64
      clear hcc
      have hbad : badEnd N N.ends[i] = true → netErr N = 1 := fun h => e2 (List.any_eq_true.2 ⟨_, List.getElem_mem hlt, h⟩)
      simp only [↓Sh.dn, sx, Nat.reduceBEq, reduceCtorEq, Nat.reduceEqDiff, hbx.c0, hbx.c1, hbx.c2, hbx.c3, hbx.ca, netLenS hbx, netLenA hbx, netLenE hbx, netZero, arcZero, endZero, arcNew, endNew, arcStore, endStore, arcOver, endOver, netOver, arc0, arc1, arc2, arc3, arc4, end0, end1, g1, g79, g80, f81, nat_lt, hlt, decide_true, hia, hc, Option.map_some]
      by_cases h1 : N.ends[i].state < 0
      · simp only [↓Sh.dn, sx, Nat.reduceBEq, reduceCtorEq, Nat.reduceEqDiff, hb3.c0, hb3.c1, hb3.c2, hb3.c3, hb3.ca, netLenS hb3, netLenA hb3, netLenE hb3, netZero, arcZero, endZero, arcNew, endNew, arcStore, endStore, arcOver, endOver, netOver, arc0, arc1, arc2, arc3, arc4, end0, end1, h1, decide_true, hres, hbad (by simp [badEnd, h1]), hkk]
      simp only [↓Sh.dn, sx, Nat.reduceBEq, reduceCtorEq, Nat.reduceEqDiff, hb3.c0, hb3.c1, hb3.c2, hb3.c3, hb3.ca, netLenS hb3, netLenA hb3, netLenE hb3, netZero, arcZero, endZero, arcNew, endNew, arcStore, endStore, arcOver, endOver, netOver, arc0, arc1, arc2, arc3, arc4, end0, end1, g1, f81, h1, decide_false]
      by_cases h2 : N.states ≤ N.ends[i].state
      · simp only [↓Sh.dn, sx, Nat.reduceBEq, reduceCtorEq, Nat.reduceEqDiff, h2, decide_true, hres, hbad (by simp [badEnd, h2]), hkk]
      simp only [↓Sh.dn, sx, Nat.reduceBEq, reduceCtorEq, Nat.reduceEqDiff, f81, h2, decide_false, wrap_succ hlt hsm.en]
      refine k _ _ (by repeat (first | refine Same.put ?_ rfl | exact Same.rfl' _)) (by simp only [↓Sh.dn, sx, Nat.reduceBEq, reduceCtorEq, Nat.reduceEqDiff]) ⟨hk3, ?_⟩
      rw [List.take_add_one, List.getElem?_eq_getElem hlt]
      simp only [Option.toList, List.any_append, hall2, List.any_cons, List.any_nil, Bool.or_false, badEnd, h1, h2, decide_false]
    · rintro F2 H'' hF2 f81 ⟨hk2', hall2⟩
      have g80 := hF2 80 rfl
      simp only [↓Sh.dn, sx, Nat.reduceBEq, reduceCtorEq, Nat.reduceEqDiff] at g80
      rw [List.take_length] at hall2
      simp only [↓Sh.dn, sx, Nat.reduceBEq, reduceCtorEq, Nat.reduceEqDiff, g80, f81, nat_lt, Nat.lt_irrefl, decide_false, hres, e3 hall hall2, (hk12.trans hk).trans hk2']
end Go.Proofs.YtfcmpclbhnjkgaaGreat
/- slices.IndexFunc and ContainsFunc: whether some element is so. -/
set_option maxHeartbeats 4000000
set_option maxRecDepth 20000
set_option linter.unusedSimpArgs false
set_option linter.unusedVariables false
set_option pp.deepTerms.threshold 8
namespace Go.Proofs.YtfcmpclbhnjkgaaGreat
open Go Go.Proofs Go.Proofs.Sh
theorem indexFuncArc {H : AH} {v : Value} {l : List ArcD} {fid : Nat} {caps : List Value} (p : ArcD → Bool) (hs : Sl H v 5 (l.map ArcD.cells)) (hl : l.length ≤ 1048576) (hw : Wf H)
    (hp : ∀ H', Kept H H' → ∀ x ∈ l, Sh.Call Tryz.prog (knows 10) fid ((fun a => Value.agg a.cells.toArray) x :: caps) H' (fun r H'' => Kept H' H'' ∧ r = .bool (p x))) :
    Sh.Call Tryz.prog (knows 10) 118 [v, .func (.func fid) #[] caps.toArray] H (fun r H' => Kept H H' ∧ ∃ k : Int, r = .int .i64 k ∧ decide (0 ≤ k) = l.any p) := by
  refine call_of rfl Tryz.func118 rfl (Nat.le_of_ble_eq_true rfl) ?_
  have hres : Tryz.f118.results.toList = [.tmp 4] := rfl
  have hlen := hs.len Tryz.underlying23 H
  simp only [↓Sh.dn, sx, Nat.reduceBEq, reduceCtorEq, Nat.reduceEqDiff, hlen, List.length_map]
  refine wp_for l.length 8 [5, 8, 9, 10, 11, 12, 13, 14, 15, 16, 18] (fun i F H' => Kept H H' ∧ (l.take i).any p = false) (by simp only [↓Sh.dn, sx, Nat.reduceBEq, reduceCtorEq, Nat.reduceEqDiff]) ⟨Kept.refl hw, rfl⟩ ?_ ?_
  · rintro i F H' hlt hF f8 ⟨hk, hall⟩ k
    have hs1 := hs.grow (hk.grow hw)
    obtain ⟨g, o, kk, hia, hc, hcc⟩ := hs1.at Tryz.underlying23 size_54 (i := i) (x := ArcD.cells l[i]) (by simp [hlt]) .i64
    have hld := hc
    have f0 := hF 0 rfl
    have f1 := hF 1 rfl
    have f7 := hF 7 rfl
    simp only [↓Sh.dn, sx, Nat.reduceBEq, reduceCtorEq, Nat.reduceEqDiff] at f0 f1 f7
    obtain ⟨r, H2, hd, hk2, rfl⟩ := hp H' hk l[i] (List.getElem_mem hlt)
    simp only [↓Sh.dn, sx, Nat.reduceBEq, reduceCtorEq, Nat.reduceEqDiff, f0, f1, f7, f8, nat_lt, hlt, decide_true, hia, hld, Option.map_some, forall_const, reduceCtorEq, false_implies, and_true, true_and]
    refine ⟨_, _, hd, ?_⟩
    cases hpv : p l[i] with
    | true =>
      simp only [↓Sh.dn, sx, Nat.reduceBEq, reduceCtorEq, Nat.reduceEqDiff, hres, forall_const, reduceCtorEq, false_implies, and_true, true_and]
      refine ⟨hk.trans hk2, _, rfl, ?_⟩
      rw [List.any_eq_true.2 ⟨_, List.getElem_mem hlt, hpv⟩]
      simp
    | false =>
      simp only [↓Sh.dn, sx, Nat.reduceBEq, reduceCtorEq, Nat.reduceEqDiff, hres, f8, wrap_succ hlt hl, forall_const, reduceCtorEq, false_implies, and_true, true_and]
      refine k _ _ (by repeat (first | refine Same.put ?_ rfl | exact Same.rfl' _)) (by simp only [↓Sh.dn, sx, Nat.reduceBEq, reduceCtorEq, Nat.reduceEqDiff]) ⟨hk.trans hk2, ?_⟩
      rw [List.take_add_one, List.getElem?_eq_getElem hlt]
      simp only [Option.toList, List.any_append, hall, List.any_cons, List.any_nil, hpv, Bool.or_false]
  · rintro F H' hF f8 ⟨hk, hall⟩
    have f7 := hF 7 rfl
    simp only [↓Sh.dn, sx, Nat.reduceBEq, reduceCtorEq, Nat.reduceEqDiff] at f7
    rw [List.take_length] at hall
    simp only [↓Sh.dn, sx, Nat.reduceBEq, reduceCtorEq, Nat.reduceEqDiff, f7, f8, nat_lt, Nat.lt_irrefl, decide_false, hres, forall_const, reduceCtorEq, false_implies, and_true, true_and]
    exact ⟨hk, _, rfl, by rw [hall]; rfl⟩
theorem containsFuncArc {H : AH} {v : Value} {l : List ArcD} {fid : Nat} {caps : List Value} (p : ArcD → Bool) (hs : Sl H v 5 (l.map ArcD.cells)) (hl : l.length ≤ 1048576) (hw : Wf H)
    (hp : ∀ H', Kept H H' → ∀ x ∈ l, Sh.Call Tryz.prog (knows 10) fid ((fun a => Value.agg a.cells.toArray) x :: caps) H' (fun r H'' => Kept H' H'' ∧ r = .bool (p x))) :
    Sh.Call Tryz.prog (knows 10) 79 [v, .func (.func fid) #[] caps.toArray] H (fun r H' => Kept H H' ∧ r = .bool (l.any p)) := by
  refine call_of rfl Tryz.func79 rfl (Nat.le_of_ble_eq_true rfl) ?_
  have hres : Tryz.f79.results.toList = [.tmp 4] := rfl
  obtain ⟨r, H2, hd, hk, k, rfl, hk0⟩ := indexFuncArc p hs hl hw hp
  simp only [↓Sh.dn, sx, Nat.reduceBEq, reduceCtorEq, Nat.reduceEqDiff]
  refine ⟨_, _, hd, ?_⟩
  simp only [↓Sh.dn, sx, Nat.reduceBEq, reduceCtorEq, Nat.reduceEqDiff, hres, hk0, and_true]
  exact hk
end Go.Proofs.YtfcmpclbhnjkgaaGreat
/- Whether a net has a cost out of bounds. -/
set_option maxHeartbeats 4000000
set_option maxRecDepth 20000
set_option linter.unusedSimpArgs false
set_option linter.unusedVariables false
set_option pp.deepTerms.threshold 8
namespace Go.Proofs.YtfcmpclbhnjkgaaGreat
open Go Go.Proofs Go.Proofs.Sh
def pricedB (N : NetD) (m : Int) : Bool := N.arcs.any (fun a => decide (a.cost < 0) || decide (m < a.cost)) || N.ends.any (fun a => decide (a.cost < 0) || decide (m < a.cost))
theorem priced {H : AH} {v : Value} {N : NetD} {m : Int} (h : NetAt H v N) (hsm : NetSmall N) (hw : Wf H) :
    Sh.Call Tryz.prog (knows 10) 80 [v, .int .i64 m] H (fun r H' => Kept H H' ∧ r = .bool (pricedB N m)) := by
  refine call_of rfl Tryz.func80 rfl (Nat.le_of_ble_eq_true rfl) ?_
  have hres : Tryz.f80.results.toList = [.tmp 4] := rfl
  obtain ⟨sg, ar, en, rfl, hsg, har, hen⟩ := h
  have hb1 := NetBox.of (N := N) hw hsg har hen
  have hk1 : Kept H (H.new 4 [sg, .int .i64 N.states, ar, en]).2 := Kept.new hw 4 _
  simp only [↓Sh.dn, sx, Nat.reduceBEq, reduceCtorEq, Nat.reduceEqDiff, netNew hsg.isCell har.isCell hen.isCell]
  generalize H.next = gg at hb1 ⊢
  generalize (H.new 4 [sg, .int .i64 N.states, ar, en]).2 = H1 at hb1 hk1 ⊢
  simp only [↓Sh.dn, sx, Nat.reduceBEq, reduceCtorEq, Nat.reduceEqDiff, hb1.c0, hb1.c1, hb1.c2, hb1.c3, hb1.ca, netLenS hb1, netLenA hb1, netLenE hb1]
  refine wp_for N.arcs.length 12 (List.range' 12 14 ++ [4, 6]) (fun i F H' => Kept H1 H' ∧ (N.arcs.take i).any (fun a => decide (a.cost < 0) || decide (m < a.cost)) = false) (by simp only [↓Sh.dn, sx, Nat.reduceBEq, reduceCtorEq, Nat.reduceEqDiff]) ⟨Kept.refl hk1.wf, rfl⟩ ?_ ?_
  · rintro i F H' hlt hF f12 ⟨hk, hall⟩ k
    have f1 := hF 1 rfl
    have f10 := hF 10 rfl
    have f11 := hF 11 rfl
    simp only [↓Sh.dn, sx, Nat.reduceBEq, reduceCtorEq, Nat.reduceEqDiff] at f1 f10 f11
    have hb' := hb1.kept hk1.wf hk
    have hb3 := hb'.new hk.wf 5 (N.arcs[i].cells)
    have hk3 := hk.news 5 (N.arcs[i].cells)
    obtain ⟨g, o, kk, hia, hc, hcc⟩ := hb'.har.at Tryz.underlying23 size_54 (i := i) (x := N.arcs[i].cells) (by simp [hlt]) .i64
    clear hcc
    have hbad : (decide (N.arcs[i].cost < 0) || decide (m < N.arcs[i].cost)) = true → pricedB N m = true := fun h => by
      rw [pricedB, List.any_eq_true.2 ⟨_, List.getElem_mem hlt, h⟩]; rfl
    simp only [↓Sh.dn, sx, Nat.reduceBEq, reduceCtorEq, Nat.reduceEqDiff, hb'.c0, hb'.c1, hb'.c2, hb'.c3, hb'.ca, netLenS hb', netLenA hb', netLenE hb', netZero, arcZero, endZero, arcNew, endNew, arcStore, endStore, arcOver, endOver, netOver, arc0, arc1, arc2, arc3, arc4, end0, end1, f1, f10, f11, f12, Option.map_some, nat_lt, hlt, decide_true, hia, hc, hres]
    by_cases h1 : N.arcs[i].cost < 0
    · simp only [↓Sh.dn, sx, Nat.reduceBEq, reduceCtorEq, Nat.reduceEqDiff, h1, decide_true, hres, hbad (by simp [h1]), hk1.trans hk3]
    simp only [↓Sh.dn, sx, Nat.reduceBEq, reduceCtorEq, Nat.reduceEqDiff, netZero, arcZero, endZero, arcNew, endNew, arcStore, endStore, arcOver, endOver, netOver, arc0, arc1, arc2, arc3, arc4, end0, end1, f1, h1, decide_false]
    by_cases h2 : m < N.arcs[i].cost
    · simp only [↓Sh.dn, sx, Nat.reduceBEq, reduceCtorEq, Nat.reduceEqDiff, h2, decide_true, hres, hbad (by simp [h2]), hk1.trans hk3]
    simp only [↓Sh.dn, sx, Nat.reduceBEq, reduceCtorEq, Nat.reduceEqDiff, f12, h2, decide_false, wrap_succ hlt hsm.ar]
    refine k _ _ (by repeat (first | refine Same.put ?_ rfl | exact Same.rfl' _)) (by simp only [↓Sh.dn, sx, Nat.reduceBEq, reduceCtorEq, Nat.reduceEqDiff]) ⟨hk3, ?_⟩
    rw [List.take_add_one, List.getElem?_eq_getElem hlt]
    simp only [Option.toList, List.any_append, hall, List.any_cons, List.any_nil, Bool.or_false, h1, h2, decide_false]
  · rintro F H' hF f12 ⟨hk, hall⟩
    have f2 := hF 2 rfl
    have f11 := hF 11 rfl
    simp only [↓Sh.dn, sx, Nat.reduceBEq, reduceCtorEq, Nat.reduceEqDiff] at f2 f11
    rw [List.take_length] at hall
    have hb' := hb1.kept hk1.wf hk
    simp only [↓Sh.dn, sx, Nat.reduceBEq, reduceCtorEq, Nat.reduceEqDiff, hb'.c0, hb'.c1, hb'.c2, hb'.c3, hb'.ca, netLenS hb', netLenA hb', netLenE hb', f2, f11, f12, nat_lt, Nat.lt_irrefl, decide_false]
    refine wp_for N.ends.length 29 (List.range' 29 14 ++ [4, 8]) (fun i F H'' => Kept H' H'' ∧ (N.ends.take i).any (fun a => decide (a.cost < 0) || decide (m < a.cost)) = false) (by simp only [↓Sh.dn, sx, Nat.reduceBEq, reduceCtorEq, Nat.reduceEqDiff]) ⟨Kept.refl hk.wf, rfl⟩ ?_ ?_
    · rintro i F2 H'' hlt hF2 f29 ⟨hk2', hall2⟩ k
      have g1 := hF2 1 rfl
      have h1' := hF 1 rfl
      have g27 := hF2 27 rfl
      have g28 := hF2 28 rfl
      simp only [↓Sh.dn, sx, Nat.reduceBEq, reduceCtorEq, Nat.reduceEqDiff] at g1 g27 g28 h1'
      have hbx := hb'.kept hk.wf hk2'
      have hb3 := hbx.new hk2'.wf 2 (N.ends[i].cells)
      have hk3 := hk2'.news 2 (N.ends[i].cells)
      have hkk := (hk1.trans hk).trans hk3
      obtain ⟨g, o, kk, hia, hc, hcc⟩ := hbx.hen.at Tryz.underlying24 size_56 (i := i) (x := N.ends[i].cells) (by simp [hlt]) .i64
      clear hcc
      have hbad : (decide (N.ends[i].cost < 0) || decide (m < N.ends[i].cost)) = true → pricedB N m = true := fun h => by
        rw [pricedB, List.any_eq_true.2 ⟨_, List.getElem_mem hlt, h⟩, Bool.or_true]
      simp only [↓Sh.dn, sx, Nat.reduceBEq, reduceCtorEq, Nat.reduceEqDiff, hbx.c0, hbx.c1, hbx.c2, hbx.c3, hbx.ca, netLenS hbx, netLenA hbx, netLenE hbx, netZero, arcZero, endZero, arcNew, endNew, arcStore, endStore, arcOver, endOver, netOver, arc0, arc1, arc2, arc3, arc4, end0, end1, g1, h1', g27, g28, f29, nat_lt, hlt, decide_true, hia, hc, Option.map_some]
      by_cases h1 : N.ends[i].cost < 0
      · simp only [↓Sh.dn, sx, Nat.reduceBEq, reduceCtorEq, Nat.reduceEqDiff, h1, decide_true, hres, hbad (by simp [h1]), hkk]
      simp only [↓Sh.dn, sx, Nat.reduceBEq, reduceCtorEq, Nat.reduceEqDiff, netZero, arcZero, endZero, arcNew, endNew, arcStore, endStore, arcOver, endOver, netOver, arc0, arc1, arc2, arc3, arc4, end0, end1, g1, h1', f29, h1, decide_false]
      by_cases h2 : m < N.ends[i].cost
      · simp only [↓Sh.dn, sx, Nat.reduceBEq, reduceCtorEq, Nat.reduceEqDiff, h2, decide_true, hres, hbad (by simp [h2]), hkk]
      simp only [↓Sh.dn, sx, Nat.reduceBEq, reduceCtorEq, Nat.reduceEqDiff, f29, h2, decide_false, wrap_succ hlt hsm.en]
      refine k _ _ (by repeat (first | refine Same.put ?_ rfl | exact Same.rfl' _)) (by simp only [↓Sh.dn, sx, Nat.reduceBEq, reduceCtorEq, Nat.reduceEqDiff]) ⟨hk3, ?_⟩
      rw [List.take_add_one, List.getElem?_eq_getElem hlt]
      simp only [Option.toList, List.any_append, hall2, List.any_cons, List.any_nil, Bool.or_false, h1, h2, decide_false]
    · rintro F2 H'' hF2 f29 ⟨hk2', hall2⟩
      have g28 := hF2 28 rfl
      simp only [↓Sh.dn, sx, Nat.reduceBEq, reduceCtorEq, Nat.reduceEqDiff] at g28
      rw [List.take_length] at hall2
      simp only [↓Sh.dn, sx, Nat.reduceBEq, reduceCtorEq, Nat.reduceEqDiff, g28, f29, nat_lt, Nat.lt_irrefl, decide_false, hres, pricedB, hall, hall2, (hk1.trans hk).trans hk2']
end Go.Proofs.YtfcmpclbhnjkgaaGreat
/- What is wrong with an acceptor, by the program. -/
set_option maxHeartbeats 4000000
set_option maxRecDepth 20000
set_option linter.unusedSimpArgs false
set_option linter.unusedVariables false
set_option pp.deepTerms.threshold 8
namespace Go.Proofs.YtfcmpclbhnjkgaaGreat
open Go Go.Proofs Go.Proofs.Sh
theorem autoUnlike {H : AH} {a : ArcD} (hw : Wf H) : Sh.Call Tryz.prog (knows 10) 78 [.agg a.cells.toArray] H (fun r H' => Kept H H' ∧ r = .bool (!decide (a.inn = a.out))) := by
  refine call_of rfl Tryz.func78 rfl (Nat.le_of_ble_eq_true rfl) ?_
  have hres : Tryz.f78.results.toList = [.tmp 2] := rfl
  simp only [↓Sh.dn, sx, Nat.reduceBEq, reduceCtorEq, Nat.reduceEqDiff, netZero, arcZero, endZero, arcNew, endNew, arcStore, endStore, arcOver, endOver, netOver, arc0, arc1, arc2, arc3, arc4, end0, end1, hres, Kept.new hw 5 a.cells]
theorem free_priced (N : NetD) : NetD.free N = !pricedB N 0 := by
  have h : ∀ c : Int, decide (c = 0) = !(decide (c < 0) || decide (0 < c)) := by
    intro c
    by_cases h1 : c < 0
    · have : c ≠ 0 := by omega
      simp [h1, this]
    · by_cases h2 : 0 < c
      · have : c ≠ 0 := by omega
        simp [h2, this]
      · have : c = 0 := by omega
        simp [this]
  simp only [NetD.free, pricedB, h, Bool.not_or, List.all_eq_not_any_not, Bool.not_not]
  simp
theorem autoValidate {H : AH} {v : Value} {N : NetD} (h : NetAt H v N) (hsm : NetSmall N) (hw : Wf H) :
    Sh.Call Tryz.prog (knows 10) 36 [v] H (fun r H' => Kept H H' ∧ r = .int .i64 (accErr N)) := by
  refine call_of rfl Tryz.func36 rfl (Nat.le_of_ble_eq_true rfl) ?_
  have hres : Tryz.f36.results.toList = [.tmp 2] := rfl
  obtain ⟨sg, ar, en, rfl, hsg, har, hen⟩ := h
  have hb1 := NetBox.of (N := N) hw hsg har hen
  have hk1 : Kept H (H.new 4 [sg, .int .i64 N.states, ar, en]).2 := Kept.new hw 4 _
  simp only [↓Sh.dn, sx, Nat.reduceBEq, reduceCtorEq, Nat.reduceEqDiff, netNew hsg.isCell har.isCell hen.isCell]
  generalize H.next = gg at hb1 ⊢
  generalize (H.new 4 [sg, .int .i64 N.states, ar, en]).2 = H1 at hb1 hk1 ⊢
  simp only [↓Sh.dn, sx, Nat.reduceBEq, reduceCtorEq, Nat.reduceEqDiff, hb1.c0, hb1.c1, hb1.c2, hb1.c3, hb1.ca, netLenS hb1, netLenA hb1, netLenE hb1, Option.map_some]
  obtain ⟨r, H2, hd, hk2, rfl⟩ := graphCheck hb1.netAt hsm hk1.wf
  refine ⟨_, _, hd, ?_⟩
  have hb2 := hb1.kept hk1.wf hk2
  have hk12 := hk1.trans hk2
  by_cases hE : netErr N = 0
  case neg => simp only [↓Sh.dn, sx, Nat.reduceBEq, reduceCtorEq, Nat.reduceEqDiff, hE, decide_false, hres, accErr, if_true, hk12]
  simp only [↓Sh.dn, sx, Nat.reduceBEq, reduceCtorEq, Nat.reduceEqDiff, hE, decide_true, hb2.c0, hb2.c1, hb2.c2, hb2.c3, hb2.ca, netLenS hb2, netLenA hb2, netLenE hb2]
  obtain ⟨r, H3, hd3, hk3, rfl⟩ := containsFuncArc (caps := []) (fid := 78) (fun a => !decide (a.inn = a.out)) hb2.har hsm.ar hk12.wf (fun H' hk a ha => autoUnlike hk.wf)
  refine ⟨_, _, hd3, ?_⟩
  have hb3 := hb2.kept hk12.wf hk3
  have hk13 := hk12.trans hk3
  cases hu : N.arcs.any (fun a => !decide (a.inn = a.out)) with
  | true => simp only [↓Sh.dn, sx, Nat.reduceBEq, reduceCtorEq, Nat.reduceEqDiff, hres, accErr, hE, unlike, hu, if_true, if_false, hk13]
  | false =>
    simp only [↓Sh.dn, sx, Nat.reduceBEq, reduceCtorEq, Nat.reduceEqDiff, hb3.c0, hb3.c1, hb3.c2, hb3.c3, hb3.ca, netLenS hb3, netLenA hb3, netLenE hb3, Option.map_some]
    obtain ⟨r, H4, hd4, hk4, rfl⟩ := priced (m := 0) hb3.netAt hsm hk13.wf
    refine ⟨_, _, hd4, ?_⟩
    cases hp : pricedB N 0 with
    | true => simp only [↓Sh.dn, sx, Nat.reduceBEq, reduceCtorEq, Nat.reduceEqDiff, hres, accErr, hE, unlike, hu, free_priced, hp, if_true, if_false, hk13.trans hk4]
    | false => simp only [↓Sh.dn, sx, Nat.reduceBEq, reduceCtorEq, Nat.reduceEqDiff, hres, accErr, hE, unlike, hu, free_priced, hp, if_true, if_false, hk13.trans hk4]
end Go.Proofs.YtfcmpclbhnjkgaaGreat
/- auto.given, Accepts, Begins. -/
set_option maxHeartbeats 4000000
set_option maxRecDepth 20000
set_option linter.unusedSimpArgs false
set_option linter.unusedVariables false
set_option pp.deepTerms.threshold 8
namespace Go.Proofs.YtfcmpclbhnjkgaaGreat
open Go Go.Proofs Go.Proofs.Sh
/-- The edges of the program's graph of a net. -/
def gEdges (N : NetD) : List (List (Nat × Int × Int × Int)) := rowsOf ArcD.fr (fun a => (a.to.toNat, symIx N.sigma a.inn, symIx N.sigma a.out, a.cost)) N.states.toNat N.arcs
theorem gEdges_cells {N : NetD} (hok : NetOk N) : gCells (gEdges N) = grRows N N.arcs := by
  unfold gCells gEdges grRows rowsOf
  rw [List.map_map]
  refine List.map_congr_left fun s _ => ?_
  simp only [Function.comp, List.map_map]
  refine List.map_congr_left fun a ha => ?_
  have := hok.arc a (List.mem_filter.1 ha).1
  simp only [Function.comp, gCell, edgeC]
  rw [show ((a.to.toNat : Nat) : Int) = a.to by omega]
theorem symIx_lt {l : List ByteArray} {x : ByteArray} (ha : Asc l) : symIx l x < 0 ↔ x ∉ l := by
  have := symIx_neg (x := x) ha
  rw [← strIn_iff]
  cases h : strIn l x with
  | true => rw [h] at this; simpa using this
  | false => rw [h] at this; simpa using this
theorem noText_out {N : NetD} (hok : NetOk N) : noText ∉ N.sigma := by
  intro h
  have := hok.sym _ h
  have h0 : symOk noText = false := rfl
  rw [h0] at this; cases this
theorem ends_gr {N : NetD} (hok : NetOk N) (t : Nat) : 0 < (grEnds N N.ends).getD t 0 ↔ N.isEnd t := by
  unfold NetD.isEnd grEnds
  rw [List.getD_eq_getElem?_getD, List.getElem?_map]
  by_cases ht : t < N.states.toNat
  · rw [rowsOf_get ht]
    simp only [Option.map_some, Option.getD_some, List.length_map]
    rw [show (0 : Int) < ((N.ends.filter fun a => decide (a.state = (t : Int))).length : Int) ↔ 0 < (N.ends.filter fun a => decide (a.state = (t : Int))).length by omega, List.length_pos_iff_exists_mem]
    simp only [List.mem_filter, decide_eq_true_eq]
  · rw [List.getElem?_eq_none (by rw [rowsOf_length]; omega)]
    simp only [Option.map_none, Option.getD_none, Int.lt_irrefl, false_iff, not_exists, not_and]
    intro e he h
    have := hok.fin e he
    omega
theorem Gr.pg {H : AH} {base g : Nat} {N : NetD} (hok : NetOk N) (h : Gr H base g N.sigma (grRows N N.arcs) (grEnds N N.ends) (grCosts N N.ends)) :
    ∃ sv av ev cv vals, PG H g N.states.toNat 60000 (gEdges N) (grEnds N N.ends) sv av ev cv vals N.sigma (grCosts N N.ends) := by
  obtain ⟨sv, av, ev, cv, vals, hR⟩ := h.read
  rw [← gEdges_cells hok] at hR
  have h1 := hok.st1
  have h2 := hok.st2
  refine ⟨sv, av, ev, cv, vals, hR, by unfold gEdges; rw [rowsOf_length], by unfold grEnds; rw [List.length_map, rowsOf_length], by omega, by omega, fun s r hr => ⟨Nat.le_trans (rowsOf_le hr) hok.ar, fun e he => ?_⟩⟩
  obtain ⟨a, ha, _, rfl⟩ := (rowsOf_mem hr e).1 he
  have := hok.arc a ha
  show a.to.toNat < _
  omega
end Go.Proofs.YtfcmpclbhnjkgaaGreat
/- Elements by states: how many there are. -/
set_option maxHeartbeats 4000000
set_option maxRecDepth 20000
set_option linter.unusedSimpArgs false
set_option linter.unusedVariables false
namespace Go.Proofs.YtfcmpclbhnjkgaaGreat
open Go Go.Proofs Go.Proofs.Sh
theorem filter_split {α : Type} {p q r : α → Bool} (h1 : ∀ a, r a = (p a || q a)) (h2 : ∀ a, p a = true → q a = false) : ∀ l : List α, (l.filter p).length + (l.filter q).length = (l.filter r).length
  | [] => rfl
  | a :: l => by
    have ih := filter_split h1 h2 l
    have e := h1 a
    cases hp : p a with
    | true =>
      have hq := h2 a hp
      rw [hp, hq] at e
      simp only [List.filter_cons, hp, hq, e, if_true, Bool.or_false, List.length_cons, Bool.false_eq_true, if_false]; omega
    | false =>
      cases hq : q a with
      | true =>
        rw [hp, hq] at e
        simp only [List.filter_cons, hp, hq, e, if_true, Bool.or_true, List.length_cons, Bool.false_eq_true, if_false]; omega
      | false =>
        rw [hp, hq] at e
        simp only [List.filter_cons, hp, hq, e, Bool.or_self, Bool.false_eq_true, if_false]; exact ih
theorem rows_total {α β : Type} {key : α → Int} {f : α → β} {n : Nat} {l : List α} : ((rowsOf key f n l).map List.length).sum ≤ l.length := by
  have h : ∀ n : Nat, ((List.range n).map fun (s : Nat) => (l.filter fun a => decide (key a = (s : Int))).length).sum = (l.filter fun a => decide (0 ≤ key a ∧ key a < (n : Int))).length := by
    intro n
    induction n with
    | zero =>
      have : (l.filter fun a => decide (0 ≤ key a ∧ key a < ((0 : Nat) : Int))) = [] := by
        rw [List.filter_eq_nil_iff]
        intro a _
        simp only [decide_eq_true_eq]; omega
      rw [this]; rfl
    | succ n ih =>
      rw [List.range_succ, List.map_append, List.sum_append, ih]
      simp only [List.map_cons, List.map_nil, List.sum_cons, List.sum_nil, Nat.add_zero]
      refine filter_split (fun a => ?_) (fun a ha => ?_) l
      · rw [Bool.eq_iff_iff, Bool.or_eq_true]; simp only [decide_eq_true_eq]; omega
      · simp only [decide_eq_true_eq, decide_eq_false_iff_not] at ha ⊢; omega
  unfold rowsOf
  rw [List.map_map]
  have e : (List.length ∘ fun (s : Nat) => (l.filter fun a => decide (key a = (s : Int))).map f) = fun (s : Nat) => (l.filter fun a => decide (key a = (s : Int))).length := by
    funext s; simp
  rw [e, h]
  exact List.length_filter_le _ _
theorem filter_le (p : Nat → Bool) (f : Nat → Nat) (h : ∀ s, p s = true → 1 ≤ f s) : ∀ L : List Nat, (L.filter p).length ≤ (L.map f).sum
  | [] => Nat.zero_le _
  | s :: L => by
    have ih := filter_le p f h L
    rw [List.filter_cons]
    simp only [List.map_cons, List.sum_cons]
    split
    · rename_i hp
      have := h s hp
      simp only [List.length_cons]; omega
    · omega
end Go.Proofs.YtfcmpclbhnjkgaaGreat
/- auto.Reverse. -/
set_option maxHeartbeats 4000000
set_option maxRecDepth 20000
set_option linter.unusedSimpArgs false
set_option linter.unusedVariables false
set_option pp.deepTerms.threshold 8
namespace Go.Proofs.YtfcmpclbhnjkgaaGreat
open Go Go.Proofs Go.Proofs.Sh
def revErr (N : NetD) : Int := if accErr N ≠ 0 then accErr N else if N.states = 3000 ∨ 60000 < N.arcs.length + N.ends.length then 3 else 0
structure RevOf (N M : NetD) : Prop where
  sg : M.sigma = N.sigma
  st : M.states = N.states + 1
  len : M.arcs.length ≤ N.arcs.length + N.ends.length
  arc : ∀ a, a ∈ M.arcs ↔ (∃ b ∈ N.arcs, a = ⟨b.to + 1, b.inn, b.out, b.fr + 1, b.cost⟩) ∨ ∃ s : Nat, N.isEnd s ∧ a = ⟨0, ⟨#[]⟩, ⟨#[]⟩, (s : Int) + 1, 0⟩
  fin : ∀ x, x ∈ M.ends ↔ x = ⟨1, 0⟩
  enl : M.ends.length ≤ 3000
theorem wf_none {H : AH} (h : Wf H) {y : Nat} (hy : H.next ≤ y) : H.objs.get y = none := by
  cases e : H.objs.get y with
  | none => rfl
  | some o => have := h y o e; omega
theorem symIx_le (l : List ByteArray) (x : ByteArray) : symIx l x < l.length := by
  unfold symIx
  cases h : l.findIdx? fun y => decide (y = x) with
  | none => simp only; omega
  | some i =>
    obtain ⟨h1, _⟩ := List.findIdx?_eq_some_iff_getElem.1 h
    simp only; omega
theorem textOf_ix {l : List ByteArray} {x : ByteArray} (ha : Asc l) (hx : x = ⟨#[]⟩ ∨ x ∈ l) (hn : noText ∉ l) : textOf l (symIx l x) = x := by
  rcases hx with rfl | hx
  · have : symIx l ⟨#[]⟩ < 0 := (symIx_lt ha).2 hn
    exact if_pos this
  · obtain ⟨k, hk⟩ := List.mem_iff_getElem?.1 hx
    rw [symIx_some ha hk]
    unfold textOf
    rw [if_neg (by omega)]
    simp [List.getD, hk]
def endL (ends : List Int) (i : Nat) : List GE := ((List.range i).filter fun s => decide (0 < ends.getD s 0)).map fun s => (1 + s, -1, -1, 0)
theorem edge_gEdges {N : NetD} (hok : NetOk N) (s t : Nat) (x : Int × Int × Int) : edgeIn (gEdges N) s t x ↔ ∃ a ∈ N.arcs, a.fr = (s : Int) ∧ a.to = (t : Int) ∧ x = (symIx N.sigma a.inn, symIx N.sigma a.out, a.cost) := by
  unfold edgeIn gEdges
  constructor
  · rintro ⟨r, h1, h2⟩
    obtain ⟨a, ha, h3, h4⟩ := (rowsOf_mem h1 _).1 h2
    have := hok.arc a ha
    injection h4 with h4 h5
    exact ⟨a, ha, h3, by omega, h5.symm⟩
  · rintro ⟨a, ha, h1, h2, h3⟩
    have := hok.arc a ha
    have hs : s < N.states.toNat := by omega
    refine ⟨_, rowsOf_get hs, (rowsOf_mem (rowsOf_get hs) _).2 ⟨a, ha, h1, ?_⟩⟩
    rw [h3, h2]; rfl
theorem autoReverse {H : AH} {v : Value} {N : NetD} (h : NetAt H v N) (hsm : NetSmall N) (hw : Wf H) :
    Sh.Call Tryz.prog (knows 10) 22 [v] H (fun r H' => Kept H H' ∧ ∃ mv, r = .tuple #[mv, .int .i64 (revErr N)] ∧ (revErr N ≠ 0 → mv = .agg #[.slice none 0 0, .int .i64 0, .slice none 0 0, .slice none 0 0]) ∧ (revErr N = 0 → ∃ M, Nonempty (NetAt H' mv M) ∧ RevOf N M)) := by
  refine call_of rfl Tryz.func22 rfl (Nat.le_of_ble_eq_true rfl) ?_
  have hres : Tryz.f22.results.toList = [.cell 2 26, .tmp 3] := rfl
  obtain ⟨sg, ar, en, rfl, hsg, har, hen⟩ := h
  have hb1 := NetBox.of (N := N) hw hsg har hen
  have hk1 : Kept H (H.new 4 [sg, .int .i64 N.states, ar, en]).2 := Kept.new hw 4 _
  simp only [↓Sh.dn, sx, Nat.reduceBEq, reduceCtorEq, Nat.reduceEqDiff, netNew hsg.isCell har.isCell hen.isCell, netZero]
  have e0 : H.next ≤ (H.new 4 [sg, .int .i64 N.states, ar, en]).2.next := Nat.le_succ _
  obtain ⟨gg, hgg⟩ : ∃ gg, H.next = gg := ⟨_, rfl⟩
  rw [hgg] at hb1
  generalize (H.new 4 [sg, .int .i64 N.states, ar, en]).2 = H0 at hb1 hk1 e0 ⊢
  have hb0 := hb1.new hk1.wf 4 [.slice none 0 0, .int .i64 0, .slice none 0 0, .slice none 0 0]
  have k0 := hk1.news 4 [.slice none 0 0, .int .i64 0, .slice none 0 0, .slice none 0 0]
  have o0 := Sh.Obj.new (H := H0) 4 [.slice none 0 0, .int .i64 0, .slice none 0 0, .slice none 0 0]
  have x0 : H0.next < (H0.new 4 [.slice none 0 0, .int .i64 0, .slice none 0 0, .slice none 0 0]).2.next := Nat.lt_succ_self _
  obtain ⟨go, hgo⟩ : ∃ y, H0.next = y := ⟨_, rfl⟩
  rw [hgo] at o0 x0
  generalize (H0.new 4 [.slice none 0 0, .int .i64 0, .slice none 0 0, .slice none 0 0]).2 = H1 at hb0 k0 o0 x0 ⊢
  obtain ⟨r, H2, hd2, hk2, rfl⟩ := autoValidate hb0.netAt hsm k0.wf
  have hb2 := hb0.kept k0.wf hk2
  simp only [↓Sh.dn, sx, Nat.reduceBEq, reduceCtorEq, Nat.reduceEqDiff, hgg, hgo, hb0.c0, hb0.c1, hb0.c2, hb0.c3, hb0.ca, netLenS hb0, netLenA hb0, netLenE hb0, Option.map_some]
  refine ⟨_, _, hd2, ?_⟩
  -- the result's box is written
  have out : ∀ {H' : AH} {a b c d : Value}, Kept H1 H' → isCell a = true → isCell b = true → isCell c = true → isCell d = true → ∃ H'', astore Tryz.prog 26 H' (.agg #[a, b, c, d]) (.pointer (some ⟨go, 0, some 0⟩)) = some H'' ∧ H''.cells ⟨go, 0, some 0⟩ 4 = some [a, b, c, d] ∧ Kept H H'' ∧ Chg (fun y => y = go) H' H'' ∧ H''.next = H'.next := by
    intro H' a b c d hk ha hb hc hd
    have o0' : Sh.Obj H' go 4 [.slice none 0 0, .int .i64 0, .slice none 0 0, .slice none 0 0] true := by
      unfold Sh.Obj at o0 ⊢
      rw [hk.old go x0]; exact o0
    obtain ⟨H6, w6, ar6, v6, z6⟩ := o0'.arr.write hk.wf (i := 0) (vs := [a, b, c, d]) (by simp)
    have sc6 : setCells [.slice none 0 0, .int .i64 0, .slice none 0 0, .slice none 0 0] 0 [a, b, c, d] = [a, b, c, d] := rfl
    rw [sc6] at ar6
    refine ⟨H6, ?_, ar6.cells (i := 0) (n := 4) (by simp), (k0.trans hk).then (Nat.le_trans e0 (Nat.le_of_eq hgo)) (z6.weak fun y hy => by omega), z6, v6⟩
    rw [store_agg (vs := [a, b, c, d]) size_26 rfl (by simp [ha, hb, hc, hd])]
    exact w6
  have bz : abuild Tryz.prog 26 [] = some (.agg #[.slice none 0 0, .int .i64 0, .slice none 0 0, .slice none 0 0]) := by
    have va : ∀ xs : Array Value, vcells (.agg xs) = xs.toList := fun _ => rfl
    refine build_struct (pl := [(0, 1), (1, 1), (2, 1), (3, 1)]) Tryz.underlying26 zero_26 (by kernel_rfl) ?_
    simp [fillA, va]
  obtain ⟨Hz, sz, cz, kz, _, _⟩ := out (a := .slice none 0 0) (b := .int .i64 0) (c := .slice none 0 0) (d := .slice none 0 0) hk2 rfl rfl rfl rfl
  by_cases hA : accErr N = 0
  case neg =>
    have hr : revErr N = accErr N := by unfold revErr; rw [if_pos hA]
    simp only [↓Sh.dn, sx, Nat.reduceBEq, reduceCtorEq, Nat.reduceEqDiff, hA, decide_false, bz, sz, hres, cz, Option.map_some, hr, kz]
    exact ⟨_, rfl, rfl⟩
  have hok := accErr_ok hA
  have hst1 := hok.st1
  have hst2 := hok.st2
  have hsa := hsm.ar
  have hse := hsm.en
  have wa : IntKind.wrap .i64 ((N.arcs.length : Int) + (N.ends.length : Int)) = ((N.arcs.length + N.ends.length : Nat) : Int) := by rw [wrap64 (by omega) (by omega)]; omega
  have d60 : decide ((60000 : Int) < ((N.arcs.length + N.ends.length : Nat) : Int)) = decide (60000 < N.arcs.length + N.ends.length) := decide_eq_decide.2 (by omega)
  simp only [↓Sh.dn, sx, Nat.reduceBEq, reduceCtorEq, Nat.reduceEqDiff, hA, decide_true, hb2.c0, hb2.c1, hb2.c2, hb2.c3, hb2.ca, netLenS hb2, netLenA hb2, netLenE hb2]
  by_cases h3 : N.states = 3000
  · have hr : revErr N = 3 := by unfold revErr; rw [if_neg (by simpa using hA), if_pos (.inl h3)]
    simp only [↓Sh.dn, sx, Nat.reduceBEq, reduceCtorEq, Nat.reduceEqDiff, h3, decide_true, bz, sz, hres, cz, Option.map_some, hr, kz]
    exact ⟨_, rfl, fun _ => rfl, fun h => by omega⟩
  simp only [↓Sh.dn, sx, Nat.reduceBEq, reduceCtorEq, Nat.reduceEqDiff, h3, decide_false, hb2.c0, hb2.c1, hb2.c2, hb2.c3, hb2.ca, netLenS hb2, netLenA hb2, netLenE hb2, wa, d60]
  by_cases h6 : 60000 < N.arcs.length + N.ends.length
  · have hr : revErr N = 3 := by unfold revErr; rw [if_neg (by simpa using hA), if_pos (.inr h6)]
    simp only [↓Sh.dn, sx, Nat.reduceBEq, reduceCtorEq, Nat.reduceEqDiff, h6, decide_true, bz, sz, hres, cz, Option.map_some, hr, kz]
    exact ⟨_, rfl, fun _ => rfl, fun h => by omega⟩
  have hr : revErr N = 0 := by unfold revErr; rw [if_neg (by simpa using hA), if_neg (by simp [h3, h6])]
  obtain ⟨n, hn⟩ : ∃ n : Nat, N.states = (n : Int) := ⟨N.states.toNat, by omega⟩
  have hnn : N.states.toNat = n := by omega
  obtain ⟨r3, H3, hd3, hk3, g, rfl, hG3⟩ := graphNew (n := 1) hb2.hsg (by have := hsm.sg; simpa using this) (by decide) hk2.wf
  have hb3 := hb2.kept hk2.wf hk3
  obtain ⟨r4, H4, hd4, hk4, g2, rfl, base4, hba4, hG4⟩ := graphOf hb3.netAt hok hsm hk3.wf
  obtain ⟨sv4, av4, ev4, cv4, vals4, hP4⟩ := Gr.pg hok hG4
  obtain ⟨r5, H5, hd5, hk5, gb, rfl, R, base5, hba5, hG5, hRl, hRr, hRs, hRe⟩ := graphBackE hP4 (by have := hsm.sg; omega) hk4.wf
  rw [hnn] at hG5 hRl hRr
  simp only [↓Sh.dn, sx, Nat.reduceBEq, reduceCtorEq, Nat.reduceEqDiff, h6, decide_false, hb2.c0, hb2.c1, hb2.c2, hb2.c3, hb2.ca, netLenS hb2, netLenA hb2, netLenE hb2]
  refine ⟨_, _, hd3, ?_⟩
  simp only [↓Sh.dn, sx, Nat.reduceBEq, reduceCtorEq, Nat.reduceEqDiff, hb3.c0, hb3.c1, hb3.c2, hb3.c3, hb3.ca, netLenS hb3, netLenA hb3, netLenE hb3, Option.map_some]
  refine ⟨_, _, hd4, ?_⟩
  try simp only [↓Sh.dn, sx, Nat.reduceBEq, reduceCtorEq, Nat.reduceEqDiff]
  refine ⟨_, _, hd5, ?_⟩
  -- the graph, the old one, the one turned round
  have hx3 := hk3.next
  have hx4 := hk4.next
  have hx5 := hk5.next
  have gx5 := ((hG3.own hk3.wf).kept hk3.wf hk4).kept hk4.wf hk5
  have by5 := hG5.own hk5.wf
  obtain ⟨r6, H6, hd6, rfl, hc6, hX6⟩ := grAdd (n := n) gx5 by5 (fun y hy => ⟨by omega, hy.2⟩) (by simp) (by simp) hRl (by simp) (by simp) (by omega) (by omega) (by simp) hRr hk5.wf
  try simp only [↓Sh.dn, sx, Nat.reduceBEq, reduceCtorEq, Nat.reduceEqDiff]
  have hd6 : Does Tryz.prog (knows 10) 50 [.pointer (some ⟨g, 0, some 0⟩), .pointer (some ⟨gb, 0, some 0⟩)] H5 (.int .i64 1) H6 := hd6
  refine ⟨_, _, hd6, ?_⟩
  obtain ⟨Z, hZ⟩ : ∃ Z : Nat → Prop, (fun y => (H2.next ≤ y ∧ y < H3.next) ∨ H5.next ≤ y) = Z := ⟨_, rfl⟩
  rw [hZ] at hc6 hX6
  have old5 := ((hG4.own hk4.wf).kept hk4.wf hk5)
  obtain ⟨sv, av, ev, cv, vals, hst⟩ := GrX.steady (X := Z) old5 hk5.wf fun y hy hz => by
    rw [← hZ] at hz
    rcases hz with hz | hz
    · omega
    · omega
  have hNZ : ∀ {H'}, Chg Z H5 H' → ∀ y, Z y ∨ H'.next ≤ y → Z y := fun hc y hy => by
    rcases hy with hy | hy
    · exact hy
    · rw [← hZ]; exact .inr (Nat.le_trans hc.next hy)
  obtain ⟨EN, hEN⟩ : ∃ EN, grEnds N N.ends = EN := ⟨_, rfl⟩
  have hENl : EN.length = n := by rw [← hEN]; unfold grEnds; rw [List.length_map, rowsOf_length, hnn]
  rw [hEN] at hst
  have hend : ∀ t, 0 < EN.getD t 0 ↔ N.isEnd t := fun t => by rw [← hEN]; exact ends_gr hok t
  have hX6 : GrX H6 Z g N.sigma (gCells (endL EN 0 :: shiftRows 1 R)) (List.replicate (n + 1) 0) (List.replicate (n + 1) 0) := hX6
  have c2 := (hst H6 hc6).arr.cell 2
  have hlenE : ∀ H', abuiltin Tryz.prog .len [74] [ev] H' = some (.int .i64 (n : Int), H') := fun H' => by
    rw [(hst H6 hc6).en.len Tryz.underlying74, List.length_map, hENl]
  simp only [↓Sh.dn, sx, Nat.reduceBEq, reduceCtorEq, Nat.reduceEqDiff, c2, hlenE]
  have hsucc : ∀ i, endL EN (i + 1) = endL EN i ++ (if 0 < EN.getD i 0 then [(1 + i, -1, -1, 0)] else []) := fun i => by
    unfold endL
    rw [List.range_succ, List.filter_append, List.map_append]
    congr 1
    by_cases hp : 0 < EN.getD i 0
    · rw [if_pos hp, List.filter_cons_of_pos (by exact decide_eq_true hp)]; rfl
    · rw [if_neg hp, List.filter_cons_of_neg (by simpa only [decide_eq_true_eq] using hp)]; rfl
  have hendl : ∀ i, (endL EN i).length ≤ i := fun i => by
    unfold endL
    rw [List.length_map]
    exact Nat.le_trans (List.length_filter_le _ _) (by rw [List.length_range]; exact Nat.le_refl _)
  refine wp_for n 44 (List.range' 44 13 ++ [8, 9]) (fun i F H' => Chg Z H5 H' ∧ GrX H' Z g N.sigma (gCells (endL EN i :: shiftRows 1 R)) (List.replicate (n + 1) 0) (List.replicate (n + 1) 0)) (by simp only [↓Sh.dn, sx, Nat.reduceBEq, reduceCtorEq, Nat.reduceEqDiff]) ⟨hc6, hX6⟩ ?_ ?_
  · rintro i F H' hi hF f44 ⟨hc, hX⟩ k
    have f5 := hF 5 rfl
    have f7 := hF 7 rfl
    have f42 := hF 42 rfl
    have f43 := hF 43 rfl
    simp only [↓Sh.dn, sx, Nat.reduceBEq, reduceCtorEq, Nat.reduceEqDiff] at f5 f7 f42 f43
    have hie : i < EN.length := by omega
    obtain ⟨p, hia, hcc⟩ := Sl.elem (s := 1) Tryz.underlying74 size_3 (hst H' hc).en (i := i) (u := .int .i64 EN[i]) (by rw [List.getElem?_map, List.getElem?_eq_getElem hie]; rfl)
    have hg : EN.getD i 0 = EN[i] := by simp [List.getD, hie]
    simp only [↓Sh.dn, sx, Nat.reduceBEq, reduceCtorEq, Nat.reduceEqDiff, f42, f43, f44, nat_lt, hi, decide_true, hia, hcc]
    by_cases hp : 0 < EN[i]
    · have w1 : IntKind.wrap .i64 (1 + (i : Int)) = ((1 + i : Nat) : Int) := by rw [wrap64 (by omega) (by omega)]; omega
      obtain ⟨r7, H7, hd7, hc7, hX7⟩ := grArcX (s := 0) (r := (endL EN i).map gCell) (x0 := ((1 + i : Nat) : Int)) (x1 := -1) (x2 := -1) (x3 := 0) hX rfl (by rw [List.length_map]; have := hendl i; omega) hc.wf
      simp only [↓Sh.dn, sx, Nat.reduceBEq, reduceCtorEq, Nat.reduceEqDiff, hp, decide_true, f5, f7, w1]
      refine ⟨_, _, hd7, ?_⟩
      simp only [↓Sh.dn, sx, Nat.reduceBEq, reduceCtorEq, Nat.reduceEqDiff, f44, wrap_succ' hi (by omega)]
      refine k _ _ (by repeat (first | refine Same.put ?_ rfl | exact Same.rfl' _)) (by simp only [↓Sh.dn, sx, Nat.reduceBEq, reduceCtorEq, Nat.reduceEqDiff]) ⟨hc.trans hc7, ?_⟩
      rw [hsucc, if_pos (by rw [hg]; exact hp)]
      have := hX7.mono (hNZ hc)
      simpa [gCells, gCell] using this
    · simp only [↓Sh.dn, sx, Nat.reduceBEq, reduceCtorEq, Nat.reduceEqDiff, hp, decide_false, f44, wrap_succ' hi (by omega)]
      refine k _ _ (by repeat (first | refine Same.put ?_ rfl | exact Same.rfl' _)) (by simp only [↓Sh.dn, sx, Nat.reduceBEq, reduceCtorEq, Nat.reduceEqDiff]) ⟨hc, ?_⟩
      rw [hsucc, if_neg (by rw [hg]; exact hp), List.append_nil]
      exact hX
  · rintro F H' hF f44 ⟨hc, hX⟩
    have f2 := hF 2 rfl
    have f5 := hF 5 rfl
    have f7 := hF 7 rfl
    have f43 := hF 43 rfl
    simp only [↓Sh.dn, sx, Nat.reduceBEq, reduceCtorEq, Nat.reduceEqDiff] at f2 f5 f7 f43
    obtain ⟨r8, H8, hd8, hc8, hX8⟩ := grEndX (s := 1) (x := 0) hX (by simp; omega) (by simp; omega) hc.wf (by simp) (by simp)
    have hcz : ∀ (l : List Int) (h : 1 < l.length), l = List.replicate (n + 1) 0 → endCost (l[1]'h) (l[1]'h) 0 = 0 := fun l h hl => by subst hl; simp [endCost]
    have hrp : (List.replicate (n + 1) (0 : Int)).set 1 0 = List.replicate (n + 1) 0 := by
      refine List.ext_getElem? fun j => ?_
      rw [List.getElem?_set]
      by_cases hj : 1 = j
      · subst hj; rw [if_pos rfl, if_pos (by simp; omega), List.getElem?_replicate, if_pos (by omega)]
      · rw [if_neg hj]
    rw [hcz _ _ rfl, hrp] at hX8
    have hsl : ∀ (t : Nat) (x : Nat × Int × Int × Int), edgeIn R t x.1 x.2 → x.1 < n ∧ x.2.1 < N.sigma.length ∧ x.2.2.1 < N.sigma.length := by
      intro t x hx
      obtain ⟨r, h1, h2⟩ := hx
      have h3 := (hRr r (List.mem_of_getElem? h1)).2 _ h2
      obtain ⟨a, ha, _, _, h4⟩ := (edge_gEdges hok _ _ _).1 ((hRe x.2 t x.1).1 ⟨r, h1, h2⟩)
      rw [h4]
      exact ⟨h3, symIx_le _ _, symIx_le _ _⟩
    have hsum : ((endL EN n :: shiftRows 1 R).map List.length).sum ≤ N.arcs.length + N.ends.length := by
      have h1 : ((shiftRows 1 R).map List.length).sum = (R.map List.length).sum := by unfold shiftRows; rw [List.map_map]; congr 1; exact List.map_congr_left fun r _ => by simp
      have h2 : (R.map List.length).sum ≤ N.arcs.length := by rw [hRs]; exact rows_total
      have h3 : (endL EN n).length ≤ N.ends.length := by
        unfold endL
        rw [List.length_map]
        refine Nat.le_trans (filter_le _ (fun s => (N.ends.filter fun a => decide (a.state = (s : Int))).length) (fun s hs => ?_) _) ?_
        · obtain ⟨e, he, h4⟩ := (hend s).1 (by simpa using hs)
          exact List.length_pos_of_mem (List.mem_filter.2 ⟨he, decide_eq_true h4⟩)
        · have := rows_total (key := EndD.state) (f := fun e => e) (n := n) (l := N.ends)
          unfold rowsOf at this
          rw [List.map_map] at this
          simpa [Function.comp_def] using this
      simp only [List.map_cons, List.sum_cons]
      omega
    have hsgl := hsm.sg
    obtain ⟨r9, H9, hd9, hk9, M, hM, m1, m2, m3, m4, m5, m6⟩ := graphNet (n := n + 1) hX8 (by simp [shiftRows, hRl]) (by simp) (by simp) (by omega) (by omega) hsgl (fun r hr e he => by
      rcases List.mem_cons.1 hr with rfl | hr
      · unfold endL at he
        obtain ⟨s, hs, rfl⟩ := List.mem_map.1 he
        have := List.mem_range.1 (List.mem_filter.1 hs).1
        exact ⟨by simp only; omega, by simp only; omega, by simp only; omega⟩
      · unfold shiftRows at hr
        obtain ⟨r0, hr0, rfl⟩ := List.mem_map.1 hr
        obtain ⟨e0, he0, rfl⟩ := List.mem_map.1 he
        obtain ⟨t, ht⟩ := List.mem_iff_getElem?.1 hr0
        have := hsl t e0 ⟨r0, ht, he0⟩
        exact ⟨by simp only [shiftE]; omega, this.2.1, this.2.2⟩) (by omega) hc8.wf
    have k18 : Kept H1 H8 := by
      have a5 : Kept H2 H5 := (hk3.trans hk4).trans hk5
      have a8 : Chg Z H5 H8 := hc.trans hc8
      exact hk2.trans (a5.then (Nat.le_refl _) (a8.weak fun y hy => by
        rw [← hZ] at hy
        rcases hy with hy | hy
        · exact hy.1
        · omega))
    have k19 := k18.trans hk9
    obtain ⟨⟨sgM, arM, enM, rfl, q1, q2, q3⟩⟩ := hM H9 fun y _ => rfl
    obtain ⟨H10, s10, c10, k10, z10, x10⟩ := out k19 q1.isCell (show isCell (.int .i64 M.states) = true from rfl) q2.isCell q3.isCell
    simp only [↓Sh.dn, sx, Nat.reduceBEq, reduceCtorEq, Nat.reduceEqDiff, f5, f7, f43, f44, nat_lt, Nat.lt_irrefl, decide_false]
    refine ⟨_, _, hd8, ?_⟩
    try simp only [↓Sh.dn, sx, Nat.reduceBEq, reduceCtorEq, Nat.reduceEqDiff, f5]
    refine ⟨_, _, hd9, ?_⟩
    simp only [↓Sh.dn, sx, Nat.reduceBEq, reduceCtorEq, Nat.reduceEqDiff, f2, s10, hres, c10, Option.map_some, hr]
    refine ⟨k10, _, rfl, M, ?_, ?_⟩
    · exact hM H10 fun y hy => by
        by_cases hyl : y < H9.next
        · exact z10.old y hyl (by have := k18.next; omega)
        · have e1 := wf_none hk9.wf (y := y) (by omega)
          have e2 := wf_none k10.wf (y := y) (by omega)
          rw [e1, e2]
    · have hnt := noText_out hok
      refine ⟨m1, by rw [m2]; omega, Nat.le_trans m3 hsum, fun a => ?_, fun x => ?_, by omega⟩
      · rw [m4]
        have hsh : ∀ (t : Nat) (r : List GE), (shiftRows 1 R)[t]? = some r ↔ ∃ r0 : List GE, R[t]? = some r0 ∧ r = r0.map (shiftE 1) := fun t r => by
          unfold shiftRows
          rw [List.getElem?_map]
          cases R[t]? with
          | none => simp
          | some r0 => simp [eq_comm]
        have hback : ∀ s t x, edgeIn R t s x ↔ ∃ a ∈ N.arcs, a.fr = (s : Int) ∧ a.to = (t : Int) ∧ x = (symIx N.sigma a.inn, symIx N.sigma a.out, a.cost) := fun s t x => (hRe x t s).trans (edge_gEdges hok s t x)
        have htx : ∀ b ∈ N.arcs, textOf N.sigma (symIx N.sigma b.inn) = b.inn ∧ textOf N.sigma (symIx N.sigma b.out) = b.out := fun b hb => by
          obtain ⟨_, _, _, _, h5, h6⟩ := hok.arc b hb
          exact ⟨textOf_ix hok.asc h5 hnt, textOf_ix hok.asc h6 hnt⟩
        constructor
        · rintro ⟨s, r, h1, e, he, rfl⟩
          cases s with
          | zero =>
            right
            simp only [List.getElem?_cons_zero, Option.some.injEq] at h1
            subst h1
            unfold endL at he
            obtain ⟨s, hs, rfl⟩ := List.mem_map.1 he
            have hs2 := (List.mem_filter.1 hs).2
            refine ⟨s, (hend s).1 (by simpa using hs2), ?_⟩
            have e1 : textOf N.sigma (-1) = ⟨#[]⟩ := if_pos (by omega)
            unfold arcOf
            simp only [e1]
            congr 1
            omega
          | succ t =>
            left
            rw [List.getElem?_cons_succ] at h1
            obtain ⟨r0, h2, rfl⟩ := (hsh t r).1 h1
            obtain ⟨e0, he0, rfl⟩ := List.mem_map.1 he
            obtain ⟨b, hb, h3, h4, h5⟩ := (hback e0.1 t e0.2).1 ⟨r0, h2, he0⟩
            refine ⟨b, hb, ?_⟩
            unfold arcOf shiftE
            simp only [h5, (htx b hb).1, (htx b hb).2, h3, h4]
            congr 1 <;> omega
        · rintro (⟨b, hb, rfl⟩ | ⟨s, hs, rfl⟩)
          · obtain ⟨h1, h2, h3, h4, _⟩ := hok.arc b hb
            have h5 := (hback b.fr.toNat b.to.toNat _).2 ⟨b, hb, by omega, by omega, rfl⟩
            obtain ⟨r0, h6, h7⟩ := h5
            refine ⟨b.to.toNat + 1, r0.map (shiftE 1), by rw [List.getElem?_cons_succ]; exact (hsh _ _).2 ⟨r0, h6, rfl⟩, _, List.mem_map.2 ⟨_, h7, rfl⟩, ?_⟩
            unfold arcOf shiftE
            simp only [(htx b hb).1, (htx b hb).2]
            congr 1 <;> omega
          · have hp := (hend s).2 hs
            have hsn : s < n := by
              obtain ⟨e, he, h4⟩ := hs
              have := hok.fin e he
              omega
            refine ⟨0, endL EN n, rfl, (1 + s, -1, -1, 0), ?_, ?_⟩
            · unfold endL
              exact List.mem_map.2 ⟨s, List.mem_filter.2 ⟨List.mem_range.2 hsn, decide_eq_true hp⟩, rfl⟩
            · have e1 : textOf N.sigma (-1) = ⟨#[]⟩ := if_pos (by omega)
              unfold arcOf
              simp only [e1]
              congr 1
              omega
      · rw [m6]
        constructor
        · rintro ⟨s, h1, h2, rfl⟩
          have hs1 : s = 1 := by
            by_cases h : s = 1
            · exact h
            · exfalso
              simp [List.getD, List.getElem?_set, List.getElem?_replicate, Ne.symm h, h1] at h2
          subst hs1
          simp [List.getD, List.getElem?_replicate, h1]
        · rintro rfl
          refine ⟨1, by omega, ?_, ?_⟩
          · simp [List.getD, List.getElem?_set, show (1 : Nat) < n + 1 by omega]
          · simp [List.getD, List.getElem?_replicate, show (1 : Nat) < n + 1 by omega]
end Go.Proofs.YtfcmpclbhnjkgaaGreat
/- The reference's Reverse: its error. -/
set_option maxHeartbeats 4000000
set_option maxRecDepth 20000
set_option linter.unusedSimpArgs false
set_option linter.unusedVariables false
set_option pp.deepTerms.threshold 8
namespace Go.Proofs.YtfcmpclbhnjkgaaGreat
open Go Go.Proofs Go.Proofs.Sh
def refRevErr (N : NetD) : Int := if accErr N ≠ 0 then accErr N else if 3000 ≤ N.states ∨ 60000 < N.arcs.length + N.ends.length then 3 else 0
/-- A value of a net's shape. -/
def NetV (v : Value) : Prop := ∃ a m c d, v = .agg #[a, .int .i64 m, c, d] ∧ isCell a = true ∧ isCell c = true ∧ isCell d = true
theorem refReverse {H : AH} {v : Value} {N : NetD} (h : NetAt H v N) (hsm : NetSmall N) (hw : Wf H) :
    Sh.Call Tryz.prog (knows 10) 23 [v] H (fun r H' => Kept H H' ∧ ∃ mv, r = .tuple #[mv, .int .i64 (refRevErr N)] ∧ NetV mv) := by
  refine call_of rfl Tryz.func23 rfl (Nat.le_of_ble_eq_true rfl) ?_
  have hres : Tryz.f23.results.toList = [.cell 2 26, .tmp 3] := rfl
  obtain ⟨sg, ar, en, rfl, hsg, har, hen⟩ := h
  have hb1 := NetBox.of (N := N) hw hsg har hen
  have hk1 : Kept H (H.new 4 [sg, .int .i64 N.states, ar, en]).2 := Kept.new hw 4 _
  simp only [↓Sh.dn, sx, Nat.reduceBEq, reduceCtorEq, Nat.reduceEqDiff, netNew hsg.isCell har.isCell hen.isCell, netZero]
  have e0 : H.next ≤ (H.new 4 [sg, .int .i64 N.states, ar, en]).2.next := Nat.le_succ _
  obtain ⟨gg, hgg⟩ : ∃ gg, H.next = gg := ⟨_, rfl⟩
  rw [hgg] at hb1
  generalize (H.new 4 [sg, .int .i64 N.states, ar, en]).2 = H0 at hb1 hk1 e0 ⊢
  have hb0 := hb1.new hk1.wf 4 [.slice none 0 0, .int .i64 0, .slice none 0 0, .slice none 0 0]
  have k0 := hk1.news 4 [.slice none 0 0, .int .i64 0, .slice none 0 0, .slice none 0 0]
  have o0 := Sh.Obj.new (H := H0) 4 [.slice none 0 0, .int .i64 0, .slice none 0 0, .slice none 0 0]
  have x0 : H0.next < (H0.new 4 [.slice none 0 0, .int .i64 0, .slice none 0 0, .slice none 0 0]).2.next := Nat.lt_succ_self _
  obtain ⟨go, hgo⟩ : ∃ y, H0.next = y := ⟨_, rfl⟩
  rw [hgo] at o0 x0
  generalize (H0.new 4 [.slice none 0 0, .int .i64 0, .slice none 0 0, .slice none 0 0]).2 = H1 at hb0 k0 o0 x0 ⊢
  obtain ⟨r, H2, hd2, hk2, rfl⟩ := refValidate hb0.netAt hsm k0.wf
  have hb2 := hb0.kept k0.wf hk2
  simp only [↓Sh.dn, sx, Nat.reduceBEq, reduceCtorEq, Nat.reduceEqDiff, hgg, hgo, hb0.c0, hb0.c1, hb0.c2, hb0.c3, hb0.ca, netLenS hb0, netLenA hb0, netLenE hb0, Option.map_some]
  refine ⟨_, _, hd2, ?_⟩
  have out : ∀ {H' : AH} {a b c d : Value}, Kept H1 H' → isCell a = true → isCell b = true → isCell c = true → isCell d = true → ∃ H'', astore Tryz.prog 26 H' (.agg #[a, b, c, d]) (.pointer (some ⟨go, 0, some 0⟩)) = some H'' ∧ H''.cells ⟨go, 0, some 0⟩ 4 = some [a, b, c, d] ∧ Kept H H'' := by
    intro H' a b c d hk ha hb hc hd
    have o0' : Sh.Obj H' go 4 [.slice none 0 0, .int .i64 0, .slice none 0 0, .slice none 0 0] true := by
      unfold Sh.Obj at o0 ⊢
      rw [hk.old go x0]; exact o0
    obtain ⟨H6, w6, ar6, v6, z6⟩ := o0'.arr.write hk.wf (i := 0) (vs := [a, b, c, d]) (by simp)
    have sc6 : setCells [.slice none 0 0, .int .i64 0, .slice none 0 0, .slice none 0 0] 0 [a, b, c, d] = [a, b, c, d] := rfl
    rw [sc6] at ar6
    refine ⟨H6, ?_, ar6.cells (i := 0) (n := 4) (by simp), (k0.trans hk).then (Nat.le_trans e0 (Nat.le_of_eq hgo)) (z6.weak fun y hy => by omega)⟩
    rw [store_agg (vs := [a, b, c, d]) size_26 rfl (by simp [ha, hb, hc, hd])]
    exact w6
  have bz : abuild Tryz.prog 26 [] = some (.agg #[.slice none 0 0, .int .i64 0, .slice none 0 0, .slice none 0 0]) := by
    have va : ∀ xs : Array Value, vcells (.agg xs) = xs.toList := fun _ => rfl
    refine build_struct (pl := [(0, 1), (1, 1), (2, 1), (3, 1)]) Tryz.underlying26 zero_26 (by kernel_rfl) ?_
    simp [fillA, va]
  obtain ⟨Hz, sz, cz, kz⟩ := out (a := .slice none 0 0) (b := .int .i64 0) (c := .slice none 0 0) (d := .slice none 0 0) hk2 rfl rfl rfl rfl
  by_cases hA : accErr N = 0
  case neg =>
    have hr : refRevErr N = accErr N := by unfold refRevErr; rw [if_pos hA]
    simp only [↓Sh.dn, sx, Nat.reduceBEq, reduceCtorEq, Nat.reduceEqDiff, hA, decide_false, bz, sz, hres, cz, Option.map_some, hr, kz]
    exact ⟨_, rfl, _, _, _, _, rfl, rfl, rfl, rfl⟩
  have hok := accErr_ok hA
  have hst1 := hok.st1
  have hst2 := hok.st2
  have hsa := hsm.ar
  have hse := hsm.en
  have wa : IntKind.wrap .i64 ((N.arcs.length : Int) + (N.ends.length : Int)) = ((N.arcs.length + N.ends.length : Nat) : Int) := by rw [wrap64 (by omega) (by omega)]; omega
  have d60 : decide ((60000 : Int) < ((N.arcs.length + N.ends.length : Nat) : Int)) = decide (60000 < N.arcs.length + N.ends.length) := decide_eq_decide.2 (by omega)
  simp only [↓Sh.dn, sx, Nat.reduceBEq, reduceCtorEq, Nat.reduceEqDiff, hA, decide_true, hb2.c0, hb2.c1, hb2.c2, hb2.c3, hb2.ca, netLenS hb2, netLenA hb2, netLenE hb2]
  by_cases h3 : 3000 ≤ N.states
  · have hr : refRevErr N = 3 := by unfold refRevErr; rw [if_neg (by simpa using hA), if_pos (.inl h3)]
    simp only [↓Sh.dn, sx, Nat.reduceBEq, reduceCtorEq, Nat.reduceEqDiff, h3, decide_true, bz, sz, hres, cz, Option.map_some, hr, kz]
    exact ⟨_, rfl, _, _, _, _, rfl, rfl, rfl, rfl⟩
  simp only [↓Sh.dn, sx, Nat.reduceBEq, reduceCtorEq, Nat.reduceEqDiff, h3, decide_false, hb2.c0, hb2.c1, hb2.c2, hb2.c3, hb2.ca, netLenS hb2, netLenA hb2, netLenE hb2, wa, d60]
  by_cases h6 : 60000 < N.arcs.length + N.ends.length
  · have hr : refRevErr N = 3 := by unfold refRevErr; rw [if_neg (by simpa using hA), if_pos (.inr h6)]
    simp only [↓Sh.dn, sx, Nat.reduceBEq, reduceCtorEq, Nat.reduceEqDiff, h6, decide_true, bz, sz, hres, cz, Option.map_some, hr, kz]
    exact ⟨_, rfl, _, _, _, _, rfl, rfl, rfl, rfl⟩
  have hr : refRevErr N = 0 := by unfold refRevErr; rw [if_neg (by simpa using hA), if_neg (by simp [h3, h6])]
  try simp only [↓Sh.dn, sx, Nat.reduceBEq, reduceCtorEq, Nat.reduceEqDiff, h6, decide_false, hb2.c0, hb2.c1, hb2.c2, hb2.c3, hb2.ca, netLenS hb2, netLenA hb2, netLenE hb2]
  refine wp_early (fl := [(0, true), (1, false), (3, true), (4, false), (5, true), (6, true), (7, false), (9, false), (2, false), (8, true), (10, true)]) (by kernel_rfl) (by kernel_rfl) hk2.wf ?_
  obtain ⟨n, hn⟩ : ∃ n : Nat, N.states = (n : Int) := ⟨N.states.toNat, by omega⟩
  have wn : IntKind.wrap .i64 (N.states + 1) = ((n + 1 : Nat) : Int) := by rw [wrap64 (by omega) (by omega)]; omega
  have va : ∀ xs : Array Value, vcells (.agg xs) = xs.toList := fun _ => rfl
  have be : abuild Tryz.prog 56 [(0, .int .i64 1)] = some (.agg (EndD.cells ⟨1, 0⟩).toArray) := by
    refine build_struct (pl := [(0, 1), (1, 1)]) Tryz.underlying56 zero_56 (by kernel_rfl) ?_
    simp [fillA, va, EndD.cells, isCell, setCells, vcells, beq_dec, ble_dec]
  have hbs : ∀ K : AH, abuildSlice Tryz.prog 24 1 [(0, .agg (EndD.cells ⟨1, 0⟩).toArray)] K = some (.slice (some ⟨K.next, 0, some 0⟩) 1 1, (K.new 2 (EndD.cells ⟨1, 0⟩)).2) := fun K => by
    have := build1_24 (H := K) (x := .agg (EndD.cells ⟨1, 0⟩).toArray) rfl rfl
    simpa only [va] using this
  have hsv := hb2.hsg.veq
  have bf1 : Buf (H2.new 2 (EndD.cells ⟨1, 0⟩)).2 2 (.slice (some ⟨H2.next, 0, some 0⟩) 1 1) ([(⟨1, 0⟩ : EndD)].map EndD.cells) (some H2.next) := Buf.fresh (H := H2) (s := 2) (xs := [EndD.cells ⟨1, 0⟩]) hk2.wf (by intro x hx; rw [List.mem_singleton.1 hx]; rfl) (by simp) 1 rfl
  have ka := Kept.new hk2.wf 2 (EndD.cells ⟨1, 0⟩)
  have ma : ∀ x, (H2.new 2 (EndD.cells ⟨1, 0⟩)).2.objs.get H2.next = some x → objEq x x = true := by
    intro x hx
    have := Sh.Obj.new (H := H2) 2 (EndD.cells ⟨1, 0⟩)
    unfold Sh.Obj at this
    rw [this] at hx
    injection hx with hx
    subst hx
    simp [objEq, rowEq, veqs_cons, veqs_nil, veq_int, EndD.cells]
  have na : H2.next < (H2.new 2 (EndD.cells ⟨1, 0⟩)).2.next := Nat.lt_succ_self _
  obtain ⟨Ka, hKa⟩ : ∃ K, (H2.new 2 (EndD.cells ⟨1, 0⟩)).2 = K := ⟨_, rfl⟩
  rw [hKa] at bf1 ka ma na
  have kb := Kept.new ka.wf 4 [.slice none 0 0, .int .i64 0, .slice none 0 0, .slice none 0 0]
  have ob := Sh.Obj.new (H := Ka) 4 [.slice none 0 0, .int .i64 0, .slice none 0 0, .slice none 0 0]
  have xb : Ka.next < (Ka.new 4 [.slice none 0 0, .int .i64 0, .slice none 0 0, .slice none 0 0]).2.next := Nat.lt_succ_self _
  have mb : ∀ x, (Ka.new 4 [.slice none 0 0, .int .i64 0, .slice none 0 0, .slice none 0 0]).2.objs.get Ka.next = some x → objEq x x = true := by
    intro x hx
    have := ob
    unfold Sh.Obj at this
    rw [this] at hx
    injection hx with hx
    subst hx
    simp [objEq, rowEq, veqs_cons, veqs_nil, veq_slice, veq_int]
  have nz := netZero (H := Ka)
  obtain ⟨Kb, hKb⟩ : ∃ K, (Ka.new 4 [.slice none 0 0, .int .i64 0, .slice none 0 0, .slice none 0 0]).2 = K := ⟨_, rfl⟩
  rw [hKb] at kb ob xb mb nz
  have kab := ka.trans kb
  have hsb := (hb2.kept hk2.wf kab).hsg
  obtain ⟨v', Kc, b', e1, e2, e3, e4⟩ := (Buf.void (H := Kb) (s := 1) none).append kb.wf (xs := N.sigma.map strCell) (by intro x hx; obtain ⟨b, _, rfl⟩ := List.mem_map.1 hx; rfl)
  have happ := app_22 (base := none) (len := 0) (cap := 0) (hsb.srcKind Tryz.underlying22) hsb.newCells (by rw [List.length_map]; have := hsm.sg; omega)
  rw [e1] at happ
  have kc : Kept Kb Kc := e3.kept fun g hg h => by cases h
  rw [List.nil_append] at e2
  have hos : ∀ y, b' = some y → Kb.next ≤ y := by
    intro y hy
    rcases e4 with h4 | ⟨h4, h5⟩
    · rw [h4] at hy; cases hy
    · rw [h4] at hy; rw [← Option.some.inj hy]; exact Nat.le_refl _
  have kac := kab.trans kc
  have ic := e2.isCell
  have bq : abuild Tryz.prog 26 [(0, v'), (1, .int .i64 ((n + 1 : Nat) : Int)), (3, .slice (some ⟨H2.next, 0, some 0⟩) 1 1)] = some (.agg #[v', .int .i64 ((n + 1 : Nat) : Int), .slice none 0 0, .slice (some ⟨H2.next, 0, some 0⟩) 1 1]) := by
    have hci : isCell (.int .i64 ((n + 1 : Nat) : Int)) = true := rfl
    have hcs : isCell (.slice (some ⟨H2.next, 0, some 0⟩) 1 1) = true := rfl
    refine build_struct (pl := [(0, 1), (1, 1), (2, 1), (3, 1)]) Tryz.underlying26 zero_26 (by kernel_rfl) ?_
    generalize n + 1 = m at hci ⊢
    simp [fillA, va, cell_vcells ic, cell_vcells hci, cell_vcells hcs, ic, hci, hcs, setCells, beq_dec, ble_dec]
  have arKc := ob.arr.keep (kc.old Ka.next xb)
  obtain ⟨Kd, w3, ar3, v3, z3⟩ := arKc.write kc.wf (i := 0) (vs := [v', .int .i64 ((n + 1 : Nat) : Int), .slice none 0 0, .slice (some ⟨H2.next, 0, some 0⟩) 1 1]) (by simp)
  have sc : setCells [.slice none 0 0, .int .i64 0, .slice none 0 0, .slice none 0 0] 0 [v', .int .i64 ((n + 1 : Nat) : Int), .slice none 0 0, .slice (some ⟨H2.next, 0, some 0⟩) 1 1] = [v', .int .i64 ((n + 1 : Nat) : Int), .slice none 0 0, .slice (some ⟨H2.next, 0, some 0⟩) 1 1] := rfl
  rw [sc] at ar3
  have st3 := netStore (H := Kc) (n := ((n + 1 : Nat) : Int)) (p := ⟨Ka.next, 0, some 0⟩) ic (show isCell (.slice none 0 0) = true from rfl) (show isCell (.slice (some ⟨H2.next, 0, some 0⟩) 1 1) = true from rfl)
  rw [w3] at st3
  have kad : Kept H2 Kd := kac.then (Nat.le_refl _) (z3.weak fun y hy => by omega)
  have nb0 : NB Kd H2.next Ka.next v' (.slice none 0 0) (.slice (some ⟨H2.next, 0, some 0⟩) 1 1) b' none (some H2.next) (n + 1) N.sigma [] [⟨1, 0⟩] :=
    ⟨ar3, e2.chg kc.wf z3 fun y hy e => by have := hos y hy; omega, .void none, ((bf1.kept ka.wf kb).kept kb.wf kc).chg kc.wf z3 fun y hy e => by have := Option.some.inj hy; omega, by omega, fun y hy => by have := hos y hy; exact ⟨by omega, by omega⟩, fun y hy => (by cases hy), fun y hy => by
      have := Option.some.inj hy
      exact ⟨by omega, by omega, fun h => by have := hos y h; omega, fun h => by cases h⟩⟩
  simp only [↓Sh.dn, sx, Nat.reduceBEq, reduceCtorEq, Nat.reduceEqDiff, wpg, Still, isEff, isMake, isRead, veq_ptr, veq_int, veq_str, veq_bool, veq_undef, forall_eq, forall_eq', hb2.c0, hb2.c1, hb2.c2, hb2.c3, hb2.ca, netLenS hb2, netLenA hb2, netLenE hb2, be, hbs, hsv, hKa, ma, nz, hKb, mb, happ, kc.wf, kc.grow kb.wf, wn, bq, st3, Option.map_some, kad.wf]
  obtain ⟨base, hbase⟩ : ∃ b, H2.next = b := ⟨_, rfl⟩
  obtain ⟨gb, hgb⟩ : ∃ b, Ka.next = b := ⟨_, rfl⟩
  rw [hbase, hgb] at nb0
  rw [hbase] at ma
  rw [hgb] at mb
  try simp only [hbase, hgb]
  refine ⟨ma, mb, ?_⟩
  refine wp_for N.arcs.length 6 (List.range' 38 29 ++ [6, 7]) (fun i F H' => Kept H2 H' ∧ ∃ av' oa arcs, NB H' base gb v' av' (.slice (some ⟨base, 0, some 0⟩) 1 1) b' oa (some base) (n + 1) N.sigma arcs [⟨1, 0⟩] ∧ arcs.length = i) (by simp only [↓Sh.dn, sx, Nat.reduceBEq, reduceCtorEq, Nat.reduceEqDiff]) ⟨kad, _, none, [], nb0, rfl⟩ ?_ ?_
  · rintro i F H' hi hF f6 ⟨hk, av', oa, arcs, hN, hal⟩ k
    have f1 := hF 1 rfl
    have f5 := hF 5 rfl
    simp only [↓Sh.dn, sx, Nat.reduceBEq, reduceCtorEq, Nat.reduceEqDiff, hgb] at f1 f5
    have hb' := hb2.kept hk2.wf hk
    have hb3 := hb'.new hk.wf 5 (N.arcs[i].cells)
    have kn := Kept.new hk.wf 5 (N.arcs[i].cells)
    obtain ⟨g, o, kk, hia, hc, hcc⟩ := hb'.har.at Tryz.underlying23 size_54 (i := i) (x := N.arcs[i].cells) (by simp [hi]) .i64
    clear hcc
    obtain ⟨p1, p2, p3, p4, _⟩ := hok.arc N.arcs[i] (List.getElem_mem hi)
    generalize N.arcs[i] = a at hb3 kn hc p1 p2 p3 p4
    have hN3 := hN.kept hk.wf kn
    have bx2 := hN3.bx.cell 2
    have w1 : IntKind.wrap .i64 (a.to + 1) = a.to + 1 := wrap64 (by omega) (by omega)
    have w2 : IntKind.wrap .i64 (a.fr + 1) = a.fr + 1 := wrap64 (by omega) (by omega)
    obtain ⟨b, cap, av2, K7, K8, oa', rfl, q2, q3, q4, hN8, c8, new8⟩ := hN3.pushArc kn.wf ⟨a.to + 1, a.inn, a.out, a.fr + 1, 0⟩ (by omega)
    have bl : abuild Tryz.prog 54 [(0, .int .i64 (a.to + 1)), (1, .string a.inn), (2, .string a.out), (3, .int .i64 (a.fr + 1))] = some (.agg (ArcD.cells ⟨a.to + 1, a.inn, a.out, a.fr + 1, 0⟩).toArray) := by
      refine build_struct (pl := [(0, 1), (1, 1), (2, 1), (3, 1), (4, 1)]) Tryz.underlying54 zero_54 (by kernel_rfl) ?_
      simp [fillA, va, ArcD.cells, isCell, setCells, vcells, beq_dec, ble_dec]
    simp only [↓Sh.dn, sx, Nat.reduceBEq, reduceCtorEq, Nat.reduceEqDiff, hb'.c0, hb'.c1, hb'.c2, hb'.c3, hb'.ca, netLenS hb', netLenA hb', netLenE hb', netZero, arcZero, endZero, arcNew, endNew, arcStore, endStore, arcOver, endOver, netOver, arc0, arc1, arc2, arc3, arc4, end0, end1, f1, f5, f6, Option.map_some, nat_lt, hi, decide_true, hia, hc]
    simp only [↓Sh.dn, sx, Nat.reduceBEq, reduceCtorEq, Nat.reduceEqDiff, netZero, arcZero, endZero, arcNew, endNew, arcStore, endStore, arcOver, endOver, netOver, arc0, arc1, arc2, arc3, arc4, end0, end1, f5, f6, bx2, w1, w2, bl, q2, q3, q4, wrap_succ' hi (by omega)]
    refine k _ _ (by repeat (first | refine Same.put ?_ rfl | exact Same.rfl' _)) (by simp only [↓Sh.dn, sx, Nat.reduceBEq, reduceCtorEq, Nat.reduceEqDiff]) ⟨(hk.trans kn).then (Nat.le_refl _) (c8.weak fun y hy => by omega), _, oa', _, hN8, by simp [hal]⟩
  · rintro F H' hF f6 ⟨hk, av', oa, arcs, hN, hal⟩
    have f1 := hF 1 rfl
    have f2 := hF 2 rfl
    have f5 := hF 5 rfl
    simp only [↓Sh.dn, sx, Nat.reduceBEq, reduceCtorEq, Nat.reduceEqDiff, hgb] at f1 f2 f5
    have hb' := hb2.kept hk2.wf hk
    simp only [↓Sh.dn, sx, Nat.reduceBEq, reduceCtorEq, Nat.reduceEqDiff, hb'.c0, hb'.c1, hb'.c2, hb'.c3, hb'.ca, netLenS hb', netLenA hb', netLenE hb', f1, f6, nat_lt, Nat.lt_irrefl, decide_false]
    refine wp_for N.ends.length 8 (List.range' 66 20 ++ [8]) (fun i F H' => Kept H2 H' ∧ ∃ av' oa arcs, NB H' base gb v' av' (.slice (some ⟨base, 0, some 0⟩) 1 1) b' oa (some base) (n + 1) N.sigma arcs [⟨1, 0⟩] ∧ arcs.length = N.arcs.length + i) (by simp only [↓Sh.dn, sx, Nat.reduceBEq, reduceCtorEq, Nat.reduceEqDiff]) ⟨hk, _, oa, arcs, hN, by omega⟩ ?_ ?_
    · rintro i F' H'' hi hF' f8 ⟨hk', av', oa, arcs, hN, hal⟩ k
      have g1 := hF' 1 rfl
      have g5 := hF' 5 rfl
      simp only [↓Sh.dn, sx, Nat.reduceBEq, reduceCtorEq, Nat.reduceEqDiff, f1, f5] at g1 g5
      have hb3 := hb2.kept hk2.wf hk'
      obtain ⟨g, o, kk, hia, hc, hcc⟩ := hb3.hen.at Tryz.underlying24 size_56 (i := i) (x := N.ends[i].cells) (by simp [hi]) .i64
      have hc0 := hcc 0 (.int .i64 N.ends[i].state) rfl
      simp only [Nat.add_zero] at hc0
      clear hcc
      obtain ⟨p1, p2⟩ := hok.fin N.ends[i] (List.getElem_mem hi)
      generalize N.ends[i] = a at hc hc0 p1 p2
      have bx2 := hN.bx.cell 2
      have w1 : IntKind.wrap .i64 (a.state + 1) = a.state + 1 := wrap64 (by omega) (by omega)
      obtain ⟨b, cap, av2, K7, K8, oa', rfl, q2, q3, q4, hN8, c8, new8⟩ := hN.pushArc hk'.wf ⟨0, ⟨#[]⟩, ⟨#[]⟩, a.state + 1, 0⟩ (by omega)
      have bl : abuild Tryz.prog 54 [(0, .int .i64 0), (3, .int .i64 (a.state + 1))] = some (.agg (ArcD.cells ⟨0, ⟨#[]⟩, ⟨#[]⟩, a.state + 1, 0⟩).toArray) := by
        refine build_struct (pl := [(0, 1), (1, 1), (2, 1), (3, 1), (4, 1)]) Tryz.underlying54 zero_54 (by kernel_rfl) ?_
        simp [fillA, va, ArcD.cells, isCell, setCells, vcells, beq_dec, ble_dec]
      simp only [↓Sh.dn, sx, Nat.reduceBEq, reduceCtorEq, Nat.reduceEqDiff, hb3.c0, hb3.c1, hb3.c2, hb3.c3, hb3.ca, netLenS hb3, netLenA hb3, netLenE hb3, g1, g5, f8, nat_lt, hi, decide_true]
      refine wp_pend (fl := [(0, []), (1, []), (2, []), (3, []), (4, []), (5, []), (6, []), (7, []), (8, []), (9, []), (10, []), (11, []), (12, []), (13, [])]) (by kernel_rfl) (by kernel_rfl) (by kernel_rfl) ?_
      simp only [↓Sh.dn, sx, Nat.reduceBEq, reduceCtorEq, Nat.reduceEqDiff, wpr, again, isMake, veq_ptr, veq_int, veq_str, veq_bool, veq_undef, veq_slice, forall_eq, forall_eq', hb3.c0, hb3.c1, hb3.c2, hb3.c3, hb3.ca, netLenS hb3, netLenA hb3, netLenE hb3, g1, g5, f8, hia, hc0, bx2, w1, bl, q2, q3, q4, wrap_succ' hi (by omega)]
      refine k _ _ (by repeat (first | refine Same.put ?_ rfl | exact Same.rfl' _)) (by simp only [↓Sh.dn, sx, Nat.reduceBEq, reduceCtorEq, Nat.reduceEqDiff]) ⟨hk'.then (Nat.le_refl _) (c8.weak fun y hy => by omega), _, oa', _, hN8, by simp [hal]; omega⟩
    · rintro F' H'' hF' f8 ⟨hk', av', oa, arcs, hN, hal⟩
      have g1 := hF' 1 rfl
      have g2 := hF' 2 rfl
      have g5 := hF' 5 rfl
      simp only [↓Sh.dn, sx, Nat.reduceBEq, reduceCtorEq, Nat.reduceEqDiff, f1, f2, f5] at g1 g2 g5
      have hb3 := hb2.kept hk2.wf hk'
      have hca := hN.bx.cells (i := 0) (n := 4) (by simp)
      obtain ⟨Hz, sz, cz, kz⟩ := out (a := v') (b := .int .i64 ((n + 1 : Nat) : Int)) (c := av') (d := .slice (some ⟨base, 0, some 0⟩) 1 1) (hk2.trans hk') ic rfl hN.ar.isCell rfl
      simp only [↓Sh.dn, sx, Nat.reduceBEq, reduceCtorEq, Nat.reduceEqDiff, hb3.c0, hb3.c1, hb3.c2, hb3.c3, hb3.ca, netLenS hb3, netLenA hb3, netLenE hb3, g1, g2, g5, f8, nat_lt, Nat.lt_irrefl, decide_false, hca, Option.map_some, List.drop_zero, List.take_succ_cons, List.take_zero, sz, hres, cz, hr, kz]
      exact ⟨_, rfl, _, _, _, _, rfl, ic, hN.ar.isCell, rfl⟩
end Go.Proofs.YtfcmpclbhnjkgaaGreat
/- Whether lists of texts are equal; a text is put into a list; ascending lists. -/
set_option maxHeartbeats 4000000
set_option maxRecDepth 20000
set_option linter.unusedSimpArgs false
set_option linter.unusedVariables false
set_option pp.deepTerms.threshold 8
namespace Go.Proofs.YtfcmpclbhnjkgaaGreat
open Go Go.Proofs Go.Proofs.Sh
theorem refOrder {H : AH} {v u : Value} {l m : List ByteArray} (hl : Sl H v 1 (l.map strCell)) (hm : Sl H u 1 (m.map strCell)) (hll : l.length ≤ 1048576) (hml : m.length ≤ 1048576) (hw : Wf H) :
    Sh.Call Tryz.prog (knows 10) 48 [v, u] H (fun r H' => H' = H ∧ ∃ k : Int, r = .int .i64 k ∧ (k = 0 ↔ l = m)) := by
  refine call_of rfl Tryz.func48 rfl (Nat.le_of_ble_eq_true rfl) ?_
  have hres : Tryz.f48.results.toList = [.tmp 4] := rfl
  have hlen := fun H' => hl.len Tryz.underlying22 H'
  have mlen := fun H' => hm.len Tryz.underlying22 H'
  simp only [List.length_map] at hlen mlen
  simp only [↓Sh.dn, sx, Nat.reduceBEq, reduceCtorEq, Nat.reduceEqDiff]
  have hmin : min l.length m.length ≤ 1048576 := by omega
  refine wp_for (min l.length m.length) 5 (List.range' 5 31) (fun i F H' => H' = H ∧ l.take i = m.take i) (by simp only [↓Sh.dn, sx, Nat.reduceBEq, reduceCtorEq, Nat.reduceEqDiff]) ⟨rfl, rfl⟩ ?_ ?_
  · rintro i F H' hi hF f5 ⟨rfl, htk⟩ k
    have f0 := hF 0 rfl
    have f1 := hF 1 rfl
    simp only [↓Sh.dn, sx, Nat.reduceBEq, reduceCtorEq, Nat.reduceEqDiff] at f0 f1
    have hi1 : i < l.length := by omega
    have hi2 : i < m.length := by omega
    obtain ⟨p1, hia1, hc1⟩ := Sl.elem (s := 1) Tryz.underlying22 size_9 hl (i := i) (u := .string l[i]) (by rw [List.getElem?_map, List.getElem?_eq_getElem hi1]; rfl)
    obtain ⟨p2, hia2, hc2⟩ := Sl.elem (s := 1) Tryz.underlying22 size_9 hm (i := i) (u := .string m[i]) (by rw [List.getElem?_map, List.getElem?_eq_getElem hi2]; rfl)
    have hne : l[i] ≠ m[i] → l ≠ m := fun h e => by subst e; exact h rfl
    have ht1 : l.take (i + 1) = l.take i ++ [l[i]] := by rw [List.take_add_one, List.getElem?_eq_getElem hi1]; rfl
    have ht2 : m.take (i + 1) = m.take i ++ [m[i]] := by rw [List.take_add_one, List.getElem?_eq_getElem hi2]; rfl
    generalize l[i] = x at hc1 hne ht1
    generalize m[i] = y at hc2 hne ht2
    simp only [↓Sh.dn, sx, Nat.reduceBEq, reduceCtorEq, Nat.reduceEqDiff, f0, f1, f5, hlen, mlen, nat_lt, hi1, hi2, decide_true, hia1, hc1, hia2, hc2]
    cases hlt : strLt x y with
    | true =>
      have hxy : x ≠ y := fun e => by rw [e, strLt_irrefl] at hlt; cases hlt
      simp only [↓Sh.dn, sx, Nat.reduceBEq, reduceCtorEq, Nat.reduceEqDiff, hres]
      exact ⟨_, rfl, by simp [hne hxy]⟩
    | false =>
      by_cases hxy : x = y
      · simp only [↓Sh.dn, sx, Nat.reduceBEq, reduceCtorEq, Nat.reduceEqDiff, f0, f1, f5, hia1, hc1, hia2, hc2, hlt, hxy, decide_true, strLt_irrefl, wrap_succ hi hmin]
        exact k _ _ (by repeat (first | refine Same.put ?_ rfl | exact Same.rfl' _)) (by simp only [↓Sh.dn, sx, Nat.reduceBEq, reduceCtorEq, Nat.reduceEqDiff]) ⟨rfl, by rw [ht1, ht2, htk, hxy]⟩
      · simp only [↓Sh.dn, sx, Nat.reduceBEq, reduceCtorEq, Nat.reduceEqDiff, f0, f1, f5, hia1, hc1, hia2, hc2, hlt, hxy, decide_false, hres]
        exact ⟨_, rfl, by simp [hne hxy]⟩
  · rintro F H' hF f5 ⟨rfl, htk⟩
    have f0 := hF 0 rfl
    have f1 := hF 1 rfl
    simp only [↓Sh.dn, sx, Nat.reduceBEq, reduceCtorEq, Nat.reduceEqDiff] at f0 f1
    by_cases h1 : l.length < m.length
    · have e : min l.length m.length = l.length := by omega
      have hne : l ≠ m := fun e => by rw [e] at h1; omega
      rw [e] at f5
      simp only [↓Sh.dn, sx, Nat.reduceBEq, reduceCtorEq, Nat.reduceEqDiff, f0, f1, f5, hlen, mlen, nat_lt, Nat.lt_irrefl, h1, decide_true, decide_false, hres]
      exact ⟨_, rfl, by simp [hne]⟩
    · have e : min l.length m.length = m.length := by omega
      rw [e] at f5 htk
      by_cases h2 : m.length < l.length
      · have hne : l ≠ m := fun e => by rw [e] at h2; omega
        simp only [↓Sh.dn, sx, Nat.reduceBEq, reduceCtorEq, Nat.reduceEqDiff, f0, f1, f5, hlen, mlen, nat_lt, Nat.lt_irrefl, h1, h2, decide_true, decide_false, hres]
        exact ⟨_, rfl, by simp [hne]⟩
      · have heq : l = m := by
          rw [List.take_length, List.take_of_length_le (by omega)] at htk
          exact htk
        simp only [↓Sh.dn, sx, Nat.reduceBEq, reduceCtorEq, Nat.reduceEqDiff, f0, f1, f5, hlen, mlen, nat_lt, Nat.lt_irrefl, h1, h2, decide_true, decide_false, hres]
        exact ⟨_, rfl, by simp [heq]⟩
theorem refSame {H : AH} {v u : Value} {l m : List ByteArray} (hl : Sl H v 1 (l.map strCell)) (hm : Sl H u 1 (m.map strCell)) (hll : l.length ≤ 1048576) (hml : m.length ≤ 1048576) (hw : Wf H) :
    Sh.Call Tryz.prog (knows 10) 20 [v, u] H (fun r H' => H' = H ∧ r = .bool (decide (l = m))) := by
  refine call_of rfl Tryz.func20 rfl (Nat.le_of_ble_eq_true rfl) ?_
  have hres : Tryz.f20.results.toList = [.tmp 4] := rfl
  obtain ⟨r, H1, hd, rfl, k, rfl, hk⟩ := refOrder hl hm hll hml hw
  simp only [↓Sh.dn, sx, Nat.reduceBEq, reduceCtorEq, Nat.reduceEqDiff]
  refine ⟨_, _, hd, ?_⟩
  have : decide (k = 0) = decide (l = m) := decide_eq_decide.2 hk
  simp only [↓Sh.dn, sx, Nat.reduceBEq, reduceCtorEq, Nat.reduceEqDiff, hres, this]
/-- A list of texts in a slice of its own. -/
structure LS (H : AH) (base : Nat) (z : Value) (l : List ByteArray) (ob : Option Nat) : Prop where
  bf : Buf H 1 z (l.map strCell) ob
  fr : ∀ y, ob = some y → base ≤ y
theorem LS.void (H : AH) (base : Nat) : LS H base (.slice none 0 0) [] none := ⟨.void none, fun y hy => by cases hy⟩
theorem LS.kept {H H' : AH} {base : Nat} {z : Value} {l : List ByteArray} {ob : Option Nat} (h : LS H base z l ob) (hw : Wf H) (hk : Kept H H') : LS H' base z l ob := ⟨h.bf.kept hw hk, h.fr⟩
theorem pushStr {base : Nat} {H' : AH} {z : Value} {ob : Option Nat} {l : List ByteArray} (x : ByteArray) (hb : base ≤ H'.next) (hw : Wf H') (hl : LS H' base z l ob) (hn : l.length ≤ 1073741823) :
    ∃ a cap w' H4 ob', z = .slice a l.length cap ∧ abuildSlice Tryz.prog 22 1 [(0, .string x)] H' = some (.slice (some ⟨H'.next, 0, some 0⟩) 1 1, (H'.new 1 [.string x]).2) ∧
        abuiltin Tryz.prog .append [22, 22] [.slice a l.length cap, .slice (some ⟨H'.next, 0, some 0⟩) 1 1] (H'.new 1 [.string x]).2 = some (w', H4) ∧
        LS H4 base w' (l ++ [x]) ob' ∧ Chg (fun y => ob = some y) H' H4 := by
  obtain ⟨a, cap, w', H4, ob', e1, e2, e3, e4, e5⟩ := hl.bf.push hw (x := strCell x) rfl
  rw [List.length_map] at e1 e2
  have ha := app1_22 (H := H') (base := a) (len := l.length) (cap := cap) (x := strCell x) rfl hn
  rw [e2] at ha
  refine ⟨a, cap, w', H4, ob', e1, build1_22 (H := H') (x := .string x) rfl rfl, ha, ⟨by rw [List.map_append]; exact e3, fun y hy => ?_⟩, e4⟩
  rcases e5 y hy with h1 | h1
  · exact hl.fr y h1
  · omega
end Go.Proofs.YtfcmpclbhnjkgaaGreat
/- The reference's Turned: a word read from its end. -/
set_option maxHeartbeats 4000000
set_option maxRecDepth 20000
set_option linter.unusedSimpArgs false
set_option linter.unusedVariables false
set_option pp.deepTerms.threshold 8
namespace Go.Proofs.YtfcmpclbhnjkgaaGreat
open Go Go.Proofs Go.Proofs.Sh
theorem refTurned {H : AH} {u : Value} {w : List ByteArray} (hu : Sl H u 1 (w.map strCell)) (hwl : w.length ≤ 1048576) (hw : Wf H) :
    Sh.Call Tryz.prog (knows 10) 27 [u] H (fun r H' => Kept H H' ∧ ∃ b, Buf H' 1 r (w.reverse.map strCell) b) := by
  refine call_of rfl Tryz.func27 rfl (Nat.le_of_ble_eq_true rfl) ?_
  have hres : Tryz.f27.results.toList = [.tmp 2] := rfl
  have hlen := hu.len Tryz.underlying22 H
  rw [List.length_map] at hlen
  have w0 : IntKind.wrap .i64 ((w.length : Int) - 1) = (w.length : Int) - 1 := wrap64 (by omega) (by omega)
  simp only [↓Sh.dn, sx, Nat.reduceBEq, reduceCtorEq, Nat.reduceEqDiff, hlen, w0]
  refine wp_while (m := w.length) (fun m F H' => m ≤ w.length ∧ F.get 4 = some (.int .i64 ((m : Int) - 1)) ∧ F.get 0 = some u ∧ Kept H H' ∧ ∃ z, F.get 3 = some z ∧ ∃ ob, LS H' H.next z (w.drop m).reverse ob) ⟨Nat.le_refl _, by simp only [↓Sh.dn, sx, Nat.reduceBEq, reduceCtorEq, Nat.reduceEqDiff], by simp only [↓Sh.dn, sx, Nat.reduceBEq, reduceCtorEq, Nat.reduceEqDiff], Kept.refl hw, .slice none 0 0, by simp only [↓Sh.dn, sx, Nat.reduceBEq, reduceCtorEq, Nat.reduceEqDiff], none, by rw [List.drop_length]; exact LS.void _ _⟩ ?_
  rintro m F H' ⟨hm, f4, f0, hk, z, f3, ob, hl⟩ k
  cases m with
  | zero =>
    have d : decide ((0 : Int) ≤ ((0 : Nat) : Int) - 1) = false := rfl
    simp only [↓Sh.dn, sx, Nat.reduceBEq, reduceCtorEq, Nat.reduceEqDiff, f3, f4, d, hres]
    exact ⟨hk, ob, by simpa using hl.bf⟩
  | succ m =>
    have d : decide ((0 : Int) ≤ ((m + 1 : Nat) : Int) - 1) = true := by simp
    have em : ((m + 1 : Nat) : Int) - 1 = (m : Int) := by omega
    rw [em] at f4 d
    have hlt : m < w.length := by omega
    obtain ⟨p, hia, hc⟩ := Sl.elem (s := 1) Tryz.underlying22 size_9 (hu.grow (hk.grow hw)) (i := m) (u := .string w[m]) (by rw [List.getElem?_map, List.getElem?_eq_getElem hlt]; rfl)
    have hdrop : (w.drop m).reverse = (w.drop (m + 1)).reverse ++ [w[m]] := by rw [List.drop_eq_getElem_cons hlt, List.reverse_cons]
    obtain ⟨a, cap, w', H4, ob', rfl, e1, e2, e3, e4⟩ := pushStr w[m] hk.next hk.wf hl (by rw [List.length_reverse, List.length_drop]; omega)
    have w1 : IntKind.wrap .i64 ((m : Int) - 1) = (m : Int) - 1 := wrap64 (by omega) (by omega)
    simp only [↓Sh.dn, sx, Nat.reduceBEq, reduceCtorEq, Nat.reduceEqDiff, f0, f3, f4, d, hia, hc, e1, e2, w1]
    exact k m _ _ (by omega) ⟨by omega, by simp only [↓Sh.dn, sx, Nat.reduceBEq, reduceCtorEq, Nat.reduceEqDiff], by simp only [↓Sh.dn, sx, Nat.reduceBEq, reduceCtorEq, Nat.reduceEqDiff, f0], hk.then (Nat.le_refl _) (e4.weak hl.fr), w', by simp only [↓Sh.dn, sx, Nat.reduceBEq, reduceCtorEq, Nat.reduceEqDiff], ob', by rw [hdrop]; exact e3⟩
end Go.Proofs.YtfcmpclbhnjkgaaGreat
/- Nets that are alike are found alike. -/
set_option maxHeartbeats 4000000
set_option maxRecDepth 20000
set_option linter.unusedSimpArgs false
set_option linter.unusedVariables false
set_option pp.deepTerms.threshold 8
namespace Go.Proofs.YtfcmpclbhnjkgaaGreat
open Go Go.Proofs Go.Proofs.Sh
theorem sameNet {H : AH} {v u : Value} {N : NetD} (h : NetAt H v N) (h' : NetAt H u N) (hsm : NetSmall N) (hw : Wf H) :
    Sh.Call Tryz.prog (knows 10) 24 [v, u] H (fun r H' => Kept H H' ∧ r = .bool true) := by
  refine call_of rfl Tryz.func24 rfl (Nat.le_of_ble_eq_true rfl) ?_
  have hres : Tryz.f24.results.toList = [.tmp 4] := rfl
  obtain ⟨sg, ar, en, rfl, hsg, har, hen⟩ := h
  obtain ⟨sg', ar', en', rfl, hsg', har', hen'⟩ := h'
  have hb0 := NetBox.of (N := N) hw hsg har hen
  have hk1 : Kept H (H.new 4 [sg, .int .i64 N.states, ar, en]).2 := Kept.new hw 4 _
  have hg0 := hk1.grow hw
  have hc1 := NetBox.of (N := N) hk1.wf (hsg'.grow hg0) (har'.grow hg0) (hen'.grow hg0)
  have hb1 := hb0.new hk1.wf 4 [sg', .int .i64 N.states, ar', en']
  have hk2 := hk1.news 4 [sg', .int .i64 N.states, ar', en']
  simp only [↓Sh.dn, sx, Nat.reduceBEq, reduceCtorEq, Nat.reduceEqDiff, netNew hsg.isCell har.isCell hen.isCell, netNew hsg'.isCell har'.isCell hen'.isCell]
  generalize ((H.new 4 [sg, .int .i64 N.states, ar, en]).2.new 4 [sg', .int .i64 N.states, ar', en']).2 = H1 at hb1 hc1 hk2 ⊢
  generalize (H.new 4 [sg, .int .i64 N.states, ar, en]).2.next = g2 at hc1 ⊢
  generalize H.next = g1 at hb1 ⊢
  simp only [↓Sh.dn, sx, Nat.reduceBEq, reduceCtorEq, Nat.reduceEqDiff, hb1.c0, hb1.c1, hb1.c2, hb1.c3, hb1.ca, netLenS hb1, netLenA hb1, netLenE hb1, hc1.c0, hc1.c1, hc1.c2, hc1.c3, hc1.ca, netLenS hc1, netLenA hc1, netLenE hc1, decide_true]
  refine wp_for N.sigma.length 5 (List.range' 40 18 ++ [4, 5]) (fun i F H' => H' = H1) (by simp only [↓Sh.dn, sx, Nat.reduceBEq, reduceCtorEq, Nat.reduceEqDiff]) rfl ?_ ?_
  · rintro i F H' hlt hF f5 rfl k
    have f2 := hF 2 rfl
    have f3 := hF 3 rfl
    simp only [↓Sh.dn, sx, Nat.reduceBEq, reduceCtorEq, Nat.reduceEqDiff] at f2 f3
    obtain ⟨g, o, kk, hia, hc, hcc⟩ := hb1.hsg.at Tryz.underlying22 size_9 (i := i) (x := strCell N.sigma[i]) (by simp [hlt]) .i64
    obtain ⟨g', o', kk', hia', hc', hcc'⟩ := hc1.hsg.at Tryz.underlying22 size_9 (i := i) (x := strCell N.sigma[i]) (by simp [hlt]) .i64
    have hy := hcc 0 _ rfl
    have hy' := hcc' 0 _ rfl
    simp only [Nat.add_zero] at hy hy'
    simp only [↓Sh.dn, sx, Nat.reduceBEq, reduceCtorEq, Nat.reduceEqDiff, hb1.c0, hb1.c1, hb1.c2, hb1.c3, hb1.ca, netLenS hb1, netLenA hb1, netLenE hb1, hc1.c0, hc1.c1, hc1.c2, hc1.c3, hc1.ca, netLenS hc1, netLenA hc1, netLenE hc1, f2, f3, nat_lt, hlt, decide_true, f5, hia, hia', hy, hy', wrap_succ hlt hsm.sg]
    exact k _ _ (by repeat (first | refine Same.put ?_ rfl | exact Same.rfl' _)) (by simp only [↓Sh.dn, sx, Nat.reduceBEq, reduceCtorEq, Nat.reduceEqDiff]) rfl
  rintro F H' hF f5 rfl
  have f2 := hF 2 rfl
  have f3 := hF 3 rfl
  clear hF
  simp only [↓Sh.dn, sx, Nat.reduceBEq, reduceCtorEq, Nat.reduceEqDiff] at f2 f3
  simp only [↓Sh.dn, sx, Nat.reduceBEq, reduceCtorEq, Nat.reduceEqDiff, hb1.c0, hb1.c1, hb1.c2, hb1.c3, hb1.ca, netLenS hb1, netLenA hb1, netLenE hb1, hc1.c0, hc1.c1, hc1.c2, hc1.c3, hc1.ca, netLenS hc1, netLenA hc1, netLenE hc1, f2, f3, f5, nat_lt, Nat.lt_irrefl, decide_false]
  refine wp_for N.arcs.length 6 (List.range' 58 18 ++ [4, 6]) (fun i F H'' => H'' = H') (by simp only [↓Sh.dn, sx, Nat.reduceBEq, reduceCtorEq, Nat.reduceEqDiff]) rfl ?_ ?_
  · rintro i F' H'' hlt hF f6 rfl k
    have f2 := (hF 2 rfl)
    have f3 := (hF 3 rfl)
    simp only [↓Sh.dn, sx, Nat.reduceBEq, reduceCtorEq, Nat.reduceEqDiff, *] at f2 f3
    obtain ⟨g, o, kk, hia, hc, hcc⟩ := hb1.har.at Tryz.underlying23 size_54 (i := i) (x := N.arcs[i].cells) (by simp [hlt]) .i64
    obtain ⟨g', o', kk', hia', hc', hcc'⟩ := hc1.har.at Tryz.underlying23 size_54 (i := i) (x := N.arcs[i].cells) (by simp [hlt]) .i64
    clear hcc hcc'
    simp only [↓Sh.dn, sx, Nat.reduceBEq, reduceCtorEq, Nat.reduceEqDiff, hb1.c0, hb1.c1, hb1.c2, hb1.c3, hb1.ca, netLenS hb1, netLenA hb1, netLenE hb1, hc1.c0, hc1.c1, hc1.c2, hc1.c3, hc1.ca, netLenS hc1, netLenA hc1, netLenE hc1, f2, f3, nat_lt, hlt, decide_true, f6, hia, hia', hc, hc', Option.map_some, eqArc, wrap_succ hlt hsm.ar]
    exact k _ _ (by repeat (first | refine Same.put ?_ rfl | exact Same.rfl' _)) (by simp only [↓Sh.dn, sx, Nat.reduceBEq, reduceCtorEq, Nat.reduceEqDiff]) rfl
  rintro F' H'' hF f6 rfl
  have g2' := (hF 2 rfl)
  have g3' := (hF 3 rfl)
  clear hF
  simp only [↓Sh.dn, sx, Nat.reduceBEq, reduceCtorEq, Nat.reduceEqDiff, f2, f3] at g2' g3'
  simp only [↓Sh.dn, sx, Nat.reduceBEq, reduceCtorEq, Nat.reduceEqDiff, hb1.c0, hb1.c1, hb1.c2, hb1.c3, hb1.ca, netLenS hb1, netLenA hb1, netLenE hb1, hc1.c0, hc1.c1, hc1.c2, hc1.c3, hc1.ca, netLenS hc1, netLenA hc1, netLenE hc1, g2', g3', f6, nat_lt, Nat.lt_irrefl, decide_false]
  refine wp_for N.ends.length 7 (List.range' 76 18 ++ [4, 7]) (fun i F H' => H' = H'') (by simp only [↓Sh.dn, sx, Nat.reduceBEq, reduceCtorEq, Nat.reduceEqDiff]) rfl ?_ ?_
  · rintro i F' H' hlt hF f7 rfl k
    have f2 := (hF 2 rfl)
    have f3 := (hF 3 rfl)
    simp only [↓Sh.dn, sx, Nat.reduceBEq, reduceCtorEq, Nat.reduceEqDiff, *] at f2 f3
    obtain ⟨g, o, kk, hia, hc, hcc⟩ := hb1.hen.at Tryz.underlying24 size_56 (i := i) (x := N.ends[i].cells) (by simp [hlt]) .i64
    obtain ⟨g', o', kk', hia', hc', hcc'⟩ := hc1.hen.at Tryz.underlying24 size_56 (i := i) (x := N.ends[i].cells) (by simp [hlt]) .i64
    clear hcc hcc'
    simp only [↓Sh.dn, sx, Nat.reduceBEq, reduceCtorEq, Nat.reduceEqDiff, hb1.c0, hb1.c1, hb1.c2, hb1.c3, hb1.ca, netLenS hb1, netLenA hb1, netLenE hb1, hc1.c0, hc1.c1, hc1.c2, hc1.c3, hc1.ca, netLenS hc1, netLenA hc1, netLenE hc1, f2, f3, nat_lt, hlt, decide_true, f7, hia, hia', hc, hc', Option.map_some, eqEnd, wrap_succ hlt hsm.en]
    exact k _ _ (by repeat (first | refine Same.put ?_ rfl | exact Same.rfl' _)) (by simp only [↓Sh.dn, sx, Nat.reduceBEq, reduceCtorEq, Nat.reduceEqDiff]) rfl
  rintro F' H' hF f7 rfl
  have f2 := (hF 2 rfl)
  have f3 := (hF 3 rfl)
  simp only [↓Sh.dn, sx, Nat.reduceBEq, reduceCtorEq, Nat.reduceEqDiff, *] at f2 f3
  simp only [↓Sh.dn, sx, Nat.reduceBEq, reduceCtorEq, Nat.reduceEqDiff, hb1.c0, hb1.c1, hb1.c2, hb1.c3, hb1.ca, netLenS hb1, netLenA hb1, netLenE hb1, hc1.c0, hc1.c1, hc1.c2, hc1.c3, hc1.ca, netLenS hc1, netLenA hc1, netLenE hc1, f2, f3, f7, nat_lt, Nat.lt_irrefl, decide_false, hres, hk2]
end Go.Proofs.YtfcmpclbhnjkgaaGreat
/- Whether there is far more in a net than may be. -/
set_option maxHeartbeats 4000000
set_option maxRecDepth 20000
set_option linter.unusedSimpArgs false
set_option linter.unusedVariables false
set_option pp.deepTerms.threshold 8
namespace Go.Proofs.YtfcmpclbhnjkgaaGreat
open Go Go.Proofs Go.Proofs.Sh
def sizes (l : List ByteArray) : Nat := (l.map fun s => s.size).sum
def netSize (N : NetD) : Nat := N.sigma.length + N.arcs.length + N.ends.length + sizes N.sigma
theorem sizes_take_le (l : List ByteArray) (i : Nat) : sizes (l.take i) ≤ sizes l := by
  unfold sizes
  have : l = l.take i ++ l.drop i := (List.take_append_drop i l).symm
  conv => rhs; rw [this]
  rw [List.map_append, List.sum_append]
  omega
theorem isOver {H : AH} {v : Value} {N : NetD} (h : NetAt H v N) (hsm : NetSmall N) (hsz : sizes N.sigma ≤ 1048576) (hw : Wf H) :
    Sh.Call Tryz.prog (knows 10) 9 [v] H (fun r H' => Kept H H' ∧ r = .bool (decide (262144 < netSize N))) := by
  refine call_of rfl Tryz.func9 rfl (Nat.le_of_ble_eq_true rfl) ?_
  have hres : Tryz.f9.results.toList = [.tmp 2] := rfl
  obtain ⟨sg, ar, en, rfl, hsg, har, hen⟩ := h
  have hb1 := NetBox.of (N := N) hw hsg har hen
  have hk1 : Kept H (H.new 4 [sg, .int .i64 N.states, ar, en]).2 := Kept.new hw 4 _
  simp only [↓Sh.dn, sx, Nat.reduceBEq, reduceCtorEq, Nat.reduceEqDiff, netNew hsg.isCell har.isCell hen.isCell]
  generalize H.next = gg at hb1 ⊢
  generalize (H.new 4 [sg, .int .i64 N.states, ar, en]).2 = H1 at hb1 hk1 ⊢
  obtain ⟨z1, z2, z3, _⟩ := hsm
  have w1 : IntKind.wrap .i64 (IntKind.wrap .i64 ((N.sigma.length : Int) + (N.arcs.length : Int)) + (N.ends.length : Int)) = ((N.sigma.length + N.arcs.length + N.ends.length : Nat) : Int) := by
    rw [wrap64 (n := (N.sigma.length : Int) + (N.arcs.length : Int)) (by omega) (by omega), wrap64 (by omega) (by omega)]; rfl
  simp only [↓Sh.dn, sx, Nat.reduceBEq, reduceCtorEq, Nat.reduceEqDiff, hb1.c0, hb1.c1, hb1.c2, hb1.c3, hb1.ca, netLenS hb1, netLenA hb1, netLenE hb1, w1]
  refine wp_for N.sigma.length 4 (List.range' 16 15 ++ [3, 4]) (fun i F H' => H' = H1 ∧ F.get 3 = some (.int .i64 ((N.sigma.length + N.arcs.length + N.ends.length + sizes (N.sigma.take i) : Nat) : Int))) (by simp only [↓Sh.dn, sx, Nat.reduceBEq, reduceCtorEq, Nat.reduceEqDiff]) ⟨rfl, by simp only [↓Sh.dn, sx, Nat.reduceBEq, reduceCtorEq, Nat.reduceEqDiff]; rfl⟩ ?_ ?_
  · rintro i F H' hlt hF f4 ⟨rfl, f3⟩ k
    have f1 := hF 1 rfl
    simp only [↓Sh.dn, sx, Nat.reduceBEq, reduceCtorEq, Nat.reduceEqDiff] at f1
    obtain ⟨g, o, kk, hia, hc, hcc⟩ := hb1.hsg.at Tryz.underlying22 size_9 (i := i) (x := strCell N.sigma[i]) (by simp [hlt]) .i64
    have hy := hcc 0 _ rfl
    simp only [Nat.add_zero] at hy
    have hs1 : sizes (N.sigma.take (i + 1)) = sizes (N.sigma.take i) + N.sigma[i].size := by
      unfold sizes
      rw [List.take_add_one, List.getElem?_eq_getElem hlt, List.map_append, List.sum_append]
      simp
    have hle := sizes_take_le N.sigma (i + 1)
    have w2 : IntKind.wrap .i64 (((N.sigma.length + N.arcs.length + N.ends.length + sizes (N.sigma.take i) : Nat) : Int) + (N.sigma[i].size : Int)) = ((N.sigma.length + N.arcs.length + N.ends.length + sizes (N.sigma.take (i + 1)) : Nat) : Int) := by
      rw [wrap64 (by omega) (by omega), hs1]; omega
    simp only [↓Sh.dn, sx, Nat.reduceBEq, reduceCtorEq, Nat.reduceEqDiff, hb1.c0, hb1.c1, hb1.c2, hb1.c3, hb1.ca, netLenS hb1, netLenA hb1, netLenE hb1, f1, f3, f4, nat_lt, hlt, decide_true, hia, hy, w2, wrap_succ hlt z1]
    exact k _ _ (by repeat (first | refine Same.put ?_ rfl | exact Same.rfl' _)) (by simp only [↓Sh.dn, sx, Nat.reduceBEq, reduceCtorEq, Nat.reduceEqDiff]) ⟨rfl, by simp only [↓Sh.dn, sx, Nat.reduceBEq, reduceCtorEq, Nat.reduceEqDiff]⟩
  · rintro F H' hF f4 ⟨rfl, f3⟩
    have f1 := hF 1 rfl
    simp only [↓Sh.dn, sx, Nat.reduceBEq, reduceCtorEq, Nat.reduceEqDiff] at f1
    rw [List.take_length] at f3
    have e : decide ((262144 : Int) < ((N.sigma.length + N.arcs.length + N.ends.length + sizes N.sigma : Nat) : Int)) = decide (262144 < netSize N) := decide_eq_decide.2 (by unfold netSize; omega)
    simp only [↓Sh.dn, sx, Nat.reduceBEq, reduceCtorEq, Nat.reduceEqDiff, hb1.c0, hb1.c1, hb1.c2, hb1.c3, hb1.ca, netLenS hb1, netLenA hb1, netLenE hb1, f1, f3, f4, nat_lt, Nat.lt_irrefl, decide_false, hres, e, hk1]
end Go.Proofs.YtfcmpclbhnjkgaaGreat
