/- A part of the proof: GraphRead, GraphBackE. -/
import Derived.Test.YtfcmpclbhnjkgaaGreatMClose2AutoReverses3
import Derived.Test.YtfcmpclbhnjkgaaGreatMClose2AutoReverses5
import Derived.Test.YtfcmpclbhnjkgaaGreatMClose2AutoReverses6
set_option linter.unusedVariables false
set_option linter.unusedSimpArgs false
/- Reading the graph of the program; maps of marks. -/
set_option maxHeartbeats 4000000
set_option maxRecDepth 20000
set_option linter.unusedSimpArgs false
set_option linter.unusedVariables false
set_option pp.deepTerms.threshold 8
namespace Go.Proofs.YtfcmpclbhnjkgaaGreat
open Go Go.Proofs Go.Proofs.Sh
def natK (n : Nat) : Value := .int .i64 (n : Int)
theorem natK_may (a : Nat) : mayKey Tryz.prog 3 (natK a) = true := by
  unfold mayKey natK
  simp only [plainKey, keyT, eqDepth, Tryz.underlying3, Bool.and_self]; rfl
theorem natK_eq (a b : Nat) : eqT Tryz.prog eqDepth 3 (natK a) (natK b) = some (decide (a = b)) := by
  unfold natK
  show eqT Tryz.prog (19 + 1) _ _ _ = _
  rw [eqT_int]
  congr 1
  exact decide_eq_decide.2 Int.ofNat_inj
/-- A map of bools that has true for some numbers. -/
def BMap (H : AH) (g : Nat) (D : List Nat) : Prop := MapIs H g natK (D.map fun t => (t, .bool true))
theorem mapGet_set (D : List Nat) (t : Nat) : mapGet (D.map fun t => (t, Value.bool true)) t = if t ∈ D then some (.bool true) else none := by
  unfold mapGet
  by_cases h : t ∈ D
  · rw [if_pos h]
    cases hf : (D.map fun t => (t, Value.bool true)).find? fun p => decide (t = p.1) with
    | none =>
      rw [List.find?_eq_none] at hf
      have := hf (t, .bool true) (List.mem_map.2 ⟨t, h, rfl⟩)
      simp at this
    | some p =>
      have := List.mem_of_find?_eq_some hf
      obtain ⟨u, _, rfl⟩ := List.mem_map.1 this
      rfl
  · rw [if_neg h]
    have : (D.map fun t => (t, Value.bool true)).find? (fun p => decide (t = p.1)) = none := by
      rw [List.find?_eq_none]
      rintro p hp
      obtain ⟨u, hu, rfl⟩ := List.mem_map.1 hp
      simp only [decide_eq_true_eq]
      rintro rfl
      exact h hu
    rw [this]; rfl
theorem BMap.look {H : AH} {g : Nat} {D : List Nat} (h : BMap H g D) (t : Nat) : alookup Tryz.prog 93 (.map (some g)) (.int .i64 (t : Int)) false H = some (.bool (decide (t ∈ D))) := by
  have := MapIs.look (P := Tryz.prog) (ok := false) Tryz.underlying93 zero_4 natK_may natK_eq h t
  rw [mapGet_set] at this
  unfold natK at this
  rw [this]
  by_cases hd : t ∈ D <;> simp [hd]
theorem BMap.add {H : AH} {g : Nat} {D : List Nat} (h : BMap H g D) (hw : Wf H) {t : Nat} (ht : t ∉ D) : ∃ H', amapUpdate Tryz.prog 93 (.map (some g)) (.int .i64 (t : Int)) (.bool true) H = some H' ∧ BMap H' g (D ++ [t]) ∧ Chg (fun y => y = g) H H' ∧ H'.next = H.next := by
  obtain ⟨H', h1, h2, h3, h4⟩ := MapIs.add (P := Tryz.prog) Tryz.underlying93 natK_may natK_eq h hw (a := t) (by rw [mapGet_set, if_neg ht]) (.bool true)
  exact ⟨H', h1, by unfold BMap; rw [List.map_append]; exact h2, h3, h4⟩
theorem geZero {H : AH} : anew Tryz.prog 96 H (.agg #[.int .i64 0, .int .i64 0, .int .i64 0, .int .i64 0]) = some (.pointer (some ⟨H.next, 0, some 0⟩), (H.new 4 [.int .i64 0, .int .i64 0, .int .i64 0, .int .i64 0]).2) := new_agg (vs := [.int .i64 0, .int .i64 0, .int .i64 0, .int .i64 0]) size_96 rfl rfl
theorem geStore {H : AH} {e : Nat × Int × Int × Int} {p : Addr} : astore Tryz.prog 96 H (.agg (gCell e).toArray) (.pointer (some p)) = H.write p (gCell e) := store_agg size_96 rfl rfl
theorem geOver {H : AH} {e : Nat × Int × Int × Int} {x0 x1 x2 x3 : Value} : (H.new 4 [x0, x1, x2, x3]).2.write ⟨H.next, 0, some 0⟩ (gCell e) = some (H.new 4 (gCell e)).2 := write_new rfl
theorem ge0 {H : AH} {e : Nat × Int × Int × Int} : (H.new 4 (gCell e)).2.cell ⟨H.next, 0, some 0⟩ = some (.int .i64 (e.1 : Int)) := cell_new _ _ _
theorem ge1 {H : AH} {e : Nat × Int × Int × Int} : (H.new 4 (gCell e)).2.cell ⟨H.next, 1, some 0⟩ = some (.int .i64 e.2.1) := cell_new _ _ _
theorem ge2 {H : AH} {e : Nat × Int × Int × Int} : (H.new 4 (gCell e)).2.cell ⟨H.next, 2, some 0⟩ = some (.int .i64 e.2.2.1) := cell_new _ _ _
theorem ge3 {H : AH} {e : Nat × Int × Int × Int} : (H.new 4 (gCell e)).2.cell ⟨H.next, 3, some 0⟩ = some (.int .i64 e.2.2.2) := cell_new _ _ _
theorem geAll {H : AH} {e : Nat × Int × Int × Int} : (H.new 4 (gCell e)).2.cells ⟨H.next, 0, some 0⟩ 4 = some (gCell e) := (Sh.Obj.new (H := H) 4 (gCell e)).cells (i := 0) (n := 4) (by simp [gCell])
/-- A row of the graph. -/
theorem PG.row {H : AH} {g n rb : Nat} {E : List (List (Nat × Int × Int × Int))} {ends : List Int} {sv av ev cv : Value} {vals : List Value} {sigma : List ByteArray} {costs : List Int} (h : PG H g n rb E ends sv av ev cv vals sigma costs) {s : Nat} {r : List (Nat × Int × Int × Int)} (hr : E[s]? = some r) :
    ∃ p w, aindexAddr Tryz.prog 73 av (.int .i64 (s : Int)) = some (.pointer (some p)) ∧ H.cell p = some w ∧ Sl H w 4 (r.map gCell) ∧ ∀ H', abuiltin Tryz.prog .len [94] [w] H' = some (.int .i64 (r.length : Int), H') := by
  obtain ⟨ga, oa, ka, w, h1, h2, h3⟩ := h.gr.jag.at Tryz.underlying73 size_94 (i := s) (r := r.map gCell) (by unfold gCells; rw [List.getElem?_map, hr]; rfl)
  exact ⟨_, w, h1, h2, h3, fun H' => by rw [h3.len Tryz.underlying94, List.length_map]⟩
theorem PG.edge {H : AH} {w : Value} {r : List (Nat × Int × Int × Int)} (h : Sl H w 4 (r.map gCell)) {q : Nat} (hq : q < r.length) :
    ∃ p, aindexAddr Tryz.prog 94 w (.int .i64 (q : Int)) = some (.pointer (some p)) ∧ H.cells p 4 = some (gCell r[q]) := by
  obtain ⟨g', o', k', h1, h2, _⟩ := h.at Tryz.underlying94 size_96 (i := q) (x := gCell r[q]) (by simp [hq]) .i64
  exact ⟨_, h1, h2⟩
end Go.Proofs.YtfcmpclbhnjkgaaGreat
/- (*graph.Graph).Back, told edge by edge. -/
set_option maxHeartbeats 4000000
set_option maxRecDepth 20000
set_option linter.unusedSimpArgs false
set_option linter.unusedVariables false
set_option pp.deepTerms.threshold 8
namespace Go.Proofs.YtfcmpclbhnjkgaaGreat
open Go Go.Proofs Go.Proofs.Sh
def edgeIn (E : List (List (Nat × Int × Int × Int))) (s t : Nat) (x : Int × Int × Int) : Prop := ∃ r, E[s]? = some r ∧ (t, x) ∈ r
theorem edgeIn_push {E : List (List (Nat × Int × Int × Int))} {t s : Nat} {r : List (Nat × Int × Int × Int)} {x : Int × Int × Int} (hr : E[t]? = some r) (y : Int × Int × Int) (a b : Nat) :
    edgeIn (E.set t (r ++ [(s, x)])) a b y ↔ edgeIn E a b y ∨ a = t ∧ b = s ∧ y = x := by
  have ht := (List.getElem?_eq_some_iff.1 hr).1
  unfold edgeIn
  rw [List.getElem?_set]
  by_cases h : t = a
  · subst h
    rw [if_pos rfl, if_pos ht, hr]
    simp
  · rw [if_neg h]
    constructor
    · exact .inl
    · rintro (h1 | ⟨h1, _⟩)
      · exact h1
      · exact absurd h1.symm h
theorem sum_push {α : Type} {E : List (List α)} {t : Nat} {r : List α} {x : α} (hr : E[t]? = some r) : ((E.set t (r ++ [x])).map List.length).sum = (E.map List.length).sum + 1 := by
  induction E generalizing t with
  | nil => simp at hr
  | cons a E ih =>
    cases t with
    | zero =>
      simp only [List.getElem?_cons_zero, Option.some.injEq] at hr
      subst hr
      simp; omega
    | succ t =>
      simp only [List.getElem?_cons_succ] at hr
      have := ih hr
      simp only [List.set_cons_succ, List.map_cons, List.sum_cons]
      omega
theorem graphBackE {H : AH} {g n : Nat} {E : List (List (Nat × Int × Int × Int))} {ends : List Int} {sv av ev cv : Value} {vals : List Value} {sigma : List ByteArray} {costs : List Int} (h : PG H g n 60000 E ends sv av ev cv vals sigma costs) (hsg : sigma.length ≤ 1048576) (hw : Wf H) :
    Sh.Call Tryz.prog (knows 10) 51 [.pointer (some ⟨g, 0, some 0⟩)] H (fun r H' => Kept H H' ∧ ∃ g', r = .pointer (some ⟨g', 0, some 0⟩) ∧ ∃ R base, H.next ≤ base ∧ Gr H' base g' sigma (gCells R) (List.replicate n 0) (List.replicate n 0) ∧ R.length = n ∧ (∀ r ∈ R, r.length ≤ 180000000 ∧ ∀ e ∈ r, e.1 < n) ∧ (R.map List.length).sum = (E.map List.length).sum ∧ ∀ x t s, edgeIn R t s x ↔ edgeIn E s t x) := by
  refine call_of rfl Tryz.func51 rfl (Nat.le_of_ble_eq_true rfl) ?_
  have hres : Tryz.f51.results.toList = [.tmp 2] := rfl
  have hn2 := h.n2
  have hc0 := h.gr.arr.cell 0
  have hc1 := h.gr.arr.cell 1
  have hlenA : ∀ H', abuiltin Tryz.prog .len [73] [av] H' = some (.int .i64 (n : Int), H') := fun H' => by
    rw [h.gr.jag.sl.len Tryz.underlying73, List.length_map, h.gr.jag.len]; unfold gCells; rw [List.length_map, h.le]
  obtain ⟨r1, H1, hd1, hk1, g1, rfl, hG1⟩ := graphNew (n := n) h.gr.sg hsg (by omega) hw
  simp only [↓Sh.dn, sx, Nat.reduceBEq, reduceCtorEq, Nat.reduceEqDiff]
  refine wp_pend (fl := [(0, []), (1, []), (2, []), (3, []), (4, []), (5, []), (6, []), (7, []), (8, []), (9, []), (10, [])]) (by kernel_rfl) (by kernel_rfl) (by kernel_rfl) ?_
  simp only [↓Sh.dn, sx, Nat.reduceBEq, reduceCtorEq, Nat.reduceEqDiff, wpr, again, isMake, veq_ptr, veq_int, veq_str, veq_bool, veq_undef, veq_slice, forall_eq, forall_eq', hc0, hc1, hlenA]
  refine ⟨_, _, hd1, ?_⟩
  have hc1' := cell_grow (hk1.grow hw) hc1
  simp only [↓Sh.dn, sx, Nat.reduceBEq, reduceCtorEq, Nat.reduceEqDiff, wpr, again, isMake, veq_ptr, veq_int, veq_str, veq_bool, veq_undef, veq_slice, forall_eq, forall_eq', hc1', hlenA]
  have hg0 : gCells (List.replicate n ([] : List (Nat × Int × Int × Int))) = List.replicate n [] := by simp [gCells]
  rw [← hg0] at hG1
  refine wp_for n 23 (List.range' 23 24 ++ [4, 5, 7]) (fun i F H' => Kept H H' ∧ ∃ R, Gr H' H.next g1 sigma (gCells R) (List.replicate n 0) (List.replicate n 0) ∧ R.length = n ∧ (∀ r ∈ R, r.length ≤ i * 60000 ∧ ∀ e ∈ r, e.1 < n) ∧ (R.map List.length).sum = ((E.take i).map List.length).sum ∧ ∀ x t s, edgeIn R t s x ↔ s < i ∧ edgeIn E s t x) (by simp only [↓Sh.dn, sx, Nat.reduceBEq, reduceCtorEq, Nat.reduceEqDiff]) ⟨hk1, _, hG1, by simp, fun r hr => by rw [List.eq_of_mem_replicate hr]; simp, by simp, fun p t s => by
    constructor
    · rintro ⟨r, h1, h2⟩
      rw [List.getElem?_replicate] at h1
      split at h1
      · rw [← Option.some.inj h1] at h2; cases h2
      · cases h1
    · rintro ⟨h1, _⟩; exact absurd h1 (Nat.not_lt_zero _)⟩ ?_ ?_
  · rintro i F H' hi hF f23 ⟨hk, R, hG, hRl, hRr, hsm, hiff⟩ k
    have f3 := hF 3 rfl
    have f21 := hF 21 rfl
    have f22 := hF 22 rfl
    simp only [↓Sh.dn, sx, Nat.reduceBEq, reduceCtorEq, Nat.reduceEqDiff] at f3 f21 f22
    obtain ⟨r, hr⟩ : ∃ r, E[i]? = some r := ⟨E[i]'(by rw [h.le]; exact hi), List.getElem?_eq_getElem _⟩
    obtain ⟨hrl, hrt⟩ := h.to i r hr
    obtain ⟨pr, wr, hiar, hcr, hsr, hlr⟩ := PG.row h hr
    have q2 := cell_grow (hk.grow hw) hcr
    simp only [↓Sh.dn, sx, Nat.reduceBEq, reduceCtorEq, Nat.reduceEqDiff, f21, f22, f23, nat_lt, hi, decide_true, hiar, q2, hlr]
    refine wp_for r.length 30 (List.range' 30 16 ++ [7]) (fun q F'' H'' => Kept H H'' ∧ ∃ R, Gr H'' H.next g1 sigma (gCells R) (List.replicate n 0) (List.replicate n 0) ∧ R.length = n ∧ (∀ r ∈ R, r.length ≤ i * 60000 + q ∧ ∀ e ∈ r, e.1 < n) ∧ (R.map List.length).sum = ((E.take i).map List.length).sum + q ∧ ∀ x t s, edgeIn R t s x ↔ s < i ∧ edgeIn E s t x ∨ s = i ∧ (t, x) ∈ r.take q) (by simp only [↓Sh.dn, sx, Nat.reduceBEq, reduceCtorEq, Nat.reduceEqDiff]) ⟨hk, R, hG, hRl, fun r hr => ⟨Nat.le_trans (hRr r hr).1 (Nat.le_add_right _ _), (hRr r hr).2⟩, hsm, fun p t s => by rw [hiff]; simp⟩ ?_ ?_
    · rintro q F'' H'' hq hF'' f30 ⟨hk'', R, hG, hRl, hRr, hsm2, hiff⟩ k2
      have g3 := hF'' 3 rfl
      have g4 := hF'' 4 rfl
      have g28 := hF'' 28 rfl
      have g29 := hF'' 29 rfl
      simp only [↓Sh.dn, sx, Nat.reduceBEq, reduceCtorEq, Nat.reduceEqDiff, f3] at g3 g4 g28 g29
      obtain ⟨pe, hiae, hce⟩ := PG.edge (hsr.grow (hk''.grow hw)) hq
      have hrq : r[q] ∈ r := List.getElem_mem hq
      have htk : r.take (q + 1) = r.take q ++ [r[q]] := by rw [List.take_add_one, List.getElem?_eq_getElem hq]; rfl
      generalize r[q] = e at hce hrq htk
      have kn := Kept.new hk''.wf 4 (gCell e)
      have hk3 := hk''.trans kn
      have hG3 := hG.kept hk''.wf kn
      obtain ⟨ro, hro2⟩ : ∃ ro, R[e.1]? = some ro := ⟨R[e.1]'(by rw [hRl]; exact hrt e hrq), List.getElem?_eq_getElem _⟩
      have hrow : (gCells R)[e.1]? = some (ro.map gCell) := by unfold gCells; rw [List.getElem?_map, hro2]; rfl
      obtain ⟨hrol, hrot⟩ := hRr ro (List.mem_of_getElem? hro2)
      obtain ⟨rr, H5, hd5, hc5, hG5⟩ := grArc (x0 := (i : Int)) (x1 := e.2.1) (x2 := e.2.2.1) (x3 := e.2.2.2) hG3 hrow (by rw [List.length_map]; omega) hk3.wf
      simp only [↓Sh.dn, sx, Nat.reduceBEq, reduceCtorEq, Nat.reduceEqDiff, f30, g3, g4, g28, g29, hiae, hce, nat_lt, hq, decide_true, Option.map_some, geZero, geStore, geOver, ge0, ge1, ge2, ge3]
      refine ⟨_, _, hd5, ?_⟩
      simp only [↓Sh.dn, sx, Nat.reduceBEq, reduceCtorEq, Nat.reduceEqDiff, f30, wrap_succ' hq (Nat.le_trans hrl (by decide))]
      have hrs : gCells (R.set e.1 (ro ++ [(i, e.2)])) = (gCells R).set e.1 (ro.map gCell ++ [[.int .i64 (i : Int), .int .i64 e.2.1, .int .i64 e.2.2.1, .int .i64 e.2.2.2]]) := by unfold gCells; rw [List.map_set]; simp [gCell]
      refine k2 _ _ (by repeat (first | refine Same.put ?_ rfl | exact Same.rfl' _)) (by simp only [↓Sh.dn, sx, Nat.reduceBEq, reduceCtorEq, Nat.reduceEqDiff]) ⟨hk3.then (Nat.le_refl _) hc5, R.set e.1 (ro ++ [(i, e.2)]), by rw [hrs]; exact hG5, by rw [List.length_set]; exact hRl, fun r' hr' => ?_, by rw [sum_push hro2, hsm2]; omega, fun p t s => ?_⟩
      · rcases List.mem_or_eq_of_mem_set hr' with h1 | h1
        · have := hRr r' h1; exact ⟨by omega, this.2⟩
        · rw [h1]
          refine ⟨by rw [List.length_append]; simp; omega, fun e' he' => ?_⟩
          rcases List.mem_append.1 he' with h2 | h2
          · exact hrot e' h2
          · rw [List.mem_singleton.1 h2]; exact hi
      · rw [edgeIn_push hro2, hiff, htk, List.mem_append, List.mem_singleton]
        constructor
        · rintro ((h1 | ⟨h1, h2⟩) | ⟨h1, h2, h3⟩)
          · exact .inl h1
          · exact .inr ⟨h1, .inl h2⟩
          · exact .inr ⟨h2, .inr (by rw [h1, h3])⟩
        · rintro (h1 | ⟨h1, h2 | h2⟩)
          · exact .inl (.inl h1)
          · exact .inl (.inr ⟨h1, h2⟩)
          · exact .inr ⟨by rw [← h2], h1, by rw [← h2]⟩
    · rintro F'' H'' hF'' f30 ⟨hk'', R, hG, hRl, hRr, hsm2, hiff⟩
      have g23 := hF'' 23 rfl
      have g29 := hF'' 29 rfl
      simp only [↓Sh.dn, sx, Nat.reduceBEq, reduceCtorEq, Nat.reduceEqDiff, f23] at g23 g29
      rw [List.take_length] at hiff
      simp only [↓Sh.dn, sx, Nat.reduceBEq, reduceCtorEq, Nat.reduceEqDiff, f30, g23, g29, nat_lt, Nat.lt_irrefl, decide_false, wrap_succ' hi (Nat.le_trans hn2 (by decide))]
      refine k _ _ ?_ (by simp only [↓Sh.dn, sx, Nat.reduceBEq, reduceCtorEq, Nat.reduceEqDiff]) ⟨hk'', R, hG, hRl, fun r' hr' => ?_, by rw [hsm2, List.take_add_one, hr]; simp, fun p t s => ?_⟩
      · repeat refine Same.put ?_ rfl
        exact Same.trans (by repeat (first | refine Same.put ?_ rfl | exact Same.rfl' _)) (hF''.sub rfl)
      · have := hRr r' hr'; exact ⟨by omega, this.2⟩
      · rw [hiff]
        constructor
        · rintro (⟨h1, h2⟩ | ⟨h1, h2⟩)
          · exact ⟨by omega, h2⟩
          · exact ⟨by omega, r, by rw [h1]; exact hr, h2⟩
        · rintro ⟨h1, h2⟩
          by_cases hs : s = i
          · subst hs
            obtain ⟨r', h3, h4⟩ := h2
            rw [hr] at h3
            exact .inr ⟨rfl, by rw [Option.some.inj h3]; exact h4⟩
          · exact .inl ⟨by omega, h2⟩
  · rintro F H' hF f23 ⟨hk, R, hG, hRl, hRr, hsm, hiff⟩
    have f3 := hF 3 rfl
    have f22 := hF 22 rfl
    simp only [↓Sh.dn, sx, Nat.reduceBEq, reduceCtorEq, Nat.reduceEqDiff] at f3 f22
    simp only [↓Sh.dn, sx, Nat.reduceBEq, reduceCtorEq, Nat.reduceEqDiff, f3, f22, f23, nat_lt, Nat.lt_irrefl, decide_false, hres]
    refine ⟨hk, _, rfl, R, H.next, Nat.le_refl _, hG, hRl, fun r hr => ⟨by have := (hRr r hr).1; omega, (hRr r hr).2⟩, by rw [hsm, List.take_of_length_le (by have := h.le; omega)], fun p t s => ?_⟩
    rw [hiff]
    constructor
    · exact fun h => h.2
    · rintro ⟨r, h1, h2⟩
      exact ⟨by rw [← h.le]; exact (List.getElem?_eq_some_iff.1 h1).1, r, h1, h2⟩
end Go.Proofs.YtfcmpclbhnjkgaaGreat
