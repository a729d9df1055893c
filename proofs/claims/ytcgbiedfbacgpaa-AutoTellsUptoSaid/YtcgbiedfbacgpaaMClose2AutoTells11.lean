/- A part of the proof: GraphWalk, GraphWalk2, GraphFirst, GraphBeyond, Same, GraphTexts, GraphWords, GraphX, GraphAdd, GraphTrim, GraphTrim2, AnyLong, IsSymbol, AllSymbols, IsSet, RefSigma, Search, SearchAt, SearchStrings, IsIn, ValidateNet, IsFree, RefValidate, NetOk, CmpLessStr, BinarySearch, PlaceWord, GraphOf, RefGraph, SortIntsInt, SortInts, RefClose, RefRun, RefRev, RefSpread, RefAlive, SymsSmall, IndexFuncStr, SymsValidate, WordVal, RefAcc, GraphCheck, IndexFuncArc, Priced, AutoValidate, AutoAcc, AutoWords, IsOver, IsLong, DataIn. -/
import Derived.Test.YtcgbiedfbacgpaaMClose2AutoTells9
import Derived.Test.YtcgbiedfbacgpaaMClose2AutoTells10
import Derived.Test.YtcgbiedfbacgpaaMClose2AutoTells3
import Derived.Test.YtcgbiedfbacgpaaMClose2AutoTells6
import Derived.Test.YtcgbiedfbacgpaaMClose2AutoTells4
import Derived.Test.YtcgbiedfbacgpaaMClose2AutoTells8
import Derived.Test.YtcgbiedfbacgpaaMClose2AutoTells7
import Derived.Test.YtcgbiedfbacgpaaMClose2AutoTells1
import Derived.Test.YtcgbiedfbacgpaaMClose2AutoTells2
import Derived.Test.YtcgbiedfbacgpaaMClose2AutoTells5
import Derived.Test.YtcgbiedfbacgpaaRows
set_option linter.unusedVariables false
set_option linter.unusedSimpArgs false
/- The search of (*graph.Graph).First: the words that go on from a set. -/
set_option maxHeartbeats 4000000
set_option maxRecDepth 20000
set_option linter.unusedSimpArgs false
set_option linter.unusedVariables false
set_option pp.deepTerms.threshold 8
namespace Go.Proofs.Ytcgbiedfbacgpaa
open Go Go.Proofs Go.Proofs.Sh
/-- The words of so many symbols that lead from some states to an end. -/
noncomputable def wordsP (sg : Nat) (E : List (List (Nat × Int × Int × Int))) (ends : List Int) (Q : Nat → Prop) (m : Nat) : List (List Nat) := lexW (List.range sg) (accS (goesP E fun k => k < 0) (fun (k : Nat) => goesP E fun x => x = (k : Int)) (fun s => 0 < ends.getD s 0) Q) m
theorem wordsP_succ (sg : Nat) (E : List (List (Nat × Int × Int × Int))) (ends : List Int) (Q : Nat → Prop) (m : Nat) : wordsP sg E ends Q (m + 1) = (List.range sg).flatMap fun k => (wordsP sg E ends (stepP E Q k) m).map (k :: ·) := lexW_succ _ _ _
theorem any_lab {E : List (List (Nat × Int × Int × Int))} (k : Nat) (s t : Nat) (h : goesP E (fun x => x = (k : Int)) s t) : goesP E (fun x => 0 ≤ x) s t := by
  obtain ⟨r, h1, e, h2, h3, h4⟩ := h
  exact ⟨r, h1, e, h2, h3, by rw [h4]; omega⟩
theorem wordsP_none {sg : Nat} {E : List (List (Nat × Int × Int × Int))} {ends : List Int} {Q : Nat → Prop} {m : Nat} (h : ∀ s, Q s → ¬exP E ends m s) : wordsP sg E ends Q m = [] := lexW_none fun u hu ha => by
  obtain ⟨s, h1, h2⟩ := acc_exactly (any := goesP E fun x => 0 ≤ x) any_lab ha
  rw [hu] at h2
  exact h s h1 h2
theorem wordsP_zero {sg : Nat} {E : List (List (Nat × Int × Int × Int))} {ends : List Int} {Q : Nat → Prop} (hQ : ∀ a b, Q a → goesP E (fun k => k < 0) a b → Q b) (h : ∃ s, Q s ∧ exP E ends 0 s) : wordsP sg E ends Q 0 = [[]] := by
  unfold wordsP
  rw [lexW_zero, if_pos]
  rw [tB_iff]
  obtain ⟨s, h1, h2⟩ := h
  obtain ⟨t, h3, h4⟩ := clo_rev.1 h2
  exact ⟨t, (clo_closed hQ).1 (clo_one.2 ⟨s, h1, h3⟩), h4⟩
theorem stepP_closed {E : List (List (Nat × Int × Int × Int))} {Q : Nat → Prop} {k : Nat} : ∀ a b, stepP E Q k a → goesP E (fun k => k < 0) a b → stepP E Q k b := fun _ _ h1 h2 => .step h1 h2
theorem outLen {H : AH} {base bO : Nat} {zo : Value} {oo wb : Option Nat} {out : List (List Nat)} (h : OutAt H base bO zo oo wb out) (H' : AH) : abuiltin Try.prog .len [70] [zo] H' = some (.int .i64 (out.length : Int), H') := by
  obtain ⟨vals, h1, h2, h3⟩ := h.ex
  rw [h1.toSl.len Try.underlying70, List.length_map, h2]
theorem outPush {H : AH} {base bO : Nat} {zo v : Value} {oo wb o : Option Nat} {out : List (List Nat)} {u : List Nat} (h : OutAt H base bO zo oo wb out) (hw : Wf H) (hb : base ≤ H.next) (hv : Buf H 1 v (u.map natC) o) (ho : ∀ y, o = some y → base ≤ y ∧ oo ≠ some y ∧ wb ≠ some y) (hwb : ∀ y, wb = some y → y < H.next) (hol : out.length ≤ 1073741823) :
    ∃ a cap w' H3 H4 oo', zo = .slice a out.length cap ∧ abuildSlice Try.prog 70 1 [(0, v)] H = some (.slice (some ⟨H.next, 0, some 0⟩) 1 1, (H.new 1 [v]).2) ∧ abuiltin Try.prog .append [70, 70] [.slice a out.length cap, .slice (some ⟨H.next, 0, some 0⟩) 1 1] (H.new 1 [v]).2 = some (w', H3) ∧
      astore Try.prog 70 H3 w' (.pointer (some ⟨bO, 0, some 0⟩)) = some H4 ∧ OutAt H4 base bO w' oo' wb (out ++ [u]) ∧ Chg (fun y => y = bO ∨ oo = some y) H H4 ∧ ∀ y, oo' = some y → oo = some y ∨ H.next ≤ y := by
  obtain ⟨vals, h1, h2, h3⟩ := h.ex
  have hlt := h.lt
  obtain ⟨a, cap, w', H3, oo', e1, e2, e3, e4, e5⟩ := h1.push hw (x := [v]) rfl
  have hvc := hv.isCell
  have hbs := build1_70 (H := H) (x := v) (by rw [cell_vcells hvc]; rfl) (by rw [cell_vcells hvc]; simp [hvc])
  rw [cell_vcells hvc] at hbs
  rw [List.length_map, h2] at e1 e2
  have ha := app1_70 (H := H) (base := a) (len := out.length) (cap := cap) (x := [v]) rfl hol
  rw [e2] at ha
  have hbO : oo ≠ some bO := fun hy => by have := (h.ob bO hy).1; omega
  have a3 := h.cell.keep (e4.old bO (h.cell.lt hw) hbO)
  obtain ⟨H4, w1, w2, w3, w4⟩ := a3.write e4.wf (i := 0) (vs := [w']) (by simp)
  have hw' := e3.isCell
  have st : astore Try.prog 70 H3 w' (.pointer (some ⟨bO, 0, some 0⟩)) = some H4 := by rw [store_cell size_70 hw']; exact w1
  have c34 : Chg (fun y => y = bO ∨ oo = some y) H H4 := (e4.weak fun y hy => .inr hy).trans (w4.weak fun y hy => .inl hy)
  have hoo : ∀ y, oo' = some y → base ≤ y ∧ wb ≠ some y := fun y hy => by
    rcases e5 y hy with h4 | h4
    · exact h.ob y h4
    · exact ⟨by omega, fun hy2 => by have := hwb y hy2; omega⟩
  refine ⟨a, cap, w', H3, H4, oo', e1, hbs, ha, st, ⟨w2, ⟨vals ++ [v], ?_, by simp [h2], fun j x q hj hq => ?_⟩, hoo, hlt⟩, c34, e5⟩
  · rw [List.map_append]
    exact e3.chg e4.wf w4 fun y hy hyb => by have := (hoo y hy).1; omega
  · have far : ∀ {z : Value} {m : List (List Value)} {o : Option Nat}, Buf H 1 z m o → (∀ y, o = some y → base ≤ y ∧ oo ≠ some y ∧ wb ≠ some y) → Buf H4 1 z m o ∧ ∀ y, o = some y → base ≤ y ∧ oo' ≠ some y ∧ wb ≠ some y := fun {z m o} hb hx =>
      ⟨hb.chg hw c34 fun y hy hX => by
        obtain ⟨x1, x2, x3⟩ := hx y hy
        rcases hX with hX | hX
        · omega
        · exact x2 hX, fun y hy => ⟨(hx y hy).1, fun hy2 => by
        rcases e5 y hy2 with h4 | h4
        · exact (hx y hy).2.1 h4
        · have := hb.lt hw y hy; omega, (hx y hy).2.2⟩⟩
    rcases Nat.lt_or_ge j vals.length with hj1 | hj1
    · rw [List.getElem?_append_left hj1] at hj
      rw [List.getElem?_append_left (by rw [← h2]; exact hj1)] at hq
      obtain ⟨o', k1, k2⟩ := h3 j x q hj hq
      exact ⟨o', far k1 k2⟩
    · rw [List.getElem?_append_right hj1] at hj
      rw [List.getElem?_append_right (by rw [← h2]; exact hj1), ← h2] at hq
      have hj0 : j - vals.length = 0 := by
        have := (List.getElem?_eq_some_iff.1 hj).1
        simp at this; omega
      rw [hj0] at hj hq
      have hvx : v = x := by simpa using hj
      have huq : u = q := by simpa using hq
      subst hvx huq
      exact ⟨o, far hv ho⟩
end Go.Proofs.Ytcgbiedfbacgpaa
/- The search of (*graph.Graph).First. -/
set_option maxHeartbeats 4000000
set_option maxRecDepth 20000
set_option linter.unusedSimpArgs false
set_option linter.unusedVariables false
set_option pp.deepTerms.threshold 8
namespace Go.Proofs.Ytcgbiedfbacgpaa
open Go Go.Proofs Go.Proofs.Sh
theorem graphWalk {H0 : AH} {base bA bO bM bG bW g n mx long : Nat} {E : List (List (Nat × Int × Int × Int))} {ends : List Int} {sv av ev cv za : Value} {vals : List Value} {sigma : List ByteArray} {costs : List Int}
    (hpg : ∀ H, Chg (fun y => y = bO ∨ base ≤ y) H0 H → PG H g n 60000 E ends sv av ev cv vals sigma costs)
    (hcA : ∀ H, Chg (fun y => y = bO ∨ base ≤ y) H0 H → H.cell ⟨bA, 0, some 0⟩ = some za)
    (hA : ∀ H, Chg (fun y => y = bO ∨ base ≤ y) H0 H → ∀ j, j ≤ long → ∃ p v, aindexAddr Try.prog 88 za (.int .i64 (j : Int)) = some (.pointer (some p)) ∧ H.cell p = some v ∧ ∃ B : List Bool, Sl H v 1 (B.map boolC) ∧ B.length = n ∧ ∀ t : Nat, B[t]? = some true ↔ exP E ends j t)
    (hcM : ∀ H, Chg (fun y => y = bO ∨ base ≤ y) H0 H → H.cell ⟨bM, 0, some 0⟩ = some (.int .i64 (mx : Int)))
    (hcG : ∀ H, Chg (fun y => y = bO ∨ base ≤ y) H0 H → H.cell ⟨bG, 0, some 0⟩ = some (.pointer (some ⟨g, 0, some 0⟩)))
    (hcW : ∀ H, Chg (fun y => y = bO ∨ base ≤ y) H0 H → H.cell ⟨bW, 0, some 0⟩ = some (.func (.func 49) #[] #[.pointer (some ⟨bA, 0, some 0⟩), .pointer (some ⟨bO, 0, some 0⟩), .pointer (some ⟨bM, 0, some 0⟩), .pointer (some ⟨bG, 0, some 0⟩), .pointer (some ⟨bW, 0, some 0⟩)]))
    (hsy : ∀ (s : Nat) r, E[s]? = some r → ∀ e ∈ r, e.2.1 < (sigma.length : Int)) (hsl : sigma.length ≤ 1000) (hmx : mx ≤ 1000) (hlong : long ≤ 1000) :
    ∀ (m : Nat) (H : AH) (Q : Nat → Prop) (s wv : Value) (w : List Nat) (wb : Option Nat) (out : List (List Nat)) (zo : Value) (oo : Option Nat), Chg (fun y => y = bO ∨ base ≤ y) H0 H → base ≤ H.next → SetAt H s n Q → (∀ a b, Q a → goesP E (fun k => k < 0) a b → Q b) → Stk H wv w wb → (∀ y, wb = some y → base ≤ y) → OutAt H base bO zo oo wb out → out.length ≤ mx → w.length + m ≤ long →
      Sh.Call Try.prog (knows 6) 49 [s, wv, .int .i64 (m : Int), .pointer (some ⟨bA, 0, some 0⟩), .pointer (some ⟨bO, 0, some 0⟩), .pointer (some ⟨bM, 0, some 0⟩), .pointer (some ⟨bG, 0, some 0⟩), .pointer (some ⟨bW, 0, some 0⟩)] H
        (fun _ H' => Chg (fun y => y = bO ∨ oo = some y ∨ wb = some y) H H' ∧ ∃ zo' oo', OutAt H' base bO zo' oo' wb ((out ++ (wordsP sigma.length E ends Q m).map (w ++ ·)).take mx) ∧ (∀ y, oo' = some y → oo = some y ∨ H.next ≤ y) ∧ ∀ y, wb = some y → StkKept H H' y w.length) := by
  intro m
  induction m using Nat.strongRecOn with
  | ind m ih =>
  intro H Q s wv w wb out zo oo hc0 hbn hS hQ hst hwb hO hol hwl
  have hw := hc0.wf
  have hbO := hO.lt
  refine call_of rfl Try.func49 rfl (Nat.le_of_ble_eq_true rfl) ?_
  have hres : Try.f49.results.toList = [] := rfl
  obtain ⟨L, hL, hnd, hlt, hLQ⟩ := hS
  have hn2 := (hpg H hc0).n2
  have hLl := nodup_le hnd hlt
  have nw : anew Try.prog 3 H (.int .i64 (m : Int)) = some (.pointer (some ⟨H.next, 0, some 0⟩), (H.new 1 [.int .i64 (m : Int)]).2) := new_cell size_3 rfl
  have k1 := Kept.new hw 1 [.int .i64 (m : Int)]
  have o1 := (Sh.Obj.new (H := H) 1 [.int .i64 (m : Int)]).arr
  have hx1 : H.next < (H.new 1 [.int .i64 (m : Int)]).2.next := Nat.lt_succ_self _
  simp only [↓Sh.dn, sx, Nat.reduceBEq, reduceCtorEq, Nat.reduceEqDiff, nw]
  generalize hbl : H.next = bl at o1 hx1 ⊢
  generalize (H.new 1 [.int .i64 (m : Int)]).2 = H1 at k1 o1 hx1 ⊢
  have hcx : ∀ {H'}, Kept H H' → Chg (fun y => y = bO ∨ base ≤ y) H0 H' := fun hk => hc0.trans hk.chg
  obtain ⟨r2, H2, hd2, hk2, rfl⟩ := containsFuncNat (caps := [.pointer (some ⟨bA, 0, some 0⟩), .pointer (some ⟨bl, 0, some 0⟩)]) (fid := 50) (fun t => tB (exP E ends m t)) (hL.grow (k1.grow hw)) (by omega) k1.wf (fun H' hk t ht => by
    refine call_of rfl Try.func50 rfl (Nat.le_of_ble_eq_true rfl) ?_
    have hres : Try.f50.results.toList = [.tmp 4] := rfl
    have c1 := hcA H' (hcx (k1.trans hk))
    have c2 : H'.cell ⟨bl, 0, some 0⟩ = some (.int .i64 (m : Int)) := (o1.keep (hk.old bl hx1)).cell 0
    obtain ⟨p, v, i1, i2, B, hB, hBl, hBi⟩ := hA H' (hcx (k1.trans hk)) m (by omega)
    have htl : t < B.length := by rw [hBl]; exact hlt t ht
    obtain ⟨p2, i3, i4⟩ := Sl.elem (s := 1) Try.underlying67 size_4 hB (i := t) (u := .bool B[t]) (by rw [List.getElem?_map, List.getElem?_eq_getElem htl]; rfl)
    have hg : B[t] = tB (exP E ends m t) := by
      rw [Bool.eq_iff_iff, tB_iff, ← hBi, List.getElem?_eq_getElem htl]
      simp
    simp only [↓Sh.dn, sx, Nat.reduceBEq, reduceCtorEq, Nat.reduceEqDiff, c1, c2, i1, i2, i3, i4, hres, hg]
    exact Kept.refl hk.wf)
  have k02 := k1.trans hk2
  have c02 := hcx k02
  have hO2 := hO.kept hw k02
  have hst2 := hst.chg hw (k02.chg (X := none')) fun _ _ h => h
  have cO := hO2.cell.cell 0
  have cM := hcM H2 c02
  have cG := hcG H2 c02
  have cL : H2.cell ⟨bl, 0, some 0⟩ = some (.int .i64 (m : Int)) := (o1.keep (hk2.old bl hx1)).cell 0
  have hlO := outLen hO2
  refine ⟨_, _, hd2, ?_⟩
  have skip : (wordsP sigma.length E ends Q m = [] ∨ mx ≤ out.length) → Chg (fun y => y = bO ∨ oo = some y ∨ wb = some y) H H2 ∧ ∃ zo' oo', OutAt H2 base bO zo' oo' wb ((out ++ (wordsP sigma.length E ends Q m).map (w ++ ·)).take mx) ∧ (∀ y, oo' = some y → oo = some y ∨ bl ≤ y) ∧ ∀ y, wb = some y → StkKept H H2 y w.length := fun hh => by
    have ho : (out ++ (wordsP sigma.length E ends Q m).map (w ++ ·)).take mx = out := by
      rcases hh with h1 | h1
      · rw [h1, List.map_nil, List.append_nil]; exact List.take_of_length_le hol
      · rw [List.take_append_of_le_length (by omega), List.take_of_length_le hol]
    rw [ho]
    exact ⟨k02.chg, zo, oo, hO2, fun y hy => .inl hy, fun y hy => StkKept.same (k02.old y (hst.lt hw y hy))⟩
  cases hany : L.any fun t => tB (exP E ends m t) with
  | false =>
    have hno : wordsP sigma.length E ends Q m = [] := wordsP_none fun s hs he => by
      have := (List.any_eq_true (p := fun t => tB (exP E ends m t))).2 ⟨s, (hLQ s).2 hs, tB_iff.2 he⟩
      rw [hany] at this; cases this
    simp only [↓Sh.dn, sx, Nat.reduceBEq, reduceCtorEq, Nat.reduceEqDiff, hres]
    exact skip (.inl hno)
  | true =>
  have hsome : ∃ s, Q s ∧ exP E ends m s := by
    obtain ⟨s, h1, h2⟩ := List.any_eq_true.1 hany
    exact ⟨s, (hLQ s).1 h1, tB_iff.1 h2⟩
  simp only [↓Sh.dn, sx, Nat.reduceBEq, reduceCtorEq, Nat.reduceEqDiff, cO, cM, hlO, nat_le]
  by_cases hfull : mx ≤ out.length
  · simp only [↓Sh.dn, sx, Nat.reduceBEq, reduceCtorEq, Nat.reduceEqDiff, hfull, decide_true, hres]
    exact skip (.inr hfull)
  simp only [↓Sh.dn, sx, Nat.reduceBEq, reduceCtorEq, Nat.reduceEqDiff, hfull, decide_false, cL]
  cases m with
  | zero =>
    have h00 : decide (((0 : Nat) : Int) = 0) = true := rfl
    simp only [↓Sh.dn, sx, Nat.reduceBEq, reduceCtorEq, Nat.reduceEqDiff, h00]
    obtain ⟨r3, H3, hd3, hk3, o3, hb3, hf3⟩ := cloneInt (hst2.sl) (by rw [List.length_map]; omega) hk2.wf
    have hO3 := hO2.kept hk2.wf hk3
    have k03 := k02.trans hk3
    obtain ⟨vz, hz1, hz2, hz3⟩ := hO2.ex
    obtain ⟨a, cap, w', H4, H5, oo', rfl, e1, e2, e3, hO5, hc5, hf5⟩ := outPush hO3 hk3.wf (by have := k03.next; omega) hb3 (fun y hy => ⟨by have := hf3 y hy; have := k02.next; omega, fun hy2 => by have := hz1.lt hk2.wf y hy2; have := hf3 y hy; omega, fun hy2 => by have := hst2.lt hk2.wf y hy2; have := hf3 y hy; omega⟩) (fun y hy => by have := hst.lt hw y hy; have := k03.next; omega) (by omega)
    have cO3 := hO3.cell.cell 0
    have hvz := hz1.veq
    refine wp_pend (fl := [(0, []), (1, []), (2, [0]), (3, []), (4, []), (5, [])]) (by kernel_rfl) (by kernel_rfl) (by kernel_rfl) ?_
    simp only [↓Sh.dn, sx, Nat.reduceBEq, reduceCtorEq, Nat.reduceEqDiff, wpr, again, isMake, veq_ptr, veq_int, veq_str, veq_bool, veq_undef, veq_slice, forall_eq, forall_eq', cO]
    refine ⟨_, _, hd3, ?_⟩
    simp only [↓Sh.dn, sx, Nat.reduceBEq, reduceCtorEq, Nat.reduceEqDiff, wpr, again, isMake, veq_ptr, veq_int, veq_str, veq_bool, veq_undef, veq_slice, forall_eq, forall_eq', cO3, e1, e2, e3, hres]
    have hW : wordsP sigma.length E ends Q 0 = [[]] := wordsP_zero hQ hsome
    have ho : (out ++ (wordsP sigma.length E ends Q 0).map (w ++ ·)).take mx = out ++ [w] := by
      rw [hW]
      simp only [List.map_cons, List.map_nil, List.append_nil]
      exact List.take_of_length_le (by rw [List.length_append, List.length_singleton]; omega)
    rw [ho]
    refine ⟨(k03.chg).trans (hc5.weak fun y hy => hy.imp id .inl), w', oo', hO5, fun y hy => ?_, fun y hy => StkKept.same ?_⟩
    · rcases hf5 y hy with h1 | h1
      · exact .inl h1
      · have := k03.next; exact .inr (by omega)
    · have hyl := hst.lt hw y hy
      rw [hc5.old y (Nat.lt_of_lt_of_le hyl k03.next) ?_, k03.old y hyl]
      rintro (h1 | h1)
      · have := hwb y hy; omega
      · exact (hO.ob y h1).2 hy
  | succ m =>
    have h00 : decide (((m + 1 : Nat) : Int) = 0) = false := by simp; omega
    have hLQ' : (fun s => s ∈ L) = Q := funext fun s => propext (hLQ s)
    obtain ⟨r3, H3, hd3, hk3, vs, hvl, hvs⟩ := graphSteps (hpg H2 c02) hsy hsl (hL.grow (k02.grow hw)) hlt (by omega) hk2.wf
    rw [hLQ'] at hvs
    have k03 := k02.trans hk3
    have hlv : ∀ H', abuiltin Try.prog .len [92] [r3] H' = some (.int .i64 (sigma.length : Int), H') := fun H' => by
      rw [(hvs H3 fun _ _ _ => rfl).1.len Try.underlying92, List.length_map, hvl]
    simp only [↓Sh.dn, sx, Nat.reduceBEq, reduceCtorEq, Nat.reduceEqDiff, h00, cG]
    refine ⟨_, _, hd3, ?_⟩
    simp only [↓Sh.dn, sx, Nat.reduceBEq, reduceCtorEq, Nat.reduceEqDiff, hlv]
    have hZ : ∀ y, (y = bO ∨ oo = some y ∨ wb = some y) → y < bl := fun y hy => by
      rcases hy with hy | hy | hy
      · omega
      · obtain ⟨vz, hz1, _⟩ := hO.ex
        rw [← hbl]; exact hz1.lt hw y hy
      · rw [← hbl]; exact hst.lt hw y hy
    have hZX : ∀ y, (y = bO ∨ oo = some y ∨ wb = some y) → (y = bO ∨ base ≤ y) := fun y hy => by
      rcases hy with hy | hy | hy
      · exact .inl hy
      · exact .inr (hO.ob y hy).1
      · exact .inr (hwb y hy)
    have hn3 := hk3.next
    have hn2' := hk2.next
    have hst3 := hst.chg hw (k03.chg (X := none')) fun _ _ h => h
    have ho0 : out.take mx = out := List.take_of_length_le hol
    refine wp_for sigma.length 34 (List.range' 34 24 ++ [11, 12]) (fun k F H' => Chg (fun y => y = bO ∨ oo = some y ∨ wb = some y) H3 H' ∧ ∃ zo' oo', OutAt H' base bO zo' oo' wb ((out ++ ((List.range k).flatMap fun k => (wordsP sigma.length E ends (stepP E Q k) m).map (fun u => w ++ k :: u))).take mx) ∧ (∀ y, oo' = some y → oo = some y ∨ H3.next ≤ y) ∧ ∀ y, wb = some y → StkKept H3 H' y w.length) (by simp only [↓Sh.dn, sx, Nat.reduceBEq, reduceCtorEq, Nat.reduceEqDiff])
      ⟨Chg.refl hk3.wf, zo, oo, by simpa [ho0] using hO2.kept hk2.wf hk3, fun y hy => .inl hy, fun y hy => StkKept.same rfl⟩ ?_ ?_
    · rintro k F H' hi hF f34 ⟨hc, zo', oo', hO', hof, hsk⟩ kk
      have f1 := hF 1 rfl
      have f4 := hF 4 rfl
      have f5 := hF 5 rfl
      have f7 := hF 7 rfl
      have f10 := hF 10 rfl
      have f32 := hF 32 rfl
      have f33 := hF 33 rfl
      simp only [↓Sh.dn, sx, Nat.reduceBEq, reduceCtorEq, Nat.reduceEqDiff] at f1 f4 f5 f7 f10 f32 f33
      have ch : Chg (fun y => y = bO ∨ base ≤ y) H0 H' := (hcx k03).then hc fun y hy _ => hZX y hy
      have cO' := hO'.cell.cell 0
      have cM' := hcM H' ch
      have cW' := hcW H' ch
      have hlO' := outLen hO'
      have hblZ : ¬(bl = bO ∨ oo = some bl ∨ wb = some bl) := fun h => Nat.lt_irrefl _ (hZ bl h)
      have ob' : Arr H' bl 0 1 [.int .i64 ((m + 1 : Nat) : Int)] := ((o1.keep (hk2.old bl hx1)).keep (hk3.old bl (by omega))).keep (hc.old bl (by omega) hblZ)
      have cL' := ob'.cell 0
      have hagree : ∀ {H'' : AH}, Chg (fun y => wb = some y) H' H'' → ∀ y, H2.next ≤ y → y < H3.next → H''.objs.get y = H3.objs.get y := fun {H''} hc' y h1 h2 => by
        have hny : ¬(y = bO ∨ oo = some y ∨ wb = some y) := fun h => by have := hZ y h; omega
        rw [hc'.old y (by have := hc.next; omega) fun h => hny (.inr (.inr h)), hc.old y h2 hny]
      obtain ⟨hsl1, hset1⟩ := hvs H' (hagree (Chg.refl hc.wf))
      obtain ⟨v, hv⟩ : ∃ v, vs[k]? = some v := ⟨vs[k]'(by rw [hvl]; exact hi), List.getElem?_eq_getElem _⟩
      obtain ⟨pk, ik, ck⟩ := Sl.elem (s := 1) Try.underlying92 size_53 hsl1 (i := k) (u := v) (by rw [List.getElem?_map, hv]; rfl)
      obtain ⟨L', hL', hnd', hlt', hLQ2⟩ := hset1 k v hv
      have hlL' := fun H'' => hL'.len Try.underlying53 H''
      simp only [List.length_map] at hlL'
      have hst' : Stk H' wv w wb := hst3.keep hsk
      have hrange : ((List.range (k + 1)).flatMap fun k => (wordsP sigma.length E ends (stepP E Q k) m).map (fun u => w ++ k :: u)) = ((List.range k).flatMap fun k => (wordsP sigma.length E ends (stepP E Q k) m).map (fun u => w ++ k :: u)) ++ (wordsP sigma.length E ends (stepP E Q k) m).map (fun u => w ++ k :: u) := by
        rw [List.range_succ, List.flatMap_append]; simp
      rw [hrange] at kk
      generalize hfm : ((List.range k).flatMap fun k => (wordsP sigma.length E ends (stepP E Q k) m).map (fun u => w ++ k :: u)) = FM at hO' hlO' kk
      have hltk : (out ++ FM).take mx = ((out ++ FM).take mx).take mx := by rw [List.take_take, Nat.min_self]
      have wi : IntKind.wrap .i64 ((k : Int) + 1) = ((k + 1 : Nat) : Int) := wrap_succ' hi (by omega)
      have hol' : ((out ++ FM).take mx).length ≤ mx := by rw [List.length_take]; omega
      have same : ((wordsP sigma.length E ends (stepP E Q k) m) = [] ∨ mx ≤ ((out ++ FM).take mx).length) → (out ++ (FM ++ (wordsP sigma.length E ends (stepP E Q k) m).map (fun u => w ++ k :: u))).take mx = (out ++ FM).take mx := fun hh => by
        rw [← List.append_assoc, ← take_app]
        rcases hh with h1 | h1
        · rw [h1, List.map_nil, List.append_nil, List.take_take, Nat.min_self]
        · rw [List.take_append_of_le_length h1, List.take_take, Nat.min_self]
      simp only [↓Sh.dn, sx, Nat.reduceBEq, reduceCtorEq, Nat.reduceEqDiff, f34, f32, f33, nat_lt, hi, decide_true, ik, ck, hlL']
      by_cases hle : L' = []
      · have hz : decide ((0 : Int) < ((L'.length : Nat) : Int)) = false := by rw [hle]; rfl
        simp only [↓Sh.dn, sx, Nat.reduceBEq, reduceCtorEq, Nat.reduceEqDiff, hz, f34, wi]
        refine kk _ _ (by repeat (first | refine Same.put ?_ rfl | exact Same.rfl' _)) (by simp only [↓Sh.dn, sx, Nat.reduceBEq, reduceCtorEq, Nat.reduceEqDiff]) ⟨hc, zo', oo', ?_, hof, hsk⟩
        rw [same (.inl (wordsP_none fun s hs _ => by have := (hLQ2 s).2 hs; rw [hle] at this; cases this))]
        exact hO'
      · have hz : decide ((0 : Int) < ((L'.length : Nat) : Int)) = true := by
          have := List.length_pos_iff.2 hle
          simp; omega
        simp only [↓Sh.dn, sx, Nat.reduceBEq, reduceCtorEq, Nat.reduceEqDiff, hz, f4, f5, cO', cM', hlO', nat_lt]
        by_cases hful : ((out ++ FM).take mx).length < mx
        · obtain ⟨a, cap, wv', H4, wb', hwe, p1, p2, p3, p4, p5⟩ := hst'.push hc.wf k
          subst hwe
          have hbs := build1_49 (H := H') (x := .int .i64 (k : Int)) rfl rfl
          have ha := app1_49 (H := H') (base := a) (len := w.length) (cap := cap) (x := [.int .i64 (k : Int)]) rfl (by omega)
          rw [p1] at ha
          have hwb2 : ∀ y, wb = some y → wb' = some y := fun y hy => by
            rcases p4 with h1 | ⟨h1, _⟩
            · rw [h1]; exact hy
            · rw [h1] at hy; cases hy
          have hwb3 : ∀ y, wb' = some y → wb = some y ∨ H'.next ≤ y := fun y hy => by
            rcases p4 with h1 | ⟨_, h1⟩
            · rw [h1] at hy; exact .inl hy
            · exact .inr (h1 y hy)
          have hcn := hc.next
          have hkn := k03.next
          have hwb' : ∀ y, wb' = some y → base ≤ y := fun y hy => by
            rcases hwb3 y hy with h1 | h1
            · exact hwb y h1
            · omega
          have ch4 : Chg (fun y => y = bO ∨ base ≤ y) H0 H4 := ch.trans (p3.weak fun y hy => .inr (hwb y hy))
          have hO4 := (hO'.hand hc.wf hwb3).chg hc.wf p3 hwb2 hwb'
          have hpn := p3.next
          obtain ⟨r5, H5, hd5, hc5, zo5, oo5, hO5, hof5, hsk5⟩ := ih m (Nat.lt_succ_self m) H4 (stepP E Q k) v wv' (w ++ [k]) wb' ((out ++ FM).take mx) zo' oo' ch4 (by omega) ((hvs H4 (hagree p3)).2 k v hv) stepP_closed p2 hwb' hO4 hol' (by rw [List.length_append, List.length_singleton]; omega)
          have cW4 := hcW H4 ch4
          have cL4 : H4.cell ⟨bl, 0, some 0⟩ = some (.int .i64 ((m + 1 : Nat) : Int)) := (ob'.keep (p3.old bl (by omega) fun h => hblZ (.inr (.inr h)))).cell 0
          have cLn : (H'.new 1 [.int .i64 (k : Int)]).2.cell ⟨bl, 0, some 0⟩ = some (.int .i64 ((m + 1 : Nat) : Int)) := (ob'.keep (new_old (by omega))).cell 0
          have cWn := hcW _ (ch.trans (Kept.new hc.wf 1 [.int .i64 (k : Int)]).chg)
          have wl : IntKind.wrap .i64 (((m + 1 : Nat) : Int) - 1) = (m : Int) := by rw [wrap64 (by omega) (by omega)]; omega
          have hvf : veq (.func (.func 49) #[] #[.pointer (some ⟨bA, 0, some 0⟩), .pointer (some ⟨bO, 0, some 0⟩), .pointer (some ⟨bM, 0, some 0⟩), .pointer (some ⟨bG, 0, some 0⟩), .pointer (some ⟨bW, 0, some 0⟩)]) (.func (.func 49) #[] #[.pointer (some ⟨bA, 0, some 0⟩), .pointer (some ⟨bO, 0, some 0⟩), .pointer (some ⟨bM, 0, some 0⟩), .pointer (some ⟨bG, 0, some 0⟩), .pointer (some ⟨bW, 0, some 0⟩)]) = true := by
            simp [veq, veqs, addrEq_self, beq_dec]
          simp only [↓Sh.dn, sx, Nat.reduceBEq, reduceCtorEq, Nat.reduceEqDiff, hful, decide_true]
          refine wp_pend (fl := [(0, []), (1, []), (2, []), (3, []), (4, []), (6, []), (7, []), (5, [6, 0]), (8, [])]) (by kernel_rfl) (by kernel_rfl) (by kernel_rfl) ?_
          simp only [↓Sh.dn, sx, Nat.reduceBEq, reduceCtorEq, Nat.reduceEqDiff, wpr, again, isMake, veq_ptr, veq_int, veq_str, veq_bool, veq_undef, veq_slice, forall_eq, forall_eq', f1, f7, f10, cW', cL', hbs, vcells, cLn, cWn, ha, cW4, cL4, hvf, veq_int, wl]
          refine ⟨_, _, by first | exact hd5 | simpa using hd5, ?_⟩
          simp only [↓Sh.dn, sx, Nat.reduceBEq, reduceCtorEq, Nat.reduceEqDiff, wpr, again, isMake, veq_ptr, veq_int, veq_str, veq_bool, veq_undef, veq_slice, forall_eq, forall_eq', f34, wi]
          refine kk _ _ (by repeat (first | refine Same.put ?_ rfl | exact Same.rfl' _)) (by simp only [↓Sh.dn, sx, Nat.reduceBEq, reduceCtorEq, Nat.reduceEqDiff]) ⟨(hc.trans (p3.weak fun y hy => .inr (.inr hy))).then hc5 fun y hy hlt3 => ?_, zo5, oo5, ?_, fun y hy => ?_, fun y hy => ?_⟩
          · rcases hy with h1 | h1 | h1
            · exact .inl h1
            · rcases hof y h1 with h2 | h2
              · exact .inr (.inl h2)
              · omega
            · rcases hwb3 y h1 with h2 | h2
              · exact .inr (.inr h2)
              · omega
          · have he : (out ++ (FM ++ (wordsP sigma.length E ends (stepP E Q k) m).map (fun u => w ++ k :: u))).take mx = ((out ++ FM).take mx ++ (wordsP sigma.length E ends (stepP E Q k) m).map (w ++ [k] ++ ·)).take mx := by
              rw [← List.append_assoc, ← take_app]
              congr 3
              funext u
              simp
            rw [he]
            exact hO5.hand hc5.wf fun y hy => .inl (hwb2 y hy)
          · rcases hof5 y hy with h1 | h1
            · exact hof y h1
            · exact .inr (by omega)
          · exact ((hsk y hy).trans (p5 y hy) (Nat.le_refl _)).trans (hsk5 y (hwb2 y hy)) (by rw [List.length_append]; exact Nat.le_add_right _ _)
        · simp only [↓Sh.dn, sx, Nat.reduceBEq, reduceCtorEq, Nat.reduceEqDiff, hful, decide_false, f34, wi]
          refine kk _ _ (by repeat (first | refine Same.put ?_ rfl | exact Same.rfl' _)) (by simp only [↓Sh.dn, sx, Nat.reduceBEq, reduceCtorEq, Nat.reduceEqDiff]) ⟨hc, zo', oo', ?_, hof, hsk⟩
          rw [same (.inr (by omega))]
          exact hO'
    · rintro F H' hF f34 ⟨hc, zo', oo', hO', hof, hsk⟩
      have f33 := hF 33 rfl
      simp only [↓Sh.dn, sx, Nat.reduceBEq, reduceCtorEq, Nat.reduceEqDiff] at f33
      simp only [↓Sh.dn, sx, Nat.reduceBEq, reduceCtorEq, Nat.reduceEqDiff, f33, f34, nat_lt, Nat.lt_irrefl, decide_false, hres]
      have he : (wordsP sigma.length E ends Q (m + 1)).map (w ++ ·) = (List.range sigma.length).flatMap fun k => (wordsP sigma.length E ends (stepP E Q k) m).map (fun u => w ++ k :: u) := by
        rw [wordsP_succ, List.map_flatMap]
        congr 1
        funext k
        rw [List.map_map]
        rfl
      rw [he]
      refine ⟨k03.chg.trans hc, zo', oo', hO', fun y hy => ?_, fun y hy => ?_⟩
      · rcases hof y hy with h1 | h1
        · exact .inl h1
        · exact .inr (by omega)
      · exact (StkKept.same (L := w.length) (k03.old y (hst.lt hw y hy))).trans (hsk y hy) (Nat.le_refl _)
end Go.Proofs.Ytcgbiedfbacgpaa
/- (*graph.Graph).First. -/
set_option maxHeartbeats 4000000
set_option maxRecDepth 20000
set_option linter.unusedSimpArgs false
set_option linter.unusedVariables false
set_option pp.deepTerms.threshold 8
namespace Go.Proofs.Ytcgbiedfbacgpaa
open Go Go.Proofs Go.Proofs.Sh
/-- Words by numbers in memory. -/
def WordsN (H : AH) (v : Value) (l : List (List Nat)) : Prop := ∃ (oo : Option Nat) (vals : List Value), Buf H 1 v (vals.map fun x => [x]) oo ∧ vals.length = l.length ∧ ∀ (j : Nat) x u, vals[j]? = some x → l[j]? = some u → Sl H x 1 (u.map natC)
/-- The words of at most so many symbols. -/
noncomputable def firstP (sg : Nat) (E : List (List (Nat × Int × Int × Int))) (ends : List Int) (k : Nat) : List (List Nat) := (List.range k).flatMap fun m => wordsP sg E ends (Clo (goesP E fun k => k < 0) fun s => s = 0) m
theorem firstP_more (sg : Nat) (E : List (List (Nat × Int × Int × Int))) (ends : List Int) {i n : Nat} (h : i ≤ n) : ∃ t, firstP sg E ends n = firstP sg E ends i ++ t := by
  induction n with
  | zero => exact ⟨[], by rw [show i = 0 by omega]; simp⟩
  | succ n ih =>
    by_cases hin : i = n + 1
    · exact ⟨[], by rw [hin]; simp⟩
    obtain ⟨t, ht⟩ := ih (by omega)
    refine ⟨t ++ wordsP sg E ends (Clo (goesP E fun k => k < 0) fun s => s = 0) n, ?_⟩
    unfold firstP at ht ⊢
    rw [List.range_succ, List.flatMap_append, ht]
    simp
theorem boxAt {t : Nat} {H : AH} {z x : Value} (hs : sizeAt Try.prog t = some 1) (hz : isCell z = true) (hx : isCell x = true) :
    anew Try.prog t H z = some (.pointer (some ⟨H.next, 0, some 0⟩), (H.new 1 [z]).2) ∧ astore Try.prog t (H.new 1 [z]).2 x (.pointer (some ⟨H.next, 0, some 0⟩)) = some (H.new 1 [x]).2 :=
  ⟨new_cell hs hz, by rw [store_cell hs hx]; exact write_new rfl⟩
theorem graphFirst {H : AH} {g n mx long : Nat} {E : List (List (Nat × Int × Int × Int))} {ends : List Int} {sv av ev cv : Value} {vals : List Value} {sigma : List ByteArray} {costs : List Int} (h : PG H g n 60000 E ends sv av ev cv vals sigma costs) (hsy : ∀ (s : Nat) r, E[s]? = some r → ∀ e ∈ r, e.2.1 < (sigma.length : Int)) (hsl : sigma.length ≤ 1000) (hmx : mx ≤ 1000) (hlong : long ≤ 900) (hw : Wf H) :
    Sh.Call Try.prog (knows 6) 30 [.pointer (some ⟨g, 0, some 0⟩), .int .i64 (mx : Int), .int .i64 (long : Int)] H (fun r H' => Kept H H' ∧ WordsN H' r ((firstP sigma.length E ends (long + 1)).take mx)) := by
  refine call_of rfl Try.func30 rfl (Nat.le_of_ble_eq_true rfl) ?_
  have hres : Try.f30.results.toList = [.tmp 6] := rfl
  obtain ⟨n1, _⟩ := boxAt (H := H) (x := .pointer none) size_45 (z := .pointer (some ⟨g, 0, some 0⟩)) rfl rfl
  have k1 := Kept.new hw 1 [.pointer (some ⟨g, 0, some 0⟩)]
  have oG := (Sh.Obj.new (H := H) 1 [.pointer (some ⟨g, 0, some 0⟩)]).arr
  have x1 : H.next < (H.new 1 [.pointer (some ⟨g, 0, some 0⟩)]).2.next := Nat.lt_succ_self _
  simp only [↓Sh.dn, sx, Nat.reduceBEq, reduceCtorEq, Nat.reduceEqDiff, n1]
  generalize hbG : H.next = bG at oG x1 ⊢
  generalize (H.new 1 [.pointer (some ⟨g, 0, some 0⟩)]).2 = H1 at k1 oG x1 ⊢
  obtain ⟨n2, _⟩ := boxAt (H := H1) (x := .int .i64 0) size_3 (z := .int .i64 (mx : Int)) rfl rfl
  have k2 := Kept.new k1.wf 1 [.int .i64 (mx : Int)]
  have oM := (Sh.Obj.new (H := H1) 1 [.int .i64 (mx : Int)]).arr
  have x2 : H1.next < (H1.new 1 [.int .i64 (mx : Int)]).2.next := Nat.lt_succ_self _
  simp only [↓Sh.dn, sx, Nat.reduceBEq, reduceCtorEq, Nat.reduceEqDiff, n2]
  generalize hbM : H1.next = bM at oM x2 x1 ⊢
  generalize (H1.new 1 [.int .i64 (mx : Int)]).2 = H2 at k2 oM x2 ⊢
  obtain ⟨n3, _⟩ := boxAt (H := H2) (x := .slice none 0 0) size_70 (z := .slice none 0 0) rfl rfl
  have k3 := Kept.new k2.wf 1 [.slice none 0 0]
  have oO := (Sh.Obj.new (H := H2) 1 [.slice none 0 0]).arr
  have x3 : H2.next < (H2.new 1 [.slice none 0 0]).2.next := Nat.lt_succ_self _
  have cG3 : (H2.new 1 [.slice none 0 0]).2.cell ⟨bG, 0, some 0⟩ = some (.pointer (some ⟨g, 0, some 0⟩)) := ((oG.keep (k2.old bG (by omega))).keep (k3.old bG (by omega))).cell 0
  simp only [↓Sh.dn, sx, Nat.reduceBEq, reduceCtorEq, Nat.reduceEqDiff, n3, cG3]
  generalize hbO : H2.next = bO at oO x3 x2 ⊢
  generalize (H2.new 1 [.slice none 0 0]).2 = H3 at k3 oO x3 cG3 ⊢
  have hk3 := (k1.trans k2).trans k3
  obtain ⟨r4, H4, hd4, hk4, ob, hA⟩ := graphAlive (h.kept hw hk3) (by omega) (most := long) (by omega) hk3.wf
  refine ⟨_, _, hd4, ?_⟩
  have hAc : isCell r4 = true := by
    obtain ⟨_, _, hb, _⟩ := hA
    exact hb.isCell
  obtain ⟨n5, s5⟩ := boxAt (H := H4) (x := r4) (z := .slice none 0 0) size_88 rfl hAc
  have k5 := Kept.new hk4.wf 1 [r4]
  have oA := (Sh.Obj.new (H := H4) 1 [r4]).arr
  have x5 : H4.next < (H4.new 1 [r4]).2.next := Nat.lt_succ_self _
  simp only [↓Sh.dn, sx, Nat.reduceBEq, reduceCtorEq, Nat.reduceEqDiff, n5, s5]
  have x4 := hk4.next
  generalize hbA : H4.next = bA at oA x5 x4 ⊢
  generalize (H4.new 1 [r4]).2 = H5 at k5 oA x5 ⊢
  obtain ⟨n6, s6⟩ := boxAt (H := H5) (x := .func (.func 49) #[] #[.pointer (some ⟨bA, 0, some 0⟩), .pointer (some ⟨bO, 0, some 0⟩), .pointer (some ⟨bM, 0, some 0⟩), .pointer (some ⟨bG, 0, some 0⟩), .pointer (some ⟨H5.next, 0, some 0⟩)]) (z := .nilFunc) size_90 rfl rfl
  have k6 := Kept.new k5.wf 1 [.func (.func 49) #[] #[.pointer (some ⟨bA, 0, some 0⟩), .pointer (some ⟨bO, 0, some 0⟩), .pointer (some ⟨bM, 0, some 0⟩), .pointer (some ⟨bG, 0, some 0⟩), .pointer (some ⟨H5.next, 0, some 0⟩)]]
  have oW := (Sh.Obj.new (H := H5) 1 [.func (.func 49) #[] #[.pointer (some ⟨bA, 0, some 0⟩), .pointer (some ⟨bO, 0, some 0⟩), .pointer (some ⟨bM, 0, some 0⟩), .pointer (some ⟨bG, 0, some 0⟩), .pointer (some ⟨H5.next, 0, some 0⟩)]]).arr
  have x6 : H5.next < (H5.new 1 [.func (.func 49) #[] #[.pointer (some ⟨bA, 0, some 0⟩), .pointer (some ⟨bO, 0, some 0⟩), .pointer (some ⟨bM, 0, some 0⟩), .pointer (some ⟨bG, 0, some 0⟩), .pointer (some ⟨H5.next, 0, some 0⟩)]]).2.next := Nat.lt_succ_self _
  have hk36 := (hk4.trans k5).trans k6
  have cG6 := ((oG.keep (k2.old bG (by omega))).keep (k3.old bG (by omega))).keep (hk36.old bG (by omega))
  have cG6' := cG6.cell 0
  simp only [List.getElem?_cons_zero] at cG6'
  simp only [↓Sh.dn, sx, Nat.reduceBEq, reduceCtorEq, Nat.reduceEqDiff, n6, s6, cG6']
  generalize hbW : H5.next = bW at k6 oW x6 x5 hk36 cG6 ⊢
  generalize (H5.new 1 [.func (.func 49) #[] #[.pointer (some ⟨bA, 0, some 0⟩), .pointer (some ⟨bO, 0, some 0⟩), .pointer (some ⟨bM, 0, some 0⟩), .pointer (some ⟨bG, 0, some 0⟩), .pointer (some ⟨bW, 0, some 0⟩)]]).2 = H6 at k6 oW x6 hk36 cG6 ⊢
  have hk6 := hk3.trans hk36
  obtain ⟨r7, H0, hd7, hk7, out0, b0, hb0, hf0, hnd0, hlt0, hi0⟩ := graphBegin (h.kept hw hk6) hk6.wf
  have hk0 := hk6.trans hk7
  have x7 := hk7.next
  refine ⟨_, _, hd7, ?_⟩
  have hk37 := hk36.trans hk7
  have hold : ∀ {H' : AH} {y : Nat}, Chg (fun y => y = bO ∨ H0.next ≤ y) H0 H' → y < H0.next → y ≠ bO → H'.objs.get y = H0.objs.get y := fun hc hy hne => hc.old _ hy (by rintro (h1 | h1) <;> omega)
  have hO0 : OutAt H0 H0.next bO (.slice none 0 0) none none [] := ⟨oO.keep (hk37.old bO (by omega)), ⟨[], .void none, rfl, fun j v u hj => by simp at hj⟩, (fun y hy => by cases hy), by omega⟩
  have oG0 := cG6.keep (hk7.old bG (by omega))
  have oM0 := ((oM.keep (k3.old bM (by omega))).keep (hk36.old bM (by omega))).keep (hk7.old bM (by omega))
  have oA0 := (oA.keep (k6.old bA (by omega))).keep (hk7.old bA (by omega))
  have oW0 := oW.keep (hk7.old bW (by omega))
  have hA0 := hA.kept hk4.wf ((k5.trans k6).trans hk7)
  have hwalk := graphWalk (H0 := H0) (base := H0.next) (bA := bA) (bO := bO) (bM := bM) (bG := bG) (bW := bW) (mx := mx) (long := long) (za := r4)
    (fun H' hc => h.kept hw (hk0.then (Nat.le_refl _) (hc.weak fun y hy => by rcases hy with h1 | h1 <;> omega)))
    (fun H' hc => (oA0.keep (hold hc (by omega) (by omega))).cell 0)
    (fun H' hc j hj => (hA0.keepR hk0.wf fun y h1 h2 => hold hc h2 (by omega)).at (by omega))
    (fun H' hc => (oM0.keep (hold hc (by omega) (by omega))).cell 0)
    (fun H' hc => (oG0.keep (hold hc (by omega) (by omega))).cell 0)
    (fun H' hc => (oW0.keep (hold hc (by omega) (by omega))).cell 0)
    hsy hsl hmx (by omega)
  have hQ0 : (fun t => t ∈ out0) = Clo (goesP E fun k => k < 0) fun s => s = 0 := funext fun t => propext (hi0 t)
  have hS0 : ∀ {H' : AH}, Chg (fun y => y = bO ∨ H0.next ≤ y) H0 H' → SetAt H' r7 n (Clo (goesP E fun k => k < 0) fun s => s = 0) := fun {H'} hc =>
    ⟨out0, (hb0.keep fun y hy => hold hc (hb0.lt hk7.wf y hy) (by have := hf0 y hy; omega)).toSl, hnd0, hlt0, hi0⟩
  have fin : ∀ {H' : AH} {zo : Value} {oo : Option Nat} {i : Nat}, i ≤ long + 1 → OutAt H' H0.next bO zo oo none ((firstP sigma.length E ends i).take mx) → (i = long + 1 ∨ mx ≤ ((firstP sigma.length E ends i).take mx).length) → WordsN H' zo ((firstP sigma.length E ends (long + 1)).take mx) := fun {H' zo oo i} hi hO hh => by
    have he : (firstP sigma.length E ends (long + 1)).take mx = (firstP sigma.length E ends i).take mx := by
      rcases hh with h1 | h1
      · rw [h1]
      · obtain ⟨t, ht⟩ := firstP_more sigma.length E ends hi
        rw [ht, List.take_append_of_le_length]
        rw [List.length_take] at h1; omega
    rw [he]
    obtain ⟨vs, h1, h2, h3⟩ := hO.ex
    exact ⟨oo, vs, h1, h2, fun j v u hv hu => by
      obtain ⟨o, h4, _⟩ := h3 j v u hv hu
      exact h4.toSl⟩
  have fz : firstP sigma.length E ends 0 = [] := rfl
  refine wp_for (long + 1) 11 (List.range' 11 22) (fun i F H' => Chg (fun y => y = bO ∨ H0.next ≤ y) H0 H' ∧ ∃ zo oo, OutAt H' H0.next bO zo oo none ((firstP sigma.length E ends i).take mx)) (by simp only [↓Sh.dn, sx, Nat.reduceBEq, reduceCtorEq, Nat.reduceEqDiff]) ⟨Chg.refl hk0.wf, _, none, by rw [fz]; simpa using hO0⟩ ?_ ?_
  · rintro i F H' hi hF f11 ⟨hc, zo, oo, hO⟩ k
    have f2 := hF 2 rfl
    have f4 := hF 4 rfl
    have f7 := hF 7 rfl
    have f9 := hF 9 rfl
    have f10 := hF 10 rfl
    simp only [↓Sh.dn, sx, Nat.reduceBEq, reduceCtorEq, Nat.reduceEqDiff] at f2 f4 f7 f9 f10
    have cO := hO.cell.cell 0
    simp only [List.getElem?_cons_zero] at cO
    have cM := (oM0.keep (hold hc (by omega) (by omega))).cell 0
    have cW := (oW0.keep (hold hc (by omega) (by omega))).cell 0
    simp only [List.getElem?_cons_zero] at cM cW
    have hlO := outLen hO
    have hil : i ≤ long := by omega
    simp only [↓Sh.dn, sx, Nat.reduceBEq, reduceCtorEq, Nat.reduceEqDiff, f2, f11, nat_le, hil, decide_true, f4, f7, cO, cM, hlO, nat_lt]
    by_cases hfull : ((firstP sigma.length E ends i).take mx).length < mx
    · obtain ⟨r8, H8, hd8, hc8, zo8, oo8, hO8, hof8, _⟩ := hwalk i H' (Clo (goesP E fun k => k < 0) fun s => s = 0) r7 (.slice none 0 0) [] none _ zo oo hc hc.next (hS0 hc) (fun a b h1 h2 => .step h1 h2) (.void none) (fun y hy => by cases hy) hO (by rw [List.length_take]; omega) (by simp; omega)
      simp only [↓Sh.dn, sx, Nat.reduceBEq, reduceCtorEq, Nat.reduceEqDiff, hfull, decide_true, f9, f10, f11, cW]
      refine ⟨_, _, by first | exact hd8 | simpa using hd8, ?_⟩
      simp only [↓Sh.dn, sx, Nat.reduceBEq, reduceCtorEq, Nat.reduceEqDiff, f11, wrap_succ' hi (by omega)]
      refine k _ _ (by repeat (first | refine Same.put ?_ rfl | exact Same.rfl' _)) (by simp only [↓Sh.dn, sx, Nat.reduceBEq, reduceCtorEq, Nat.reduceEqDiff]) ⟨hc.trans (hc8.weak fun y hy => ?_), zo8, oo8, ?_⟩
      · rcases hy with h1 | h1 | h1
        · exact .inl h1
        · exact .inr (hO.ob y h1).1
        · cases h1
      · have he : (firstP sigma.length E ends (i + 1)).take mx = ((firstP sigma.length E ends i).take mx ++ (wordsP sigma.length E ends (Clo (goesP E fun k => k < 0) fun s => s = 0) i).map ([] ++ ·)).take mx := by
          rw [take_app]
          unfold firstP
          rw [List.range_succ, List.flatMap_append]
          simp
        rw [he]
        exact hO8
    · simp only [↓Sh.dn, sx, Nat.reduceBEq, reduceCtorEq, Nat.reduceEqDiff, hfull, decide_false, f7, cO, hres]
      exact ⟨hk0.then (Nat.le_refl _) (hc.weak fun y hy => by rcases hy with h1 | h1 <;> omega), fin (by omega) hO (.inr (by omega))⟩
  · rintro F H' hF f11 ⟨hc, zo, oo, hO⟩
    have f2 := hF 2 rfl
    have f7 := hF 7 rfl
    simp only [↓Sh.dn, sx, Nat.reduceBEq, reduceCtorEq, Nat.reduceEqDiff] at f2 f7
    have cO := hO.cell.cell 0
    simp only [List.getElem?_cons_zero] at cO
    have hno : ¬(long + 1 ≤ long) := by omega
    simp only [↓Sh.dn, sx, Nat.reduceBEq, reduceCtorEq, Nat.reduceEqDiff, f2, f7, f11, nat_le, hno, decide_false, cO, hres]
    exact ⟨hk0.then (Nat.le_refl _) (hc.weak fun y hy => by rcases hy with h1 | h1 <;> omega), fin (Nat.le_refl _) hO (.inl rfl)⟩
end Go.Proofs.Ytcgbiedfbacgpaa
/- (*graph.Graph).Beyond. -/
set_option maxHeartbeats 4000000
set_option maxRecDepth 20000
set_option linter.unusedSimpArgs false
set_option linter.unusedVariables false
set_option pp.deepTerms.threshold 8
namespace Go.Proofs.Ytcgbiedfbacgpaa
open Go Go.Proofs Go.Proofs.Sh
theorem graphBeyond {H : AH} {g n most : Nat} {E : List (List (Nat × Int × Int × Int))} {ends : List Int} {sv av ev cv : Value} {vals : List Value} {sigma : List ByteArray} {costs : List Int} (h : PG H g n 60000 E ends sv av ev cv vals sigma costs) (hsg : sigma.length ≤ 1048576) (hm : most ≤ 1000) (hw : Wf H) :
    Sh.Call Try.prog (knows 6) 31 [.pointer (some ⟨g, 0, some 0⟩), .int .i64 (most : Int)] H (fun r H' => Kept H H' ∧ r = .bool (tB (∃ j, most < j ∧ exP E ends j 0))) := by
  refine call_of rfl Try.func31 rfl (Nat.le_of_ble_eq_true rfl) ?_
  have hres : Try.f31.results.toList = [.tmp 4] := rfl
  have hn1 := h.n1
  have hn2 := h.n2
  have hc1 := h.gr.arr.cell 1
  have hlenA : ∀ H', abuiltin Try.prog .len [60] [av] H' = some (.int .i64 (n : Int), H') := fun H' => by
    rw [h.gr.jag.sl.len Try.underlying60, List.length_map, h.gr.jag.len]; unfold gCells; rw [List.length_map, h.le]
  obtain ⟨r1, H1, hd1, hk1, g1, rfl, R, base, hbase, hG, hRl, hRr, hRg⟩ := graphBack h hsg hw
  obtain ⟨sv', av', ev', cv', vals', hR⟩ := hG.read
  have hPG : PG H1 g1 n 180000000 R (List.replicate n 0) sv' av' ev' cv' vals' sigma (List.replicate n 0) := ⟨hR, hRl, by simp, h.n1, h.n2, fun s r hr => hRr r (List.mem_of_getElem? hr)⟩
  obtain ⟨nw, st⟩ := boxBack (H := H1) (g := g1)
  have kn := Kept.new hk1.wf 1 [.pointer (some ⟨g1, 0, some 0⟩)]
  have obx := (Sh.Obj.new (H := H1) 1 [.pointer (some ⟨g1, 0, some 0⟩)]).arr
  have hbx : (H1.new 1 [.pointer (some ⟨g1, 0, some 0⟩)]).2.cell ⟨H1.next, 0, some 0⟩ = some (.pointer (some ⟨g1, 0, some 0⟩)) := obx.cell 0
  have hP2 := hPG.kept hk1.wf kn
  have hk2 := hk1.trans kn
  simp only [↓Sh.dn, sx, Nat.reduceBEq, reduceCtorEq, Nat.reduceEqDiff]
  refine ⟨_, _, hd1, ?_⟩
  simp only [↓Sh.dn, sx, Nat.reduceBEq, reduceCtorEq, Nat.reduceEqDiff, nw, st]
  generalize hbxe : H1.next = bx at hbx ⊢
  generalize (H1.new 1 [.pointer (some ⟨g1, 0, some 0⟩)]).2 = H2 at hP2 hk2 hbx ⊢
  have hsp := spreadBeyond hP2 hbx hk2.wf
  obtain ⟨r3, H3, hd3, hk3, ob, hA⟩ := graphAlive (h.kept hw hk2) hsg hm hk2.wf
  have hk03 := hk2.trans hk3
  have hlA := hA.len
  obtain ⟨p, v, i1, i2, X, hX, hXl, hXi⟩ := hA.at (j := most) (Nat.lt_succ_self _)
  have wl : IntKind.wrap .i64 (((most + 1 : Nat) : Int) - 1) = (most : Int) := by rw [wrap64 (by omega) (by omega)]; omega
  have q1 := cell_grow (hk03.grow hw) hc1
  have wn : IntKind.wrap .i64 ((n : Int) + 1) = ((n + 1 : Nat) : Int) := by rw [wrap64 (by omega) (by omega)]; omega
  refine ⟨_, _, hd3, ?_⟩
  simp only [↓Sh.dn, sx, Nat.reduceBEq, reduceCtorEq, Nat.reduceEqDiff, hlA, wl, i1, i2, q1, hlenA, wn]
  refine wp_for (n + 1) 27 (List.range' 27 10 ++ [8]) (fun i F H' => Kept H2 H' ∧ ∃ v, F.get 8 = some v ∧ ∃ B : List Bool, Sl H' v 1 (B.map boolC) ∧ B.length = n ∧ (∀ t : Nat, B[t]? = some true ↔ exP E ends (most + i) t) ∧ ∀ j, most < j → j ≤ most + i → ¬exP E ends j 0) (by simp only [↓Sh.dn, sx, Nat.reduceBEq, reduceCtorEq, Nat.reduceEqDiff]) ⟨hk3, v, by simp only [↓Sh.dn, sx, Nat.reduceBEq, reduceCtorEq, Nat.reduceEqDiff], X, hX, hXl, hXi, fun j h1 h2 => by omega⟩ ?_ ?_
  · rintro i F H' hi hF f27 ⟨hk, v, f8, B, hB, hBl, hBi, hno⟩ k
    have f5 := hF 5 rfl
    have f6 := hF 6 rfl
    have f26 := hF 26 rfl
    simp only [↓Sh.dn, sx, Nat.reduceBEq, reduceCtorEq, Nat.reduceEqDiff] at f5 f6 f26
    have cb := cell_grow (hk.grow hk2.wf) hbx
    obtain ⟨r6, H6, hd6, hk6, B6, o6, hB6, hB6o, hB6l, hB6i⟩ := graphMore (caps := [.pointer (some ⟨bx, 0, some 0⟩)]) (fid := 54) (hP2.kept hk2.wf hk) hB hBl hk.wf (fun H'' hk'' => hsp H'' (hk.trans hk''))
    have hQ : ∀ t : Nat, B6[t]? = some true ↔ exP E ends (most + (i + 1)) t := fun t => by rw [hB6i, exP_succ hRg hBi]; rfl
    obtain ⟨b, hb⟩ : ∃ b, B6[0]? = some b := ⟨B6[0]'(by rw [hB6l]; exact hn1), List.getElem?_eq_getElem _⟩
    obtain ⟨q, e1, e2⟩ := Sl.elem (s := 1) Try.underlying67 size_4 hB6.toSl (i := 0) (u := .bool b) (by rw [List.getElem?_map, hb]; rfl)
    have e1' : aindexAddr Try.prog 67 r6 (.int .i64 0) = some (.pointer (some q)) := e1
    have hlt : decide ((i : Int) < ((n + 1 : Nat) : Int)) = true := by simp; omega
    simp only [↓Sh.dn, sx, Nat.reduceBEq, reduceCtorEq, Nat.reduceEqDiff, f27, f26, hlt, f5, cb, f6, f8]
    refine ⟨_, _, by first | exact hd6 | simpa using hd6, ?_⟩
    simp only [↓Sh.dn, sx, Nat.reduceBEq, reduceCtorEq, Nat.reduceEqDiff, e1', e2]
    cases b with
    | true =>
      have : tB (∃ j, most < j ∧ exP E ends j 0) = true := tB_iff.2 ⟨most + (i + 1), by omega, (hQ 0).1 hb⟩
      simp only [↓Sh.dn, sx, Nat.reduceBEq, reduceCtorEq, Nat.reduceEqDiff, hres, this]
      exact hk2.trans (hk.trans hk6)
    | false =>
      simp only [↓Sh.dn, sx, Nat.reduceBEq, reduceCtorEq, Nat.reduceEqDiff, f27, wrap_succ' hi (by omega)]
      refine k _ _ (by repeat (first | refine Same.put ?_ rfl | exact Same.rfl' _)) (by simp only [↓Sh.dn, sx, Nat.reduceBEq, reduceCtorEq, Nat.reduceEqDiff]) ⟨hk.trans hk6, r6, by simp only [↓Sh.dn, sx, Nat.reduceBEq, reduceCtorEq, Nat.reduceEqDiff], B6, hB6.toSl, hB6l, hQ, fun j h1 h2 h3 => ?_⟩
      by_cases hj : j = most + (i + 1)
      · subst hj
        have := (hQ 0).2 h3
        rw [hb] at this; cases this
      · exact hno j h1 (by omega) h3
  · rintro F H' hF f27 ⟨hk, v, f8, B, hB, hBl, hBi, hno⟩
    have f26 := hF 26 rfl
    simp only [↓Sh.dn, sx, Nat.reduceBEq, reduceCtorEq, Nat.reduceEqDiff] at f26
    have hlt : decide (((n + 1 : Nat) : Int) < ((n + 1 : Nat) : Int)) = false := by simp
    have : tB (∃ j, most < j ∧ exP E ends j 0) = false := by
      cases hb : tB (∃ j, most < j ∧ exP E ends j 0) with
      | false => rfl
      | true =>
        obtain ⟨m, h1, h2⟩ := tB_iff.1 hb
        obtain ⟨j, h3, h4, h5⟩ := exactly_pump (n := n) (fun s t hst => by
          obtain ⟨r, k1, e, k2, k3, _⟩ := hst
          rw [← k3]; exact (h.to s r k1).2 e k2) m h1 h2
        exact absurd h5 (hno j h3 (by omega))
    simp only [↓Sh.dn, sx, Nat.reduceBEq, reduceCtorEq, Nat.reduceEqDiff, f26, f27, hlt, hres, this]
    exact hk2.trans hk
end Go.Proofs.Ytcgbiedfbacgpaa
/- Whether lists of texts are equal; a text is put into a list; ascending lists. -/
set_option maxHeartbeats 4000000
set_option maxRecDepth 20000
set_option linter.unusedSimpArgs false
set_option linter.unusedVariables false
set_option pp.deepTerms.threshold 8
namespace Go.Proofs.Ytcgbiedfbacgpaa
open Go Go.Proofs Go.Proofs.Sh
/-- The order of lists of texts: text by text, a beginning first. -/
def ordW : List ByteArray → List ByteArray → Int
  | [], [] => 0
  | [], _ :: _ => -1
  | _ :: _, [] => 1
  | a :: x, b :: y => if strLt a b = true then -1 else if a = b then ordW x y else 1
theorem ordW_self : ∀ l, ordW l l = 0
  | [] => rfl
  | a :: x => by simp [ordW, strLt_irrefl, ordW_self x]
theorem ordW_eq : ∀ {l m : List ByteArray}, ordW l m = 0 ↔ l = m
  | [], [] => by simp [ordW]
  | [], _ :: _ => by simp [ordW]
  | _ :: _, [] => by simp [ordW]
  | a :: x, b :: y => by
    unfold ordW
    by_cases h : strLt a b = true
    · rw [if_pos h]
      constructor
      · intro h1; cases h1
      · intro h1; injection h1 with h1 _; rw [h1, strLt_irrefl] at h; cases h
    · rw [if_neg h]
      by_cases h2 : a = b
      · rw [if_pos h2, ordW_eq, h2]; simp
      · rw [if_neg h2]; simp [h2]
theorem ordW_drop : ∀ {i : Nat} {l m : List ByteArray}, l.take i = m.take i → ordW l m = ordW (l.drop i) (m.drop i)
  | 0, l, m, _ => rfl
  | i + 1, [], [], _ => rfl
  | i + 1, [], _ :: _, h => by simp at h
  | i + 1, _ :: _, [], h => by simp at h
  | i + 1, a :: x, b :: y, h => by
    simp only [List.take_succ_cons, List.cons.injEq] at h
    obtain ⟨h1, h2⟩ := h
    subst h1
    simp only [List.drop_succ_cons]
    rw [← ordW_drop h2]
    unfold ordW
    rw [strLt_irrefl]
    cases x <;> cases y <;> simp [ordW]
theorem refOrdW {H : AH} {v u : Value} {l m : List ByteArray} (hl : Sl H v 1 (l.map strCell)) (hm : Sl H u 1 (m.map strCell)) (hll : l.length ≤ 1048576) (hml : m.length ≤ 1048576) (hw : Wf H) :
    Sh.Call Try.prog (knows 6) 19 [v, u] H (fun r H' => H' = H ∧ r = .int .i64 (ordW l m)) := by
  refine call_of rfl Try.func19 rfl (Nat.le_of_ble_eq_true rfl) ?_
  have hres : Try.f19.results.toList = [.tmp 4] := rfl
  have hlen := fun H' => hl.len Try.underlying22 H'
  have mlen := fun H' => hm.len Try.underlying22 H'
  simp only [List.length_map] at hlen mlen
  simp only [↓Sh.dn, sx, Nat.reduceBEq, reduceCtorEq, Nat.reduceEqDiff]
  have hmin : min l.length m.length ≤ 1048576 := by omega
  refine wp_for (min l.length m.length) 5 (List.range' 5 31) (fun i F H' => H' = H ∧ l.take i = m.take i) (by simp only [↓Sh.dn, sx, Nat.reduceBEq, reduceCtorEq, Nat.reduceEqDiff]) ⟨rfl, rfl⟩ ?_ ?_
  · rintro i F H' hi hF f5 ⟨rfl, htk⟩ k
    have f0 := hF 0 rfl
    have f1 := hF 1 rfl
    simp only [↓Sh.dn, sx, Nat.reduceBEq, reduceCtorEq, Nat.reduceEqDiff] at f0 f1
    have hi1 : i < l.length := by omega
    have hi2 : i < m.length := by omega
    obtain ⟨p1, hia1, hc1⟩ := Sl.elem (s := 1) Try.underlying22 size_9 hl (i := i) (u := .string l[i]) (by rw [List.getElem?_map, List.getElem?_eq_getElem hi1]; rfl)
    obtain ⟨p2, hia2, hc2⟩ := Sl.elem (s := 1) Try.underlying22 size_9 hm (i := i) (u := .string m[i]) (by rw [List.getElem?_map, List.getElem?_eq_getElem hi2]; rfl)
    have ho : ∀ k : Int, ordW (l[i] :: l.drop (i + 1)) (m[i] :: m.drop (i + 1)) = k → ordW l m = k := fun k hk => by
      rw [ordW_drop htk, List.drop_eq_getElem_cons hi1, List.drop_eq_getElem_cons hi2]; exact hk
    have ht1 : l.take (i + 1) = l.take i ++ [l[i]] := by rw [List.take_add_one, List.getElem?_eq_getElem hi1]; rfl
    have ht2 : m.take (i + 1) = m.take i ++ [m[i]] := by rw [List.take_add_one, List.getElem?_eq_getElem hi2]; rfl
    generalize l[i] = x at hc1 ho ht1
    generalize m[i] = y at hc2 ho ht2
    simp only [↓Sh.dn, sx, Nat.reduceBEq, reduceCtorEq, Nat.reduceEqDiff, f0, f1, f5, hlen, mlen, nat_lt, hi1, hi2, decide_true, hia1, hc1, hia2, hc2]
    cases hlt : strLt x y with
    | true =>
      have := ho (-1) (by simp [ordW, hlt])
      simp only [↓Sh.dn, sx, Nat.reduceBEq, reduceCtorEq, Nat.reduceEqDiff, hres, this]
    | false =>
      by_cases hxy : x = y
      · simp only [↓Sh.dn, sx, Nat.reduceBEq, reduceCtorEq, Nat.reduceEqDiff, f0, f1, f5, hia1, hc1, hia2, hc2, hlt, hxy, decide_true, strLt_irrefl, wrap_succ hi hmin]
        exact k _ _ (by repeat (first | refine Same.put ?_ rfl | exact Same.rfl' _)) (by simp only [↓Sh.dn, sx, Nat.reduceBEq, reduceCtorEq, Nat.reduceEqDiff]) ⟨rfl, by rw [ht1, ht2, htk, hxy]⟩
      · have := ho 1 (by simp [ordW, hlt, hxy])
        simp only [↓Sh.dn, sx, Nat.reduceBEq, reduceCtorEq, Nat.reduceEqDiff, f0, f1, f5, hia1, hc1, hia2, hc2, hlt, hxy, decide_false, hres, this]
  · rintro F H' hF f5 ⟨rfl, htk⟩
    have f0 := hF 0 rfl
    have f1 := hF 1 rfl
    simp only [↓Sh.dn, sx, Nat.reduceBEq, reduceCtorEq, Nat.reduceEqDiff] at f0 f1
    by_cases h1 : l.length < m.length
    · have e : min l.length m.length = l.length := by omega
      rw [e] at f5 htk
      have : ordW l m = -1 := by
        rw [ordW_drop htk, List.drop_length, List.drop_eq_getElem_cons h1]; rfl
      simp only [↓Sh.dn, sx, Nat.reduceBEq, reduceCtorEq, Nat.reduceEqDiff, f0, f1, f5, hlen, mlen, nat_lt, Nat.lt_irrefl, h1, decide_true, decide_false, hres, this]
    · have e : min l.length m.length = m.length := by omega
      rw [e] at f5 htk
      by_cases h2 : m.length < l.length
      · have : ordW l m = 1 := by
          rw [ordW_drop htk, List.drop_length, List.drop_eq_getElem_cons h2]; rfl
        simp only [↓Sh.dn, sx, Nat.reduceBEq, reduceCtorEq, Nat.reduceEqDiff, f0, f1, f5, hlen, mlen, nat_lt, Nat.lt_irrefl, h1, h2, decide_true, decide_false, hres, this]
      · have heq : l = m := by
          rw [List.take_length, List.take_of_length_le (by omega)] at htk
          exact htk
        have : ordW l m = 0 := by rw [heq, ordW_self]
        simp only [↓Sh.dn, sx, Nat.reduceBEq, reduceCtorEq, Nat.reduceEqDiff, f0, f1, f5, hlen, mlen, nat_lt, Nat.lt_irrefl, h1, h2, decide_true, decide_false, hres, this]
theorem refOrder {H : AH} {v u : Value} {l m : List ByteArray} (hl : Sl H v 1 (l.map strCell)) (hm : Sl H u 1 (m.map strCell)) (hll : l.length ≤ 1048576) (hml : m.length ≤ 1048576) (hw : Wf H) :
    Sh.Call Try.prog (knows 6) 19 [v, u] H (fun r H' => H' = H ∧ ∃ k : Int, r = .int .i64 k ∧ (k = 0 ↔ l = m)) := by
  refine (refOrdW hl hm hll hml hw).mono ?_
  rintro r H' ⟨rfl, rfl⟩
  exact ⟨rfl, _, rfl, ordW_eq⟩
/-- The order of words: by their lengths, then text by text. -/
def cmpW (l m : List ByteArray) : Int := if l.length < m.length then -1 else if m.length < l.length then 1 else ordW l m
theorem refCompare {H : AH} {v u : Value} {l m : List ByteArray} (hl : Sl H v 1 (l.map strCell)) (hm : Sl H u 1 (m.map strCell)) (hll : l.length ≤ 1048576) (hml : m.length ≤ 1048576) (hw : Wf H) :
    Sh.Call Try.prog (knows 6) 9 [v, u] H (fun r H' => H' = H ∧ r = .int .i64 (cmpW l m)) := by
  refine call_of rfl Try.func9 rfl (Nat.le_of_ble_eq_true rfl) ?_
  have hres : Try.f9.results.toList = [.tmp 4] := rfl
  have hlen := fun H' => hl.len Try.underlying22 H'
  have mlen := fun H' => hm.len Try.underlying22 H'
  simp only [List.length_map] at hlen mlen
  simp only [↓Sh.dn, sx, Nat.reduceBEq, reduceCtorEq, Nat.reduceEqDiff, hlen, mlen, nat_lt]
  by_cases h1 : l.length < m.length
  · have : cmpW l m = -1 := by unfold cmpW; rw [if_pos h1]
    simp only [↓Sh.dn, sx, Nat.reduceBEq, reduceCtorEq, Nat.reduceEqDiff, h1, decide_true, hres, this]
  by_cases h2 : m.length < l.length
  · have : cmpW l m = 1 := by unfold cmpW; rw [if_neg h1, if_pos h2]
    simp only [↓Sh.dn, sx, Nat.reduceBEq, reduceCtorEq, Nat.reduceEqDiff, h1, h2, hlen, mlen, nat_lt, decide_true, decide_false, hres, this]
  have : cmpW l m = ordW l m := by unfold cmpW; rw [if_neg h1, if_neg h2]
  obtain ⟨r, H1, hd, rfl, rfl⟩ := refOrdW hl hm hll hml hw
  simp only [↓Sh.dn, sx, Nat.reduceBEq, reduceCtorEq, Nat.reduceEqDiff, h1, h2, hlen, mlen, nat_lt, decide_false]
  refine ⟨_, _, hd, ?_⟩
  simp only [↓Sh.dn, sx, Nat.reduceBEq, reduceCtorEq, Nat.reduceEqDiff, hres, this]
theorem refSame {H : AH} {v u : Value} {l m : List ByteArray} (hl : Sl H v 1 (l.map strCell)) (hm : Sl H u 1 (m.map strCell)) (hll : l.length ≤ 1048576) (hml : m.length ≤ 1048576) (hw : Wf H) :
    Sh.Call Try.prog (knows 6) 10 [v, u] H (fun r H' => H' = H ∧ r = .bool (decide (l = m))) := by
  refine call_of rfl Try.func10 rfl (Nat.le_of_ble_eq_true rfl) ?_
  have hres : Try.f10.results.toList = [.tmp 4] := rfl
  obtain ⟨r, H1, hd, rfl, k, rfl, hk⟩ := refOrder hl hm hll hml hw
  simp only [↓Sh.dn, sx, Nat.reduceBEq, reduceCtorEq, Nat.reduceEqDiff]
  refine ⟨_, _, hd, ?_⟩
  have : decide (k = 0) = decide (l = m) := decide_eq_decide.2 hk
  simp only [↓Sh.dn, sx, Nat.reduceBEq, reduceCtorEq, Nat.reduceEqDiff, hres, this]
/-- A list of texts in a slice of its own. -/
structure LS (H : AH) (base : Nat) (z : Value) (l : List ByteArray) (ob : Option Nat) : Prop where
  bf : Buf H 1 z (l.map strCell) ob
  fr : ∀ y, ob = some y → base ≤ y
theorem LS.void (H : AH) (base : Nat) : LS H base (.slice none 0 0) [] none := ⟨.void none, fun y hy => by cases hy⟩
theorem LS.kept {H H' : AH} {base : Nat} {z : Value} {l : List ByteArray} {ob : Option Nat} (h : LS H base z l ob) (hw : Wf H) (hk : Kept H H') : LS H' base z l ob := ⟨h.bf.kept hw hk, h.fr⟩
theorem pushStr {base : Nat} {H' : AH} {z : Value} {ob : Option Nat} {l : List ByteArray} (x : ByteArray) (hb : base ≤ H'.next) (hw : Wf H') (hl : LS H' base z l ob) (hn : l.length ≤ 1073741823) :
    ∃ a cap w' H4 ob', z = .slice a l.length cap ∧ abuildSlice Try.prog 22 1 [(0, .string x)] H' = some (.slice (some ⟨H'.next, 0, some 0⟩) 1 1, (H'.new 1 [.string x]).2) ∧
        abuiltin Try.prog .append [22, 22] [.slice a l.length cap, .slice (some ⟨H'.next, 0, some 0⟩) 1 1] (H'.new 1 [.string x]).2 = some (w', H4) ∧
        LS H4 base w' (l ++ [x]) ob' ∧ Chg (fun y => ob = some y) H' H4 := by
  obtain ⟨a, cap, w', H4, ob', e1, e2, e3, e4, e5⟩ := hl.bf.push hw (x := strCell x) rfl
  rw [List.length_map] at e1 e2
  have ha := app1_22 (H := H') (base := a) (len := l.length) (cap := cap) (x := strCell x) rfl hn
  rw [e2] at ha
  refine ⟨a, cap, w', H4, ob', e1, build1_22 (H := H') (x := .string x) rfl rfl, ha, ⟨by rw [List.map_append]; exact e3, fun y hy => ?_⟩, e4⟩
  rcases e5 y hy with h1 | h1
  · exact hl.fr y h1
  · omega
end Go.Proofs.Ytcgbiedfbacgpaa
/- graph.Texts. -/
set_option maxHeartbeats 4000000
set_option maxRecDepth 20000
set_option linter.unusedSimpArgs false
set_option linter.unusedVariables false
set_option pp.deepTerms.threshold 8
namespace Go.Proofs.Ytcgbiedfbacgpaa
open Go Go.Proofs Go.Proofs.Sh
theorem graphTexts {H : AH} {v u : Value} {sigma : List ByteArray} {w : List Nat} (hs : Sl H v 1 (sigma.map strCell)) (hu : Sl H u 1 (w.map natC)) (hwl : w.length ≤ 1000) (hin : ∀ k ∈ w, k < sigma.length) (hw : Wf H) :
    Sh.Call Try.prog (knows 6) 32 [v, u] H (fun r H' => Kept H H' ∧ ∃ o, LS H' H.next r (w.map fun k => sigma.getD k noText) o) := by
  refine call_of rfl Try.func32 rfl (Nat.le_of_ble_eq_true rfl) ?_
  have hres : Try.f32.results.toList = [.tmp 4] := rfl
  have hlen := fun H' => hu.len Try.underlying49 H'
  simp only [List.length_map] at hlen
  have hmk : amakeSlice Try.prog 22 (.int .i64 0) (.int .i64 (w.length : Int)) H = some (.slice (some ⟨H.next, 0, some 0⟩) 0 w.length, (H.new 1 (List.replicate w.length (.string ⟨#[]⟩))).2) := mk_22 (H := H) (l := 0) (c := w.length) (Nat.zero_le _) (by omega)
  have k1 := Kept.new hw 1 (List.replicate w.length (.string ⟨#[]⟩))
  have f1 := Buf.room hw (.string ⟨#[]⟩) (c := w.length) (by omega)
  simp only [↓Sh.dn, sx, Nat.reduceBEq, reduceCtorEq, Nat.reduceEqDiff, hlen, hmk]
  have l1 : LS (H.new 1 (List.replicate w.length (.string ⟨#[]⟩))).2 H.next (.slice (some ⟨H.next, 0, some 0⟩) 0 w.length) [] (if w.length = 0 then none else some H.next) := ⟨f1, fun y hy => by
    split at hy
    · cases hy
    · exact Nat.le_of_eq (Option.some.inj hy)⟩
  refine wp_for w.length 13 (List.range' 13 12 ++ [5, 7]) (fun i F H' => Kept H H' ∧ ∃ z, F.get 5 = some z ∧ ∃ o, LS H' H.next z ((w.take i).map fun k => sigma.getD k noText) o) (by simp only [↓Sh.dn, sx, Nat.reduceBEq, reduceCtorEq, Nat.reduceEqDiff]) ⟨k1, _, by simp only [↓Sh.dn, sx, Nat.reduceBEq, reduceCtorEq, Nat.reduceEqDiff], _, l1⟩ ?_ ?_
  · rintro i F H' hi hF f13 ⟨hk, z, f5, o, hl⟩ k
    have f0 := hF 0 rfl
    have f11 := hF 11 rfl
    have f12 := hF 12 rfl
    simp only [↓Sh.dn, sx, Nat.reduceBEq, reduceCtorEq, Nat.reduceEqDiff] at f0 f11 f12
    obtain ⟨p, hia, hc⟩ := natSl Try.underlying49 size_3 (hu.grow (hk.grow hw)) hi
    have hks := hin _ (List.getElem_mem hi)
    have htake : w.take (i + 1) = w.take i ++ [w[i]] := by rw [List.take_add_one, List.getElem?_eq_getElem hi]; rfl
    generalize w[i] = x at hc htake hks
    obtain ⟨q, e1, e2⟩ := Sl.elem (s := 1) Try.underlying22 size_9 (hs.grow (hk.grow hw)) (i := x) (u := .string (sigma.getD x noText)) (by rw [List.getElem?_map, List.getElem?_eq_getElem hks]; simp [strCell, List.getD, List.getElem?_eq_getElem hks])
    obtain ⟨a, cap, w', H4, o2, rfl, e3, e4, e5, e6⟩ := pushStr (sigma.getD x noText) hk.next hk.wf hl (by rw [List.length_map, List.length_take]; omega)
    simp only [↓Sh.dn, sx, Nat.reduceBEq, reduceCtorEq, Nat.reduceEqDiff, f0, f5, f11, f12, f13, nat_lt, hi, decide_true, hia, hc, e1, e2, e3, e4, wrap_succ' hi (by omega)]
    refine k _ _ (by repeat (first | refine Same.put ?_ rfl | exact Same.rfl' _)) (by simp only [↓Sh.dn, sx, Nat.reduceBEq, reduceCtorEq, Nat.reduceEqDiff]) ⟨hk.then (Nat.le_refl _) (e6.weak fun y hy => hl.fr y hy), w', by simp only [↓Sh.dn, sx, Nat.reduceBEq, reduceCtorEq, Nat.reduceEqDiff], o2, by rw [htake, List.map_append]; exact e5⟩
  · rintro F H' hF f13 ⟨hk, z, f5, o, hl⟩
    have f12 := hF 12 rfl
    simp only [↓Sh.dn, sx, Nat.reduceBEq, reduceCtorEq, Nat.reduceEqDiff] at f12
    rw [List.take_length] at hl
    simp only [↓Sh.dn, sx, Nat.reduceBEq, reduceCtorEq, Nat.reduceEqDiff, f5, f12, f13, nat_lt, Nat.lt_irrefl, decide_false, hres]
    exact ⟨hk, o, hl⟩
end Go.Proofs.Ytcgbiedfbacgpaa
/- (*graph.Graph).Words. -/
set_option maxHeartbeats 4000000
set_option maxRecDepth 20000
set_option linter.unusedSimpArgs false
set_option linter.unusedVariables false
set_option pp.deepTerms.threshold 8
namespace Go.Proofs.Ytcgbiedfbacgpaa
open Go Go.Proofs Go.Proofs.Sh
def textOf (sigma : List ByteArray) (u : List Nat) : List ByteArray := u.map fun k => sigma.getD k noText
/-- The words by their texts. -/
def strRow (u : List ByteArray) : List (List Value) := u.map strCell
theorem rowsPushStr {H : AH} {base : Nat} {z v : Value} {oo o : Option Nat} {out : List (List ByteArray)} {u : List ByteArray} (h : RowsB strRow H base z oo out) (hw : Wf H) (hb : base ≤ H.next) (hv : Buf H 1 v (strRow u) o) (ho : ∀ y, o = some y → base ≤ y ∧ oo ≠ some y) (hol : out.length ≤ 1073741823) :
    ∃ a cap w' H3 oo', z = .slice a out.length cap ∧ abuildSlice Try.prog 30 1 [(0, v)] H = some (.slice (some ⟨H.next, 0, some 0⟩) 1 1, (H.new 1 [v]).2) ∧ abuiltin Try.prog .append [30, 30] [.slice a out.length cap, .slice (some ⟨H.next, 0, some 0⟩) 1 1] (H.new 1 [v]).2 = some (w', H3) ∧ RowsB strRow H3 base w' oo' (out ++ [u]) ∧ Chg (fun y => oo = some y) H H3 ∧ ∀ y, oo' = some y → oo = some y ∨ H.next ≤ y := by
  obtain ⟨a, cap, w', H3, oo', e1, e2, e3, e4, e5⟩ := h.push hw hb hv ho
  have hvc := hv.isCell
  have hbs := build1_30 (H := H) (x := v) (by rw [cell_vcells hvc]; rfl) (by rw [cell_vcells hvc]; simp [hvc])
  rw [cell_vcells hvc] at hbs
  have ha := app1_30 (H := H) (base := a) (len := out.length) (cap := cap) (x := [v]) rfl hol
  rw [e2] at ha
  exact ⟨a, cap, w', H3, oo', e1, hbs, ha, e3, e4, e5⟩
/-- What is told of words, cut at a number. -/
noncomputable def wordsOut (all : List (List ByteArray)) (more : Prop) (most : Nat) : List (List ByteArray) × Bool × Int :=
  if most < all.length then (all.take most, true, 0) else if tB more = true then (if all.length < most then ([], false, 3) else (all, true, 0)) else (all, false, 0)
theorem graphWords {H : AH} {g n most : Nat} {E : List (List (Nat × Int × Int × Int))} {ends : List Int} {sv av ev cv : Value} {vals : List Value} {sigma : List ByteArray} {costs : List Int} (h : PG H g n 60000 E ends sv av ev cv vals sigma costs) (hsy : ∀ (s : Nat) r, E[s]? = some r → ∀ e ∈ r, e.2.1 < (sigma.length : Int)) (hsl : sigma.length ≤ 1000) (hm : most ≤ 900) (h1m : 1 ≤ most) (hw : Wf H) :
    Sh.Call Try.prog (knows 6) 15 [.pointer (some ⟨g, 0, some 0⟩), .int .i64 (most : Int)] H (fun r H' => Kept H H' ∧ ∃ lv, r = .tuple #[lv, .bool (wordsOut ((firstP sigma.length E ends 61).map (textOf sigma)) (∃ j, 60 < j ∧ exP E ends j 0) most).2.1, .int .i64 (wordsOut ((firstP sigma.length E ends 61).map (textOf sigma)) (∃ j, 60 < j ∧ exP E ends j 0) most).2.2] ∧ ∃ vs, JagR H' lv 1 ((wordsOut ((firstP sigma.length E ends 61).map (textOf sigma)) (∃ j, 60 < j ∧ exP E ends j 0) most).1.map strRow) vs) := by
  refine call_of rfl Try.func15 rfl (Nat.le_of_ble_eq_true rfl) ?_
  have hres : Try.f15.results.toList = [.tmp 4, .tmp 5, .tmp 6] := rfl
  have hn1 := h.n1
  have hc0 := h.gr.arr.cell 0
  have wm : IntKind.wrap .i64 ((most : Int) + 1) = ((most + 1 : Nat) : Int) := by rw [wrap64 (by omega) (by omega)]; omega
  obtain ⟨r1, H1, hd1, hk1, oo1, vs1, hb1, hl1, hr1⟩ := graphFirst (mx := most + 1) (long := 60) h hsy hsl (by omega) (by omega) hw
  generalize hFP : firstP sigma.length E ends (60 + 1) = FP at hl1 hr1
  have hFP' : firstP sigma.length E ends 61 = FP := hFP
  have hin : ∀ u ∈ FP, ∀ k ∈ u, k < sigma.length := fun u hu k hk => by
    rw [← hFP'] at hu
    unfold firstP wordsP at hu
    obtain ⟨m, _, hm2⟩ := List.mem_flatMap.1 hu
    exact List.mem_range.1 ((lexW_mem.1 hm2).1.2 k hk)
  have hln : ∀ u ∈ FP, u.length ≤ 60 := fun u hu => by
    rw [← hFP'] at hu
    unfold firstP wordsP at hu
    obtain ⟨m, hm1, hm2⟩ := List.mem_flatMap.1 hu
    have := List.mem_range.1 hm1
    rw [(lexW_mem.1 hm2).1.1]; omega
  have hlen1 : ∀ H', abuiltin Try.prog .len [70] [r1] H' = some (.int .i64 ((min (most + 1) FP.length : Nat) : Int), H') := fun H' => by
    rw [hb1.toSl.len Try.underlying70, List.length_map, hl1, List.length_take]
  have hc0' := cell_grow (hk1.grow hw) hc0
  simp only [↓Sh.dn, sx, Nat.reduceBEq, reduceCtorEq, Nat.reduceEqDiff, wm]
  refine ⟨_, _, hd1, ?_⟩
  simp only [↓Sh.dn, sx, Nat.reduceBEq, reduceCtorEq, Nat.reduceEqDiff, hlen1, nat_lt]
  -- the rest, once
  refine wp_then (fun F' H' => ∃ zl l b, F'.get 0 = some (.pointer (some ⟨g, 0, some 0⟩)) ∧ F'.get 7 = some zl ∧ F'.get 8 = some (.bool b) ∧ Kept H H' ∧ WordsN H' zl l ∧ (∀ u ∈ l, u ∈ FP) ∧ l.length ≤ most ∧ wordsOut (FP.map (textOf sigma)) (∃ j, 60 < j ∧ exP E ends j 0) most = (l.map (textOf sigma), b, 0)) ?_ ?_
  · rintro F' H' ⟨zl, l, b, f0, f7, f8, hk, ⟨oo, vs, hb, hvl, hvr⟩, hsub, hlm, hout⟩
    have hlz : ∀ H', abuiltin Try.prog .len [70] [zl] H' = some (.int .i64 ((l.length : Nat) : Int), H') := fun H' => by
      rw [hb.toSl.len Try.underlying70, List.length_map, hvl]
    rw [hout]
    simp only [↓Sh.dn, sx, Nat.reduceBEq, reduceCtorEq, Nat.reduceEqDiff, f7, hlz]
    refine wp_for l.length 32 (List.range' 32 14 ++ [9, 11]) (fun i F H'' => Kept H' H'' ∧ ∃ z, F.get 9 = some z ∧ ∃ ob, RowsB strRow H'' H'.next z ob ((l.take i).map (textOf sigma))) (by simp only [↓Sh.dn, sx, Nat.reduceBEq, reduceCtorEq, Nat.reduceEqDiff]) ⟨Kept.refl hk.wf, _, by simp only [↓Sh.dn, sx, Nat.reduceBEq, reduceCtorEq, Nat.reduceEqDiff], none, RowsB.void _ _⟩ ?_ ?_
    · rintro i F H'' hi hF f32 ⟨hk2, z, f9, ob, hR⟩ k
      have g0 := hF 0 rfl
      have g30 := hF 30 rfl
      have g31 := hF 31 rfl
      simp only [↓Sh.dn, sx, Nat.reduceBEq, reduceCtorEq, Nat.reduceEqDiff, f0] at g0 g30 g31
      obtain ⟨v, hv⟩ : ∃ v, vs[i]? = some v := ⟨vs[i]'(by rw [hvl]; exact hi), List.getElem?_eq_getElem _⟩
      obtain ⟨p, i1, c1⟩ := Sl.elem (s := 1) Try.underlying70 size_49 ((hb.kept hk.wf hk2).toSl) (i := i) (u := v) (by rw [List.getElem?_map, hv]; rfl)
      have hu := hvr i v _ hv (List.getElem?_eq_getElem hi)
      have hlu : l[i] ∈ l := List.getElem_mem hi
      have htake : l.take (i + 1) = l.take i ++ [l[i]] := by rw [List.take_add_one, List.getElem?_eq_getElem hi]; rfl
      generalize l[i] = u at hu hlu htake
      have hk3 := hk.trans hk2
      have hsg := h.gr.sg.grow (hk3.grow hw)
      obtain ⟨r4, H4, hd4, hk4, o4, hL4⟩ := graphTexts hsg (hu.grow (hk2.grow hk.wf)) (Nat.le_trans (hln u (hsub u hlu)) (by decide)) (hin u (hsub u hlu)) hk2.wf
      have hR4 := hR.kept hk2.wf hk4
      have hn2 := hk2.next
      obtain ⟨a, cap, w', H5, ob5, rfl, e1, e2, e3, e4, e5⟩ := rowsPushStr hR4 hk4.wf (by have := hk4.next; omega) (u := textOf sigma u) hL4.bf (fun y hy => ⟨by have := hL4.fr y hy; omega, fun hy2 => by
        obtain ⟨vz, hz1, _⟩ := hR.ex
        have := hz1.lt hk2.wf y hy2
        have := hL4.fr y hy
        omega⟩) (by rw [List.length_map, List.length_take]; omega)
      have q0 := cell_grow (hk3.grow hw) hc0
      simp only [↓Sh.dn, sx, Nat.reduceBEq, reduceCtorEq, Nat.reduceEqDiff, g0, g30, g31, f9, f32, nat_lt, hi, decide_true, i1, c1, q0]
      refine ⟨_, _, hd4, ?_⟩
      simp only [↓Sh.dn, sx, Nat.reduceBEq, reduceCtorEq, Nat.reduceEqDiff, f32, e1, e2, wrap_succ' hi (by omega)]
      exact k _ _ (by repeat (first | refine Same.put ?_ rfl | exact Same.rfl' _)) (by simp only [↓Sh.dn, sx, Nat.reduceBEq, reduceCtorEq, Nat.reduceEqDiff]) ⟨(hk2.trans hk4).then (Nat.le_refl _) (e4.weak hR4.ob), w', by simp only [↓Sh.dn, sx, Nat.reduceBEq, reduceCtorEq, Nat.reduceEqDiff], ob5, by rw [htake, List.map_append]; exact e3⟩
    · rintro F H'' hF f32 ⟨hk2, z, f9, ob, hR⟩
      have g8 := hF 8 rfl
      have g31 := hF 31 rfl
      simp only [↓Sh.dn, sx, Nat.reduceBEq, reduceCtorEq, Nat.reduceEqDiff, f8] at g8 g31
      rw [List.take_length] at hR
      simp only [↓Sh.dn, sx, Nat.reduceBEq, reduceCtorEq, Nat.reduceEqDiff, f9, f32, g8, g31, nat_lt, Nat.lt_irrefl, decide_false, hres]
      exact ⟨hk.trans hk2, _, rfl, hR.read⟩
  · intro S' rest
    by_cases hmore : most < FP.length
    · have h1 : decide (most < min (most + 1) FP.length) = true := by rw [decide_eq_true_eq]; omega
      obtain ⟨v', hc1, hc2⟩ := hb1.cut (k := most) (by rw [List.length_map, hl1, List.length_take]; omega)
      have hcut := hc1 (P := Try.prog) (H' := H1) Try.underlying70 size_49 (fun he => by
        have := congrArg List.length he
        rw [List.length_map, hl1, List.length_take] at this
        have h2 : min (most + 1) FP.length = 0 := this
        omega)
      simp only [↓Sh.dn, sx, Nat.reduceBEq, reduceCtorEq, Nat.reduceEqDiff, h1, hcut]
      refine rest _ _ ⟨v', FP.take most, true, by simp only [↓Sh.dn, sx, Nat.reduceBEq, reduceCtorEq, Nat.reduceEqDiff], by simp only [↓Sh.dn, sx, Nat.reduceBEq, reduceCtorEq, Nat.reduceEqDiff], by simp only [↓Sh.dn, sx, Nat.reduceBEq, reduceCtorEq, Nat.reduceEqDiff], hk1, ⟨oo1, vs1.take most, by rw [← List.map_take] at hc2; exact hc2, by rw [List.length_take, List.length_take, hl1, List.length_take]; omega, fun j x u hx hu => ?_⟩, fun u hu => List.mem_of_mem_take hu, by rw [List.length_take]; omega, ?_⟩
      · rw [List.getElem?_take] at hx hu
        split at hx
        · rename_i hj
          rw [if_pos hj] at hu
          exact hr1 j x u hx (by rw [List.getElem?_take, if_pos (by omega)]; exact hu)
        · cases hx
      · unfold wordsOut
        rw [List.length_map, if_pos hmore, List.map_take]
    · have h1 : decide (most < min (most + 1) FP.length) = false := by rw [decide_eq_false_iff_not]; omega
      have htk : FP.take (most + 1) = FP := List.take_of_length_le (by omega)
      rw [htk] at hl1 hr1
      obtain ⟨r2, H2, hd2, hk2, rfl⟩ := graphBeyond (most := 60) (h.kept hw hk1) (by omega) (by decide) hk1.wf
      have hk12 := hk1.trans hk2
      have hWN : WordsN H2 r1 FP := ⟨oo1, vs1, hb1.kept hk1.wf hk2, hl1, fun j x u hx hu => (hr1 j x u hx hu).grow (hk2.grow hk1.wf)⟩
      simp only [↓Sh.dn, sx, Nat.reduceBEq, reduceCtorEq, Nat.reduceEqDiff, h1]
      refine ⟨_, _, hd2, ?_⟩
      cases hbe : tB (∃ j, 60 < j ∧ exP E ends j 0) with
      | false =>
        simp only [↓Sh.dn, sx, Nat.reduceBEq, reduceCtorEq, Nat.reduceEqDiff]
        refine rest _ _ ⟨r1, FP, false, by simp only [↓Sh.dn, sx, Nat.reduceBEq, reduceCtorEq, Nat.reduceEqDiff], by simp only [↓Sh.dn, sx, Nat.reduceBEq, reduceCtorEq, Nat.reduceEqDiff], by simp only [↓Sh.dn, sx, Nat.reduceBEq, reduceCtorEq, Nat.reduceEqDiff], hk12, hWN, fun u hu => hu, by omega, ?_⟩
        unfold wordsOut
        rw [List.length_map, if_neg hmore, hbe]
        simp
      | true =>
        have hmin : min (most + 1) FP.length = FP.length := by omega
        simp only [↓Sh.dn, sx, Nat.reduceBEq, reduceCtorEq, Nat.reduceEqDiff, hlen1, hmin, nat_lt]
        by_cases hfew : FP.length < most
        · have ho : wordsOut (FP.map (textOf sigma)) (∃ j, 60 < j ∧ exP E ends j 0) most = ([], false, 3) := by
            unfold wordsOut
            rw [List.length_map, if_neg hmore, hbe, if_pos rfl, if_pos hfew]
          simp only [↓Sh.dn, sx, Nat.reduceBEq, reduceCtorEq, Nat.reduceEqDiff, hfew, decide_true, hres, ho]
          exact ⟨hk12, _, rfl, [], Sl.nil _ _, rfl, fun i w r hi => by simp at hi⟩
        · simp only [↓Sh.dn, sx, Nat.reduceBEq, reduceCtorEq, Nat.reduceEqDiff, hfew, decide_false]
          refine rest _ _ ⟨r1, FP, true, by simp only [↓Sh.dn, sx, Nat.reduceBEq, reduceCtorEq, Nat.reduceEqDiff], by simp only [↓Sh.dn, sx, Nat.reduceBEq, reduceCtorEq, Nat.reduceEqDiff], by simp only [↓Sh.dn, sx, Nat.reduceBEq, reduceCtorEq, Nat.reduceEqDiff], hk12, hWN, fun u hu => hu, by omega, ?_⟩
          unfold wordsOut
          rw [List.length_map, if_neg hmore, hbe, if_pos rfl, if_neg hfew]
end Go.Proofs.Ytcgbiedfbacgpaa
/- (*graph.Graph).Arc, End, State, of a graph that keeps to its own places. -/
set_option maxHeartbeats 4000000
set_option maxRecDepth 20000
set_option linter.unusedSimpArgs false
set_option linter.unusedVariables false
set_option pp.deepTerms.threshold 8
namespace Go.Proofs.Ytcgbiedfbacgpaa
open Go Go.Proofs Go.Proofs.Sh
theorem grArcX {H : AH} {X : Nat → Prop} {g : Nat} {sigma : List ByteArray} {rows : List (List (List Value))} {ends costs : List Int} {s : Nat} {r : List (List Value)} {x0 x1 x2 x3 : Int}
    (h : GrX H X g sigma rows ends costs) (hr : rows[s]? = some r) (hl : r.length ≤ 1073741823) (hw : Wf H) :
    Sh.Call Try.prog (knows 6) 29 [.pointer (some ⟨g, 0, some 0⟩), .int .i64 (s : Int), .int .i64 x0, .int .i64 x1, .int .i64 x2, .int .i64 x3] H (fun _ H' => Chg X H H' ∧ GrX H' (fun y => X y ∨ H.next ≤ y) g sigma (rows.set s (r ++ [[.int .i64 x0, .int .i64 x1, .int .i64 x2, .int .i64 x3]])) ends costs) := by
  obtain ⟨sv, av, ev, cv, os, ot, oe, oc, vals, obs, h, ho⟩ := h
  refine (graphArc h.arr h.jag h.gj hr hl hw).mono ?_
  rintro _ H' ⟨hc, vals', obs', hj, hin⟩
  have hg := h.arr.lt hw
  refine ⟨hc.weak fun y hy => ho y (.inr (.inr (.inl hy))), sv, av, ev, cv, os, ot, oe, oc, vals', obs', ?_, ?_⟩
  · exact { h with
    arr := h.arr.keep (hc.old g hg h.gj)
    sg := h.sg.chg hw hc h.sj
    jag := hj
    en := h.en.chg hw hc h.je
    co := h.co.chg hw hc h.jc
    fj := fun _ _ => Nat.zero_le _
    gj := fun hy => by
      rcases hin g hy with h1 | h1
      · exact h.gj h1
      · omega
    sj := fun y hy hy2 => by
      rcases hin y hy2 with h1 | h1
      · exact h.sj y hy h1
      · have := h.sg.lt hw y hy; omega
    je := fun y hy hy2 => by
      rcases hin y hy2 with h1 | h1
      · exact h.je y hy h1
      · have := h.en.lt hw y hy; omega
    jc := fun y hy hy2 => by
      rcases hin y hy2 with h1 | h1
      · exact h.jc y hy h1
      · have := h.co.lt hw y hy; omega }
  · rintro y (hy | hy | hy | hy | hy)
    · exact .inl (ho y (.inl hy))
    · exact .inl (ho y (.inr (.inl hy)))
    · rcases hin y hy with h1 | h1
      · exact .inl (ho y (.inr (.inr (.inl h1))))
      · exact .inr h1
    · exact .inl (ho y (.inr (.inr (.inr (.inl hy)))))
    · exact .inl (ho y (.inr (.inr (.inr (.inr hy)))))
end Go.Proofs.Ytcgbiedfbacgpaa
/- (*graph.Graph).Add: another graph is put into one. -/
set_option maxHeartbeats 4000000
set_option maxRecDepth 20000
set_option linter.unusedSimpArgs false
set_option linter.unusedVariables false
set_option pp.deepTerms.threshold 8
namespace Go.Proofs.Ytcgbiedfbacgpaa
open Go Go.Proofs Go.Proofs.Sh
/-- An end and its cost are set. -/
theorem GrX.setEC {H : AH} {X : Nat → Prop} {g : Nat} {sigma : List ByteArray} {rows : List (List (List Value))} {ends costs : List Int} {s : Nat} (h : GrX H X g sigma rows ends costs) (hw : Wf H) (hs : s < ends.length) (hs' : s < costs.length) (x y : Int) :
    ∃ ev cv p1 p2 H1 H2, H.cell ⟨g, 2, some 0⟩ = some ev ∧ H.cell ⟨g, 3, some 0⟩ = some cv ∧ H1.cell ⟨g, 3, some 0⟩ = some cv ∧ veq cv cv = true ∧ aindexAddr Try.prog 49 ev (.int .i64 (s : Int)) = some (.pointer (some p1)) ∧ aindexAddr Try.prog 49 cv (.int .i64 (s : Int)) = some (.pointer (some p2)) ∧
      astore Try.prog 3 H (.int .i64 x) (.pointer (some p1)) = some H1 ∧ astore Try.prog 3 H1 (.int .i64 y) (.pointer (some p2)) = some H2 ∧ Chg X H H1 ∧ Chg X H H2 ∧ GrX H2 X g sigma rows (ends.set s x) (costs.set s y) := by
  obtain ⟨sv, av, ev, cv, os, ot, oe, oc, vals, obs, h, ho⟩ := h
  obtain ⟨p1, H1, i1, e1, b1, c1, n1⟩ := Buf.set (P := Try.prog) h.en hw (i := s) (x := intC x) (by simpa using hs) rfl
  have hco1 := h.co.chg hw c1 fun y hy hye => h.ec y hye hy
  obtain ⟨p2, H2, i2, e2, b2, c2, n2⟩ := Buf.set (P := Try.prog) hco1 c1.wf (i := s) (x := intC y) (by simpa using hs') rfl
  have a1 := h.arr.keep (c1.old g (h.arr.lt hw) h.ge)
  have hX1 : Chg X H H1 := c1.weak fun y hy => ho y (.inr (.inr (.inr (.inl hy))))
  have hX2 : Chg X H1 H2 := c2.weak fun y hy => ho y (.inr (.inr (.inr (.inr hy))))
  have c12 : Chg (fun y => oe = some y ∨ oc = some y) H H2 := (c1.weak fun y hy => .inl hy).trans (c2.weak fun y hy => .inr hy)
  refine ⟨ev, cv, p1, p2, H1, H2, h.arr.cell 2, h.arr.cell 3, a1.cell 3, h.co.toSl.veq, i1 Try.underlying49 size_3, i2 Try.underlying49 size_3, by rw [store_cell size_3 rfl]; exact e1, by rw [store_cell size_3 rfl]; exact e2, hX1, hX1.trans hX2, sv, av, ev, cv, os, ot, oe, oc, vals, obs, { h with arr := h.arr.keep (c12.old g (h.arr.lt hw) ?_), sg := h.sg.chg hw c12 ?_, jag := h.jag.chg hw c12 ?_, en := ?_, co := ?_ }, ho⟩
  · rintro (hy | hy)
    · exact h.ge hy
    · exact h.gc hy
  · rintro y hy (hy2 | hy2)
    · exact h.se y hy hy2
    · exact h.sc y hy hy2
  · rintro y hy (hy2 | hy2)
    · exact h.je y hy2 hy
    · exact h.jc y hy2 hy
  · rw [List.map_set]; exact b1.chg c1.wf c2 fun y hy hyc => h.ec y hy hyc
  · rw [List.map_set]; exact b2
end Go.Proofs.Ytcgbiedfbacgpaa
/- (*graph.Graph).Useful, Trim. -/
set_option maxHeartbeats 4000000
set_option maxRecDepth 20000
set_option linter.unusedSimpArgs false
set_option linter.unusedVariables false
set_option pp.deepTerms.threshold 8
namespace Go.Proofs.Ytcgbiedfbacgpaa
open Go Go.Proofs Go.Proofs.Sh
def usefulP (E : List (List (Nat × Int × Int × Int))) (ends : List Int) (t : Nat) : Prop := Clo (goesP E fun _ => True) (fun s => s = 0) t ∧ Clo (fun s t => goesP E (fun _ => True) t s) (fun s => 0 < ends.getD s 0) t
theorem graphUseful {H : AH} {g n : Nat} {E : List (List (Nat × Int × Int × Int))} {ends : List Int} {sv av ev cv : Value} {vals : List Value} {sigma : List ByteArray} {costs : List Int} (h : PG H g n 60000 E ends sv av ev cv vals sigma costs) (hsg : sigma.length ≤ 1048576) (hw : Wf H) :
    Sh.Call Try.prog (knows 6) 28 [.pointer (some ⟨g, 0, some 0⟩)] H (fun r H' => Kept H H' ∧ ∃ U : List Bool, ∃ o, Buf H' 1 r (U.map boolC) o ∧ (∀ y, o = some y → H.next ≤ y) ∧ U.length = n ∧ ∀ t : Nat, U[t]? = some true ↔ usefulP E ends t) := by
  refine call_of rfl Try.func28 rfl (Nat.le_of_ble_eq_true rfl) ?_
  have hres : Try.f28.results.toList = [.tmp 2] := rfl
  have hn1 := h.n1
  have hn2 := h.n2
  have hbs := build1_49 (H := H) (x := .int .i64 0) rfl rfl
  have k1 := Kept.new hw 1 [.int .i64 0]
  have hS : Sl (H.new 1 [.int .i64 0]).2 (.slice (some ⟨H.next, 0, some 0⟩) 1 1) 1 (([0] : List Nat).map natC) :=
    (Buf.fresh (H := H) (s := 1) (xs := [natC 0]) hw (by intro x hx; rw [List.mem_singleton.1 hx]; rfl) (by simp) 1 rfl).toSl
  obtain ⟨r1, H2, hd2, hk2, B1, o1, hb1, ho1, hl1, hi1⟩ := graphFromB (caps := []) (fid := 40) (fun _ => true) (h.kept hw k1) (by decide) hS (fun t ht => by rw [List.mem_singleton.1 ht]; exact hn1) (by decide) k1.wf (fun H' hk e => graphEvery hk.wf)
  have hk12 := k1.trans hk2
  obtain ⟨r2, H3, hd3, hk3, B2, o2, hb2, ho2, hl2, hi2⟩ := graphLastingB (h.kept hw hk12) hsg hk2.wf
  have hb13 := hb1.kept hk2.wf hk3
  have hsep : ∀ y, o1 = some y → o2 ≠ some y := fun y h1 h2 => by have := hb1.lt hk2.wf y h1; have := ho2 y h2; omega
  simp only [↓Sh.dn, sx, Nat.reduceBEq, reduceCtorEq, Nat.reduceEqDiff, hbs, vcells]
  refine ⟨_, _, hd2, ?_⟩
  refine ⟨_, _, hd3, ?_⟩
  have hlen := hb13.toSl.len Try.underlying67 H3
  rw [List.length_map, hl1] at hlen
  have k0 := hk12.trans hk3
  simp only [↓Sh.dn, sx, Nat.reduceBEq, reduceCtorEq, Nat.reduceEqDiff, hlen]
  refine wp_for n 13 (List.range' 13 17 ++ [5]) (fun i F H' => Chg (fun y => o1 = some y) H3 H' ∧ ∃ C : List Bool, Buf H' 1 r1 (C.map boolC) o1 ∧ C.length = n ∧ ∀ t : Nat, C[t]? = some true ↔ B1[t]? = some true ∧ (t < i → B2[t]? = some true)) (by simp only [↓Sh.dn, sx, Nat.reduceBEq, reduceCtorEq, Nat.reduceEqDiff]) ⟨Chg.refl hk3.wf, B1, hb13, hl1, fun t => by simp⟩ ?_ ?_
  · rintro i F H' hi hF f13 ⟨hc, C, hC, hCl, hCi⟩ k
    have f3 := hF 3 rfl
    have f4 := hF 4 rfl
    have f12 := hF 12 rfl
    simp only [↓Sh.dn, sx, Nat.reduceBEq, reduceCtorEq, Nat.reduceEqDiff] at f3 f4 f12
    obtain ⟨c, hcx⟩ : ∃ c, C[i]? = some c := ⟨C[i]'(by rw [hCl]; exact hi), List.getElem?_eq_getElem _⟩
    obtain ⟨b, hbx⟩ : ∃ b, B2[i]? = some b := ⟨B2[i]'(by rw [hl2]; exact hi), List.getElem?_eq_getElem _⟩
    obtain ⟨p, e1, e2, e3⟩ := hC.spot Try.underlying67 size_4 hc.wf (i := i) (u := .bool c) (by rw [List.getElem?_map, hcx]; rfl)
    obtain ⟨q, e4, e5⟩ := Sl.elem (s := 1) Try.underlying67 size_4 (hb2.chg hk3.wf hc fun y hy h1 => hsep y h1 hy).toSl (i := i) (u := .bool b) (by rw [List.getElem?_map, hbx]; rfl)
    obtain ⟨H4, w1, w2, w3, w4⟩ := e3 (.bool (c && b))
    have st : astore Try.prog 4 H' (.bool (c && b)) (.pointer (some p)) = some H4 := by rw [store_cell size_4 rfl]; exact w1
    have hnew : ∀ t : Nat, (C.set i (c && b))[t]? = some true ↔ B1[t]? = some true ∧ (t < i + 1 → B2[t]? = some true) := by
      intro t
      rw [List.getElem?_set, hCl, if_pos hi]
      by_cases ht : i = t
      · subst ht
        rw [if_pos rfl]
        have := hCi i
        rw [hcx] at this
        simp only [Option.some.injEq, Nat.lt_irrefl, false_implies, and_true] at this
        rw [hbx, ← this]
        simp
      · rw [if_neg ht, hCi t]
        constructor
        · rintro ⟨h1, h2⟩; exact ⟨h1, fun h3 => h2 (by omega)⟩
        · rintro ⟨h1, h2⟩; exact ⟨h1, fun h3 => h2 (by omega)⟩
    cases c with
    | true =>
      simp only [Bool.true_and] at st hnew w2
      simp only [↓Sh.dn, sx, Nat.reduceBEq, reduceCtorEq, Nat.reduceEqDiff, f3, f4, f12, f13, nat_lt, hi, decide_true, e1, e2, e4, e5, st, wrap_succ' hi (Nat.le_trans hn2 (by decide))]
      exact k _ _ (by repeat (first | refine Same.put ?_ rfl | exact Same.rfl' _)) (by simp only [↓Sh.dn, sx, Nat.reduceBEq, reduceCtorEq, Nat.reduceEqDiff]) ⟨hc.trans w3, C.set i b, by rw [List.map_set]; exact w2, by simp [hCl], hnew⟩
    | false =>
      simp only [Bool.false_and] at st hnew w2
      simp only [↓Sh.dn, sx, Nat.reduceBEq, reduceCtorEq, Nat.reduceEqDiff, f3, f4, f12, f13, nat_lt, hi, decide_true, e1, e2, st, wrap_succ' hi (Nat.le_trans hn2 (by decide))]
      exact k _ _ (by repeat (first | refine Same.put ?_ rfl | exact Same.rfl' _)) (by simp only [↓Sh.dn, sx, Nat.reduceBEq, reduceCtorEq, Nat.reduceEqDiff]) ⟨hc.trans w3, C.set i false, by rw [List.map_set]; exact w2, by simp [hCl], hnew⟩
  · rintro F H' hF f13 ⟨hc, C, hC, hCl, hCi⟩
    have f3 := hF 3 rfl
    have f12 := hF 12 rfl
    simp only [↓Sh.dn, sx, Nat.reduceBEq, reduceCtorEq, Nat.reduceEqDiff] at f3 f12
    simp only [↓Sh.dn, sx, Nat.reduceBEq, reduceCtorEq, Nat.reduceEqDiff, f3, f12, f13, nat_lt, Nat.lt_irrefl, decide_false, hres]
    have hfr : ∀ y, o1 = some y → H.next ≤ y := fun y hy => Nat.le_trans k1.next (ho1 y hy)
    refine ⟨k0.then (Nat.le_refl _) (hc.weak hfr), C, o1, hC, hfr, hCl, fun t => ?_⟩
    rw [hCi]
    unfold usefulP
    have e1 : fitP E (fun _ => true) = goesP E fun _ => True := by
      funext s t
      apply propext
      unfold fitP goesP
      simp
    have e2 : (fun s => s ∈ [0]) = fun s => s = 0 := by funext s; simp
    rw [hi1, e1, e2, ← hi2]
    constructor
    · rintro ⟨h1, h2⟩
      refine ⟨h1, h2 ?_⟩
      have := (hi1 t).2 (by rw [e1, e2]; exact h1)
      rw [← hl1]
      exact (List.getElem?_eq_some_iff.1 this).1
    · rintro ⟨h1, h2⟩; exact ⟨h1, fun _ => h2⟩
end Go.Proofs.Ytcgbiedfbacgpaa
/- (*graph.Graph).Trim. -/
set_option maxHeartbeats 4000000
set_option maxRecDepth 20000
set_option linter.unusedSimpArgs false
set_option linter.unusedVariables false
set_option pp.deepTerms.threshold 8
namespace Go.Proofs.Ytcgbiedfbacgpaa
open Go Go.Proofs Go.Proofs.Sh
def trimRow (U : List Bool) (r : List (Nat × Int × Int × Int)) : List (Nat × Int × Int × Int) := (r.filter fun e => decide (U[e.1]? = some true)).map fun e => (numU U e.1, e.2)
/-- What is made of the first states. -/
structure TrimI (E : List (List (Nat × Int × Int × Int))) (ends : List Int) (U : List Bool) (m i : Nat) (R : List (List (Nat × Int × Int × Int))) (es : List Int) : Prop where
  lr : R.length = m
  le : es.length = m
  row : ∀ s r, s < i → U[s]? = some true → E[s]? = some r → R[numU U s]? = some (trimRow U r)
  non : ∀ a, a < m → (∀ s, s < i → U[s]? = some true → numU U s ≠ a) → R[a]? = some []
  fin : ∀ s, s < i → U[s]? = some true → es.getD (numU U s) 0 = ends.getD s 0
  nof : ∀ a, (∀ s, s < i → U[s]? = some true → numU U s ≠ a) → es.getD a 0 = 0
theorem TrimI.none (E : List (List (Nat × Int × Int × Int))) (ends : List Int) (U : List Bool) (m : Nat) : TrimI E ends U m 0 (List.replicate m []) (List.replicate m 0) :=
  ⟨by simp, by simp, fun s r hs => absurd hs (Nat.not_lt_zero s), fun a ha _ => by rw [List.getElem?_replicate, if_pos ha], fun s hs => absurd hs (Nat.not_lt_zero s), fun a _ => by
    rw [List.getD_eq_getElem?_getD, List.getElem?_replicate]; split <;> rfl⟩
section
variable {E : List (List (Nat × Int × Int × Int))} {ends : List Int} {U : List Bool} {m i : Nat} {R : List (List (Nat × Int × Int × Int))} {es : List Int}
theorem TrimI.skip (h : TrimI E ends U m i R es) (hi : U[i]? ≠ some true) : TrimI E ends U m (i + 1) R es := by
  have key : ∀ s, s < i + 1 → U[s]? = some true → s < i := fun s hs hu => by
    rcases Nat.lt_or_ge s i with h1 | h1
    · exact h1
    · have : s = i := by omega
      subst this; exact absurd hu hi
  exact ⟨h.lr, h.le, fun s r hs hu => h.row s r (key s hs hu) hu, fun a ha hn => h.non a ha fun s hs => hn s (by omega), fun s hs hu => h.fin s (key s hs hu) hu, fun a hn => h.nof a fun s hs => hn s (by omega)⟩
theorem TrimI.add (h : TrimI E ends U m i R es) (hi : U[i]? = some true) (hm : numU U i < m) {r : List (Nat × Int × Int × Int)} (hr : E[i]? = some r) {x : Int} (hx : ends.getD i 0 = x) : TrimI E ends U m (i + 1) (R.set (numU U i) (trimRow U r)) (es.set (numU U i) x) := by
  have hne : ∀ s, s < i → U[s]? = some true → numU U i ≠ numU U s := fun s hs hu he => by have := numU_inj (.inl hi) (.inl hu) he; omega
  refine ⟨by simp [h.lr], by simp [h.le], fun s r' hs hu hr' => ?_, fun a ha hn => ?_, fun s hs hu => ?_, fun a hn => ?_⟩
  · rw [List.getElem?_set, h.lr]
    by_cases hsi : s = i
    · subst hsi
      rw [hr] at hr'
      rw [if_pos rfl, if_pos hm, Option.some.inj hr']
    · rw [if_neg (hne s (by omega) hu)]
      exact h.row s r' (by omega) hu hr'
  · rw [List.getElem?_set, if_neg (hn i (by omega) hi)]
    exact h.non a ha fun s hs => hn s (by omega)
  · rw [List.getD_eq_getElem?_getD, List.getElem?_set, h.le]
    by_cases hsi : s = i
    · subst hsi
      rw [if_pos rfl, if_pos hm, hx]; rfl
    · rw [if_neg (hne s (by omega) hu), ← List.getD_eq_getElem?_getD]
      exact h.fin s (by omega) hu
  · rw [List.getD_eq_getElem?_getD, List.getElem?_set, if_neg (hn i (by omega) hi), ← List.getD_eq_getElem?_getD]
    exact h.nof a fun s hs => hn s (by omega)
/-- It is the automaton of the useful states alone. -/
theorem TrimI.of {n : Nat} (h : TrimI E ends U (1 + rankU U n) n R es) (hE : E.length = n) (hU : U.length = n) (hto : ∀ (s : Nat) r, E[s]? = some r → ∀ e ∈ r, e.1 < n) (hu : ∀ t : Nat, U[t]? = some true ↔ usefulP E ends t) :
    TrimOf (fun x s t => goesP E (fun k => k = x) s t) (fun x s t => goesP R (fun k => k = x) s t) (fun s => U[s]? = some true) (numU U) (fun s => 0 < ends.getD s 0) (fun s => 0 < es.getD s 0) := by
  have hlt : ∀ s, U[s]? = some true → s < n := fun s hs => by rw [← hU]; exact (List.getElem?_eq_some_iff.1 hs).1
  refine ⟨fun x a b => ?_, fun a => ?_, numU_zero U, fun s t hs ht he => numU_inj hs ht he, fun s => ?_⟩
  · constructor
    · rintro ⟨r', h1, e', h2, h3, h4⟩
      by_cases hex : ∃ s, U[s]? = some true ∧ numU U s = a
      · obtain ⟨s, hs, rfl⟩ := hex
        have hsn := hlt s hs
        have hr : E[s]? = some (E[s]'(by rw [hE]; exact hsn)) := List.getElem?_eq_getElem _
        generalize E[s]'(by rw [hE]; exact hsn) = r at hr
        rw [h.row s r hsn hs hr] at h1
        rw [← Option.some.inj h1] at h2
        obtain ⟨e, h5, h6⟩ := List.mem_map.1 h2
        obtain ⟨h7, h8⟩ := List.mem_filter.1 h5
        subst h6
        exact ⟨s, e.1, hs, of_decide_eq_true h8, rfl, h3.symm, r, hr, e, h7, rfl, h4⟩
      · have ha : a < 1 + rankU U n := by rw [← h.lr]; exact (List.getElem?_eq_some_iff.1 h1).1
        rw [h.non a ha fun s _ hs he => hex ⟨s, hs, he⟩] at h1
        rw [← Option.some.inj h1] at h2
        cases h2
    · rintro ⟨s, t, hs, ht, rfl, rfl, r, h1, e, h2, h3, h4⟩
      refine ⟨_, h.row s r (hlt s hs) hs h1, (numU U e.1, e.2), List.mem_map.2 ⟨e, List.mem_filter.2 ⟨h2, decide_eq_true (by rw [h3]; exact ht)⟩, rfl⟩, by rw [h3], h4⟩
  · constructor
    · intro ha
      by_cases hex : ∃ s, U[s]? = some true ∧ numU U s = a
      · obtain ⟨s, hs, rfl⟩ := hex
        exact ⟨s, hs, rfl, by rw [← h.fin s (hlt s hs) hs]; exact ha⟩
      · rw [h.nof a fun s _ hs he => hex ⟨s, hs, he⟩] at ha
        exact absurd ha (Int.lt_irrefl 0)
    · rintro ⟨s, hs, rfl, h1⟩
      rw [h.fin s (hlt s hs) hs]; exact h1
  · rw [hu]
    unfold usefulP
    have e1 : (goesP E fun _ => True) = fun s t => ∃ x, goesP E (fun k => k = x) s t := by
      funext s t
      apply propext
      unfold goesP
      constructor
      · rintro ⟨r, h1, e, h2, h3, _⟩; exact ⟨_, r, h1, e, h2, h3, rfl⟩
      · rintro ⟨x, r, h1, e, h2, h3, _⟩; exact ⟨r, h1, e, h2, h3, trivial⟩
    rw [e1]
end
theorem graphTrim {H : AH} {g n : Nat} {E : List (List (Nat × Int × Int × Int))} {ends : List Int} {sv av ev cv : Value} {vals : List Value} {sigma : List ByteArray} {costs : List Int} (h : PG H g n 60000 E ends sv av ev cv vals sigma costs) (hsg : sigma.length ≤ 1048576) (hcl : costs.length = n) (hw : Wf H) :
    Sh.Call Try.prog (knows 6) 14 [.pointer (some ⟨g, 0, some 0⟩)] H (fun r H' => Kept H H' ∧ ∃ g', r = .pointer (some ⟨g', 0, some 0⟩) ∧ ∃ m R es, (∃ sv av ev cv vals cs, PG H' g' m 60000 R es sv av ev cv vals sigma cs) ∧ m ≤ n ∧ ∃ U,
      TrimOf (fun x s t => goesP E (fun k => k = x) s t) (fun x s t => goesP R (fun k => k = x) s t) (fun s => U[s]? = some true) (numU U) (fun s => 0 < ends.getD s 0) (fun s => 0 < es.getD s 0)) := by
  refine call_of rfl Try.func14 rfl (Nat.le_of_ble_eq_true rfl) ?_
  have hres : Try.f14.results.toList = [.tmp 2] := rfl
  have hn1 := h.n1
  have hn2 := h.n2
  have hc0 := h.gr.arr.cell 0
  have hc1 := h.gr.arr.cell 1
  have hc2 := h.gr.arr.cell 2
  have hc3 := h.gr.arr.cell 3
  have hlenA : ∀ H', abuiltin Try.prog .len [60] [av] H' = some (.int .i64 (n : Int), H') := fun H' => by
    rw [h.gr.jag.sl.len Try.underlying60, List.length_map, h.gr.jag.len]; unfold gCells; rw [List.length_map, h.le]
  obtain ⟨r1, H2, hd2, hk2, U, o1, hU, ho1, hUl, hUi⟩ := graphUseful h hsg hw
  have hc1a := cell_grow (hk2.grow hw) hc1
  have hmk := mk_49 (H := H2) (l := n) (c := n) (Nat.le_refl _) (by omega)
  have k3 := Kept.new hk2.wf 1 (List.replicate n (.int .i64 0))
  have f3 := Buf.fill hk2.wf (.int .i64 0) (c := n) (by omega)
  rw [if_neg (by omega)] at f3
  have hU3 := hU.kept hk2.wf k3
  have hrep : List.replicate n [Value.int .i64 0] = (numL U n 1).map natC := by rw [numL_one, List.map_replicate]; rfl
  rw [hrep] at f3
  simp only [↓Sh.dn, sx, Nat.reduceBEq, reduceCtorEq, Nat.reduceEqDiff]
  refine ⟨_, _, hd2, ?_⟩
  simp only [↓Sh.dn, sx, Nat.reduceBEq, reduceCtorEq, Nat.reduceEqDiff, hc1a, hlenA, hmk]
  obtain ⟨on, hon⟩ : ∃ on, some H2.next = on := ⟨_, rfl⟩
  have hon1 : ∀ y, on = some y → y = H2.next := fun y hy => by rw [← hon] at hy; exact (Option.some.inj hy).symm
  have hx3 : H2.next < (H2.new 1 (List.replicate n (.int .i64 0))).2.next := Nat.lt_succ_self _
  rw [hon] at f3
  have hk3 := hk2.trans k3
  have hlenN := f3.toSl.len Try.underlying49 (H2.new 1 (List.replicate n (.int .i64 0))).2
  generalize (Value.slice (some ⟨H2.next, 0, some 0⟩) n n) = nv at f3 hlenN ⊢
  generalize (H2.new 1 (List.replicate n (.int .i64 0))).2 = H3 at f3 hU3 hk3 k3 hx3 ⊢
  have hUs : ∀ y, on = some y → o1 ≠ some y := fun y h1 h2 => by have := hU.lt hk2.wf y h2; have := hon1 y h1; omega
  have hlenN : ∀ {H'} i, Buf H' 1 nv ((numL U n i).map natC) on → ∀ H'', abuiltin Try.prog .len [49] [nv] H'' = some (.int .i64 (n : Int), H'') := fun i hb H'' => by
    rw [hb.toSl.len Try.underlying49]; simp [numL]
  have ik : ∀ {H' : AH}, Chg (fun y => on = some y) H3 H' → Kept H H' := fun hc => hk3.then (Nat.le_refl _) (hc.weak fun y hy => by have := hon1 y hy; have := hk2.next; omega)
  refine wp_from n 6 1 (List.range' 20 16 ++ [5, 6]) (fun i F H' => Chg (fun y => on = some y) H3 H' ∧ F.get 5 = some (.int .i64 ((1 + rankU U i : Nat) : Int)) ∧ Buf H' 1 nv ((numL U n i).map natC) on) hn1 (by simp only [↓Sh.dn, sx, Nat.reduceBEq, reduceCtorEq, Nat.reduceEqDiff]; rfl) ⟨Chg.refl hk3.wf, by simp only [↓Sh.dn, sx, Nat.reduceBEq, reduceCtorEq, Nat.reduceEqDiff]; rfl, f3⟩ ?_ ?_
  · rintro i F H' hi1 hi hF f6 ⟨hc, f5, hN⟩ k
    have f3' := hF 3 rfl
    have f4 := hF 4 rfl
    simp only [↓Sh.dn, sx, Nat.reduceBEq, reduceCtorEq, Nat.reduceEqDiff] at f3' f4
    have hl := hlenN i hN
    obtain ⟨b, hbx⟩ : ∃ b, U[i]? = some b := ⟨U[i]'(by rw [hUl]; exact hi), List.getElem?_eq_getElem _⟩
    obtain ⟨q, e4, e5⟩ := Sl.elem (s := 1) Try.underlying67 size_4 (hU3.chg hk3.wf hc fun y hy h1 => hUs y h1 hy).toSl (i := i) (u := .bool b) (by rw [List.getElem?_map, hbx]; rfl)
    have hrl := rankU_le U i
    simp only [↓Sh.dn, sx, Nat.reduceBEq, reduceCtorEq, Nat.reduceEqDiff, f3', f4, f5, f6, hl, nat_lt, hi, decide_true, e4, e5]
    cases b with
    | true =>
      have hnu : numU U i = 1 + rankU U i := by unfold numU; rw [if_pos ⟨hi1, hbx⟩]
      have hrk : rankU U (i + 1) = rankU U i + 1 := by rw [rankU, if_pos ⟨hi1, hbx⟩]
      obtain ⟨p, e1, e2, e3⟩ := hN.spot Try.underlying49 size_3 hc.wf (i := i) (u := .int .i64 ((0 : Nat) : Int)) (by rw [List.getElem?_map, numL_get hi, if_neg (Nat.lt_irrefl i)]; rfl)
      obtain ⟨H4, w1, w2, w3, w4⟩ := e3 (.int .i64 ((1 + rankU U i : Nat) : Int))
      have st : astore Try.prog 3 H' (.int .i64 ((1 + rankU U i : Nat) : Int)) (.pointer (some p)) = some H4 := by rw [store_cell size_3 rfl]; exact w1
      have wr : IntKind.wrap .i64 (((1 + rankU U i : Nat) : Int) + 1) = ((1 + rankU U (i + 1) : Nat) : Int) := by rw [wrap64 (by omega) (by omega)]; omega
      simp only [↓Sh.dn, sx, Nat.reduceBEq, reduceCtorEq, Nat.reduceEqDiff, f4, f5, f6, e1, st, wr, wrap_succ' hi (Nat.le_trans hn2 (by decide))]
      refine k _ _ (by repeat (first | refine Same.put ?_ rfl | exact Same.rfl' _)) (by simp only [↓Sh.dn, sx, Nat.reduceBEq, reduceCtorEq, Nat.reduceEqDiff]) ⟨hc.trans w3, by simp only [↓Sh.dn, sx, Nat.reduceBEq, reduceCtorEq, Nat.reduceEqDiff], ?_⟩
      have : (numL U n (i + 1)).map natC = ((numL U n i).map natC).set i [.int .i64 ((1 + rankU U i : Nat) : Int)] := by rw [numL_set, List.map_set, hnu]; rfl
      rw [this]; exact w2
    | false =>
      have hnu : numU U i = 0 := by unfold numU; rw [if_neg (by rw [hbx]; simp)]
      have hrk : rankU U (i + 1) = rankU U i := by rw [rankU, if_neg (by rw [hbx]; simp)]; omega
      simp only [↓Sh.dn, sx, Nat.reduceBEq, reduceCtorEq, Nat.reduceEqDiff, f6, wrap_succ' hi (Nat.le_trans hn2 (by decide))]
      exact k _ _ (by repeat (first | refine Same.put ?_ rfl | exact Same.rfl' _)) (by simp only [↓Sh.dn, sx, Nat.reduceBEq, reduceCtorEq, Nat.reduceEqDiff]) ⟨hc, by simp only [↓Sh.dn, sx, Nat.reduceBEq, reduceCtorEq, Nat.reduceEqDiff, f5, hrk], by rw [numL_skip hnu]; exact hN⟩
  · rintro F H4 hF f6 ⟨hc4, f5, hN⟩
    have f0 := hF 0 rfl
    have f3' := hF 3 rfl
    have f4 := hF 4 rfl
    simp only [↓Sh.dn, sx, Nat.reduceBEq, reduceCtorEq, Nat.reduceEqDiff] at f0 f3' f4
    have hl := hlenN n hN
    have hk4 := ik hc4
    have hU4 := hU3.chg hk3.wf hc4 fun y hy h1 => hUs y h1 hy
    have hrl := rankU_le U n
    have hm : 1 + rankU U n ≤ n := by
      have : ∀ m, 1 + rankU U (m + 1) ≤ m + 1 := fun m => by
        induction m with
        | zero => simp [rankU]
        | succ m ih => rw [rankU]; split <;> omega
      have h1 := this (n - 1)
      rw [show n - 1 + 1 = n by omega] at h1
      exact h1
    obtain ⟨M, hM⟩ : ∃ M, 1 + rankU U n = M := ⟨_, rfl⟩
    rw [hM] at f5 hm
    obtain ⟨r5, H5, hd5, hk5, g1, rfl, hG1⟩ := graphNew (n := M) ((h.kept hw hk4).gr.sg) hsg (by omega) hk4.wf
    have q0 := cell_grow (hk4.grow hw) hc0
    have hk05 := hk4.trans hk5
    have q1 := cell_grow (hk05.grow hw) hc1
    have hGX : GrX H5 (fun y => H4.next ≤ y) g1 sigma (gCells (List.replicate M [])) (List.replicate M 0) (List.replicate M 0) := by
      have := (hG1.own hk5.wf).mono (Z := fun y => H4.next ≤ y) fun y hy => hy.1
      simpa [gCells] using this
    have hU5 := hU4.kept hc4.wf hk5
    have hN5 := hN.kept hc4.wf hk5
    have hUb := hU4.lt hc4.wf
    have hNb := hN.lt hc4.wf
    have hb4 := hk4.next
    simp only [↓Sh.dn, sx, Nat.reduceBEq, reduceCtorEq, Nat.reduceEqDiff, f0, f4, f5, f6, hl, nat_lt, Nat.lt_irrefl, decide_false, q0]
    refine ⟨_, _, hd5, ?_⟩
    simp only [↓Sh.dn, sx, Nat.reduceBEq, reduceCtorEq, Nat.reduceEqDiff, f0, q1, hlenA]
    refine wp_for n 47 (List.range' 47 72 ++ [8, 9, 11]) (fun i F H' => Chg (fun y => H4.next ≤ y) H5 H' ∧ ∃ R es cs, GrX H' (fun y => H4.next ≤ y) g1 sigma (gCells R) es cs ∧ cs.length = M ∧ TrimI E ends U M i R es) (by simp only [↓Sh.dn, sx, Nat.reduceBEq, reduceCtorEq, Nat.reduceEqDiff]) ⟨Chg.refl hk5.wf, _, _, _, hGX, by simp, TrimI.none E ends U M⟩ ?_ ?_
    · rintro i F' H' hi hF' f47 ⟨hc, R, es, cs, hG, hcs, hT⟩ k
      have g0 := hF' 0 rfl
      have g3 := hF' 3 rfl
      have g4 := hF' 4 rfl
      have g7 := hF' 7 rfl
      have g45 := hF' 45 rfl
      have g46 := hF' 46 rfl
      simp only [↓Sh.dn, sx, Nat.reduceBEq, reduceCtorEq, Nat.reduceEqDiff, f0, f3', f4] at g0 g3 g4 g7 g45 g46
      have hkH : Kept H H' := hk05.then hb4 hc
      obtain ⟨r, hr⟩ : ∃ r, E[i]? = some r := ⟨E[i]'(by rw [h.le]; exact hi), List.getElem?_eq_getElem _⟩
      obtain ⟨hrl', hrt⟩ := h.to i r hr
      obtain ⟨pr, wr, hiar, hcr, hsr, hlr⟩ := PG.row h hr
      have q2 := cell_grow (hkH.grow hw) hcr
      obtain ⟨b, hbx⟩ : ∃ b, U[i]? = some b := ⟨U[i]'(by rw [hUl]; exact hi), List.getElem?_eq_getElem _⟩
      obtain ⟨qb, e4, e5⟩ := Sl.elem (s := 1) Try.underlying67 size_4 (hU5.chg hk5.wf hc fun y hy h1 => by have := hUb y hy; omega).toSl (i := i) (u := .bool b) (by rw [List.getElem?_map, hbx]; rfl)
      simp only [↓Sh.dn, sx, Nat.reduceBEq, reduceCtorEq, Nat.reduceEqDiff, g0, g3, g4, g7, g45, g46, f47, nat_lt, hi, decide_true, hiar, q2, e4, e5]
      cases b with
      | false =>
        simp only [↓Sh.dn, sx, Nat.reduceBEq, reduceCtorEq, Nat.reduceEqDiff, f47, wrap_succ' hi (Nat.le_trans hn2 (by decide))]
        exact k _ _ (by repeat (first | refine Same.put ?_ rfl | exact Same.rfl' _)) (by simp only [↓Sh.dn, sx, Nat.reduceBEq, reduceCtorEq, Nat.reduceEqDiff]) ⟨hc, R, es, cs, hG, hcs, hT.skip (by rw [hbx]; simp)⟩
      | true =>
      have hnm : numU U i < M := by rw [← hM]; exact numU_lt hi
      have hnil : R[numU U i]? = some [] := hT.non _ hnm fun s hs hu he => by have := numU_inj (.inl hu) (.inl hbx) he; omega
      have hR0 : R.set (numU U i) (trimRow U (r.take 0)) = R := by
        refine List.ext_getElem? fun a => ?_
        rw [List.getElem?_set]
        split
        · rename_i ha; subst ha
          rw [hT.lr, if_pos hnm, hnil]; rfl
        · rfl
      have hnum : ∀ {H'' : AH} {t : Nat}, Chg (fun y => H4.next ≤ y) H5 H'' → t < n → ∃ p, aindexAddr Try.prog 49 nv (.int .i64 (t : Int)) = some (.pointer (some p)) ∧ H''.cell p = some (.int .i64 ((numU U t : Nat) : Int)) := fun {H'' t} hc ht =>
        Sl.elem (s := 1) Try.underlying49 size_3 (hN5.chg hk5.wf hc fun y hy h1 => by have := hNb y hy; omega).toSl (by rw [List.getElem?_map, numL_get ht, if_pos ht]; rfl)
      simp only [↓Sh.dn, sx, Nat.reduceBEq, reduceCtorEq, Nat.reduceEqDiff, hlr]
      refine wp_for r.length 59 (List.range' 59 27 ++ [11]) (fun q F'' H'' => Chg (fun y => H4.next ≤ y) H5 H'' ∧ GrX H'' (fun y => H4.next ≤ y) g1 sigma (gCells (R.set (numU U i) (trimRow U (r.take q)))) es cs) (by simp only [↓Sh.dn, sx, Nat.reduceBEq, reduceCtorEq, Nat.reduceEqDiff]) ⟨hc, by rw [hR0]; exact hG⟩ ?_ ?_
      · rintro q F'' H'' hq hF'' f59 ⟨hc', hG'⟩ k2
        have v3 := hF'' 3 rfl
        have v4 := hF'' 4 rfl
        have v7 := hF'' 7 rfl
        have v8 := hF'' 8 rfl
        have v57 := hF'' 57 rfl
        have v58 := hF'' 58 rfl
        simp only [↓Sh.dn, sx, Nat.reduceBEq, reduceCtorEq, Nat.reduceEqDiff, g3, g4, g7] at v3 v4 v7 v8 v57 v58
        have hkH2 : Kept H H'' := hk05.then hb4 hc'
        obtain ⟨pe, hiae, hce⟩ := PG.edge (hsr.grow (hkH2.grow hw)) hq
        have hrq : r[q] ∈ r := List.getElem_mem hq
        have htk : r.take (q + 1) = r.take q ++ [r[q]] := by rw [List.take_add_one, List.getElem?_eq_getElem hq]; rfl
        generalize r[q] = e at hce hrq htk
        have kn := Kept.new hc'.wf 4 (gCell e)
        have hc3 : Chg (fun y => H4.next ≤ y) H5 (H''.new 4 (gCell e)).2 := hc'.trans kn.chg
        have hG3 := hG'.kept hc'.wf kn
        obtain ⟨be, hbe⟩ : ∃ b, U[e.1]? = some b := ⟨U[e.1]'(by rw [hUl]; exact hrt e hrq), List.getElem?_eq_getElem _⟩
        obtain ⟨qe, e6, e7⟩ := Sl.elem (s := 1) Try.underlying67 size_4 (hU5.chg hk5.wf hc3 fun y hy h1 => by have := hUb y hy; omega).toSl (i := e.1) (u := .bool be) (by rw [List.getElem?_map, hbe]; rfl)
        simp only [↓Sh.dn, sx, Nat.reduceBEq, reduceCtorEq, Nat.reduceEqDiff, f59, v3, v4, v7, v8, v57, v58, hiae, hce, nat_lt, hq, decide_true, Option.map_some, geZero, geStore, geOver, ge0, ge1, e6, e7]
        cases be with
        | false =>
          simp only [↓Sh.dn, sx, Nat.reduceBEq, reduceCtorEq, Nat.reduceEqDiff, f59, wrap_succ' hq (Nat.le_trans hrl' (by decide))]
          refine k2 _ _ (by repeat (first | refine Same.put ?_ rfl | exact Same.rfl' _)) (by simp only [↓Sh.dn, sx, Nat.reduceBEq, reduceCtorEq, Nat.reduceEqDiff]) ⟨hc3, ?_⟩
          have : trimRow U (r.take (q + 1)) = trimRow U (r.take q) := by rw [htk]; unfold trimRow; rw [List.filter_append]; simp [hbe]
          rw [this]; exact hG3
        | true =>
          obtain ⟨p1, i1, c1⟩ := hnum hc3 hi
          obtain ⟨p2, i2, c2⟩ := hnum hc3 (hrt e hrq)
          have hrow : (gCells (R.set (numU U i) (trimRow U (r.take q))))[numU U i]? = some ((trimRow U (r.take q)).map gCell) := by
            unfold gCells; rw [List.getElem?_map, List.getElem?_set, if_pos rfl, hT.lr, if_pos hnm]; rfl
          have hrll : ((trimRow U (r.take q)).map gCell).length ≤ 1073741823 := by
            rw [List.length_map]; unfold trimRow; rw [List.length_map]
            refine Nat.le_trans (List.length_filter_le _ _) ?_
            rw [List.length_take]; omega
          obtain ⟨rr, H6, hd6, hc6, hG6⟩ := grArcX (x0 := ((numU U e.1 : Nat) : Int)) (x1 := e.2.1) (x2 := e.2.2.1) (x3 := e.2.2.2) hG3 hrow hrll hc3.wf
          simp only [↓Sh.dn, sx, Nat.reduceBEq, reduceCtorEq, Nat.reduceEqDiff]
          refine (wp_free (by kernel_rfl)).2 ?_
          simp only [↓Sh.dn, sx, Nat.reduceBEq, reduceCtorEq, Nat.reduceEqDiff, f59, v3, v4, v7, v8, ge0, ge1, ge2, ge3, i1, c1, i2, c2]
          refine ⟨_, _, hd6, ?_⟩
          simp only [↓Sh.dn, sx, Nat.reduceBEq, reduceCtorEq, Nat.reduceEqDiff, f59, wrap_succ' hq (Nat.le_trans hrl' (by decide))]
          refine k2 _ _ (by repeat (first | refine Same.put ?_ rfl | exact Same.rfl' _)) (by simp only [↓Sh.dn, sx, Nat.reduceBEq, reduceCtorEq, Nat.reduceEqDiff]) ⟨hc3.trans hc6, ?_⟩
          have h5 := hc3.next
          have h6 := hk5.next
          have hrs : gCells (R.set (numU U i) (trimRow U (r.take (q + 1)))) = (gCells (R.set (numU U i) (trimRow U (r.take q)))).set (numU U i) ((trimRow U (r.take q)).map gCell ++ [[.int .i64 ((numU U e.1 : Nat) : Int), .int .i64 e.2.1, .int .i64 e.2.2.1, .int .i64 e.2.2.2]]) := by
            have : trimRow U (r.take (q + 1)) = trimRow U (r.take q) ++ [(numU U e.1, e.2)] := by rw [htk]; unfold trimRow; rw [List.filter_append]; simp [hbe]
            rw [this]; unfold gCells; rw [List.map_set, List.map_set, List.set_set]; simp [gCell]
          rw [hrs]
          exact hG6.mono fun y hy => by rcases hy with hy | hy <;> omega
      · rintro F'' H'' hF'' f59 ⟨hc', hG'⟩
        have g0' := hF'' 0 rfl
        have g4' := hF'' 4 rfl
        have g7' := hF'' 7 rfl
        have g8' := hF'' 8 rfl
        have g47 := hF'' 47 rfl
        have g58 := hF'' 58 rfl
        simp only [↓Sh.dn, sx, Nat.reduceBEq, reduceCtorEq, Nat.reduceEqDiff, g0, g4, g7, f47] at g0' g4' g7' g8' g47 g58
        rw [List.take_length] at hG'
        have hkH2 : Kept H H'' := hk05.then hb4 hc'
        have hPG := h.kept hw hkH2
        have hie : i < ends.length := by rw [h.ln]; exact hi
        have hic : i < costs.length := by rw [hcl]; exact hi
        have z2 := hPG.gr.arr.cell 2
        have z3 := hPG.gr.arr.cell 3
        obtain ⟨pa, ia, ca⟩ := Sl.elem (s := 1) Try.underlying49 size_3 hPG.gr.en (i := i) (u := .int .i64 ends[i]) (by rw [List.getElem?_map, List.getElem?_eq_getElem hie]; rfl)
        obtain ⟨pb, ib, cb⟩ := Sl.elem (s := 1) Try.underlying49 size_3 hPG.gr.co (i := i) (u := .int .i64 costs[i]) (by rw [List.getElem?_map, List.getElem?_eq_getElem hic]; rfl)
        obtain ⟨p1, i1, c1⟩ := hnum hc' hi
        obtain ⟨ev', cv', pe, pc, K1, K2, x1, x2, x3, x4, x5, x6, x7, x8, x9, x10, x11⟩ := GrX.setEC (s := numU U i) hG' hc'.wf (by rw [hT.le]; exact hnm) (by rw [hcs]; exact hnm) ends[i] costs[i]
        simp only [↓Sh.dn, sx, Nat.reduceBEq, reduceCtorEq, Nat.reduceEqDiff, f59, g58, nat_lt, Nat.lt_irrefl, decide_false]
        refine (wp_free (by kernel_rfl)).2 ?_
        simp only [↓Sh.dn, sx, Nat.reduceBEq, reduceCtorEq, Nat.reduceEqDiff, g0', g4', g7', g8', g47, z2, z3, ia, ca, ib, cb, i1, c1, x1, x2, x5, x6, x7, x8, wrap_succ' hi (Nat.le_trans hn2 (by decide))]
        refine k _ _ ?_ (by simp only [↓Sh.dn, sx, Nat.reduceBEq, reduceCtorEq, Nat.reduceEqDiff]) ⟨hc'.trans x10, _, _, _, x11, by rw [List.length_set]; exact hcs, hT.add hbx hnm hr (by simp [List.getD, List.getElem?_eq_getElem hie])⟩
        · repeat refine Same.put ?_ rfl
          exact Same.trans (by repeat (first | refine Same.put ?_ rfl | exact Same.rfl' _)) (hF''.sub rfl)
    · rintro F' H' hF' f47 ⟨hc, R, es, cs, hG, hcs, hT⟩
      have g7 := hF' 7 rfl
      have g46 := hF' 46 rfl
      simp only [↓Sh.dn, sx, Nat.reduceBEq, reduceCtorEq, Nat.reduceEqDiff] at g7 g46
      simp only [↓Sh.dn, sx, Nat.reduceBEq, reduceCtorEq, Nat.reduceEqDiff, g7, g46, f47, nat_lt, Nat.lt_irrefl, decide_false, hres]
      obtain ⟨sv', av', ev', cv', vals', hR⟩ := hG.read
      rw [← hM] at hT
      have hof := hT.of h.le hUl (fun s r hr => (h.to s r hr).2) hUi
      refine ⟨hk05.then hb4 hc, g1, rfl, M, R, es, ⟨sv', av', ev', cv', vals', cs, hR, by rw [← hM]; exact hT.lr, by rw [← hM]; exact hT.le, by omega, by omega, fun s r hr => ?_⟩, hm, U, hof⟩
      by_cases hex : ∃ t, U[t]? = some true ∧ numU U t = s
      · obtain ⟨t, ht, rfl⟩ := hex
        have htn : t < n := by rw [← hUl]; exact (List.getElem?_eq_some_iff.1 ht).1
        have hr0 : E[t]? = some (E[t]'(by rw [h.le]; exact htn)) := List.getElem?_eq_getElem _
        generalize E[t]'(by rw [h.le]; exact htn) = r0 at hr0
        rw [hT.row t r0 htn ht hr0] at hr
        rw [← Option.some.inj hr]
        obtain ⟨b1, b2⟩ := h.to t r0 hr0
        refine ⟨by unfold trimRow; rw [List.length_map]; exact Nat.le_trans (List.length_filter_le _ _) b1, fun e he => ?_⟩
        obtain ⟨e0, he0, rfl⟩ := List.mem_map.1 he
        have := b2 e0 (List.mem_filter.1 he0).1
        rw [← hM]
        exact numU_lt this
      · have hs := (List.getElem?_eq_some_iff.1 hr).1
        rw [hT.lr] at hs
        rw [hT.non s hs fun t _ ht he => hex ⟨t, ht, he⟩] at hr
        rw [← Option.some.inj hr]
        exact ⟨Nat.zero_le _, fun e he => by cases he⟩
end Go.Proofs.Ytcgbiedfbacgpaa
/- Whether a text of a list is too long for a symbol. -/
set_option maxHeartbeats 4000000
set_option maxRecDepth 20000
set_option linter.unusedSimpArgs false
set_option linter.unusedVariables false
set_option pp.deepTerms.threshold 8
namespace Go.Proofs.Ytcgbiedfbacgpaa
open Go Go.Proofs Go.Proofs.Sh
-- left out: anyLong
end Go.Proofs.Ytcgbiedfbacgpaa
/- Whether a text is a symbol. -/
set_option maxHeartbeats 4000000
set_option maxRecDepth 20000
set_option linter.unusedSimpArgs false
set_option linter.unusedVariables false
set_option pp.deepTerms.threshold 8
namespace Go.Proofs.Ytcgbiedfbacgpaa
open Go Go.Proofs Go.Proofs.Sh
/-- A byte that no symbol has. -/
def badByte (u : UInt8) : Bool := decide (u.toNat < 33) || decide (126 < u.toNat) || decide (u.toNat = 60) || decide (u.toNat = 62)
def symOk (s : ByteArray) : Bool := !s.data.toList.any badByte && decide (1 ≤ s.size) && decide (s.size ≤ 16)
-- left out: isSymbol
end Go.Proofs.Ytcgbiedfbacgpaa
/- Whether all texts of a list are symbols. -/
set_option maxHeartbeats 4000000
set_option maxRecDepth 20000
set_option linter.unusedSimpArgs false
set_option linter.unusedVariables false
set_option pp.deepTerms.threshold 8
namespace Go.Proofs.Ytcgbiedfbacgpaa
open Go Go.Proofs Go.Proofs.Sh
-- left out: allSymbols
end Go.Proofs.Ytcgbiedfbacgpaa
/- Whether texts ascend. -/
set_option maxHeartbeats 4000000
set_option maxRecDepth 20000
set_option linter.unusedSimpArgs false
set_option linter.unusedVariables false
set_option pp.deepTerms.threshold 8
namespace Go.Proofs.Ytcgbiedfbacgpaa
open Go Go.Proofs Go.Proofs.Sh
/-- Each text is ahead of the next one. -/
def ascB : List ByteArray → Bool
  | x :: y :: l => strLt x y && ascB (y :: l)
  | _ => true
theorem ascB_iff : ∀ {l : List ByteArray}, ascB l = true ↔ ∀ (i : Nat) x y, l[i]? = some x → l[i + 1]? = some y → strLt x y = true
  | [] => by simp [ascB]
  | [a] => by simp [ascB]
  | a :: b :: l => by
    simp only [ascB, Bool.and_eq_true, ascB_iff (l := b :: l)]
    constructor
    · rintro ⟨h1, h2⟩ i x y hx hy
      cases i with
      | zero => simp only [List.getElem?_cons_zero, List.getElem?_cons_succ, Option.some.injEq] at hx hy; subst hx hy; exact h1
      | succ i => exact h2 i x y (by simpa using hx) (by simpa using hy)
    · intro h
      exact ⟨h 0 a b rfl rfl, fun i x y hx hy => h (i + 1) x y (by simpa using hx) (by simpa using hy)⟩
theorem asc_of {l : List ByteArray} (h : ascB l = true) : Asc l := by
  rw [ascB_iff] at h
  intro i j x y hij hx hy
  obtain ⟨d, rfl⟩ : ∃ d, j = i + 1 + d := ⟨j - i - 1, by omega⟩
  induction d generalizing y with
  | zero => exact h i x y hx hy
  | succ d ih =>
    have hjl := (List.getElem?_eq_some_iff.1 hy).1
    have hz : l[i + 1 + d]? = some (l[i + 1 + d]'(by omega)) := List.getElem?_eq_getElem (by omega)
    exact strLt_trans (ih _ (by omega) hz) (h _ _ _ hz hy)
-- left out: isSet
end Go.Proofs.Ytcgbiedfbacgpaa
/- What is wrong with an alphabet, by the reference. -/
set_option maxHeartbeats 4000000
set_option maxRecDepth 20000
set_option linter.unusedSimpArgs false
set_option linter.unusedVariables false
set_option pp.deepTerms.threshold 8
namespace Go.Proofs.Ytcgbiedfbacgpaa
open Go Go.Proofs Go.Proofs.Sh
def anyLongB (l : List ByteArray) : Bool := l.any fun s => decide (16 < s.size)
def sigErr (l : List ByteArray) : Int := if (decide (40 < l.length) || anyLongB l) = true then 3 else if (l.all symOk && ascB l) = true then 0 else 1
-- left out: refSigma
end Go.Proofs.Ytcgbiedfbacgpaa
/- sort.Search: the first place at which a question that stays true is true. -/
set_option maxHeartbeats 4000000
set_option maxRecDepth 20000
set_option linter.unusedSimpArgs false
set_option linter.unusedVariables false
set_option pp.deepTerms.threshold 8
namespace Go.Proofs.Ytcgbiedfbacgpaa
open Go Go.Proofs Go.Proofs.Sh
theorem half (a b : Nat) (h : a + b < 2097152) : ashift false .u64 (IntKind.wrap .u64 (IntKind.wrap .i64 ((a : Int) + (b : Int)))) 1 = some (.int .u64 (((a + b) / 2 : Nat) : Int)) := by
  rw [wrap64 (by omega) (by omega)]
  have e : IntKind.wrap .u64 ((a : Int) + (b : Int)) = ((a + b : Nat) : Int) := by
    simp only [IntKind.wrap]
    simp [IntKind.bits, IntKind.signed]
    omega
  rw [e]
  simp only [ashift, intLe_eq]
  simp [IntKind.bits, Int.fdiv_eq_ediv]
-- left out: search
end Go.Proofs.Ytcgbiedfbacgpaa
/- What sort.SearchStrings asks of a place. -/
set_option maxHeartbeats 4000000
set_option maxRecDepth 20000
set_option linter.unusedSimpArgs false
namespace Go.Proofs.Ytcgbiedfbacgpaa
open Go Go.Proofs Go.Proofs.Sh
-- left out: searchAt
end Go.Proofs.Ytcgbiedfbacgpaa
/- sort.SearchStrings over an ascending list. -/
set_option maxHeartbeats 4000000
set_option maxRecDepth 20000
set_option linter.unusedSimpArgs false
set_option linter.unusedVariables false
set_option pp.deepTerms.threshold 8
namespace Go.Proofs.Ytcgbiedfbacgpaa
open Go Go.Proofs Go.Proofs.Sh
-- left out: searchStrings
end Go.Proofs.Ytcgbiedfbacgpaa
/- Whether a text is in an ascending list. -/
set_option maxHeartbeats 4000000
set_option maxRecDepth 20000
set_option linter.unusedSimpArgs false
set_option linter.unusedVariables false
set_option pp.deepTerms.threshold 8
namespace Go.Proofs.Ytcgbiedfbacgpaa
open Go Go.Proofs Go.Proofs.Sh
-- left out: isIn
end Go.Proofs.Ytcgbiedfbacgpaa
/- What is wrong with a net of any kind, by the reference. -/
set_option maxHeartbeats 4000000
set_option maxRecDepth 20000
set_option linter.unusedSimpArgs false
set_option linter.unusedVariables false
set_option pp.deepTerms.threshold 8
namespace Go.Proofs.Ytcgbiedfbacgpaa
open Go Go.Proofs Go.Proofs.Sh
def badSym (N : NetD) (s : ByteArray) : Bool := !decide (s = ⟨#[]⟩) && !strIn N.sigma s
def badArc (N : NetD) (a : ArcD) : Bool := decide (a.fr < 0) || decide (N.states ≤ a.fr) || decide (a.to < 0) || decide (N.states ≤ a.to) || badSym N a.inn || badSym N a.out
def badEnd (N : NetD) (e : EndD) : Bool := decide (e.state < 0) || decide (N.states ≤ e.state)
def tooLarge (N : NetD) : Bool := decide (3000 < N.states) || decide (60000 < N.arcs.length) || decide (60000 < N.ends.length)
def netErr (N : NetD) : Int := if tooLarge N = true then 3 else if sigErr N.sigma ≠ 0 then sigErr N.sigma else if N.states < 1 then 1 else if N.arcs.any (badArc N) = true then 1 else if N.ends.any (badEnd N) = true then 1 else 0
theorem sigErr_asc {l : List ByteArray} (h : sigErr l = 0) : Asc l := by
  unfold sigErr at h
  split at h
  · cases h
  · split at h
    · rename_i h1
      simp only [Bool.and_eq_true] at h1
      exact asc_of h1.2
    · cases h
-- left out: validateNet
end Go.Proofs.Ytcgbiedfbacgpaa
/- Whether nothing of a net costs. -/
set_option maxHeartbeats 4000000
set_option maxRecDepth 20000
set_option linter.unusedSimpArgs false
namespace Go.Proofs.Ytcgbiedfbacgpaa
open Go Go.Proofs Go.Proofs.Sh
def NetD.free (N : NetD) : Bool := N.arcs.all (fun a => decide (a.cost = 0)) && N.ends.all (fun a => decide (a.cost = 0))
-- left out: isFree
end Go.Proofs.Ytcgbiedfbacgpaa
/- What is wrong with an acceptor, by the reference. -/
set_option maxHeartbeats 4000000
set_option maxRecDepth 20000
set_option linter.unusedSimpArgs false
set_option linter.unusedVariables false
set_option pp.deepTerms.threshold 8
namespace Go.Proofs.Ytcgbiedfbacgpaa
open Go Go.Proofs Go.Proofs.Sh
def unlike (N : NetD) : Bool := N.arcs.any fun a => !decide (a.inn = a.out)
def accErr (N : NetD) : Int := if netErr N ≠ 0 then netErr N else if unlike N = true then 6 else if NetD.free N = true then 0 else 6
-- left out: refValidate
end Go.Proofs.Ytcgbiedfbacgpaa
/- What a net is with which nothing is wrong. -/
set_option maxHeartbeats 4000000
set_option maxRecDepth 20000
set_option linter.unusedSimpArgs false
set_option linter.unusedVariables false
namespace Go.Proofs.Ytcgbiedfbacgpaa
open Go Go.Proofs Go.Proofs.Sh
structure NetOk (N : NetD) : Prop where
  st1 : 1 ≤ N.states
  st2 : N.states ≤ 3000
  ar : N.arcs.length ≤ 60000
  en : N.ends.length ≤ 60000
  sig : sigErr N.sigma = 0
  asc : Asc N.sigma
  sym : ∀ x ∈ N.sigma, symOk x = true
  arc : ∀ a ∈ N.arcs, 0 ≤ a.fr ∧ a.fr < N.states ∧ 0 ≤ a.to ∧ a.to < N.states ∧ (a.inn = ⟨#[]⟩ ∨ a.inn ∈ N.sigma) ∧ (a.out = ⟨#[]⟩ ∨ a.out ∈ N.sigma)
  fin : ∀ e ∈ N.ends, 0 ≤ e.state ∧ e.state < N.states
theorem netOk {N : NetD} (h : netErr N = 0) : NetOk N := by
  unfold netErr at h
  split at h
  · cases h
  rename_i h1
  split at h
  · rename_i h2; exact absurd h h2
  rename_i h2
  split at h
  · cases h
  rename_i h3
  split at h
  · cases h
  rename_i h4
  split at h
  · cases h
  rename_i h5
  simp only [ne_eq, Decidable.not_not] at h2
  simp only [tooLarge, Bool.or_eq_true, decide_eq_true_eq, not_or, Int.not_lt, Nat.not_lt] at h1 h3
  have sy : ∀ x, badSym N x = false → x = ⟨#[]⟩ ∨ x ∈ N.sigma := by
    intro x hx
    simp only [badSym, Bool.and_eq_false_iff, Bool.not_eq_false', decide_eq_true_eq] at hx
    rcases hx with h | h
    · exact .inl h
    · exact .inr (strIn_iff.1 h)
  have hsym : ∀ x ∈ N.sigma, symOk x = true := by
    have := h2
    unfold sigErr at this
    split at this
    · cases this
    split at this
    · rename_i h6
      rw [Bool.and_eq_true] at h6
      exact List.all_eq_true.1 h6.1
    · cases this
  refine ⟨h3, h1.1.1, h1.1.2, h1.2, h2, sigErr_asc h2, hsym, fun a ha => ?_, fun e he => ?_⟩
  · have : ¬(badArc N a = true) := fun hb => h4 (List.any_eq_true.2 ⟨a, ha, hb⟩)
    simp only [badArc, Bool.or_eq_true, decide_eq_true_eq, not_or, Int.not_lt, Int.not_le, Bool.not_eq_true] at this
    obtain ⟨⟨⟨⟨⟨k1, k2⟩, k3⟩, k4⟩, k5⟩, k6⟩ := this
    exact ⟨k1, k2, k3, k4, sy _ k5, sy _ k6⟩
  · have : ¬(badEnd N e = true) := fun hb => h5 (List.any_eq_true.2 ⟨e, he, hb⟩)
    simp only [badEnd, Bool.or_eq_true, decide_eq_true_eq, not_or, Int.not_lt, Int.not_le] at this
    exact this
end Go.Proofs.Ytcgbiedfbacgpaa
/- cmp.Less, where nothing is no number. -/
set_option maxHeartbeats 4000000
set_option maxRecDepth 20000
set_option linter.unusedSimpArgs false
set_option linter.unusedVariables false
namespace Go.Proofs.Ytcgbiedfbacgpaa
open Go Go.Proofs Go.Proofs.Sh
theorem cmpIsNaNStr {H : AH} {x : ByteArray} : Sh.Call Try.prog (knows 6) 70 [Value.string x] H (fun r H' => H' = H ∧ r = .bool false) := by
  refine call_of rfl Try.func70 rfl (Nat.le_of_ble_eq_true rfl) ?_
  have hres : Try.f70.results.toList = [.tmp 2] := rfl
  simp only [↓Sh.dn, sx, Nat.reduceBEq, reduceCtorEq, Nat.reduceEqDiff, hres, decide_true, Bool.not_true, and_self]
theorem cmpLessStr {H : AH} {x y : ByteArray} : Sh.Call Try.prog (knows 6) 64 [Value.string x, Value.string y] H (fun r H' => H' = H ∧ r = .bool (strLt x y)) := by
  refine call_of rfl Try.func64 rfl (Nat.le_of_ble_eq_true rfl) ?_
  have hres : Try.f64.results.toList = [.tmp 4] := rfl
  obtain ⟨r, H1, hd, rfl, rfl⟩ := cmpIsNaNStr (H := H) (x := x)
  simp only [↓Sh.dn, sx, Nat.reduceBEq, reduceCtorEq, Nat.reduceEqDiff]
  refine ⟨_, _, hd, ?_⟩
  simp only [↓Sh.dn, sx, Nat.reduceBEq, reduceCtorEq, Nat.reduceEqDiff, hres, and_self]
  try rfl
/-! ### Lists in rows -/
section
variable {H : AH} {g k n m cap i : Nat} {l : List ByteArray}
end
end Go.Proofs.Ytcgbiedfbacgpaa
/- slices.BinarySearch of an ascending list of texts. -/
set_option maxHeartbeats 4000000
set_option maxRecDepth 20000
set_option linter.unusedSimpArgs false
set_option linter.unusedVariables false
set_option pp.deepTerms.threshold 8
namespace Go.Proofs.Ytcgbiedfbacgpaa
open Go Go.Proofs Go.Proofs.Sh
theorem isNaNStr {H : AH} {x : ByteArray} : Sh.Call Try.prog (knows 6) 65 [.string x] H (fun r H' => H' = H ∧ r = .bool false) := by
  refine call_of rfl Try.func65 rfl (Nat.le_of_ble_eq_true rfl) ?_
  have hres : Try.f65.results.toList = [.tmp 2] := rfl
  simp only [↓Sh.dn, sx, Nat.reduceBEq, reduceCtorEq, Nat.reduceEqDiff, hres, decide_true, Bool.not_true, and_self]
theorem binarySearch {H : AH} {v : Value} {x : ByteArray} {l : List ByteArray} (hs : Sl H v 1 (l.map strCell)) (ha : Asc l) (hl : l.length ≤ 1048576) :
    Sh.Call Try.prog (knows 6) 43 [v, .string x] H (fun r H' => H' = H ∧ ∃ k : Nat, r = .tuple #[.int .i64 (k : Int), .bool (strIn l x)] ∧ k ≤ l.length ∧ (l[k]? = some x ↔ x ∈ l)) := by
  refine call_of rfl Try.func43 rfl (Nat.le_of_ble_eq_true rfl) ?_
  have hres : Try.f43.results.toList = [.tmp 4, .tmp 5] := rfl
  have hlen := hs.len Try.underlying22 H
  simp only [↓Sh.dn, sx, Nat.reduceBEq, reduceCtorEq, Nat.reduceEqDiff, hlen, List.length_map]
  refine wp_while (fun m F H' => H' = H ∧ ∃ a b : Nat, m = b - a ∧ a ≤ b ∧ b ≤ l.length ∧ F.get 7 = some (.int .i64 (a : Int)) ∧ F.get 8 = some (.int .i64 (b : Int)) ∧ F.get 0 = some v ∧ F.get 1 = some (.string x) ∧ F.get 6 = some (.int .i64 (l.length : Int)) ∧
    (∀ (i : Nat) y, i < a → l[i]? = some y → strLt y x = true) ∧ (∀ (i : Nat) y, b ≤ i → l[i]? = some y → strLt y x = false)) (m := l.length)
    ⟨rfl, 0, l.length, by omega, by omega, by omega, by simp only [↓Sh.dn, sx, Nat.reduceBEq, reduceCtorEq, Nat.reduceEqDiff]; rfl, by simp only [↓Sh.dn, sx, Nat.reduceBEq, reduceCtorEq, Nat.reduceEqDiff], by simp only [↓Sh.dn, sx, Nat.reduceBEq, reduceCtorEq, Nat.reduceEqDiff], by simp only [↓Sh.dn, sx, Nat.reduceBEq, reduceCtorEq, Nat.reduceEqDiff], by simp only [↓Sh.dn, sx, Nat.reduceBEq, reduceCtorEq, Nat.reduceEqDiff], fun i y h => by omega, fun i y h1 h2 => by have := (List.getElem?_eq_some_iff.1 h2).1; omega⟩ ?_
  rintro m F H' ⟨rfl, a, b, rfl, hab, hbn, f7, f8, f0, f1, f6, hlo, hhi⟩ k
  by_cases hlt : a < b
  · have hm : (a + b) / 2 < l.length := by omega
    have hw2 : IntKind.wrap .i64 (((a + b) / 2 : Nat) : Int) = (((a + b) / 2 : Nat) : Int) := wrap64 (by omega) (by omega)
    obtain ⟨g, o, kk, hia, hc, hcc⟩ := hs.at Try.underlying22 size_9 (i := (a + b) / 2) (x := strCell l[(a + b) / 2]) (by simp [hm]) .i64
    have hy := hcc 0 _ rfl
    simp only [Nat.add_zero] at hy
    obtain ⟨r, H1, hd, rfl, rfl⟩ := cmpLessStr (H := H') (x := l[(a + b) / 2]) (y := x)
    have hget : l[(a + b) / 2]? = some l[(a + b) / 2] := List.getElem?_eq_getElem hm
    simp only [↓Sh.dn, sx, Nat.reduceBEq, reduceCtorEq, Nat.reduceEqDiff, f0, f1, f6, f7, f8, nat_lt, hlt, decide_true, b_shr, half a b (by omega), hw2, hia, hy, forall_const, reduceCtorEq, false_implies, and_true, true_and]
    refine ⟨_, _, hd, ?_⟩
    cases hpv : strLt l[(a + b) / 2] x with
    | true =>
      have hw3 : IntKind.wrap .i64 ((((a + b) / 2 : Nat) : Int) + 1) = (((a + b) / 2 + 1 : Nat) : Int) := wrap_succ (n := l.length) (by omega) hl
      simp only [↓Sh.dn, sx, Nat.reduceBEq, reduceCtorEq, Nat.reduceEqDiff, forall_const, reduceCtorEq, false_implies, and_true, true_and, hw3]
      refine k (b - ((a + b) / 2 + 1)) _ _ (by omega) ⟨rfl, (a + b) / 2 + 1, b, rfl, by omega, hbn, by simp only [↓Sh.dn, sx, Nat.reduceBEq, reduceCtorEq, Nat.reduceEqDiff], by simp only [↓Sh.dn, sx, Nat.reduceBEq, reduceCtorEq, Nat.reduceEqDiff, f8], by simp only [↓Sh.dn, sx, Nat.reduceBEq, reduceCtorEq, Nat.reduceEqDiff, f0], by simp only [↓Sh.dn, sx, Nat.reduceBEq, reduceCtorEq, Nat.reduceEqDiff, f1], by simp only [↓Sh.dn, sx, Nat.reduceBEq, reduceCtorEq, Nat.reduceEqDiff, f6], fun i y hi hy => ?_, hhi⟩
      by_cases he : i = (a + b) / 2
      · subst he; rw [hget] at hy; rw [← Option.some.inj hy]; exact hpv
      · exact strLt_trans (ha _ _ _ _ (by omega) hy hget) hpv
    | false =>
      simp only [↓Sh.dn, sx, Nat.reduceBEq, reduceCtorEq, Nat.reduceEqDiff, forall_const, reduceCtorEq, false_implies, and_true, true_and]
      refine k ((a + b) / 2 - a) _ _ (by omega) ⟨rfl, a, (a + b) / 2, rfl, by omega, by omega, by simp only [↓Sh.dn, sx, Nat.reduceBEq, reduceCtorEq, Nat.reduceEqDiff, f7], by simp only [↓Sh.dn, sx, Nat.reduceBEq, reduceCtorEq, Nat.reduceEqDiff], by simp only [↓Sh.dn, sx, Nat.reduceBEq, reduceCtorEq, Nat.reduceEqDiff, f0], by simp only [↓Sh.dn, sx, Nat.reduceBEq, reduceCtorEq, Nat.reduceEqDiff, f1], by simp only [↓Sh.dn, sx, Nat.reduceBEq, reduceCtorEq, Nat.reduceEqDiff, f6], hlo, fun i y h1 hy => ?_⟩
      by_cases he : i = (a + b) / 2
      · subst he; rw [hget] at hy; rw [← Option.some.inj hy]; exact hpv
      · cases hlt2 : strLt y x with
        | false => rfl
        | true => rw [strLt_trans (ha _ _ _ _ (by omega) hget hy) hlt2] at hpv; cases hpv
  · have hab' : a = b := by omega
    subst hab'
    have hp := asc_place ha x hlo hhi
    by_cases hla : a < l.length
    · obtain ⟨g, o, kk, hia, hc, hcc⟩ := hs.at Try.underlying22 size_9 (i := a) (x := strCell l[a]) (by simp [hla]) .i64
      have hy := hcc 0 _ rfl
      simp only [Nat.add_zero] at hy
      have hget : l[a]? = some l[a] := List.getElem?_eq_getElem hla
      by_cases hex : l[a] = x
      · have hin : strIn l x = true := strIn_iff.2 (hp.1 (by rw [hget, hex]))
        simp only [↓Sh.dn, sx, Nat.reduceBEq, reduceCtorEq, Nat.reduceEqDiff, f0, f1, f6, f7, f8, nat_lt, hlt, hla, hia, hy, hex, decide_true, decide_false, hres, hin, forall_const, reduceCtorEq, false_implies, and_true, true_and]
        exact ⟨a, rfl, hbn, hp⟩
      · have hin : strIn l x = false := by
          cases h : strIn l x with
          | false => rfl
          | true => have := hp.2 (strIn_iff.1 h); rw [hget] at this; exact absurd (Option.some.inj this) hex
        obtain ⟨r, H1, hd, rfl, rfl⟩ := isNaNStr (H := H') (x := l[a])
        simp only [↓Sh.dn, sx, Nat.reduceBEq, reduceCtorEq, Nat.reduceEqDiff, f0, f1, f6, f7, f8, nat_lt, hlt, hla, hia, hy, hex, decide_true, decide_false, hres, hin, forall_const, reduceCtorEq, false_implies, and_true, true_and]
        refine ⟨_, _, hd, ?_⟩
        simp only [↓Sh.dn, sx, Nat.reduceBEq, reduceCtorEq, Nat.reduceEqDiff, f7, forall_const, reduceCtorEq, false_implies, and_true, true_and, hres]
        exact ⟨a, rfl, hbn, hp⟩
    · have hin : strIn l x = false := by
        cases h : strIn l x with
        | false => rfl
        | true => have := hp.2 (strIn_iff.1 h); rw [List.getElem?_eq_none (by omega)] at this; cases this
      simp only [↓Sh.dn, sx, Nat.reduceBEq, reduceCtorEq, Nat.reduceEqDiff, f0, f1, f6, f7, f8, nat_lt, hlt, hla, decide_true, decide_false, hres, hin, forall_const, reduceCtorEq, false_implies, and_true, true_and]
      exact ⟨a, rfl, hbn, hp⟩
end Go.Proofs.Ytcgbiedfbacgpaa
/- The number of a symbol; a word as numbers. -/
set_option maxHeartbeats 4000000
set_option maxRecDepth 20000
set_option linter.unusedSimpArgs false
set_option linter.unusedVariables false
set_option pp.deepTerms.threshold 8
namespace Go.Proofs.Ytcgbiedfbacgpaa
open Go Go.Proofs Go.Proofs.Sh
theorem place {H : AH} {v : Value} {x : ByteArray} {l : List ByteArray} (hs : Sl H v 1 (l.map strCell)) (ha : Asc l) (hl : l.length ≤ 1048576) :
    Sh.Call Try.prog (knows 6) 26 [v, .string x] H (fun r H' => H' = H ∧ r = .int .i64 (symIx l x)) := by
  refine call_of rfl Try.func26 rfl (Nat.le_of_ble_eq_true rfl) ?_
  have hres : Try.f26.results.toList = [.tmp 4] := rfl
  obtain ⟨r, H1, hd, rfl, k, rfl, _, hk⟩ := binarySearch (x := x) hs ha hl
  simp only [↓Sh.dn, sx, Nat.reduceBEq, reduceCtorEq, Nat.reduceEqDiff]
  refine ⟨_, _, hd, ?_⟩
  cases hin : strIn l x with
  | true =>
    have := symIx_some ha (hk.2 (strIn_iff.1 hin))
    simp only [↓Sh.dn, sx, Nat.reduceBEq, reduceCtorEq, Nat.reduceEqDiff, hres, this]
  | false =>
    have := symIx_none (l := l) (x := x) (fun h => by rw [strIn_iff.2 h] at hin; cases hin)
    simp only [↓Sh.dn, sx, Nat.reduceBEq, reduceCtorEq, Nat.reduceEqDiff, hres, this]
theorem symIx_neg {l : List ByteArray} {x : ByteArray} (ha : Asc l) : decide (symIx l x < 0) = !strIn l x := by
  cases hin : strIn l x with
  | true =>
    obtain ⟨k, hk⟩ := List.mem_iff_getElem?.1 (strIn_iff.1 hin)
    rw [symIx_some ha hk]; simp
  | false =>
    rw [symIx_none (fun h => by rw [strIn_iff.2 h] at hin; cases hin)]; rfl
def ixCell (l : List ByteArray) (s : ByteArray) : List Value := [.int .i64 (symIx l s)]
theorem graphWord {H : AH} {v u : Value} {l w : List ByteArray} (hs : Sl H v 1 (l.map strCell)) (ha : Asc l) (hl : l.length ≤ 1048576) (hu : Sl H u 1 (w.map strCell)) (hlw : w.length ≤ 1048576) (hw : Wf H) :
    Sh.Call Try.prog (knows 6) 34 [v, u] H (fun r H' => Kept H H' ∧ ∃ z, r = .tuple #[z, .bool (w.all (strIn l))] ∧ (w.all (strIn l) = true → ∃ b, Buf H' 1 z (w.map (ixCell l)) b ∧ ∀ g, b = some g → H.next ≤ g)) := by
  refine call_of rfl Try.func34 rfl (Nat.le_of_ble_eq_true rfl) ?_
  have hres : Try.f34.results.toList = [.tmp 4, .tmp 5] := rfl
  have hlen := hu.len Try.underlying22
  rw [List.length_map] at hlen
  have hmk := mk_49 (H := H) (l := 0) (c := w.length) (Nat.zero_le _) (by omega)
  have hk1 : Kept H (H.new 1 (List.replicate w.length (.int .i64 0))).2 := Kept.new hw 1 _
  have hb1 := Buf.room hw (.int .i64 0) (c := w.length) (by omega)
  have e0 : ((0 : Nat) : Int) = 0 := rfl
  rw [e0] at hmk
  simp only [↓Sh.dn, sx, Nat.reduceBEq, reduceCtorEq, Nat.reduceEqDiff, hlen, hmk]
  have hfar : ∀ g, (if w.length = 0 then none else some H.next) = some g → H.next ≤ g := by
    intro g h
    split at h
    · cases h
    · injection h with h; omega
  generalize (H.new 1 (List.replicate w.length (.int .i64 0))).2 = H1 at hk1 hb1 ⊢
  refine wp_for w.length 15 (List.range' 15 14 ++ [6, 8, 9]) (fun i F H' => Kept H H' ∧ (w.take i).all (strIn l) = true ∧ ∃ z b, F.get 6 = some z ∧ Buf H' 1 z ((w.take i).map (ixCell l)) b ∧ ∀ g, b = some g → H.next ≤ g) (by simp only [↓Sh.dn, sx, Nat.reduceBEq, reduceCtorEq, Nat.reduceEqDiff]) ⟨hk1, rfl, .slice (some ⟨H.next, 0, some 0⟩) 0 w.length, _, by simp only [↓Sh.dn, sx, Nat.reduceBEq, reduceCtorEq, Nat.reduceEqDiff], by simpa using hb1, hfar⟩ ?_ ?_
  · rintro i F H' hlt hF f15 ⟨hk, hall, z, b, f6, hb, hbf⟩ k
    have f0 := hF 0 rfl
    have f13 := hF 13 rfl
    have f14 := hF 14 rfl
    simp only [↓Sh.dn, sx, Nat.reduceBEq, reduceCtorEq, Nat.reduceEqDiff] at f0 f13 f14
    have hs' := hs.grow (hk.grow hw)
    have hu' := hu.grow (hk.grow hw)
    obtain ⟨g, o, kk, hia, hc, hcc⟩ := hu'.at Try.underlying22 size_9 (i := i) (x := strCell w[i]) (by simp [hlt]) .i64
    have hy := hcc 0 _ rfl
    simp only [Nat.add_zero] at hy
    have htake : w.take (i + 1) = w.take i ++ [w[i]] := by rw [List.take_add_one, List.getElem?_eq_getElem hlt]; rfl
    obtain ⟨r, H2, hd, rfl, rfl⟩ := place (x := w[i]) hs' ha hl
    simp only [↓Sh.dn, sx, Nat.reduceBEq, reduceCtorEq, Nat.reduceEqDiff, f0, f13, f14, f15, nat_lt, hlt, decide_true, hia, hy]
    refine ⟨_, _, hd, ?_⟩
    cases hin : strIn l w[i] with
    | false =>
      have hno : w.all (strIn l) = false := List.all_eq_false.2 ⟨_, List.getElem_mem hlt, by rw [hin]; simp⟩
      simp only [↓Sh.dn, sx, Nat.reduceBEq, reduceCtorEq, Nat.reduceEqDiff, symIx_neg ha, hin, hres, hno]
      exact ⟨hk, _, rfl⟩
    | true =>
      -- one more
      obtain ⟨a, cap, rfl⟩ := hb.shape
      have hk3 := hk.news 1 [.int .i64 (symIx l w[i])]
      have hb3 := hb.kept hk.wf (Kept.new hk.wf 1 [.int .i64 (symIx l w[i])])
      have hbld := build1_49 (H := H2) (x := .int .i64 (symIx l w[i])) rfl rfl
      have hnew : Sl (H2.new 1 [.int .i64 (symIx l w[i])]).2 (.slice (some ⟨H2.next, 0, some 0⟩) 1 1) 1 [[.int .i64 (symIx l w[i])]] :=
        (Buf.fresh (H := H2) (s := 1) (xs := [[.int .i64 (symIx l w[i])]]) hk.wf (by simp) (by simp) 1 rfl).toSl
      have happ := app_49 (H := (H2.new 1 [.int .i64 (symIx l w[i])]).2) (base := a) (len := ((w.take i).map (ixCell l)).length) (cap := cap) (hnew.srcKind Try.underlying49) hnew.newCells (by simp; omega)
      obtain ⟨z', H4, b', e1, e2, e3, e4⟩ := hb3.append hk3.wf (xs := [[.int .i64 (symIx l w[i])]]) (by simp)
      rw [e1] at happ
      have hk4 : Kept H H4 := ⟨fun y hy => by
          rw [e3.old y (Nat.lt_of_lt_of_le hy hk3.next) (fun hyb => by have := hbf y hyb; omega)]
          exact hk3.old y hy, Nat.le_trans hk3.next e3.next, e3.wf⟩
      simp only [↓Sh.dn, sx, Nat.reduceBEq, reduceCtorEq, Nat.reduceEqDiff, symIx_neg ha, hin, f6, f15, hbld, vcells, happ, wrap_succ hlt hlw]
      refine k _ _ (by repeat (first | refine Same.put ?_ rfl | exact Same.rfl' _)) (by simp only [↓Sh.dn, sx, Nat.reduceBEq, reduceCtorEq, Nat.reduceEqDiff]) ⟨hk4, ?_, z', b', by simp only [↓Sh.dn, sx, Nat.reduceBEq, reduceCtorEq, Nat.reduceEqDiff], ?_, fun g hg => ?_⟩
      · rw [htake, List.all_append, hall]; simp [hin]
      · rw [htake, List.map_append]; exact e2
      · rcases e4 with h4 | ⟨h4, _⟩
        · exact hbf g (by rw [← h4, hg])
        · rw [h4] at hg; injection hg with hg
          have := hk3.next
          omega
  · rintro F H' hF f15 ⟨hk, hall, z, b, f6, hb, hbf⟩
    have f14 := hF 14 rfl
    simp only [↓Sh.dn, sx, Nat.reduceBEq, reduceCtorEq, Nat.reduceEqDiff] at f14
    rw [List.take_length] at hall hb
    simp only [↓Sh.dn, sx, Nat.reduceBEq, reduceCtorEq, Nat.reduceEqDiff, f14, f15, f6, nat_lt, Nat.lt_irrefl, decide_false, hres, hall]
    exact ⟨hk, z, rfl, b, hb, hbf⟩
end Go.Proofs.Ytcgbiedfbacgpaa
/- graph.Of: the graph of a net. -/
set_option maxHeartbeats 4000000
set_option maxRecDepth 20000
set_option linter.unusedSimpArgs false
set_option linter.unusedVariables false
set_option pp.deepTerms.threshold 8
namespace Go.Proofs.Ytcgbiedfbacgpaa
open Go Go.Proofs Go.Proofs.Sh
theorem graphOf {H : AH} {v : Value} {N : NetD} (h : NetAt H v N) (hok : NetOk N) (hsm : NetSmall N) (hw : Wf H) :
    Sh.Call Try.prog (knows 6) 13 [v] H (fun r H' => Kept H H' ∧ ∃ g, r = .pointer (some ⟨g, 0, some 0⟩) ∧ ∃ base, H.next ≤ base ∧ Gr H' base g N.sigma (grRows N N.arcs) (grEnds N N.ends) (grCosts N N.ends)) := by
  refine call_of rfl Try.func13 rfl (Nat.le_of_ble_eq_true rfl) ?_
  have hres : Try.f13.results.toList = [.tmp 2] := rfl
  obtain ⟨sg, ar, en, rfl, hsg, har, hen⟩ := h
  have hb1 := NetBox.of (N := N) hw hsg har hen
  have hk1 : Kept H (H.new 4 [sg, .int .i64 N.states, ar, en]).2 := Kept.new hw 4 _
  have h1 := hok.st1
  have h2 := hok.st2
  obtain ⟨n, hn⟩ : ∃ n : Nat, N.states = (n : Int) := ⟨N.states.toNat, by omega⟩
  have hnn : N.states.toNat = n := by omega
  simp only [↓Sh.dn, sx, Nat.reduceBEq, reduceCtorEq, Nat.reduceEqDiff, netNew hsg.isCell har.isCell hen.isCell]
  have hnx : H.next < (H.new 4 [sg, .int .i64 N.states, ar, en]).2.next := Nat.lt_succ_self _
  generalize H.next = gg at hb1 hnx ⊢
  generalize (H.new 4 [sg, .int .i64 N.states, ar, en]).2 = H1 at hb1 hk1 hnx ⊢
  obtain ⟨r, H2, hd2, hk2, g, rfl, hgr⟩ := graphNew (n := n) hb1.hsg (by simpa using hsm.sg) (by omega) hk1.wf
  simp only [↓Sh.dn, sx, Nat.reduceBEq, reduceCtorEq, Nat.reduceEqDiff, hb1.c0, hb1.c1, hb1.c2, hb1.c3, hb1.ca, netLenS hb1, netLenA hb1, netLenE hb1, Option.map_some, hn]
  refine ⟨_, _, hd2, ?_⟩
  have hb2 := hb1.kept hk1.wf hk2
  simp only [↓Sh.dn, sx, Nat.reduceBEq, reduceCtorEq, Nat.reduceEqDiff, hb2.c0, hb2.c1, hb2.c2, hb2.c3, hb2.ca, netLenS hb2, netLenA hb2, netLenE hb2, Option.map_some]
  have hz : ∀ f : List Int → Int, f [] = 0 → (rowsOf EndD.state EndD.cost N.states.toNat []).map f = List.replicate n 0 := by
    intro f hf
    rw [rowsOf_none, hnn, List.map_replicate, hf]
  refine wp_for N.arcs.length 16 (List.range' 16 37 ++ [5]) (fun i F H' => Kept H1 H' ∧ Gr H' H1.next g N.sigma (grRows N (N.arcs.take i)) (grEnds N []) (grCosts N [])) (by simp only [↓Sh.dn, sx, Nat.reduceBEq, reduceCtorEq, Nat.reduceEqDiff]) ⟨hk2, by
    rw [List.take_zero]; unfold grRows grEnds grCosts; rw [rowsOf_none, hz _ rfl, hz _ rfl, hnn]; exact hgr⟩ ?_ ?_
  · rintro i F H' hlt hF f16 ⟨hk, hg⟩ k
    have f1 := hF 1 rfl
    have f3 := hF 3 rfl
    have f14 := hF 14 rfl
    have f15 := hF 15 rfl
    simp only [↓Sh.dn, sx, Nat.reduceBEq, reduceCtorEq, Nat.reduceEqDiff] at f1 f3 f14 f15
    have hb' := hb1.kept hk1.wf hk
    obtain ⟨q, o, kk, hia, hc, hcc⟩ := hb'.har.at Try.underlying23 size_40 (i := i) (x := N.arcs[i].cells) (by simp [hlt]) .i64
    clear hcc
    have htake : N.arcs.take (i + 1) = N.arcs.take i ++ [N.arcs[i]] := by rw [List.take_add_one, List.getElem?_eq_getElem hlt]; rfl
    obtain ⟨k0, k1, k2, k3, k4, k5⟩ := hok.arc _ (List.getElem_mem hlt)
    have hb3 := hb'.new hk.wf 5 (N.arcs[i].cells)
    have hk3 := hk.news 5 (N.arcs[i].cells)
    generalize N.arcs[i] = a at hb3 hk3 hc htake k0 k1 k2 k3 k4 k5
    obtain ⟨s, hs⟩ : ∃ s : Nat, a.fr = (s : Int) := ⟨a.fr.toNat, by omega⟩
    have hsn : s < N.states.toNat := by omega
    obtain ⟨r1, K1, hd1, rfl, rfl⟩ := place (x := a.inn) hb3.hsg hok.asc hsm.sg
    obtain ⟨r2, K2, hd2, rfl, rfl⟩ := place (x := a.out) hb3.hsg hok.asc hsm.sg
    have hrow := rowsOf_get (key := ArcD.fr) (f := edgeC N.sigma) (l := N.arcs.take i) hsn
    have hrl := rowsOf_le hrow
    have hsmA := hsm.ar
    have htl : (N.arcs.take i).length ≤ 1048576 := by rw [List.length_take]; omega
    obtain ⟨sv, av, ev, cv, os, ot, oe, oc, vals, obs, hG0⟩ := hg
    have hG := hG0.chg hk.wf ((Kept.new hk.wf 5 a.cells).chg (X := none')) fun _ _ h => h
    have hnj : ¬JIn ot obs H'.next := fun h => by have := hG0.jag.lt hk.wf _ h; omega
    have hn := hG.arr.cell 1
    obtain ⟨ba, cap, w', H4, H5, o', p, e1, e2, e3, e4, e5, e6, e7, e8, e9⟩ := hG.jag.pushAt Try.underlying60 size_59 hk3.wf hrow (x := edgeC N.sigma a) rfl
    rw [← hs] at e2
    have bl := bld_65 (v0 := .int .i64 a.to) (v1 := .int .i64 (symIx N.sigma a.inn)) (v2 := .int .i64 (symIx N.sigma a.out)) (v3 := .int .i64 a.cost) rfl rfl rfl rfl
    have hbs := build1_59 (H := (H'.new 5 a.cells).2) (x := .agg (edgeC N.sigma a).toArray) rfl rfl
    have ha := app1_59 (H := (H'.new 5 a.cells).2) (base := ba) (len := _) (cap := cap) (x := edgeC N.sigma a) rfl (Nat.le_trans hrl (by omega))
    rw [e1] at ha
    have hn4 := (hG.arr.keep (e7.old g (hG.arr.lt hk3.wf) hG.gj)).cell 1
    have c4 := ((Obj.new (H := H') 5 a.cells).arr.keep (e7.old H'.next (Nat.lt_succ_self _) hnj)).cell 0
    have c4' : (a.cells)[0]? = some (.int .i64 a.fr) := rfl
    rw [c4'] at c4
    have st : astore Try.prog 59 H4 w' (.pointer (some p)) = some H5 := by rw [store_cell size_59 e8, e4]
    have va : ∀ xs : Array Value, vcells (.agg xs) = xs.toList := fun _ => rfl
    have hav := hG.jag.top.veq
    simp only [va] at hbs
    obtain ⟨z1, z2⟩ := GrB.arced hG hk3.wf e6 e5 e9
    simp only [↓Sh.dn, sx, Nat.reduceBEq, reduceCtorEq, Nat.reduceEqDiff, hb'.c0, hb'.c1, hb'.c2, hb'.c3, hb'.ca, netLenS hb', netLenA hb', netLenE hb', netZero, arcZero, endZero, arcNew, endNew, arcStore, endStore, arcOver, endOver, netOver, arc0, arc1, arc2, arc3, arc4, end0, end1, f1, f3, f14, f15, f16, Option.map_some, nat_lt, hlt, decide_true, hia, hc]
    refine wp_pend (fl := [(0, []), (1, []), (2, []), (3, []), (4, []), (5, []), (6, []), (7, []), (8, []), (9, []), (10, []), (11, []), (12, []), (13, []), (14, []), (15, []), (16, []), (17, []), (18, []), (19, []), (21, []), (22, []), (23, []), (24, []), (26, []), (27, []), (20, [27, 24, 22, 15, 13, 11, 9, 5, 3]), (25, [27, 15, 13, 11, 9, 5, 3]), (28, []), (29, []), (30, [5, 3]), (31, []), (32, [])]) (by kernel_rfl) (by kernel_rfl) (by kernel_rfl) ?_
    simp only [↓Sh.dn, sx, Nat.reduceBEq, reduceCtorEq, Nat.reduceEqDiff, wpr, again, isMake, veq_ptr, veq_int, veq_str, veq_bool, veq_undef, veq_slice, forall_eq, forall_eq', hb3.c0, hb3.c1, hb3.c2, hb3.c3, hb3.ca, netLenS hb3, netLenA hb3, netLenE hb3, netZero, arcZero, endZero, arcNew, endNew, arcStore, endStore, arcOver, endOver, netOver, arc0, arc1, arc2, arc3, arc4, end0, end1, f1, f3, hn, e2, e3, Option.map_some]
    refine ⟨_, _, hd1, ?_⟩
    simp only [↓Sh.dn, sx, Nat.reduceBEq, reduceCtorEq, Nat.reduceEqDiff, wpr, again, isMake, veq_ptr, veq_int, veq_str, veq_bool, veq_undef, veq_slice, forall_eq, forall_eq', hb3.c0, hb3.c1, hb3.c2, hb3.c3, hb3.ca, netLenS hb3, netLenA hb3, netLenE hb3, netZero, arcZero, endZero, arcNew, endNew, arcStore, endStore, arcOver, endOver, netOver, arc0, arc1, arc2, arc3, arc4, end0, end1, f1, f3, hn, e2, e3, Option.map_some, hav, hsg.veq]
    refine ⟨_, _, hd2, ?_⟩
    have bl' : abuild Try.prog 65 [(0, .int .i64 a.to), (1, .int .i64 (symIx N.sigma a.inn)), (2, .int .i64 (symIx N.sigma a.out)), (3, .int .i64 a.cost)] = some (.agg (edgeC N.sigma a).toArray) := bl
    simp only [↓Sh.dn, sx, Nat.reduceBEq, reduceCtorEq, Nat.reduceEqDiff, wpr, again, isMake, veq_ptr, veq_int, veq_str, veq_bool, veq_undef, veq_slice, forall_eq, forall_eq', hb3.c0, hb3.c1, hb3.c2, hb3.c3, hb3.ca, netLenS hb3, netLenA hb3, netLenE hb3, netZero, arcZero, endZero, arcNew, endNew, arcStore, endStore, arcOver, endOver, netOver, arc0, arc1, arc2, arc3, arc4, end0, end1, f1, f3, hn, e2, e3, Option.map_some, hav, hsg.veq, bl', hbs, ha, hn4, st, c4, f16, wrap_succ hlt hsm.ar]
    refine k _ _ (by repeat (first | refine Same.put ?_ rfl | exact Same.rfl' _)) (by simp only [↓Sh.dn, sx, Nat.reduceBEq, reduceCtorEq, Nat.reduceEqDiff]) ⟨hk3.then (Nat.le_refl _) z1, ?_⟩
    rw [htake]
    unfold grRows
    rw [rowsOf_snoc hsn hs]
    exact z2
  · rintro F H' hF f16 ⟨hk, hg⟩
    have f1 := hF 1 rfl
    have f3 := hF 3 rfl
    have f15 := hF 15 rfl
    simp only [↓Sh.dn, sx, Nat.reduceBEq, reduceCtorEq, Nat.reduceEqDiff] at f1 f3 f15
    rw [List.take_length] at hg
    have hb' := hb1.kept hk1.wf hk
    simp only [↓Sh.dn, sx, Nat.reduceBEq, reduceCtorEq, Nat.reduceEqDiff, hb'.c0, hb'.c1, hb'.c2, hb'.c3, hb'.ca, netLenS hb', netLenA hb', netLenE hb', f1, f3, f15, f16, nat_lt, Nat.lt_irrefl, decide_false, Option.map_some]
    refine wp_for N.ends.length 56 (List.range' 56 11 ++ [7]) (fun i F H' => Kept H1 H' ∧ Gr H' H1.next g N.sigma (grRows N N.arcs) (grEnds N (N.ends.take i)) (grCosts N (N.ends.take i))) (by simp only [↓Sh.dn, sx, Nat.reduceBEq, reduceCtorEq, Nat.reduceEqDiff]) ⟨hk, hg⟩ ?_ ?_
    · rintro i F' H' hlt hF' f56 ⟨hk, hg⟩ k
      have g1 := hF' 1 rfl
      have g3 := hF' 3 rfl
      have f54 := hF' 54 rfl
      have f55 := hF' 55 rfl
      simp only [↓Sh.dn, sx, Nat.reduceBEq, reduceCtorEq, Nat.reduceEqDiff, f1, f3] at g1 g3 f54 f55
      have hb' := hb1.kept hk1.wf hk
      obtain ⟨q, o, kk, hia, hc, hcc⟩ := hb'.hen.at Try.underlying24 size_42 (i := i) (x := N.ends[i].cells) (by simp [hlt]) .i64
      clear hcc
      have htake : N.ends.take (i + 1) = N.ends.take i ++ [N.ends[i]] := by rw [List.take_add_one, List.getElem?_eq_getElem hlt]; rfl
      obtain ⟨k0, k1⟩ := hok.fin _ (List.getElem_mem hlt)
      have hk3 := hk.news 2 (N.ends[i].cells)
      have hg3 := hg.kept hk.wf (Kept.new hk.wf 2 (N.ends[i].cells))
      generalize N.ends[i] = e at hk3 hg3 hc htake k0 k1
      obtain ⟨s, hs⟩ : ∃ s : Nat, e.state = (s : Int) := ⟨e.state.toNat, by omega⟩
      have hsn : s < N.states.toNat := by omega
      have hrow := rowsOf_get (key := EndD.state) (f := EndD.cost) (l := N.ends.take i) hsn
      have hrl := rowsOf_le hrow
      have htl : (N.ends.take i).length ≤ 60000 := by rw [List.length_take]; have := hok.en; omega
      have l1 : s < (grEnds N (N.ends.take i)).length := by unfold grEnds; rw [List.length_map, rowsOf_length]; exact hsn
      have l2 : s < (grCosts N (N.ends.take i)).length := by unfold grCosts; rw [List.length_map, rowsOf_length]; exact hsn
      have v1 : (grEnds N (N.ends.take i))[s] = ((((N.ends.take i).filter fun a => decide (a.state = (s : Int))).map EndD.cost).length : Int) := by
        apply Option.some.inj
        rw [← List.getElem?_eq_getElem l1]
        unfold grEnds
        rw [List.getElem?_map, hrow]; rfl
      have v2 : (grCosts N (N.ends.take i))[s] = leastOf (((N.ends.take i).filter fun a => decide (a.state = (s : Int))).map EndD.cost) := by
        apply Option.some.inj
        rw [← List.getElem?_eq_getElem l2]
        unfold grCosts
        rw [List.getElem?_map, hrow]; rfl
      obtain ⟨r, H5, hd5, hc5, hg5⟩ := grEnd (x := e.cost) hg3 l1 l2 hk3.wf (by rw [v1]; omega) (by rw [v1]; omega)
      rw [v1, v2] at hg5
      rw [← hs] at hd5
      simp only [↓Sh.dn, sx, Nat.reduceBEq, reduceCtorEq, Nat.reduceEqDiff, hb'.c0, hb'.c1, hb'.c2, hb'.c3, hb'.ca, netLenS hb', netLenA hb', netLenE hb', netZero, arcZero, endZero, arcNew, endNew, arcStore, endStore, arcOver, endOver, netOver, arc0, arc1, arc2, arc3, arc4, end0, end1, g1, g3, f54, f55, f56, Option.map_some, nat_lt, hlt, decide_true, hia, hc]
      refine ⟨_, _, hd5, ?_⟩
      have hen := hsm.en
      simp only [↓Sh.dn, sx, Nat.reduceBEq, reduceCtorEq, Nat.reduceEqDiff, f56, wrap_succ hlt hen]
      refine k _ _ (by repeat (first | refine Same.put ?_ rfl | exact Same.rfl' _)) (by simp only [↓Sh.dn, sx, Nat.reduceBEq, reduceCtorEq, Nat.reduceEqDiff]) ⟨hk3.then (Nat.le_refl _) hc5, ?_⟩
      rw [htake]
      have e1 : grEnds N (N.ends.take i ++ [e]) = (grEnds N (N.ends.take i)).set s (((((N.ends.take i).filter fun a => decide (a.state = (s : Int))).map EndD.cost).length : Int) + 1) := by
        unfold grEnds
        rw [rowsOf_snoc hsn hs, List.map_set]
        congr 1
        rw [List.length_append]; simp
      have e2 : grCosts N (N.ends.take i ++ [e]) = (grCosts N (N.ends.take i)).set s (endCost ((((N.ends.take i).filter fun a => decide (a.state = (s : Int))).map EndD.cost).length : Int) (leastOf (((N.ends.take i).filter fun a => decide (a.state = (s : Int))).map EndD.cost)) e.cost) := by
        unfold grCosts
        rw [rowsOf_snoc hsn hs, List.map_set]
        congr 1
        rw [leastOf_snoc]
        unfold endCost
        have : ((((N.ends.take i).filter fun a => decide (a.state = (s : Int))).map EndD.cost).length : Int) = 0 ↔ ((N.ends.take i).filter fun a => decide (a.state = (s : Int))).map EndD.cost = [] := by
          rw [← List.length_eq_zero_iff]; omega
        simp only [this]
      rw [e1, e2]
      exact hg5
    · rintro F' H' hF' f56 ⟨hk, hg⟩
      have g3 := hF' 3 rfl
      have f55 := hF' 55 rfl
      simp only [↓Sh.dn, sx, Nat.reduceBEq, reduceCtorEq, Nat.reduceEqDiff, f3] at g3 f55
      rw [List.take_length] at hg
      simp only [↓Sh.dn, sx, Nat.reduceBEq, reduceCtorEq, Nat.reduceEqDiff, g3, f55, f56, nat_lt, Nat.lt_irrefl, decide_false, hres]
      exact ⟨hk1.trans hk, _, rfl, _, Nat.le_of_lt hnx, hg⟩
end Go.Proofs.Ytcgbiedfbacgpaa
/- The reference's graph: made of a net. -/
set_option maxHeartbeats 4000000
set_option maxRecDepth 20000
set_option linter.unusedSimpArgs false
set_option linter.unusedVariables false
set_option pp.deepTerms.threshold 8
namespace Go.Proofs.Ytcgbiedfbacgpaa
open Go Go.Proofs Go.Proofs.Sh
-- left out: rgZero
-- left out: rgNew
-- left out: rgStore
end Go.Proofs.Ytcgbiedfbacgpaa
/- slices.Sort. -/
set_option maxHeartbeats 4000000
set_option maxRecDepth 20000
set_option linter.unusedSimpArgs false
set_option linter.unusedVariables false
set_option pp.deepTerms.threshold 8
namespace Go.Proofs.Ytcgbiedfbacgpaa
open Go Go.Proofs Go.Proofs.Sh
end Go.Proofs.Ytcgbiedfbacgpaa
/- sort.Ints. -/
set_option maxHeartbeats 4000000
set_option maxRecDepth 20000
set_option linter.unusedSimpArgs false
set_option linter.unusedVariables false
set_option pp.deepTerms.threshold 8
namespace Go.Proofs.Ytcgbiedfbacgpaa
open Go Go.Proofs Go.Proofs.Sh
-- left out: sortInts
end Go.Proofs.Ytcgbiedfbacgpaa
/- The reference's Close: a set of states with all that empty edges lead to. -/
set_option maxHeartbeats 4000000
set_option maxRecDepth 20000
set_option linter.unusedSimpArgs false
set_option linter.unusedVariables false
set_option pp.deepTerms.threshold 8
namespace Go.Proofs.Ytcgbiedfbacgpaa
open Go Go.Proofs Go.Proofs.Sh
-- left out: refClose
end Go.Proofs.Ytcgbiedfbacgpaa
/- The reference's Step, Start, Run, IsEnd. -/
set_option maxHeartbeats 4000000
set_option maxRecDepth 20000
set_option linter.unusedSimpArgs false
set_option linter.unusedVariables false
set_option pp.deepTerms.threshold 8
namespace Go.Proofs.Ytcgbiedfbacgpaa
open Go Go.Proofs Go.Proofs.Sh
-- left out: refIsEnd
-- left out: refStart
-- left out: refStep
-- left out: refRun
end Go.Proofs.Ytcgbiedfbacgpaa
/- The reference's reversed: the edges turned round. -/
set_option maxHeartbeats 4000000
set_option maxRecDepth 20000
set_option linter.unusedSimpArgs false
set_option linter.unusedVariables false
set_option pp.deepTerms.threshold 8
namespace Go.Proofs.Ytcgbiedfbacgpaa
open Go Go.Proofs Go.Proofs.Sh
-- left out: refReversed
end Go.Proofs.Ytcgbiedfbacgpaa
/- The reference's spread: what is reached from marked states is marked. -/
set_option maxHeartbeats 4000000
set_option maxRecDepth 20000
set_option linter.unusedSimpArgs false
set_option linter.unusedVariables false
set_option pp.deepTerms.threshold 8
namespace Go.Proofs.Ytcgbiedfbacgpaa
open Go Go.Proofs Go.Proofs.Sh
end Go.Proofs.Ytcgbiedfbacgpaa
/- The reference's Alive, kept. -/
set_option maxHeartbeats 4000000
set_option maxRecDepth 20000
set_option linter.unusedSimpArgs false
set_option linter.unusedVariables false
set_option pp.deepTerms.threshold 8
namespace Go.Proofs.Ytcgbiedfbacgpaa
open Go Go.Proofs Go.Proofs.Sh
-- left out: refAlive
-- left out: refKept
end Go.Proofs.Ytcgbiedfbacgpaa
/- syms.isLong and syms.isSymbol. -/
set_option maxHeartbeats 4000000
set_option maxRecDepth 20000
set_option linter.unusedSimpArgs false
set_option linter.unusedVariables false
set_option pp.deepTerms.threshold 8
namespace Go.Proofs.Ytcgbiedfbacgpaa
open Go Go.Proofs Go.Proofs.Sh
theorem symsIsLong {H : AH} {x : ByteArray} : Sh.Call Try.prog (knows 6) 58 [.string x] H (fun r H' => H' = H ∧ r = .bool (decide (16 < x.size))) := by
  refine call_of rfl Try.func58 rfl (Nat.le_of_ble_eq_true rfl) ?_
  have hres : Try.f58.results.toList = [.tmp 2] := rfl
  have e : decide ((16 : Int) < (x.size : Int)) = decide (16 < x.size) := decide_eq_decide.2 (by omega)
  simp only [↓Sh.dn, sx, Nat.reduceBEq, reduceCtorEq, Nat.reduceEqDiff, hres, e]
/-- A symbol, however long. -/
def chOk (s : ByteArray) : Bool := !s.data.toList.any badByte && decide (1 ≤ s.size)
theorem symOk_chOk (s : ByteArray) : symOk s = (chOk s && decide (s.size ≤ 16)) := rfl
theorem size_empty {x : ByteArray} : decide (x = ⟨#[]⟩) = !decide (1 ≤ x.size) := by
  by_cases h : x = ⟨#[]⟩
  · subst h; rfl
  · have : 1 ≤ x.size := by
      refine Nat.one_le_iff_ne_zero.2 fun h0 => h (ByteArray.ext ?_)
      exact Array.eq_empty_of_size_eq_zero h0
    simp [h, this]
theorem symsIsSymbol {H : AH} {x : ByteArray} (hl : x.size ≤ 1048576) :
    Sh.Call Try.prog (knows 6) 60 [.string x] H (fun r H' => H' = H ∧ r = .bool (chOk x)) := by
  refine call_of rfl Try.func60 rfl (Nat.le_of_ble_eq_true rfl) ?_
  have hres : Try.f60.results.toList = [.tmp 2] := rfl
  have hsz : x.data.toList.length = x.size := by rw [Array.length_toList]; rfl
  simp only [↓Sh.dn, sx, Nat.reduceBEq, reduceCtorEq, Nat.reduceEqDiff]
  refine wp_for x.size 6 (List.range' 6 26 ++ [2, 3]) (fun i F H' => H' = H ∧ (x.data.toList.take i).any badByte = false) (by simp only [↓Sh.dn, sx, Nat.reduceBEq, reduceCtorEq, Nat.reduceEqDiff]) ⟨rfl, rfl⟩ ?_ ?_
  · rintro i F H' hlt hF f6 ⟨rfl, hall⟩ k
    have f0 := hF 0 rfl
    have f5 := hF 5 rfl
    simp only [↓Sh.dn, sx, Nat.reduceBEq, reduceCtorEq, Nat.reduceEqDiff] at f0 f5
    obtain ⟨u, hu⟩ : ∃ u, x.data.toList[i]? = some u := ⟨x.data.toList[i]'(by omega), List.getElem?_eq_getElem (by omega)⟩
    have hix := index_str (P := Try.prog) (j := .i64) Try.underlying9 hu
    have e33 : decide ((u.toNat : Int) < 33) = decide (u.toNat < 33) := decide_eq_decide.2 (by omega)
    have e126 : decide (126 < (u.toNat : Int)) = decide (126 < u.toNat) := decide_eq_decide.2 (by omega)
    have e60 : decide ((u.toNat : Int) = 60) = decide (u.toNat = 60) := decide_eq_decide.2 (by omega)
    have e62 : decide ((u.toNat : Int) = 62) = decide (u.toNat = 62) := decide_eq_decide.2 (by omega)
    have hbad : badByte u = true → chOk x = false := by
      intro h
      have : x.data.toList.any badByte = true := List.any_eq_true.2 ⟨_, List.mem_of_getElem? hu, h⟩
      simp [chOk, this]
    simp only [↓Sh.dn, sx, Nat.reduceBEq, reduceCtorEq, Nat.reduceEqDiff, f0, f5, f6, hix, nat_lt, hlt, e33, decide_true]
    by_cases h1 : u.toNat < 33
    · simp only [↓Sh.dn, sx, Nat.reduceBEq, reduceCtorEq, Nat.reduceEqDiff, h1, decide_true, hres, hbad (by simp [badByte, h1])]
    simp only [↓Sh.dn, sx, Nat.reduceBEq, reduceCtorEq, Nat.reduceEqDiff, f0, hix, h1, e126, decide_false]
    by_cases h2 : 126 < u.toNat
    · simp only [↓Sh.dn, sx, Nat.reduceBEq, reduceCtorEq, Nat.reduceEqDiff, h2, decide_true, hres, hbad (by simp [badByte, h2])]
    simp only [↓Sh.dn, sx, Nat.reduceBEq, reduceCtorEq, Nat.reduceEqDiff, f0, hix, h2, e60, decide_false]
    by_cases h3 : u.toNat = 60
    · simp only [↓Sh.dn, sx, Nat.reduceBEq, reduceCtorEq, Nat.reduceEqDiff, h3, decide_true, hres, hbad (by simp [badByte, h3])]
    simp only [↓Sh.dn, sx, Nat.reduceBEq, reduceCtorEq, Nat.reduceEqDiff, f0, hix, h3, e62, decide_false]
    by_cases h4 : u.toNat = 62
    · simp only [↓Sh.dn, sx, Nat.reduceBEq, reduceCtorEq, Nat.reduceEqDiff, h4, decide_true, hres, hbad (by simp [badByte, h4])]
    simp only [↓Sh.dn, sx, Nat.reduceBEq, reduceCtorEq, Nat.reduceEqDiff, f6, h4, decide_false, wrap_succ hlt hl]
    refine k _ _ (by repeat (first | refine Same.put ?_ rfl | exact Same.rfl' _)) (by simp only [↓Sh.dn, sx, Nat.reduceBEq, reduceCtorEq, Nat.reduceEqDiff]) ⟨rfl, ?_⟩
    rw [List.take_add_one, hu]
    simp only [Option.toList, List.any_append, hall, Bool.false_or, List.any_cons, List.any_nil, Bool.or_false, badByte, h1, h2, h3, h4, decide_false]
  · rintro F H' hF f6 ⟨rfl, hall⟩
    have f0 := hF 0 rfl
    have f5 := hF 5 rfl
    simp only [↓Sh.dn, sx, Nat.reduceBEq, reduceCtorEq, Nat.reduceEqDiff] at f0 f5
    rw [← hsz, List.take_length] at hall
    simp only [↓Sh.dn, sx, Nat.reduceBEq, reduceCtorEq, Nat.reduceEqDiff, f0, f5, f6, nat_lt, Nat.lt_irrefl, decide_false, hres, chOk, hall, size_empty]
end Go.Proofs.Ytcgbiedfbacgpaa
/- slices.IndexFunc and ContainsFunc: whether some element is so. -/
set_option maxHeartbeats 4000000
set_option maxRecDepth 20000
set_option linter.unusedSimpArgs false
set_option linter.unusedVariables false
set_option pp.deepTerms.threshold 8
namespace Go.Proofs.Ytcgbiedfbacgpaa
open Go Go.Proofs Go.Proofs.Sh
theorem indexFuncStr {H : AH} {v : Value} {l : List ByteArray} {fid : Nat} {caps : List Value} (p : ByteArray → Bool) (hs : Sl H v 1 (l.map strCell)) (hl : l.length ≤ 1048576) (hw : Wf H)
    (hp : ∀ H', Kept H H' → ∀ x ∈ l, Sh.Call Try.prog (knows 6) fid ((fun s => Value.string s) x :: caps) H' (fun r H'' => Kept H' H'' ∧ r = .bool (p x))) :
    Sh.Call Try.prog (knows 6) 68 [v, .func (.func fid) #[] caps.toArray] H (fun r H' => Kept H H' ∧ ∃ k : Int, r = .int .i64 k ∧ decide (0 ≤ k) = l.any p) := by
  refine call_of rfl Try.func68 rfl (Nat.le_of_ble_eq_true rfl) ?_
  have hres : Try.f68.results.toList = [.tmp 4] := rfl
  have hlen := hs.len Try.underlying22 H
  simp only [↓Sh.dn, sx, Nat.reduceBEq, reduceCtorEq, Nat.reduceEqDiff, hlen, List.length_map]
  refine wp_for l.length 8 [5, 8, 9, 10, 11, 12, 13, 14, 15, 16, 18] (fun i F H' => Kept H H' ∧ (l.take i).any p = false) (by simp only [↓Sh.dn, sx, Nat.reduceBEq, reduceCtorEq, Nat.reduceEqDiff]) ⟨Kept.refl hw, rfl⟩ ?_ ?_
  · rintro i F H' hlt hF f8 ⟨hk, hall⟩ k
    have hs1 := hs.grow (hk.grow hw)
    obtain ⟨g, o, kk, hia, hc, hcc⟩ := hs1.at Try.underlying22 size_9 (i := i) (x := strCell l[i]) (by simp [hlt]) .i64
    have hld := hcc 0 _ rfl; simp only [Nat.add_zero] at hld
    have f0 := hF 0 rfl
    have f1 := hF 1 rfl
    have f7 := hF 7 rfl
    simp only [↓Sh.dn, sx, Nat.reduceBEq, reduceCtorEq, Nat.reduceEqDiff] at f0 f1 f7
    obtain ⟨r, H2, hd, hk2, rfl⟩ := hp H' hk l[i] (List.getElem_mem hlt)
    simp only [↓Sh.dn, sx, Nat.reduceBEq, reduceCtorEq, Nat.reduceEqDiff, f0, f1, f7, f8, nat_lt, hlt, decide_true, hia, hld, Option.map_some, forall_const, reduceCtorEq, false_implies, and_true, true_and]
    refine ⟨_, _, hd, ?_⟩
    cases hpv : p l[i] with
    | true =>
      simp only [↓Sh.dn, sx, Nat.reduceBEq, reduceCtorEq, Nat.reduceEqDiff, hres, forall_const, reduceCtorEq, false_implies, and_true, true_and]
      refine ⟨hk.trans hk2, _, rfl, ?_⟩
      rw [List.any_eq_true.2 ⟨_, List.getElem_mem hlt, hpv⟩]
      simp
    | false =>
      simp only [↓Sh.dn, sx, Nat.reduceBEq, reduceCtorEq, Nat.reduceEqDiff, hres, f8, wrap_succ hlt hl, forall_const, reduceCtorEq, false_implies, and_true, true_and]
      refine k _ _ (by repeat (first | refine Same.put ?_ rfl | exact Same.rfl' _)) (by simp only [↓Sh.dn, sx, Nat.reduceBEq, reduceCtorEq, Nat.reduceEqDiff]) ⟨hk.trans hk2, ?_⟩
      rw [List.take_add_one, List.getElem?_eq_getElem hlt]
      simp only [Option.toList, List.any_append, hall, List.any_cons, List.any_nil, hpv, Bool.or_false]
  · rintro F H' hF f8 ⟨hk, hall⟩
    have f7 := hF 7 rfl
    simp only [↓Sh.dn, sx, Nat.reduceBEq, reduceCtorEq, Nat.reduceEqDiff] at f7
    rw [List.take_length] at hall
    simp only [↓Sh.dn, sx, Nat.reduceBEq, reduceCtorEq, Nat.reduceEqDiff, f7, f8, nat_lt, Nat.lt_irrefl, decide_false, hres, forall_const, reduceCtorEq, false_implies, and_true, true_and]
    exact ⟨hk, _, rfl, by rw [hall]; rfl⟩
theorem containsFuncStr {H : AH} {v : Value} {l : List ByteArray} {fid : Nat} {caps : List Value} (p : ByteArray → Bool) (hs : Sl H v 1 (l.map strCell)) (hl : l.length ≤ 1048576) (hw : Wf H)
    (hp : ∀ H', Kept H H' → ∀ x ∈ l, Sh.Call Try.prog (knows 6) fid ((fun s => Value.string s) x :: caps) H' (fun r H'' => Kept H' H'' ∧ r = .bool (p x))) :
    Sh.Call Try.prog (knows 6) 57 [v, .func (.func fid) #[] caps.toArray] H (fun r H' => Kept H H' ∧ r = .bool (l.any p)) := by
  refine call_of rfl Try.func57 rfl (Nat.le_of_ble_eq_true rfl) ?_
  have hres : Try.f57.results.toList = [.tmp 4] := rfl
  obtain ⟨r, H2, hd, hk, k, rfl, hk0⟩ := indexFuncStr p hs hl hw hp
  simp only [↓Sh.dn, sx, Nat.reduceBEq, reduceCtorEq, Nat.reduceEqDiff]
  refine ⟨_, _, hd, ?_⟩
  simp only [↓Sh.dn, sx, Nat.reduceBEq, reduceCtorEq, Nat.reduceEqDiff, hres, hk0, and_true]
  exact hk
end Go.Proofs.Ytcgbiedfbacgpaa
/- What is wrong with an alphabet, by the program. -/
set_option maxHeartbeats 4000000
set_option maxRecDepth 20000
set_option linter.unusedSimpArgs false
set_option linter.unusedVariables false
set_option pp.deepTerms.threshold 8
namespace Go.Proofs.Ytcgbiedfbacgpaa
open Go Go.Proofs Go.Proofs.Sh
theorem symsValidate {H : AH} {v : Value} {l : List ByteArray} (hs : Sl H v 1 (l.map strCell)) (hl : l.length ≤ 1048576) (hlx : ∀ x ∈ l, x.size ≤ 1048576) (hw : Wf H) :
    Sh.Call Try.prog (knows 6) 41 [v] H (fun r H' => Kept H H' ∧ r = .int .i64 (sigErr l)) := by
  refine call_of rfl Try.func41 rfl (Nat.le_of_ble_eq_true rfl) ?_
  have hres : Try.f41.results.toList = [.tmp 2] := rfl
  have hlen := hs.len Try.underlying22 H
  have e40 : decide ((40 : Int) < ((l.length : Nat) : Int)) = decide (40 < l.length) := decide_eq_decide.2 (by omega)
  simp only [↓Sh.dn, sx, Nat.reduceBEq, reduceCtorEq, Nat.reduceEqDiff, hlen, List.length_map, e40]
  by_cases h40 : 40 < l.length
  · simp only [↓Sh.dn, sx, Nat.reduceBEq, reduceCtorEq, Nat.reduceEqDiff, h40, decide_true, hres, sigErr, Bool.true_or, Kept.refl hw]
  simp only [↓Sh.dn, sx, Nat.reduceBEq, reduceCtorEq, Nat.reduceEqDiff, h40, decide_false]
  obtain ⟨r1, H1, hd1, hk1, rfl⟩ := containsFuncStr (caps := []) (fid := 58) (fun s => decide (16 < s.size)) hs hl hw (fun H' hk x hx => (symsIsLong (H := H') (x := x)).mono fun r H'' h => by rcases h with ⟨rfl, h⟩; exact ⟨Kept.refl hk.wf, h⟩)
  refine ⟨_, _, hd1, ?_⟩
  cases hL : (l.any fun s => decide (16 < s.size)) with
  | true => simp only [↓Sh.dn, sx, Nat.reduceBEq, reduceCtorEq, Nat.reduceEqDiff, hres, hL, sigErr, anyLongB, h40, decide_false, Bool.false_or, hk1]
  | false =>
    have hs1 := hs.grow (hk1.grow hw)
    have hlen1 := hs1.len Try.underlying22 H1
    simp only [↓Sh.dn, sx, Nat.reduceBEq, reduceCtorEq, Nat.reduceEqDiff, hlen1, List.length_map]
    have h16 : ∀ x ∈ l, decide (x.size ≤ 16) = true := by
      intro x hx
      have := List.any_eq_false.1 hL x hx
      simp only [decide_eq_true_eq, Nat.not_lt] at this
      simpa using this
    have e1 : (l.all symOk && ascB l) = false → sigErr l = 1 := by intro h; simp [sigErr, anyLongB, h40, hL]; simpa using h
    have e0 : (l.all symOk && ascB l) = true → sigErr l = 0 := by intro h; simp [sigErr, anyLongB, h40, hL]; simpa using h
    have hsy : ∀ x ∈ l, symOk x = chOk x := by intro x hx; rw [symOk_chOk, h16 x hx, Bool.and_true]
    refine wp_for l.length 14 (List.range' 14 22 ++ [2, 3, 4]) (fun i F H' => H' = H1 ∧ (∀ (j : Nat) x, j < i → l[j]? = some x → chOk x = true) ∧ (∀ (j : Nat) x y, j + 1 < i → l[j]? = some x → l[j + 1]? = some y → strLt x y = true)) (by simp only [↓Sh.dn, sx, Nat.reduceBEq, reduceCtorEq, Nat.reduceEqDiff]) ⟨rfl, fun j x h => by omega, fun j x y h => by omega⟩ ?_ ?_
    · rintro i F H' hlt hF f14 ⟨rfl, hall, hasc⟩ k
      have f0 := hF 0 rfl
      have f12 := hF 12 rfl
      have f13 := hF 13 rfl
      simp only [↓Sh.dn, sx, Nat.reduceBEq, reduceCtorEq, Nat.reduceEqDiff] at f0 f12 f13
      obtain ⟨g, o, kk, hia, hc, hcc⟩ := hs1.at Try.underlying22 size_9 (i := i) (x := strCell l[i]) (by simp [hlt]) .i64
      have hy := hcc 0 _ rfl
      simp only [Nat.add_zero] at hy
      have hget : l[i]? = some l[i] := List.getElem?_eq_getElem hlt
      obtain ⟨r, H2, hd2, rfl, rfl⟩ := symsIsSymbol (H := H') (x := l[i]) (hlx _ (List.getElem_mem hlt))
      simp only [↓Sh.dn, sx, Nat.reduceBEq, reduceCtorEq, Nat.reduceEqDiff, f0, f12, f13, f14, nat_lt, hlt, decide_true, hia, hy]
      refine ⟨_, _, hd2, ?_⟩
      cases hch : chOk l[i] with
      | false =>
        have hbad : sigErr l = 1 := e1 (by
          rw [Bool.and_eq_false_iff]; left
          exact List.all_eq_false.2 ⟨_, List.getElem_mem hlt, by rw [hsy _ (List.getElem_mem hlt), hch]; simp⟩)
        simp only [↓Sh.dn, sx, Nat.reduceBEq, reduceCtorEq, Nat.reduceEqDiff, hres, hbad, hk1]
      | true =>
        have hall' : ∀ (j : Nat) x, j < i + 1 → l[j]? = some x → chOk x = true := by
          intro j x hj hx
          by_cases he : j = i
          · subst he; rw [hget] at hx; rw [← Option.some.inj hx]; exact hch
          · exact hall j x (by omega) hx
        by_cases hi0 : 0 < i
        · have hlt1 : i - 1 < l.length := by omega
          obtain ⟨g', o', kk', hia', hc', hcc'⟩ := hs1.at Try.underlying22 size_9 (i := i - 1) (x := strCell l[i - 1]) (by simp [hlt1]) .i64
          have hy' := hcc' 0 _ rfl
          simp only [Nat.add_zero] at hy'
          have hw1 : IntKind.wrap .i64 ((i : Int) - 1) = ((i - 1 : Nat) : Int) := by rw [wrap64 (by omega) (by omega)]; omega
          have ei : decide ((0 : Int) < (i : Int)) = true := by simpa using hi0
          have hget' : l[i - 1]? = some l[i - 1] := List.getElem?_eq_getElem hlt1
          simp only [↓Sh.dn, sx, Nat.reduceBEq, reduceCtorEq, Nat.reduceEqDiff, f0, ei, hw1, hia', hy']
          cases hq : strLt l[i - 1] l[i] with
          | false =>
            have hbad : sigErr l = 1 := e1 (by
              rw [Bool.and_eq_false_iff]; right
              cases hb : ascB l with
              | false => rfl
              | true =>
                have := ascB_iff.1 hb (i - 1) _ _ hget' (by rw [show i - 1 + 1 = i by omega]; exact hget)
                rw [this] at hq; cases hq)
            simp only [↓Sh.dn, sx, Nat.reduceBEq, reduceCtorEq, Nat.reduceEqDiff, hres, hbad, hk1]
          | true =>
            simp only [↓Sh.dn, sx, Nat.reduceBEq, reduceCtorEq, Nat.reduceEqDiff, f14, wrap_succ hlt hl]
            refine k _ _ (by repeat (first | refine Same.put ?_ rfl | exact Same.rfl' _)) (by simp only [↓Sh.dn, sx, Nat.reduceBEq, reduceCtorEq, Nat.reduceEqDiff]) ⟨rfl, hall', fun j x y hj hx hy => ?_⟩
            by_cases he : j + 1 = i
            · have : j = i - 1 := by omega
              subst this
              rw [he, hget] at hy
              rw [hget'] at hx
              rw [← Option.some.inj hx, ← Option.some.inj hy]; exact hq
            · exact hasc j x y (by omega) hx hy
        · have ei : decide ((0 : Int) < (i : Int)) = false := by simpa using hi0
          simp only [↓Sh.dn, sx, Nat.reduceBEq, reduceCtorEq, Nat.reduceEqDiff, f14, ei, wrap_succ hlt hl]
          exact k _ _ (by repeat (first | refine Same.put ?_ rfl | exact Same.rfl' _)) (by simp only [↓Sh.dn, sx, Nat.reduceBEq, reduceCtorEq, Nat.reduceEqDiff]) ⟨rfl, hall', fun j x y hj hx hy => by omega⟩
    · rintro F H' hF f14 ⟨rfl, hall, hasc⟩
      have f13 := hF 13 rfl
      simp only [↓Sh.dn, sx, Nat.reduceBEq, reduceCtorEq, Nat.reduceEqDiff] at f13
      have hgood : sigErr l = 0 := e0 (by
        rw [Bool.and_eq_true]
        refine ⟨List.all_eq_true.2 fun x hx => ?_, ascB_iff.2 fun j x y hx hy => hasc j x y (List.getElem?_eq_some_iff.1 hy).1 hx hy⟩
        obtain ⟨j, hj⟩ := List.mem_iff_getElem?.1 hx
        rw [hsy x hx]
        exact hall j x (List.getElem?_eq_some_iff.1 hj).1 hj)
      simp only [↓Sh.dn, sx, Nat.reduceBEq, reduceCtorEq, Nat.reduceEqDiff, f13, f14, nat_lt, Nat.lt_irrefl, decide_false, hres, hgood, hk1]
end Go.Proofs.Ytcgbiedfbacgpaa
/- What is wrong with a word: by the reference, by the program. -/
set_option maxHeartbeats 4000000
set_option maxRecDepth 20000
set_option linter.unusedSimpArgs false
set_option linter.unusedVariables false
set_option pp.deepTerms.threshold 8
namespace Go.Proofs.Ytcgbiedfbacgpaa
open Go Go.Proofs Go.Proofs.Sh
def wordErr (l : List ByteArray) : Int := if (decide (60 < l.length) || anyLongB l) = true then 3 else if l.all symOk = true then 0 else 1
-- left out: refWord
theorem symsWord {H : AH} {v : Value} {l : List ByteArray} (hs : Sl H v 1 (l.map strCell)) (hl : l.length ≤ 1048576) (hlx : ∀ x ∈ l, x.size ≤ 1048576) (hw : Wf H) :
    Sh.Call Try.prog (knows 6) 33 [v] H (fun r H' => Kept H H' ∧ r = .int .i64 (wordErr l)) := by
  refine call_of rfl Try.func33 rfl (Nat.le_of_ble_eq_true rfl) ?_
  have hres : Try.f33.results.toList = [.tmp 2] := rfl
  have hlen := hs.len Try.underlying22 H
  have e60 : decide ((60 : Int) < ((l.length : Nat) : Int)) = decide (60 < l.length) := by by_cases h : 60 < l.length <;> simp [h] <;> omega
  simp only [↓Sh.dn, sx, Nat.reduceBEq, reduceCtorEq, Nat.reduceEqDiff, hlen, List.length_map, e60]
  by_cases h60 : 60 < l.length
  · simp only [↓Sh.dn, sx, Nat.reduceBEq, reduceCtorEq, Nat.reduceEqDiff, h60, decide_true, hres, wordErr, Bool.true_or, Kept.refl hw]
  simp only [↓Sh.dn, sx, Nat.reduceBEq, reduceCtorEq, Nat.reduceEqDiff, h60, decide_false]
  obtain ⟨r1, H1, hd1, hk1, rfl⟩ := containsFuncStr (caps := []) (fid := 58) (fun s => decide (16 < s.size)) hs hl hw (fun H' hk x hx => (symsIsLong (H := H') (x := x)).mono fun r H'' h => by rcases h with ⟨rfl, h⟩; exact ⟨Kept.refl hk.wf, h⟩)
  refine ⟨_, _, hd1, ?_⟩
  cases hL : (l.any fun s => decide (16 < s.size)) with
  | true => simp only [↓Sh.dn, sx, Nat.reduceBEq, reduceCtorEq, Nat.reduceEqDiff, hres, hL, wordErr, anyLongB, h60, decide_false, Bool.false_or, hk1]
  | false =>
    have hs1 := hs.grow (hk1.grow hw)
    have h16 : ∀ x ∈ l, decide (x.size ≤ 16) = true := by
      intro x hx
      have := List.any_eq_false.1 hL x hx
      simp only [decide_eq_true_eq, Nat.not_lt] at this
      simpa using this
    have hsy : ∀ x ∈ l, symOk x = chOk x := by intro x hx; rw [symOk_chOk, h16 x hx, Bool.and_true]
    obtain ⟨r2, H2, hd2, hk2, rfl⟩ := containsFuncStr (caps := []) (fid := 59) (fun s => !chOk s) hs1 hl hk1.wf (fun H' hk x hx => by
      refine call_of rfl Try.func59 rfl (Nat.le_of_ble_eq_true rfl) ?_
      have hres : Try.f59.results.toList = [.tmp 2] := rfl
      obtain ⟨r3, H3, hd3, rfl, rfl⟩ := symsIsSymbol (H := H') (x := x) (hlx x hx)
      simp only [↓Sh.dn, sx, Nat.reduceBEq, reduceCtorEq, Nat.reduceEqDiff]
      refine ⟨_, _, hd3, ?_⟩
      simp only [↓Sh.dn, sx, Nat.reduceBEq, reduceCtorEq, Nat.reduceEqDiff, hres, Kept.refl hk.wf])
    simp only [↓Sh.dn, sx, Nat.reduceBEq, reduceCtorEq, Nat.reduceEqDiff]
    refine ⟨_, _, hd2, ?_⟩
    have hall : (l.any fun s => !chOk s) = !l.all symOk := by
      rw [List.all_eq_not_any_not, Bool.not_not]
      apply Bool.eq_iff_iff.2
      simp only [List.any_eq_true]
      exact ⟨fun ⟨x, h1, h2⟩ => ⟨x, h1, by rw [hsy x h1]; exact h2⟩, fun ⟨x, h1, h2⟩ => ⟨x, h1, by rw [← hsy x h1]; exact h2⟩⟩
    cases hA : l.all symOk with
    | false =>
      rw [hA] at hall
      simp only [↓Sh.dn, sx, Nat.reduceBEq, reduceCtorEq, Nat.reduceEqDiff, hres, hL, hA, hall, Bool.not_false, wordErr, anyLongB, h60, decide_false, Bool.false_or, hk1.trans hk2]
    | true =>
      rw [hA] at hall
      simp only [↓Sh.dn, sx, Nat.reduceBEq, reduceCtorEq, Nat.reduceEqDiff, hres, hL, hA, hall, Bool.not_true, wordErr, anyLongB, h60, decide_false, Bool.false_or, hk1.trans hk2]
end Go.Proofs.Ytcgbiedfbacgpaa
/- The reference's Accepts and Begins. -/
set_option maxHeartbeats 4000000
set_option maxRecDepth 20000
set_option linter.unusedSimpArgs false
set_option linter.unusedVariables false
set_option pp.deepTerms.threshold 8
namespace Go.Proofs.Ytcgbiedfbacgpaa
open Go Go.Proofs Go.Proofs.Sh
def bothErr (N : NetD) (w : List ByteArray) : Int := if accErr N ≠ 0 then accErr N else wordErr w
theorem accErr_ok {N : NetD} (h : accErr N = 0) : NetOk N := by
  refine netOk ?_
  unfold accErr at h
  by_cases hE : netErr N = 0
  · exact hE
  · rw [if_pos hE] at h; exact absurd h hE
-- left out: refChecked
/-- Is a word accepted; does it begin one that is. -/
def accepts (N : NetD) (w : List ByteArray) : Prop := (∀ x ∈ w, x ≠ noText) ∧ ∃ t, N.run w t ∧ N.isEnd t
def begins (N : NetD) (w : List ByteArray) : Prop := (∀ x ∈ w, x ≠ noText) ∧ ∃ t, N.run w t ∧ N.alive t
noncomputable def isB (p : Prop) : Bool := @decide p (Classical.propDecidable p)
theorem isB_iff {p : Prop} : isB p = true ↔ p := @decide_eq_true_iff p (Classical.propDecidable p)
theorem isB_of {p : Prop} {b : Bool} (h : b = true ↔ p) : b = isB p := by
  rw [Bool.eq_iff_iff, isB_iff]; exact h
theorem isB_not {p : Prop} (h : ¬p) : isB p = false := by
  cases hb : isB p with
  | false => rfl
  | true => exact absurd (isB_iff.1 hb) h
noncomputable def accB (N : NetD) (w : List ByteArray) : Bool := isB (bothErr N w = 0 ∧ accepts N w)
theorem bothErr_ok {N : NetD} {w : List ByteArray} (hE : bothErr N w = 0) : NetOk N := accErr_ok (by
    unfold bothErr at hE
    by_cases h : accErr N = 0
    · exact h
    · rw [if_pos h] at hE; exact absurd hE h)
-- left out: refAccepts
-- left out: refBegins
end Go.Proofs.Ytcgbiedfbacgpaa
/- What is wrong with a net of any kind, by the program. -/
set_option maxHeartbeats 4000000
set_option maxRecDepth 20000
set_option linter.unusedSimpArgs false
set_option linter.unusedVariables false
set_option pp.deepTerms.threshold 8
namespace Go.Proofs.Ytcgbiedfbacgpaa
open Go Go.Proofs Go.Proofs.Sh
theorem checkIs {H : AH} {gg : Nat} {sg ar en : Value} {N : NetD} {s : ByteArray} (hb : NetBox H gg sg ar en N) (ha : Asc N.sigma) (hl : N.sigma.length ≤ 1048576) :
    Sh.Call Try.prog (knows 6) 42 [.string s, .pointer (some ⟨gg, 0, some 0⟩)] H (fun r H' => H' = H ∧ r = .bool (!badSym N s)) := by
  refine call_of rfl Try.func42 rfl (Nat.le_of_ble_eq_true rfl) ?_
  have hres : Try.f42.results.toList = [.tmp 3] := rfl
  obtain ⟨r, H1, hd, rfl, k, rfl, _, _⟩ := binarySearch (x := s) hb.hsg ha hl
  simp only [↓Sh.dn, sx, Nat.reduceBEq, reduceCtorEq, Nat.reduceEqDiff, hb.c0, hb.c1, hb.c2, hb.c3, hb.ca, netLenS hb, netLenA hb, netLenE hb]
  refine ⟨_, _, hd, ?_⟩
  simp only [↓Sh.dn, sx, Nat.reduceBEq, reduceCtorEq, Nat.reduceEqDiff, o_extract]
  by_cases h : s = ⟨#[]⟩
  · simp only [↓Sh.dn, sx, Nat.reduceBEq, reduceCtorEq, Nat.reduceEqDiff, h, decide_true, hres, badSym]
  · simp only [↓Sh.dn, sx, Nat.reduceBEq, reduceCtorEq, Nat.reduceEqDiff, h, decide_false, hres, badSym]
theorem graphCheck {H : AH} {v : Value} {N : NetD} (h : NetAt H v N) (hsm : NetSmall N) (hw : Wf H) :
    Sh.Call Try.prog (knows 6) 21 [v] H (fun r H' => Kept H H' ∧ r = .int .i64 (netErr N)) := by
  refine call_of rfl Try.func21 rfl (Nat.le_of_ble_eq_true rfl) ?_
  have hres : Try.f21.results.toList = [.tmp 2] := rfl
  obtain ⟨sg, ar, en, rfl, hsg, har, hen⟩ := h
  have hb1 := NetBox.of (N := N) hw hsg har hen
  have hk1 : Kept H (H.new 4 [sg, .int .i64 N.states, ar, en]).2 := Kept.new hw 4 _
  have eA : decide ((60000 : Int) < (N.arcs.length : Int)) = decide (60000 < N.arcs.length) := decide_eq_decide.2 (by omega)
  have eE : decide ((60000 : Int) < (N.ends.length : Int)) = decide (60000 < N.ends.length) := decide_eq_decide.2 (by omega)
  simp only [↓Sh.dn, sx, Nat.reduceBEq, reduceCtorEq, Nat.reduceEqDiff, netNew hsg.isCell har.isCell hen.isCell]
  generalize H.next = gg at hb1 ⊢
  generalize (H.new 4 [sg, .int .i64 N.states, ar, en]).2 = H1 at hb1 hk1 ⊢
  simp only [↓Sh.dn, sx, Nat.reduceBEq, reduceCtorEq, Nat.reduceEqDiff, hb1.c0, hb1.c1, hb1.c2, hb1.c3, hb1.ca, netLenS hb1, netLenA hb1, netLenE hb1]
  by_cases hA : 3000 < N.states
  · simp only [↓Sh.dn, sx, Nat.reduceBEq, reduceCtorEq, Nat.reduceEqDiff, hA, decide_true, hres, netErr, tooLarge, Bool.true_or, hk1]
  by_cases hB : 60000 < N.arcs.length
  · simp only [↓Sh.dn, sx, Nat.reduceBEq, reduceCtorEq, Nat.reduceEqDiff, hb1.c0, hb1.c1, hb1.c2, hb1.c3, hb1.ca, netLenS hb1, netLenA hb1, netLenE hb1, hA, eA, hB, decide_true, decide_false, hres, netErr, tooLarge, Bool.true_or, Bool.or_true, hk1]
  by_cases hC : 60000 < N.ends.length
  · simp only [↓Sh.dn, sx, Nat.reduceBEq, reduceCtorEq, Nat.reduceEqDiff, hb1.c0, hb1.c1, hb1.c2, hb1.c3, hb1.ca, netLenS hb1, netLenA hb1, netLenE hb1, hA, eA, eE, hB, hC, decide_true, decide_false, hres, netErr, tooLarge, Bool.true_or, Bool.or_true, hk1]
  have hT : tooLarge N = false := by simp [tooLarge, hA, hB, hC]
  simp only [↓Sh.dn, sx, Nat.reduceBEq, reduceCtorEq, Nat.reduceEqDiff, hb1.c0, hb1.c1, hb1.c2, hb1.c3, hb1.ca, netLenS hb1, netLenA hb1, netLenE hb1, hA, eA, eE, hB, hC, decide_true, decide_false, hres]
  obtain ⟨r, H2, hd, hk2, rfl⟩ := symsValidate hb1.hsg hsm.sg hsm.sx hk1.wf
  refine ⟨_, _, hd, ?_⟩
  have hb2 := hb1.kept hk1.wf hk2
  have hk12 := hk1.trans hk2
  by_cases hS : sigErr N.sigma = 0
  case neg => simp only [↓Sh.dn, sx, Nat.reduceBEq, reduceCtorEq, Nat.reduceEqDiff, hS, decide_false, hres, netErr, hT, Bool.false_eq_true, if_false, ne_eq, not_false_eq_true, if_true, hk12]
  have hasc := sigErr_asc hS
  simp only [↓Sh.dn, sx, Nat.reduceBEq, reduceCtorEq, Nat.reduceEqDiff, hS, decide_true, hb2.c0, hb2.c1, hb2.c2, hb2.c3, hb2.ca, netLenS hb2, netLenA hb2, netLenE hb2]
  by_cases hst : N.states < 1
  · simp only [↓Sh.dn, sx, Nat.reduceBEq, reduceCtorEq, Nat.reduceEqDiff, hst, decide_true, hres, netErr, hT, hS, ne_eq, not_true_eq_false, if_false, if_true, hk12, Bool.false_eq_true]
  simp only [↓Sh.dn, sx, Nat.reduceBEq, reduceCtorEq, Nat.reduceEqDiff, hst, decide_false, hb2.c0, hb2.c1, hb2.c2, hb2.c3, hb2.ca, netLenS hb2, netLenA hb2, netLenE hb2]
  have e1 : N.arcs.any (badArc N) = true → netErr N = 1 := by intro h; simp [netErr, hT, hS, hst, h]
  have e2 : N.ends.any (badEnd N) = true → netErr N = 1 := by intro h; simp [netErr, hT, hS, hst, h]
  have e3 : N.arcs.any (badArc N) = false → N.ends.any (badEnd N) = false → netErr N = 0 := by intro h h'; simp [netErr, hT, hS, hst, h, h']
  refine wp_for N.arcs.length 37 (List.range' 37 41 ++ [2, 6]) (fun i F H' => Kept H2 H' ∧ (N.arcs.take i).any (badArc N) = false) (by simp only [↓Sh.dn, sx, Nat.reduceBEq, reduceCtorEq, Nat.reduceEqDiff]) ⟨Kept.refl hk12.wf, rfl⟩ ?_ ?_
  · rintro i F H' hlt hF f37 ⟨hk, hall⟩ k
    have f1 := hF 1 rfl
    have f4 := hF 4 rfl
    have f35 := hF 35 rfl
    have f36 := hF 36 rfl
    simp only [↓Sh.dn, sx, Nat.reduceBEq, reduceCtorEq, Nat.reduceEqDiff] at f1 f4 f35 f36
    have hb' := hb2.kept hk12.wf hk
    have hb3 := hb'.new hk.wf 5 (N.arcs[i].cells)
    have hk3 := hk.news 5 (N.arcs[i].cells)
    obtain ⟨g, o, kk, hia, hc, hcc⟩ := hb'.har.at Try.underlying23 size_40 (i := i) (x := N.arcs[i].cells) (by simp [hlt]) .i64
    clear hcc
    have hin : N.arcs[i] ∈ N.arcs := List.getElem_mem hlt
    have hnext : badArc N N.arcs[i] = false → (N.arcs.take (i + 1)).any (badArc N) = false := by
      intro h
      rw [List.take_add_one, List.getElem?_eq_getElem hlt]
      simp only [Option.toList, List.any_append, hall, List.any_cons, List.any_nil, h, Bool.or_false]
    have hbad : badArc N N.arcs[i] = true → netErr N = 1 := fun h => e1 (List.any_eq_true.2 ⟨_, hin, h⟩)
    generalize N.arcs[i] = a at hb3 hk3 hc hnext hbad
    simp only [↓Sh.dn, sx, Nat.reduceBEq, reduceCtorEq, Nat.reduceEqDiff, hb'.c0, hb'.c1, hb'.c2, hb'.c3, hb'.ca, netLenS hb', netLenA hb', netLenE hb', netZero, arcZero, endZero, arcNew, endNew, arcStore, endStore, arcOver, endOver, netOver, arc0, arc1, arc2, arc3, arc4, end0, end1, f1, f35, f36, f37, Option.map_some, nat_lt, hlt, decide_true, hia, hc, hres]
    by_cases h1 : a.fr < 0
    · simp only [↓Sh.dn, sx, Nat.reduceBEq, reduceCtorEq, Nat.reduceEqDiff, hb3.c0, hb3.c1, hb3.c2, hb3.c3, hb3.ca, netLenS hb3, netLenA hb3, netLenE hb3, netZero, arcZero, endZero, arcNew, endNew, arcStore, endStore, arcOver, endOver, netOver, arc0, arc1, arc2, arc3, arc4, end0, end1, h1, decide_true, hres, hbad (by simp [badArc, h1]), hk12.trans hk3]
    simp only [↓Sh.dn, sx, Nat.reduceBEq, reduceCtorEq, Nat.reduceEqDiff, hb3.c0, hb3.c1, hb3.c2, hb3.c3, hb3.ca, netLenS hb3, netLenA hb3, netLenE hb3, netZero, arcZero, endZero, arcNew, endNew, arcStore, endStore, arcOver, endOver, netOver, arc0, arc1, arc2, arc3, arc4, end0, end1, f1, h1, decide_false]
    by_cases h2 : N.states ≤ a.fr
    · simp only [↓Sh.dn, sx, Nat.reduceBEq, reduceCtorEq, Nat.reduceEqDiff, hb3.c0, hb3.c1, hb3.c2, hb3.c3, hb3.ca, netLenS hb3, netLenA hb3, netLenE hb3, netZero, arcZero, endZero, arcNew, endNew, arcStore, endStore, arcOver, endOver, netOver, arc0, arc1, arc2, arc3, arc4, end0, end1, h2, decide_true, hres, hbad (by simp [badArc, h2]), hk12.trans hk3]
    simp only [↓Sh.dn, sx, Nat.reduceBEq, reduceCtorEq, Nat.reduceEqDiff, hb3.c0, hb3.c1, hb3.c2, hb3.c3, hb3.ca, netLenS hb3, netLenA hb3, netLenE hb3, netZero, arcZero, endZero, arcNew, endNew, arcStore, endStore, arcOver, endOver, netOver, arc0, arc1, arc2, arc3, arc4, end0, end1, f1, h2, decide_false]
    by_cases h3 : a.to < 0
    · simp only [↓Sh.dn, sx, Nat.reduceBEq, reduceCtorEq, Nat.reduceEqDiff, hb3.c0, hb3.c1, hb3.c2, hb3.c3, hb3.ca, netLenS hb3, netLenA hb3, netLenE hb3, netZero, arcZero, endZero, arcNew, endNew, arcStore, endStore, arcOver, endOver, netOver, arc0, arc1, arc2, arc3, arc4, end0, end1, h3, decide_true, hres, hbad (by simp [badArc, h3]), hk12.trans hk3]
    simp only [↓Sh.dn, sx, Nat.reduceBEq, reduceCtorEq, Nat.reduceEqDiff, hb3.c0, hb3.c1, hb3.c2, hb3.c3, hb3.ca, netLenS hb3, netLenA hb3, netLenE hb3, netZero, arcZero, endZero, arcNew, endNew, arcStore, endStore, arcOver, endOver, netOver, arc0, arc1, arc2, arc3, arc4, end0, end1, f1, h3, decide_false]
    by_cases h4 : N.states ≤ a.to
    · simp only [↓Sh.dn, sx, Nat.reduceBEq, reduceCtorEq, Nat.reduceEqDiff, hb3.c0, hb3.c1, hb3.c2, hb3.c3, hb3.ca, netLenS hb3, netLenA hb3, netLenE hb3, netZero, arcZero, endZero, arcNew, endNew, arcStore, endStore, arcOver, endOver, netOver, arc0, arc1, arc2, arc3, arc4, end0, end1, h4, decide_true, hres, hbad (by simp [badArc, h4]), hk12.trans hk3]
    obtain ⟨r, H4, hd4, rfl, rfl⟩ := checkIs (s := a.inn) hb3 hasc hsm.sg
    simp only [↓Sh.dn, sx, Nat.reduceBEq, reduceCtorEq, Nat.reduceEqDiff, hb3.c0, hb3.c1, hb3.c2, hb3.c3, hb3.ca, netLenS hb3, netLenA hb3, netLenE hb3, netZero, arcZero, endZero, arcNew, endNew, arcStore, endStore, arcOver, endOver, netOver, arc0, arc1, arc2, arc3, arc4, end0, end1, f1, f4, h4, decide_false]
    refine ⟨_, _, hd4, ?_⟩
    have hb4 := hb3
    cases hI : badSym N a.inn with
    | true => simp only [↓Sh.dn, sx, Nat.reduceBEq, reduceCtorEq, Nat.reduceEqDiff, hres, hbad (by simp [badArc, hI]), hk12.trans hk3]
    | false =>
      obtain ⟨r, H5, hd5, rfl, rfl⟩ := checkIs (s := a.out) hb3 hasc hsm.sg
      simp only [↓Sh.dn, sx, Nat.reduceBEq, reduceCtorEq, Nat.reduceEqDiff, hb3.c0, hb3.c1, hb3.c2, hb3.c3, hb3.ca, netLenS hb3, netLenA hb3, netLenE hb3, netZero, arcZero, endZero, arcNew, endNew, arcStore, endStore, arcOver, endOver, netOver, arc0, arc1, arc2, arc3, arc4, end0, end1, f1, f4]
      refine ⟨_, _, hd5, ?_⟩
      cases hO : badSym N a.out with
      | true => simp only [↓Sh.dn, sx, Nat.reduceBEq, reduceCtorEq, Nat.reduceEqDiff, hres, hbad (by simp [badArc, hO]), hk12.trans hk3]
      | false =>
        simp only [↓Sh.dn, sx, Nat.reduceBEq, reduceCtorEq, Nat.reduceEqDiff, f37, wrap_succ hlt hsm.ar]
        exact k _ _ (by repeat (first | refine Same.put ?_ rfl | exact Same.rfl' _)) (by simp only [↓Sh.dn, sx, Nat.reduceBEq, reduceCtorEq, Nat.reduceEqDiff]) ⟨hk3, hnext (by simp [badArc, h1, h2, h3, h4, hI, hO])⟩
  · rintro F H' hF f37 ⟨hk, hall⟩
    have f1 := hF 1 rfl
    have f36 := hF 36 rfl
    simp only [↓Sh.dn, sx, Nat.reduceBEq, reduceCtorEq, Nat.reduceEqDiff] at f1 f36
    rw [List.take_length] at hall
    have hb' := hb2.kept hk12.wf hk
    simp only [↓Sh.dn, sx, Nat.reduceBEq, reduceCtorEq, Nat.reduceEqDiff, hb'.c0, hb'.c1, hb'.c2, hb'.c3, hb'.ca, netLenS hb', netLenA hb', netLenE hb', f1, f36, f37, nat_lt, Nat.lt_irrefl, decide_false]
    refine wp_for N.ends.length 81 (List.range' 81 15 ++ [2, 8]) (fun i F H'' => Kept H' H'' ∧ (N.ends.take i).any (badEnd N) = false) (by simp only [↓Sh.dn, sx, Nat.reduceBEq, reduceCtorEq, Nat.reduceEqDiff]) ⟨Kept.refl hk.wf, rfl⟩ ?_ ?_
    · rintro i F2 H'' hlt hF2 f81 ⟨hk2', hall2⟩ k
      have g1 := hF2 1 rfl
      have g79 := hF2 79 rfl
      have g80 := hF2 80 rfl
      simp only [↓Sh.dn, sx, Nat.reduceBEq, reduceCtorEq, Nat.reduceEqDiff, f1] at g1 g79 g80
      have hbx := hb'.kept hk.wf hk2'
      have hb3 := hbx.new hk2'.wf 2 (N.ends[i].cells)
      have hk3 := hk2'.news 2 (N.ends[i].cells)
      have hkk := (hk12.trans hk).trans hk3
      obtain ⟨g, o, kk, hia, hc, hcc⟩ := hbx.hen.at Try.underlying24 size_42 (i := i) (x := N.ends[i].cells) (by simp [hlt]) .i64
      clear hcc
      have hbad : badEnd N N.ends[i] = true → netErr N = 1 := fun h => e2 (List.any_eq_true.2 ⟨_, List.getElem_mem hlt, h⟩)
      simp only [↓Sh.dn, sx, Nat.reduceBEq, reduceCtorEq, Nat.reduceEqDiff, hbx.c0, hbx.c1, hbx.c2, hbx.c3, hbx.ca, netLenS hbx, netLenA hbx, netLenE hbx, netZero, arcZero, endZero, arcNew, endNew, arcStore, endStore, arcOver, endOver, netOver, arc0, arc1, arc2, arc3, arc4, end0, end1, g1, g79, g80, f81, nat_lt, hlt, decide_true, hia, hc, Option.map_some]
      by_cases h1 : N.ends[i].state < 0
      · simp only [↓Sh.dn, sx, Nat.reduceBEq, reduceCtorEq, Nat.reduceEqDiff, hb3.c0, hb3.c1, hb3.c2, hb3.c3, hb3.ca, netLenS hb3, netLenA hb3, netLenE hb3, netZero, arcZero, endZero, arcNew, endNew, arcStore, endStore, arcOver, endOver, netOver, arc0, arc1, arc2, arc3, arc4, end0, end1, h1, decide_true, hres, hbad (by simp [badEnd, h1]), hkk]
      simp only [↓Sh.dn, sx, Nat.reduceBEq, reduceCtorEq, Nat.reduceEqDiff, hb3.c0, hb3.c1, hb3.c2, hb3.c3, hb3.ca, netLenS hb3, netLenA hb3, netLenE hb3, netZero, arcZero, endZero, arcNew, endNew, arcStore, endStore, arcOver, endOver, netOver, arc0, arc1, arc2, arc3, arc4, end0, end1, g1, f81, h1, decide_false]
      by_cases h2 : N.states ≤ N.ends[i].state
      · simp only [↓Sh.dn, sx, Nat.reduceBEq, reduceCtorEq, Nat.reduceEqDiff, h2, decide_true, hres, hbad (by simp [badEnd, h2]), hkk]
      simp only [↓Sh.dn, sx, Nat.reduceBEq, reduceCtorEq, Nat.reduceEqDiff, f81, h2, decide_false, wrap_succ hlt hsm.en]
      refine k _ _ (by repeat (first | refine Same.put ?_ rfl | exact Same.rfl' _)) (by simp only [↓Sh.dn, sx, Nat.reduceBEq, reduceCtorEq, Nat.reduceEqDiff]) ⟨hk3, ?_⟩
      rw [List.take_add_one, List.getElem?_eq_getElem hlt]
      simp only [Option.toList, List.any_append, hall2, List.any_cons, List.any_nil, Bool.or_false, badEnd, h1, h2, decide_false]
    · rintro F2 H'' hF2 f81 ⟨hk2', hall2⟩
      have g80 := hF2 80 rfl
      simp only [↓Sh.dn, sx, Nat.reduceBEq, reduceCtorEq, Nat.reduceEqDiff] at g80
      rw [List.take_length] at hall2
      simp only [↓Sh.dn, sx, Nat.reduceBEq, reduceCtorEq, Nat.reduceEqDiff, g80, f81, nat_lt, Nat.lt_irrefl, decide_false, hres, e3 hall hall2, (hk12.trans hk).trans hk2']
end Go.Proofs.Ytcgbiedfbacgpaa
/- slices.IndexFunc and ContainsFunc: whether some element is so. -/
set_option maxHeartbeats 4000000
set_option maxRecDepth 20000
set_option linter.unusedSimpArgs false
set_option linter.unusedVariables false
set_option pp.deepTerms.threshold 8
namespace Go.Proofs.Ytcgbiedfbacgpaa
open Go Go.Proofs Go.Proofs.Sh
theorem indexFuncArc {H : AH} {v : Value} {l : List ArcD} {fid : Nat} {caps : List Value} (p : ArcD → Bool) (hs : Sl H v 5 (l.map ArcD.cells)) (hl : l.length ≤ 1048576) (hw : Wf H)
    (hp : ∀ H', Kept H H' → ∀ x ∈ l, Sh.Call Try.prog (knows 6) fid ((fun a => Value.agg a.cells.toArray) x :: caps) H' (fun r H'' => Kept H' H'' ∧ r = .bool (p x))) :
    Sh.Call Try.prog (knows 6) 44 [v, .func (.func fid) #[] caps.toArray] H (fun r H' => Kept H H' ∧ ∃ k : Int, r = .int .i64 k ∧ decide (0 ≤ k) = l.any p) := by
  refine call_of rfl Try.func44 rfl (Nat.le_of_ble_eq_true rfl) ?_
  have hres : Try.f44.results.toList = [.tmp 4] := rfl
  have hlen := hs.len Try.underlying23 H
  simp only [↓Sh.dn, sx, Nat.reduceBEq, reduceCtorEq, Nat.reduceEqDiff, hlen, List.length_map]
  refine wp_for l.length 8 [5, 8, 9, 10, 11, 12, 13, 14, 15, 16, 18] (fun i F H' => Kept H H' ∧ (l.take i).any p = false) (by simp only [↓Sh.dn, sx, Nat.reduceBEq, reduceCtorEq, Nat.reduceEqDiff]) ⟨Kept.refl hw, rfl⟩ ?_ ?_
  · rintro i F H' hlt hF f8 ⟨hk, hall⟩ k
    have hs1 := hs.grow (hk.grow hw)
    obtain ⟨g, o, kk, hia, hc, hcc⟩ := hs1.at Try.underlying23 size_40 (i := i) (x := ArcD.cells l[i]) (by simp [hlt]) .i64
    have hld := hc
    have f0 := hF 0 rfl
    have f1 := hF 1 rfl
    have f7 := hF 7 rfl
    simp only [↓Sh.dn, sx, Nat.reduceBEq, reduceCtorEq, Nat.reduceEqDiff] at f0 f1 f7
    obtain ⟨r, H2, hd, hk2, rfl⟩ := hp H' hk l[i] (List.getElem_mem hlt)
    simp only [↓Sh.dn, sx, Nat.reduceBEq, reduceCtorEq, Nat.reduceEqDiff, f0, f1, f7, f8, nat_lt, hlt, decide_true, hia, hld, Option.map_some, forall_const, reduceCtorEq, false_implies, and_true, true_and]
    refine ⟨_, _, hd, ?_⟩
    cases hpv : p l[i] with
    | true =>
      simp only [↓Sh.dn, sx, Nat.reduceBEq, reduceCtorEq, Nat.reduceEqDiff, hres, forall_const, reduceCtorEq, false_implies, and_true, true_and]
      refine ⟨hk.trans hk2, _, rfl, ?_⟩
      rw [List.any_eq_true.2 ⟨_, List.getElem_mem hlt, hpv⟩]
      simp
    | false =>
      simp only [↓Sh.dn, sx, Nat.reduceBEq, reduceCtorEq, Nat.reduceEqDiff, hres, f8, wrap_succ hlt hl, forall_const, reduceCtorEq, false_implies, and_true, true_and]
      refine k _ _ (by repeat (first | refine Same.put ?_ rfl | exact Same.rfl' _)) (by simp only [↓Sh.dn, sx, Nat.reduceBEq, reduceCtorEq, Nat.reduceEqDiff]) ⟨hk.trans hk2, ?_⟩
      rw [List.take_add_one, List.getElem?_eq_getElem hlt]
      simp only [Option.toList, List.any_append, hall, List.any_cons, List.any_nil, hpv, Bool.or_false]
  · rintro F H' hF f8 ⟨hk, hall⟩
    have f7 := hF 7 rfl
    simp only [↓Sh.dn, sx, Nat.reduceBEq, reduceCtorEq, Nat.reduceEqDiff] at f7
    rw [List.take_length] at hall
    simp only [↓Sh.dn, sx, Nat.reduceBEq, reduceCtorEq, Nat.reduceEqDiff, f7, f8, nat_lt, Nat.lt_irrefl, decide_false, hres, forall_const, reduceCtorEq, false_implies, and_true, true_and]
    exact ⟨hk, _, rfl, by rw [hall]; rfl⟩
theorem containsFuncArc {H : AH} {v : Value} {l : List ArcD} {fid : Nat} {caps : List Value} (p : ArcD → Bool) (hs : Sl H v 5 (l.map ArcD.cells)) (hl : l.length ≤ 1048576) (hw : Wf H)
    (hp : ∀ H', Kept H H' → ∀ x ∈ l, Sh.Call Try.prog (knows 6) fid ((fun a => Value.agg a.cells.toArray) x :: caps) H' (fun r H'' => Kept H' H'' ∧ r = .bool (p x))) :
    Sh.Call Try.prog (knows 6) 23 [v, .func (.func fid) #[] caps.toArray] H (fun r H' => Kept H H' ∧ r = .bool (l.any p)) := by
  refine call_of rfl Try.func23 rfl (Nat.le_of_ble_eq_true rfl) ?_
  have hres : Try.f23.results.toList = [.tmp 4] := rfl
  obtain ⟨r, H2, hd, hk, k, rfl, hk0⟩ := indexFuncArc p hs hl hw hp
  simp only [↓Sh.dn, sx, Nat.reduceBEq, reduceCtorEq, Nat.reduceEqDiff]
  refine ⟨_, _, hd, ?_⟩
  simp only [↓Sh.dn, sx, Nat.reduceBEq, reduceCtorEq, Nat.reduceEqDiff, hres, hk0, and_true]
  exact hk
end Go.Proofs.Ytcgbiedfbacgpaa
/- Whether a net has a cost out of bounds. -/
set_option maxHeartbeats 4000000
set_option maxRecDepth 20000
set_option linter.unusedSimpArgs false
set_option linter.unusedVariables false
set_option pp.deepTerms.threshold 8
namespace Go.Proofs.Ytcgbiedfbacgpaa
open Go Go.Proofs Go.Proofs.Sh
def pricedB (N : NetD) (m : Int) : Bool := N.arcs.any (fun a => decide (a.cost < 0) || decide (m < a.cost)) || N.ends.any (fun a => decide (a.cost < 0) || decide (m < a.cost))
theorem priced {H : AH} {v : Value} {N : NetD} {m : Int} (h : NetAt H v N) (hsm : NetSmall N) (hw : Wf H) :
    Sh.Call Try.prog (knows 6) 24 [v, .int .i64 m] H (fun r H' => Kept H H' ∧ r = .bool (pricedB N m)) := by
  refine call_of rfl Try.func24 rfl (Nat.le_of_ble_eq_true rfl) ?_
  have hres : Try.f24.results.toList = [.tmp 4] := rfl
  obtain ⟨sg, ar, en, rfl, hsg, har, hen⟩ := h
  have hb1 := NetBox.of (N := N) hw hsg har hen
  have hk1 : Kept H (H.new 4 [sg, .int .i64 N.states, ar, en]).2 := Kept.new hw 4 _
  simp only [↓Sh.dn, sx, Nat.reduceBEq, reduceCtorEq, Nat.reduceEqDiff, netNew hsg.isCell har.isCell hen.isCell]
  generalize H.next = gg at hb1 ⊢
  generalize (H.new 4 [sg, .int .i64 N.states, ar, en]).2 = H1 at hb1 hk1 ⊢
  simp only [↓Sh.dn, sx, Nat.reduceBEq, reduceCtorEq, Nat.reduceEqDiff, hb1.c0, hb1.c1, hb1.c2, hb1.c3, hb1.ca, netLenS hb1, netLenA hb1, netLenE hb1]
  refine wp_for N.arcs.length 12 (List.range' 12 14 ++ [4, 6]) (fun i F H' => Kept H1 H' ∧ (N.arcs.take i).any (fun a => decide (a.cost < 0) || decide (m < a.cost)) = false) (by simp only [↓Sh.dn, sx, Nat.reduceBEq, reduceCtorEq, Nat.reduceEqDiff]) ⟨Kept.refl hk1.wf, rfl⟩ ?_ ?_
  · rintro i F H' hlt hF f12 ⟨hk, hall⟩ k
    have f1 := hF 1 rfl
    have f10 := hF 10 rfl
    have f11 := hF 11 rfl
    simp only [↓Sh.dn, sx, Nat.reduceBEq, reduceCtorEq, Nat.reduceEqDiff] at f1 f10 f11
    have hb' := hb1.kept hk1.wf hk
    have hb3 := hb'.new hk.wf 5 (N.arcs[i].cells)
    have hk3 := hk.news 5 (N.arcs[i].cells)
    obtain ⟨g, o, kk, hia, hc, hcc⟩ := hb'.har.at Try.underlying23 size_40 (i := i) (x := N.arcs[i].cells) (by simp [hlt]) .i64
    clear hcc
    have hbad : (decide (N.arcs[i].cost < 0) || decide (m < N.arcs[i].cost)) = true → pricedB N m = true := fun h => by
      rw [pricedB, List.any_eq_true.2 ⟨_, List.getElem_mem hlt, h⟩]; rfl
    simp only [↓Sh.dn, sx, Nat.reduceBEq, reduceCtorEq, Nat.reduceEqDiff, hb'.c0, hb'.c1, hb'.c2, hb'.c3, hb'.ca, netLenS hb', netLenA hb', netLenE hb', netZero, arcZero, endZero, arcNew, endNew, arcStore, endStore, arcOver, endOver, netOver, arc0, arc1, arc2, arc3, arc4, end0, end1, f1, f10, f11, f12, Option.map_some, nat_lt, hlt, decide_true, hia, hc, hres]
    by_cases h1 : N.arcs[i].cost < 0
    · simp only [↓Sh.dn, sx, Nat.reduceBEq, reduceCtorEq, Nat.reduceEqDiff, h1, decide_true, hres, hbad (by simp [h1]), hk1.trans hk3]
    simp only [↓Sh.dn, sx, Nat.reduceBEq, reduceCtorEq, Nat.reduceEqDiff, netZero, arcZero, endZero, arcNew, endNew, arcStore, endStore, arcOver, endOver, netOver, arc0, arc1, arc2, arc3, arc4, end0, end1, f1, h1, decide_false]
    by_cases h2 : m < N.arcs[i].cost
    · simp only [↓Sh.dn, sx, Nat.reduceBEq, reduceCtorEq, Nat.reduceEqDiff, h2, decide_true, hres, hbad (by simp [h2]), hk1.trans hk3]
    simp only [↓Sh.dn, sx, Nat.reduceBEq, reduceCtorEq, Nat.reduceEqDiff, f12, h2, decide_false, wrap_succ hlt hsm.ar]
    refine k _ _ (by repeat (first | refine Same.put ?_ rfl | exact Same.rfl' _)) (by simp only [↓Sh.dn, sx, Nat.reduceBEq, reduceCtorEq, Nat.reduceEqDiff]) ⟨hk3, ?_⟩
    rw [List.take_add_one, List.getElem?_eq_getElem hlt]
    simp only [Option.toList, List.any_append, hall, List.any_cons, List.any_nil, Bool.or_false, h1, h2, decide_false]
  · rintro F H' hF f12 ⟨hk, hall⟩
    have f2 := hF 2 rfl
    have f11 := hF 11 rfl
    simp only [↓Sh.dn, sx, Nat.reduceBEq, reduceCtorEq, Nat.reduceEqDiff] at f2 f11
    rw [List.take_length] at hall
    have hb' := hb1.kept hk1.wf hk
    simp only [↓Sh.dn, sx, Nat.reduceBEq, reduceCtorEq, Nat.reduceEqDiff, hb'.c0, hb'.c1, hb'.c2, hb'.c3, hb'.ca, netLenS hb', netLenA hb', netLenE hb', f2, f11, f12, nat_lt, Nat.lt_irrefl, decide_false]
    refine wp_for N.ends.length 29 (List.range' 29 14 ++ [4, 8]) (fun i F H'' => Kept H' H'' ∧ (N.ends.take i).any (fun a => decide (a.cost < 0) || decide (m < a.cost)) = false) (by simp only [↓Sh.dn, sx, Nat.reduceBEq, reduceCtorEq, Nat.reduceEqDiff]) ⟨Kept.refl hk.wf, rfl⟩ ?_ ?_
    · rintro i F2 H'' hlt hF2 f29 ⟨hk2', hall2⟩ k
      have g1 := hF2 1 rfl
      have h1' := hF 1 rfl
      have g27 := hF2 27 rfl
      have g28 := hF2 28 rfl
      simp only [↓Sh.dn, sx, Nat.reduceBEq, reduceCtorEq, Nat.reduceEqDiff] at g1 g27 g28 h1'
      have hbx := hb'.kept hk.wf hk2'
      have hb3 := hbx.new hk2'.wf 2 (N.ends[i].cells)
      have hk3 := hk2'.news 2 (N.ends[i].cells)
      have hkk := (hk1.trans hk).trans hk3
      obtain ⟨g, o, kk, hia, hc, hcc⟩ := hbx.hen.at Try.underlying24 size_42 (i := i) (x := N.ends[i].cells) (by simp [hlt]) .i64
      clear hcc
      have hbad : (decide (N.ends[i].cost < 0) || decide (m < N.ends[i].cost)) = true → pricedB N m = true := fun h => by
        rw [pricedB, List.any_eq_true.2 ⟨_, List.getElem_mem hlt, h⟩, Bool.or_true]
      simp only [↓Sh.dn, sx, Nat.reduceBEq, reduceCtorEq, Nat.reduceEqDiff, hbx.c0, hbx.c1, hbx.c2, hbx.c3, hbx.ca, netLenS hbx, netLenA hbx, netLenE hbx, netZero, arcZero, endZero, arcNew, endNew, arcStore, endStore, arcOver, endOver, netOver, arc0, arc1, arc2, arc3, arc4, end0, end1, g1, h1', g27, g28, f29, nat_lt, hlt, decide_true, hia, hc, Option.map_some]
      by_cases h1 : N.ends[i].cost < 0
      · simp only [↓Sh.dn, sx, Nat.reduceBEq, reduceCtorEq, Nat.reduceEqDiff, h1, decide_true, hres, hbad (by simp [h1]), hkk]
      simp only [↓Sh.dn, sx, Nat.reduceBEq, reduceCtorEq, Nat.reduceEqDiff, netZero, arcZero, endZero, arcNew, endNew, arcStore, endStore, arcOver, endOver, netOver, arc0, arc1, arc2, arc3, arc4, end0, end1, g1, h1', f29, h1, decide_false]
      by_cases h2 : m < N.ends[i].cost
      · simp only [↓Sh.dn, sx, Nat.reduceBEq, reduceCtorEq, Nat.reduceEqDiff, h2, decide_true, hres, hbad (by simp [h2]), hkk]
      simp only [↓Sh.dn, sx, Nat.reduceBEq, reduceCtorEq, Nat.reduceEqDiff, f29, h2, decide_false, wrap_succ hlt hsm.en]
      refine k _ _ (by repeat (first | refine Same.put ?_ rfl | exact Same.rfl' _)) (by simp only [↓Sh.dn, sx, Nat.reduceBEq, reduceCtorEq, Nat.reduceEqDiff]) ⟨hk3, ?_⟩
      rw [List.take_add_one, List.getElem?_eq_getElem hlt]
      simp only [Option.toList, List.any_append, hall2, List.any_cons, List.any_nil, Bool.or_false, h1, h2, decide_false]
    · rintro F2 H'' hF2 f29 ⟨hk2', hall2⟩
      have g28 := hF2 28 rfl
      simp only [↓Sh.dn, sx, Nat.reduceBEq, reduceCtorEq, Nat.reduceEqDiff] at g28
      rw [List.take_length] at hall2
      simp only [↓Sh.dn, sx, Nat.reduceBEq, reduceCtorEq, Nat.reduceEqDiff, g28, f29, nat_lt, Nat.lt_irrefl, decide_false, hres, pricedB, hall, hall2, (hk1.trans hk).trans hk2']
end Go.Proofs.Ytcgbiedfbacgpaa
/- What is wrong with an acceptor, by the program. -/
set_option maxHeartbeats 4000000
set_option maxRecDepth 20000
set_option linter.unusedSimpArgs false
set_option linter.unusedVariables false
set_option pp.deepTerms.threshold 8
namespace Go.Proofs.Ytcgbiedfbacgpaa
open Go Go.Proofs Go.Proofs.Sh
theorem autoUnlike {H : AH} {a : ArcD} (hw : Wf H) : Sh.Call Try.prog (knows 6) 22 [.agg a.cells.toArray] H (fun r H' => Kept H H' ∧ r = .bool (!decide (a.inn = a.out))) := by
  refine call_of rfl Try.func22 rfl (Nat.le_of_ble_eq_true rfl) ?_
  have hres : Try.f22.results.toList = [.tmp 2] := rfl
  simp only [↓Sh.dn, sx, Nat.reduceBEq, reduceCtorEq, Nat.reduceEqDiff, netZero, arcZero, endZero, arcNew, endNew, arcStore, endStore, arcOver, endOver, netOver, arc0, arc1, arc2, arc3, arc4, end0, end1, hres, Kept.new hw 5 a.cells]
theorem free_priced (N : NetD) : NetD.free N = !pricedB N 0 := by
  have h : ∀ c : Int, decide (c = 0) = !(decide (c < 0) || decide (0 < c)) := by
    intro c
    by_cases h1 : c < 0
    · have : c ≠ 0 := by omega
      simp [h1, this]
    · by_cases h2 : 0 < c
      · have : c ≠ 0 := by omega
        simp [h2, this]
      · have : c = 0 := by omega
        simp [this]
  simp only [NetD.free, pricedB, h, Bool.not_or, List.all_eq_not_any_not, Bool.not_not]
  simp
theorem autoValidate {H : AH} {v : Value} {N : NetD} (h : NetAt H v N) (hsm : NetSmall N) (hw : Wf H) :
    Sh.Call Try.prog (knows 6) 12 [v] H (fun r H' => Kept H H' ∧ r = .int .i64 (accErr N)) := by
  refine call_of rfl Try.func12 rfl (Nat.le_of_ble_eq_true rfl) ?_
  have hres : Try.f12.results.toList = [.tmp 2] := rfl
  obtain ⟨sg, ar, en, rfl, hsg, har, hen⟩ := h
  have hb1 := NetBox.of (N := N) hw hsg har hen
  have hk1 : Kept H (H.new 4 [sg, .int .i64 N.states, ar, en]).2 := Kept.new hw 4 _
  simp only [↓Sh.dn, sx, Nat.reduceBEq, reduceCtorEq, Nat.reduceEqDiff, netNew hsg.isCell har.isCell hen.isCell]
  generalize H.next = gg at hb1 ⊢
  generalize (H.new 4 [sg, .int .i64 N.states, ar, en]).2 = H1 at hb1 hk1 ⊢
  simp only [↓Sh.dn, sx, Nat.reduceBEq, reduceCtorEq, Nat.reduceEqDiff, hb1.c0, hb1.c1, hb1.c2, hb1.c3, hb1.ca, netLenS hb1, netLenA hb1, netLenE hb1, Option.map_some]
  obtain ⟨r, H2, hd, hk2, rfl⟩ := graphCheck hb1.netAt hsm hk1.wf
  refine ⟨_, _, hd, ?_⟩
  have hb2 := hb1.kept hk1.wf hk2
  have hk12 := hk1.trans hk2
  by_cases hE : netErr N = 0
  case neg => simp only [↓Sh.dn, sx, Nat.reduceBEq, reduceCtorEq, Nat.reduceEqDiff, hE, decide_false, hres, accErr, if_true, hk12]
  simp only [↓Sh.dn, sx, Nat.reduceBEq, reduceCtorEq, Nat.reduceEqDiff, hE, decide_true, hb2.c0, hb2.c1, hb2.c2, hb2.c3, hb2.ca, netLenS hb2, netLenA hb2, netLenE hb2]
  obtain ⟨r, H3, hd3, hk3, rfl⟩ := containsFuncArc (caps := []) (fid := 22) (fun a => !decide (a.inn = a.out)) hb2.har hsm.ar hk12.wf (fun H' hk a ha => autoUnlike hk.wf)
  refine ⟨_, _, hd3, ?_⟩
  have hb3 := hb2.kept hk12.wf hk3
  have hk13 := hk12.trans hk3
  cases hu : N.arcs.any (fun a => !decide (a.inn = a.out)) with
  | true => simp only [↓Sh.dn, sx, Nat.reduceBEq, reduceCtorEq, Nat.reduceEqDiff, hres, accErr, hE, unlike, hu, if_true, if_false, hk13]
  | false =>
    simp only [↓Sh.dn, sx, Nat.reduceBEq, reduceCtorEq, Nat.reduceEqDiff, hb3.c0, hb3.c1, hb3.c2, hb3.c3, hb3.ca, netLenS hb3, netLenA hb3, netLenE hb3, Option.map_some]
    obtain ⟨r, H4, hd4, hk4, rfl⟩ := priced (m := 0) hb3.netAt hsm hk13.wf
    refine ⟨_, _, hd4, ?_⟩
    cases hp : pricedB N 0 with
    | true => simp only [↓Sh.dn, sx, Nat.reduceBEq, reduceCtorEq, Nat.reduceEqDiff, hres, accErr, hE, unlike, hu, free_priced, hp, if_true, if_false, hk13.trans hk4]
    | false => simp only [↓Sh.dn, sx, Nat.reduceBEq, reduceCtorEq, Nat.reduceEqDiff, hres, accErr, hE, unlike, hu, free_priced, hp, if_true, if_false, hk13.trans hk4]
end Go.Proofs.Ytcgbiedfbacgpaa
/- auto.given, Accepts, Begins. -/
set_option maxHeartbeats 4000000
set_option maxRecDepth 20000
set_option linter.unusedSimpArgs false
set_option linter.unusedVariables false
set_option pp.deepTerms.threshold 8
namespace Go.Proofs.Ytcgbiedfbacgpaa
open Go Go.Proofs Go.Proofs.Sh
/-- The edges of the program's graph of a net. -/
def gEdges (N : NetD) : List (List (Nat × Int × Int × Int)) := rowsOf ArcD.fr (fun a => (a.to.toNat, symIx N.sigma a.inn, symIx N.sigma a.out, a.cost)) N.states.toNat N.arcs
theorem gEdges_cells {N : NetD} (hok : NetOk N) : gCells (gEdges N) = grRows N N.arcs := by
  unfold gCells gEdges grRows rowsOf
  rw [List.map_map]
  refine List.map_congr_left fun s _ => ?_
  simp only [Function.comp, List.map_map]
  refine List.map_congr_left fun a ha => ?_
  have := hok.arc a (List.mem_filter.1 ha).1
  simp only [Function.comp, gCell, edgeC]
  rw [show ((a.to.toNat : Nat) : Int) = a.to by omega]
theorem goes_gEdges {N : NetD} (hok : NetOk N) (p : Int → Prop) (s t : Nat) : goesP (gEdges N) p s t ↔ ∃ a ∈ N.arcs, a.fr = (s : Int) ∧ p (symIx N.sigma a.inn) ∧ a.to = (t : Int) := by
  unfold goesP gEdges
  constructor
  · rintro ⟨r, h1, e, h2, h3, h4⟩
    obtain ⟨a, ha, h5, rfl⟩ := (rowsOf_mem h1 _).1 h2
    have := hok.arc a ha
    exact ⟨a, ha, h5, h4, by simp only at h3; omega⟩
  · rintro ⟨a, ha, h1, h2, h3⟩
    have := hok.arc a ha
    have hs : s < N.states.toNat := by omega
    exact ⟨_, rowsOf_get hs, (a.to.toNat, symIx N.sigma a.inn, symIx N.sigma a.out, a.cost), (rowsOf_mem (rowsOf_get hs) _).2 ⟨a, ha, h1, rfl⟩, by simp only; omega, h2⟩
theorem symIx_lt {l : List ByteArray} {x : ByteArray} (ha : Asc l) : symIx l x < 0 ↔ x ∉ l := by
  have := symIx_neg (x := x) ha
  rw [← strIn_iff]
  cases h : strIn l x with
  | true => rw [h] at this; simpa using this
  | false => rw [h] at this; simpa using this
theorem symIx_inj {l : List ByteArray} {x y : ByteArray} (ha : Asc l) (hx : x ∈ l) : symIx l y = symIx l x ↔ y = x := by
  constructor
  · intro h
    have hx0 : ¬(symIx l x < 0) := fun h0 => (symIx_lt ha).1 h0 hx
    have hy : y ∈ l := by
      by_cases hy : y ∈ l
      · exact hy
      · have := (symIx_lt ha).2 hy; omega
    obtain ⟨i, hi⟩ := List.mem_iff_getElem?.1 hx
    obtain ⟨j, hj⟩ := List.mem_iff_getElem?.1 hy
    rw [symIx_some ha hi, symIx_some ha hj] at h
    have : j = i := by omega
    subst this
    rw [hi] at hj
    exact (Option.some.inj hj).symm
  · rintro rfl; rfl
theorem noText_out {N : NetD} (hok : NetOk N) : noText ∉ N.sigma := by
  intro h
  have := hok.sym _ h
  have h0 : symOk noText = false := rfl
  rw [h0] at this; cases this
theorem eps_gEdges {N : NetD} (hok : NetOk N) (s t : Nat) : N.goes noText s t ↔ goesP (gEdges N) (fun k => k < 0) s t := by
  rw [goes_gEdges hok]
  unfold NetD.goes
  constructor
  · rintro ⟨a, ha, h1, h2, h3⟩
    exact ⟨a, ha, h1, (symIx_lt hok.asc).2 (by rw [h2]; exact noText_out hok), h3⟩
  · rintro ⟨a, ha, h1, h2, h3⟩
    have h4 := (symIx_lt hok.asc).1 h2
    exact ⟨a, ha, h1, ((hok.arc a ha).2.2.2.2.1).resolve_right h4, h3⟩
theorem sym_gEdges {N : NetD} (hok : NetOk N) {x : ByteArray} (hx : x ∈ N.sigma) (s t : Nat) : N.goes x s t ↔ goesP (gEdges N) (fun k => k = symIx N.sigma x) s t := by
  rw [goes_gEdges hok]
  unfold NetD.goes
  constructor
  · rintro ⟨a, ha, h1, h2, h3⟩; exact ⟨a, ha, h1, by rw [h2], h3⟩
  · rintro ⟨a, ha, h1, h2, h3⟩; exact ⟨a, ha, h1, (symIx_inj hok.asc hx).1 h2, h3⟩
theorem run_gEdges {N : NetD} (hok : NetOk N) {w : List ByteArray} (hw : ∀ x ∈ w, x ∈ N.sigma) (t : Nat) :
    N.run w t ↔ RunS (goesP (gEdges N) fun k => k < 0) (fun x => goesP (gEdges N) fun k => k = x) (Clo (goesP (gEdges N) fun k => k < 0) fun s => s = 0) (w.map (symIx N.sigma)) t := by
  unfold NetD.run NetD.clo
  have e : N.goes noText = goesP (gEdges N) fun k => k < 0 := funext fun s => funext fun t => propext (eps_gEdges hok s t)
  rw [e]
  exact RunS.congr (f := symIx N.sigma) (fun _ _ => Iff.rfl) (fun _ => Iff.rfl) (fun x hx s t => sym_gEdges hok (hw x hx) s t) t
/-- A word with a foreign symbol leads nowhere. -/
theorem run_out {N : NetD} (hok : NetOk N) {w : List ByteArray} {x : ByteArray} (hx : x ∈ w) (h0 : x ≠ noText) (hs : x ∉ N.sigma) (t : Nat) : ¬N.run w t := by
  refine RunS.dead ⟨x, hx, fun s t => ?_⟩ t
  rintro ⟨a, ha, _, h2, _⟩
  rcases (hok.arc a ha).2.2.2.2.1 with h3 | h3
  · exact h0 (by rw [← h2, h3]; rfl)
  · exact hs (by rw [← h2]; exact h3)
theorem word_no {N : NetD} {w : List ByteArray} (hE : bothErr N w = 0) : ∀ x ∈ w, x ≠ noText := by
  intro x hx h0
  have h1 : wordErr w = 0 := by
    unfold bothErr at hE
    by_cases h : accErr N = 0
    · rw [if_neg (by simpa using h)] at hE; exact hE
    · rw [if_pos h] at hE; exact absurd hE h
  unfold wordErr at h1
  split at h1
  · cases h1
  split at h1
  · rename_i h2
    have := List.all_eq_true.1 h2 x hx
    rw [h0] at this; cases this
  · cases h1
theorem ends_gr {N : NetD} (hok : NetOk N) (t : Nat) : 0 < (grEnds N N.ends).getD t 0 ↔ N.isEnd t := by
  unfold NetD.isEnd grEnds
  rw [List.getD_eq_getElem?_getD, List.getElem?_map]
  by_cases ht : t < N.states.toNat
  · rw [rowsOf_get ht]
    simp only [Option.map_some, Option.getD_some, List.length_map]
    rw [show (0 : Int) < ((N.ends.filter fun a => decide (a.state = (t : Int))).length : Int) ↔ 0 < (N.ends.filter fun a => decide (a.state = (t : Int))).length by omega, List.length_pos_iff_exists_mem]
    simp only [List.mem_filter, decide_eq_true_eq]
  · rw [List.getElem?_eq_none (by rw [rowsOf_length]; omega)]
    simp only [Option.map_none, Option.getD_none, Int.lt_irrefl, false_iff, not_exists, not_and]
    intro e he h
    have := hok.fin e he
    omega
theorem Gr.pg {H : AH} {base g : Nat} {N : NetD} (hok : NetOk N) (h : Gr H base g N.sigma (grRows N N.arcs) (grEnds N N.ends) (grCosts N N.ends)) :
    ∃ sv av ev cv vals, PG H g N.states.toNat 60000 (gEdges N) (grEnds N N.ends) sv av ev cv vals N.sigma (grCosts N N.ends) := by
  obtain ⟨sv, av, ev, cv, vals, hR⟩ := h.read
  rw [← gEdges_cells hok] at hR
  have h1 := hok.st1
  have h2 := hok.st2
  refine ⟨sv, av, ev, cv, vals, hR, by unfold gEdges; rw [rowsOf_length], by unfold grEnds; rw [List.length_map, rowsOf_length], by omega, by omega, fun s r hr => ⟨Nat.le_trans (rowsOf_le hr) hok.ar, fun e he => ?_⟩⟩
  obtain ⟨a, ha, _, rfl⟩ := (rowsOf_mem hr e).1 he
  have := hok.arc a ha
  show a.to.toNat < _
  omega
theorem autoGiven {H : AH} {v u : Value} {N : NetD} {w : List ByteArray} (h : NetAt H v N) (hsm : NetSmall N) (hu : Sl H u 1 (w.map strCell)) (hwl : w.length ≤ 1048576) (hwx : ∀ x ∈ w, x.size ≤ 1048576) (hw : Wf H) :
    Sh.Call Try.prog (knows 6) 16 [v, u] H (fun r H' => Kept H H' ∧ ∃ gp lv, r = .tuple #[gp, lv, .bool (decide (bothErr N w = 0) && w.all (strIn N.sigma)), .int .i64 (bothErr N w)] ∧ (bothErr N w = 0 → ∃ g, gp = .pointer (some ⟨g, 0, some 0⟩) ∧ (∃ sv av ev cv vals, PG H' g N.states.toNat 60000 (gEdges N) (grEnds N N.ends) sv av ev cv vals N.sigma (grCosts N N.ends)) ∧ (w.all (strIn N.sigma) = true → Sl H' lv 1 ((w.map (symIx N.sigma)).map intC)))) := by
  refine call_of rfl Try.func16 rfl (Nat.le_of_ble_eq_true rfl) ?_
  have hres : Try.f16.results.toList = [.tmp 4, .tmp 5, .tmp 6, .tmp 7] := rfl
  obtain ⟨sg, ar, en, rfl, hsg, har, hen⟩ := h
  have hb1 := NetBox.of (N := N) hw hsg har hen
  have hk1 : Kept H (H.new 4 [sg, .int .i64 N.states, ar, en]).2 := Kept.new hw 4 _
  simp only [↓Sh.dn, sx, Nat.reduceBEq, reduceCtorEq, Nat.reduceEqDiff, netNew hsg.isCell har.isCell hen.isCell]
  generalize H.next = gg at hb1 ⊢
  generalize (H.new 4 [sg, .int .i64 N.states, ar, en]).2 = H1 at hb1 hk1 ⊢
  obtain ⟨r, H2, hd2, hk2, rfl⟩ := autoValidate hb1.netAt hsm hk1.wf
  have hb2 := hb1.kept hk1.wf hk2
  simp only [↓Sh.dn, sx, Nat.reduceBEq, reduceCtorEq, Nat.reduceEqDiff, hb1.c0, hb1.c1, hb1.c2, hb1.c3, hb1.ca, netLenS hb1, netLenA hb1, netLenE hb1, Option.map_some]
  refine ⟨_, _, hd2, ?_⟩
  have hk12 := hk1.trans hk2
  by_cases hA : accErr N = 0
  case neg =>
    have hb : bothErr N w = accErr N := by unfold bothErr; rw [if_pos hA]
    have hb0 : ¬bothErr N w = 0 := by rw [hb]; exact hA
    simp only [↓Sh.dn, sx, Nat.reduceBEq, reduceCtorEq, Nat.reduceEqDiff, hA, decide_false, hres, hb, hk12]
    exact ⟨_, _, rfl⟩
  have hu2 := hu.grow (hk12.grow hw)
  obtain ⟨r, H3, hd3, hk3, rfl⟩ := symsWord hu2 hwl hwx hk2.wf
  have hb : bothErr N w = wordErr w := by unfold bothErr; rw [if_neg (by simpa using hA)]
  have hk13 := hk12.trans hk3
  have hb3 := hb2.kept hk2.wf hk3
  simp only [↓Sh.dn, sx, Nat.reduceBEq, reduceCtorEq, Nat.reduceEqDiff, hA, decide_true]
  refine ⟨_, _, hd3, ?_⟩
  by_cases hW : wordErr w = 0
  case neg =>
    simp only [↓Sh.dn, sx, Nat.reduceBEq, reduceCtorEq, Nat.reduceEqDiff, hW, decide_false, hres, hb, hk13]
    exact ⟨_, _, rfl⟩
  have hok := accErr_ok hA
  have hu3 := hu2.grow (hk3.grow hk2.wf)
  obtain ⟨r, H4, hd4, hk4, z, rfl, hz⟩ := graphWord hb3.hsg hok.asc hsm.sg hu3 hwl hk3.wf
  have hb4 := hb3.kept hk3.wf hk4
  obtain ⟨r, H5, hd5, hk5, g, rfl, base, hbase, hG⟩ := graphOf hb4.netAt hok hsm hk4.wf
  simp only [↓Sh.dn, sx, Nat.reduceBEq, reduceCtorEq, Nat.reduceEqDiff, hW, decide_true, hb3.c0, hb3.c1, hb3.c2, hb3.c3, hb3.ca, netLenS hb3, netLenA hb3, netLenE hb3]
  refine ⟨_, _, hd4, ?_⟩
  simp only [↓Sh.dn, sx, Nat.reduceBEq, reduceCtorEq, Nat.reduceEqDiff, hb4.c0, hb4.c1, hb4.c2, hb4.c3, hb4.ca, netLenS hb4, netLenA hb4, netLenE hb4, Option.map_some]
  refine ⟨_, _, hd5, ?_⟩
  simp only [↓Sh.dn, sx, Nat.reduceBEq, reduceCtorEq, Nat.reduceEqDiff, hres, hb, hW, decide_true]
  refine ⟨(hk13.trans hk4).trans hk5, _, _, rfl, g, rfl, Gr.pg hok hG, fun hall => ?_⟩
  obtain ⟨b, hbz, _⟩ := hz hall
  have := hbz.toSl.grow (hk5.grow hk4.wf)
  rw [List.map_map]
  exact this
theorem autoAccepts {H : AH} {v u : Value} {N : NetD} {w : List ByteArray} (h : NetAt H v N) (hsm : NetSmall N) (hu : Sl H u 1 (w.map strCell)) (hwl : w.length ≤ 1048576) (hwx : ∀ x ∈ w, x.size ≤ 1048576) (hw : Wf H) :
    Sh.Call Try.prog (knows 6) 8 [v, u] H (fun r H' => Kept H H' ∧ r = .tuple #[.bool (accB N w), .int .i64 (bothErr N w)]) := by
  refine call_of rfl Try.func8 rfl (Nat.le_of_ble_eq_true rfl) ?_
  have hres : Try.f8.results.toList = [.tmp 4, .tmp 5] := rfl
  obtain ⟨sg, ar, en, rfl, hsg, har, hen⟩ := h
  have hb1 := NetBox.of (N := N) hw hsg har hen
  have hk1 : Kept H (H.new 4 [sg, .int .i64 N.states, ar, en]).2 := Kept.new hw 4 _
  simp only [↓Sh.dn, sx, Nat.reduceBEq, reduceCtorEq, Nat.reduceEqDiff, netNew hsg.isCell har.isCell hen.isCell]
  generalize H.next = gg at hb1 ⊢
  generalize (H.new 4 [sg, .int .i64 N.states, ar, en]).2 = H1 at hb1 hk1 ⊢
  obtain ⟨r, H2, hd2, hk2, gp, lv, rfl, hgp⟩ := autoGiven hb1.netAt hsm (hu.grow (hk1.grow hw)) hwl hwx hk1.wf
  simp only [↓Sh.dn, sx, Nat.reduceBEq, reduceCtorEq, Nat.reduceEqDiff, hb1.c0, hb1.c1, hb1.c2, hb1.c3, hb1.ca, netLenS hb1, netLenA hb1, netLenE hb1, Option.map_some]
  refine ⟨_, _, hd2, ?_⟩
  have hk12 := hk1.trans hk2
  by_cases hE : bothErr N w = 0
  case neg =>
    have : accB N w = false := by unfold accB; exact isB_not fun h => hE h.1
    simp only [↓Sh.dn, sx, Nat.reduceBEq, reduceCtorEq, Nat.reduceEqDiff, hE, decide_false, hres, this, hk12]
  obtain ⟨g, rfl, ⟨sv, av, ev, cv, vals, hPG⟩, hlv⟩ := hgp hE
  have hok := bothErr_ok hE
  have hno := word_no hE
  cases hall : w.all (strIn N.sigma) with
  | false =>
    have : accB N w = false := by
      unfold accB
      refine isB_not ?_
      rintro ⟨_, _, t, h2, _⟩
      obtain ⟨x, hx, hs⟩ := List.all_eq_false.1 hall
      exact run_out hok hx (hno x hx) (fun h => hs (strIn_iff.2 h)) t h2
    simp only [↓Sh.dn, sx, Nat.reduceBEq, reduceCtorEq, Nat.reduceEqDiff, hE, decide_true, hall, Bool.and_false, hres, this, hk12]
  | true =>
    have hin : ∀ x ∈ w, x ∈ N.sigma := fun x hx => strIn_iff.1 (List.all_eq_true.1 hall x hx)
    have hn2 := hPG.n2
    obtain ⟨r3, H3, hd3, hk3, out, b, hbf, hfr, hnd, hlt, hiff⟩ := graphRun hPG (hlv hall) (by rw [List.length_map]; exact hwl) hk2.wf
    have hol := nodup_le hnd hlt
    obtain ⟨r4, H4, hd4, hk4, rfl⟩ := graphHasEnd (hPG.kept hk2.wf hk3) hbf.toSl hlt (by omega) hk3.wf
    simp only [↓Sh.dn, sx, Nat.reduceBEq, reduceCtorEq, Nat.reduceEqDiff, hE, decide_true, hall, Bool.and_self]
    refine ⟨_, _, hd3, ?_⟩
    refine ⟨_, _, hd4, ?_⟩
    have : (out.any fun t => decide (0 < (grEnds N N.ends).getD t 0)) = accB N w := by
      refine isB_of ?_
      rw [List.any_eq_true]
      simp only [hE, true_and, decide_eq_true_eq, hiff, ends_gr hok]
      unfold accepts
      constructor
      · rintro ⟨t, h1, h2⟩; exact ⟨hno, t, (run_gEdges hok hin t).2 h1, h2⟩
      · rintro ⟨_, t, h1, h2⟩; exact ⟨t, (run_gEdges hok hin t).1 h1, h2⟩
    simp only [↓Sh.dn, sx, Nat.reduceBEq, reduceCtorEq, Nat.reduceEqDiff, hres, this]
    exact (hk12.trans hk3).trans hk4
-- left out: autoBegins
end Go.Proofs.Ytcgbiedfbacgpaa
/- auto.Words. -/
set_option maxHeartbeats 4000000
set_option maxRecDepth 20000
set_option linter.unusedSimpArgs false
set_option linter.unusedVariables false
set_option pp.deepTerms.threshold 8
namespace Go.Proofs.Ytcgbiedfbacgpaa
open Go Go.Proofs Go.Proofs.Sh
/-- The words of a net, of at most 60 symbols, in order; has it longer ones. -/
noncomputable def allWords (N : NetD) : List (List ByteArray) := shlex N.sigma (accepts N) 60
def longW (N : NetD) : Prop := ∃ w : List ByteArray, 60 < w.length ∧ (∀ x ∈ w, x ∈ N.sigma) ∧ accepts N w
noncomputable def autoOut (N : NetD) (most : Int) : List (List ByteArray) × Bool × Int :=
  if accErr N ≠ 0 then ([], false, accErr N) else if most < 1 ∨ 200 < most then ([], false, 1) else wordsOut (allWords N) (longW N) most.toNat
theorem symIx_bound (l : List ByteArray) (x : ByteArray) : symIx l x < (l.length : Int) ∨ l.length = 0 := by
  unfold symIx
  split
  · rename_i i h
    have := (List.findIdx?_eq_some_iff_getElem.1 h).1
    left; omega
  · rcases Nat.eq_zero_or_pos l.length with h | h
    · exact .inr h
    · left; omega
theorem gEdges_sym {N : NetD} (s : Nat) (r : List (Nat × Int × Int × Int)) (h : (gEdges N)[s]? = some r) : ∀ e ∈ r, e.2.1 < (N.sigma.length : Int) := by
  intro e he
  unfold gEdges at h
  obtain ⟨a, ha, h1, rfl⟩ := (rowsOf_mem h e).1 he
  rcases symIx_bound N.sigma a.inn with h2 | h2
  · exact h2
  · show symIx N.sigma a.inn < _
    have h3 : N.sigma = [] := List.length_eq_zero_iff.1 h2
    rw [h3, symIx_none (by simp)]
    decide
/-- A word by numbers is accepted just if its texts are. -/
theorem acc_texts {N : NetD} (hok : NetOk N) {u : List Nat} (hu : ∀ k ∈ u, k < N.sigma.length) :
    accS (goesP (gEdges N) fun k => k < 0) (fun (k : Nat) => goesP (gEdges N) fun x => x = (k : Int)) (fun s => 0 < (grEnds N N.ends).getD s 0) (Clo (goesP (gEdges N) fun k => k < 0) fun s => s = 0) u ↔ accepts N (textOf N.sigma u) := by
  have hin : ∀ x ∈ textOf N.sigma u, x ∈ N.sigma := fun x hx => by
    obtain ⟨k, hk, rfl⟩ := List.mem_map.1 hx
    have := hu k hk
    simp only [List.getD, List.getElem?_eq_getElem this, Option.getD_some]
    exact List.getElem_mem _
  have hmap : (textOf N.sigma u).map (symIx N.sigma) = u.map fun (k : Nat) => (k : Int) := by
    unfold textOf
    rw [List.map_map]
    refine List.map_congr_left fun k hk => ?_
    have := hu k hk
    simp only [Function.comp, List.getD, List.getElem?_eq_getElem this, Option.getD_some]
    exact symIx_some hok.asc (List.getElem?_eq_getElem this)
  unfold accS accepts
  constructor
  · rintro ⟨t, h1, h2⟩
    refine ⟨fun x hx h0 => noText_out hok (h0 ▸ hin x hx), t, ?_, (ends_gr hok t).1 h2⟩
    rw [run_gEdges hok hin, hmap]
    exact (RunS.congr (f := fun (k : Nat) => (k : Int)) (fun _ _ => Iff.rfl) (fun _ => Iff.rfl) (fun x _ s t => Iff.rfl) t).1 h1
  · rintro ⟨_, t, h1, h2⟩
    refine ⟨t, ?_, (ends_gr hok t).2 h2⟩
    rw [run_gEdges hok hin, hmap] at h1
    exact (RunS.congr (f := fun (k : Nat) => (k : Int)) (fun _ _ => Iff.rfl) (fun _ => Iff.rfl) (fun x _ s t => Iff.rfl) t).2 h1
theorem range_sigma (sigma : List ByteArray) : (List.range sigma.length).map (fun k => sigma.getD k noText) = sigma := by
  refine List.ext_getElem? fun i => ?_
  rw [List.getElem?_map]
  by_cases h : i < sigma.length
  · rw [List.getElem?_range h, List.getElem?_eq_getElem h]
    simp [List.getD, List.getElem?_eq_getElem h]
  · rw [List.getElem?_eq_none (by simp; omega), List.getElem?_eq_none (by omega)]; rfl
theorem eps_of {E : List (List (Nat × Int × Int × Int))} : epsOf (fun x s t => goesP E (fun k => k = x) s t) = goesP E fun k => k < 0 := by
  funext s t
  apply propext
  unfold epsOf goesP
  constructor
  · rintro ⟨x, hx, r, h1, e, h2, h3, h4⟩; exact ⟨r, h1, e, h2, h3, by rw [h4]; exact hx⟩
  · rintro ⟨r, h1, e, h2, h3, h4⟩; exact ⟨_, h4, r, h1, e, h2, h3, rfl⟩
section
variable {N : NetD} {R : List (List (Nat × Int × Int × Int))} {es : List Int} {us : Nat → Prop} {f : Nat → Nat}
theorem trim_acc (hok : NetOk N) (hT : TrimOf (fun x s t => goesP (gEdges N) (fun k => k = x) s t) (fun x s t => goesP R (fun k => k = x) s t) us f (fun s => 0 < (grEnds N N.ends).getD s 0) (fun s => 0 < es.getD s 0)) {u : List Nat} (hu : ∀ k ∈ u, k < N.sigma.length) :
    accS (goesP R fun k => k < 0) (fun (k : Nat) => goesP R fun x => x = (k : Int)) (fun s => 0 < es.getD s 0) (Clo (goesP R fun k => k < 0) fun s => s = 0) u ↔ accepts N (textOf N.sigma u) := by
  rw [← acc_texts hok hu]
  have := hT.acc u
  rw [eps_of, eps_of] at this
  exact this
theorem trim_sym (hT : TrimOf (fun x s t => goesP (gEdges N) (fun k => k = x) s t) (fun x s t => goesP R (fun k => k = x) s t) us f (fun s => 0 < (grEnds N N.ends).getD s 0) (fun s => 0 < es.getD s 0)) (s : Nat) (r : List (Nat × Int × Int × Int)) (h : R[s]? = some r) : ∀ e ∈ r, e.2.1 < (N.sigma.length : Int) := by
  intro e he
  obtain ⟨a, b, _, _, _, _, r', h1, e', h2, _, h3⟩ := (hT.edge e.2.1 s e.1).1 ⟨r, h, e, he, rfl, rfl⟩
  rw [← h3]
  exact gEdges_sym a r' h1 e' h2
theorem trim_words (hok : NetOk N) (hT : TrimOf (fun x s t => goesP (gEdges N) (fun k => k = x) s t) (fun x s t => goesP R (fun k => k = x) s t) us f (fun s => 0 < (grEnds N N.ends).getD s 0) (fun s => 0 < es.getD s 0)) :
    (firstP N.sigma.length R es 61).map (textOf N.sigma) = allWords N := by
  unfold allWords
  conv => rhs; rw [← range_sigma N.sigma]
  rw [shlex_map]
  have : shlex (List.range N.sigma.length) (fun u => accepts N (u.map fun k => N.sigma.getD k noText)) 60 = firstP N.sigma.length R es 61 :=
    shlex_congr fun u hu => (trim_acc hok hT fun k hk => List.mem_range.1 (hu k hk)).symm
  rw [this]
  rfl
theorem trim_long (hok : NetOk N) (hT : TrimOf (fun x s t => goesP (gEdges N) (fun k => k = x) s t) (fun x s t => goesP R (fun k => k = x) s t) us f (fun s => 0 < (grEnds N N.ends).getD s 0) (fun s => 0 < es.getD s 0)) :
    (∃ j, 60 < j ∧ exP R es j 0) ↔ longW N := by
  constructor
  · rintro ⟨j, h1, h2⟩
    obtain ⟨w, ⟨h3, h4⟩, h5⟩ := exactly_acc (A := fun (k : Nat) => goesP R fun x => x = (k : Int)) (q := fun k => k < N.sigma.length) (fun s t hst => by
      obtain ⟨r, k1, e, k2, k3, k4⟩ := hst
      have := trim_sym hT s r k1 e k2
      exact ⟨e.2.1.toNat, by omega, r, k1, e, k2, k3, by omega⟩) (S := Clo (goesP R fun k => k < 0) fun s => s = 0) (fun a b h1 h2 => .step h1 h2) ⟨0, .base rfl, h2⟩
    refine ⟨textOf N.sigma w, by unfold textOf; rw [List.length_map]; omega, fun x hx => ?_, (trim_acc hok hT h4).1 h5⟩
    obtain ⟨k, hk, rfl⟩ := List.mem_map.1 hx
    have := h4 k hk
    simp only [List.getD, List.getElem?_eq_getElem this, Option.getD_some]
    exact List.getElem_mem _
  · rintro ⟨w, h1, h2, h3⟩
    obtain ⟨u, hu, rfl⟩ : ∃ u : List Nat, (∀ k ∈ u, k < N.sigma.length) ∧ textOf N.sigma u = w := by
      clear h1 h3
      induction w with
      | nil => exact ⟨[], (fun k hk => by cases hk), rfl⟩
      | cons x w ih =>
        obtain ⟨u, h3, h4⟩ := ih fun y hy => h2 y (List.mem_cons_of_mem _ hy)
        obtain ⟨k, hk⟩ := List.mem_iff_getElem?.1 (h2 x List.mem_cons_self)
        have hkl := (List.getElem?_eq_some_iff.1 hk).1
        refine ⟨k :: u, fun j hj => ?_, ?_⟩
        · rcases List.mem_cons.1 hj with rfl | hj
          · exact hkl
          · exact h3 j hj
        · show N.sigma.getD k noText :: textOf N.sigma u = x :: w
          rw [h4]
          simp [List.getD, hk]
    obtain ⟨s, h4, h5⟩ := acc_exactly (any := goesP R fun x => 0 ≤ x) any_lab ((trim_acc hok hT hu).2 h3)
    refine ⟨u.length, by unfold textOf at h1; rw [List.length_map] at h1; exact h1, exactly_back ?_ h5⟩
    exact h4
end
theorem sig_short {N : NetD} (hok : NetOk N) : N.sigma.length ≤ 40 := by
  have h := hok.sig
  unfold sigErr at h
  split at h
  · cases h
  · rename_i h1
    simp only [Bool.or_eq_true, decide_eq_true_eq, not_or] at h1
    omega
theorem autoWords {H : AH} {v : Value} {N : NetD} {most : Int} (h : NetAt H v N) (hsm : NetSmall N) (hw : Wf H) :
    Sh.Call Try.prog (knows 6) 7 [v, .int .i64 most] H (fun r H' => Kept H H' ∧ ∃ lv, r = .tuple #[lv, .bool (autoOut N most).2.1, .int .i64 (autoOut N most).2.2] ∧ ∃ vs, JagR H' lv 1 ((autoOut N most).1.map strRow) vs) := by
  refine call_of rfl Try.func7 rfl (Nat.le_of_ble_eq_true rfl) ?_
  have hres : Try.f7.results.toList = [.tmp 4, .tmp 5, .tmp 6] := rfl
  obtain ⟨sg, ar, en, rfl, hsg, har, hen⟩ := h
  have hb1 := NetBox.of (N := N) hw hsg har hen
  have hk1 : Kept H (H.new 4 [sg, .int .i64 N.states, ar, en]).2 := Kept.new hw 4 _
  simp only [↓Sh.dn, sx, Nat.reduceBEq, reduceCtorEq, Nat.reduceEqDiff, netNew hsg.isCell har.isCell hen.isCell]
  generalize H.next = gg at hb1 ⊢
  generalize (H.new 4 [sg, .int .i64 N.states, ar, en]).2 = H1 at hb1 hk1 ⊢
  obtain ⟨r, H2, hd2, hk2, rfl⟩ := autoValidate hb1.netAt hsm hk1.wf
  have hb2 := hb1.kept hk1.wf hk2
  simp only [↓Sh.dn, sx, Nat.reduceBEq, reduceCtorEq, Nat.reduceEqDiff, hb1.c0, hb1.c1, hb1.c2, hb1.c3, hb1.ca, netLenS hb1, netLenA hb1, netLenE hb1, Option.map_some]
  refine ⟨_, _, hd2, ?_⟩
  have hk12 := hk1.trans hk2
  have nil : ∀ {H' : AH}, ∃ vs, JagR H' (.slice none 0 0) 1 (([] : List (List ByteArray)).map strRow) vs := fun {H'} => ⟨[], Sl.nil _ _, rfl, fun i w r hi => by simp at hi⟩
  by_cases hA : accErr N = 0
  case neg =>
    have ho : autoOut N most = ([], false, accErr N) := by unfold autoOut; rw [if_pos hA]
    simp only [↓Sh.dn, sx, Nat.reduceBEq, reduceCtorEq, Nat.reduceEqDiff, hA, decide_false, hres, ho]
    exact ⟨hk12, _, rfl, nil⟩
  simp only [↓Sh.dn, sx, Nat.reduceBEq, reduceCtorEq, Nat.reduceEqDiff, hA, decide_true]
  by_cases h1 : most < 1
  · have ho : autoOut N most = ([], false, 1) := by unfold autoOut; rw [if_neg (by simpa using hA), if_pos (.inl h1)]
    simp only [↓Sh.dn, sx, Nat.reduceBEq, reduceCtorEq, Nat.reduceEqDiff, h1, decide_true, hres, ho]
    exact ⟨hk12, _, rfl, nil⟩
  by_cases h2 : 200 < most
  · have ho : autoOut N most = ([], false, 1) := by unfold autoOut; rw [if_neg (by simpa using hA), if_pos (.inr h2)]
    simp only [↓Sh.dn, sx, Nat.reduceBEq, reduceCtorEq, Nat.reduceEqDiff, h1, h2, decide_false, decide_true, hres, ho]
    exact ⟨hk12, _, rfl, nil⟩
  have ho : autoOut N most = wordsOut (allWords N) (longW N) most.toNat := by unfold autoOut; rw [if_neg (by simpa using hA), if_neg (by omega)]
  have hok := accErr_ok hA
  have hs40 : N.sigma.length ≤ 1000 := by have := sig_short hok; omega
  obtain ⟨r, H3, hd3, hk3, g, rfl, base, hbase, hG⟩ := graphOf hb2.netAt hok hsm hk2.wf
  obtain ⟨sv, av, ev, cv, vals, hPG⟩ := Gr.pg hok hG
  obtain ⟨r, H4, hd4, hk4, g4, rfl, m, R, es, ⟨sv4, av4, ev4, cv4, vals4, cs4, hP4⟩, hmn, U, hT⟩ := graphTrim hPG (by omega) (by unfold grCosts; rw [List.length_map, rowsOf_length]) hk3.wf
  obtain ⟨mm, rfl⟩ : ∃ mm : Nat, most = (mm : Int) := ⟨most.toNat, by omega⟩
  obtain ⟨r, H5, hd5, hk5, lv, rfl, vs, hJ⟩ := graphWords (most := mm) hP4 (trim_sym hT) hs40 (by omega) (by omega) hk4.wf
  rw [trim_words hok hT, show (∃ j, 60 < j ∧ exP R es j 0) = longW N from propext (trim_long hok hT)] at hJ hd5
  simp only [↓Sh.dn, sx, Nat.reduceBEq, reduceCtorEq, Nat.reduceEqDiff, h1, h2, decide_false, hb2.c0, hb2.c1, hb2.c2, hb2.c3, hb2.ca, netLenS hb2, netLenA hb2, netLenE hb2, Option.map_some]
  refine ⟨_, _, hd3, ?_⟩
  refine ⟨_, _, hd4, ?_⟩
  refine ⟨_, _, hd5, ?_⟩
  simp only [↓Sh.dn, sx, Nat.reduceBEq, reduceCtorEq, Nat.reduceEqDiff, hres, ho, Int.toNat_natCast]
  exact ⟨((hk12.trans hk3).trans hk4).trans hk5, lv, rfl, vs, hJ⟩
end Go.Proofs.Ytcgbiedfbacgpaa
/- Whether there is far more in a net than may be. -/
set_option maxHeartbeats 4000000
set_option maxRecDepth 20000
set_option linter.unusedSimpArgs false
set_option linter.unusedVariables false
set_option pp.deepTerms.threshold 8
namespace Go.Proofs.Ytcgbiedfbacgpaa
open Go Go.Proofs Go.Proofs.Sh
def sizes (l : List ByteArray) : Nat := (l.map fun s => s.size).sum
def netSize (N : NetD) : Nat := N.sigma.length + N.arcs.length + N.ends.length + sizes N.sigma
theorem sizes_take_le (l : List ByteArray) (i : Nat) : sizes (l.take i) ≤ sizes l := by
  unfold sizes
  have : l = l.take i ++ l.drop i := (List.take_append_drop i l).symm
  conv => rhs; rw [this]
  rw [List.map_append, List.sum_append]
  omega
theorem isOver {H : AH} {v : Value} {N : NetD} (h : NetAt H v N) (hsm : NetSmall N) (hsz : sizes N.sigma ≤ 1048576) (hw : Wf H) :
    Sh.Call Try.prog (knows 6) 4 [v] H (fun r H' => Kept H H' ∧ r = .bool (decide (262144 < netSize N))) := by
  refine call_of rfl Try.func4 rfl (Nat.le_of_ble_eq_true rfl) ?_
  have hres : Try.f4.results.toList = [.tmp 2] := rfl
  obtain ⟨sg, ar, en, rfl, hsg, har, hen⟩ := h
  have hb1 := NetBox.of (N := N) hw hsg har hen
  have hk1 : Kept H (H.new 4 [sg, .int .i64 N.states, ar, en]).2 := Kept.new hw 4 _
  simp only [↓Sh.dn, sx, Nat.reduceBEq, reduceCtorEq, Nat.reduceEqDiff, netNew hsg.isCell har.isCell hen.isCell]
  generalize H.next = gg at hb1 ⊢
  generalize (H.new 4 [sg, .int .i64 N.states, ar, en]).2 = H1 at hb1 hk1 ⊢
  obtain ⟨z1, z2, z3, _⟩ := hsm
  have w1 : IntKind.wrap .i64 (IntKind.wrap .i64 ((N.sigma.length : Int) + (N.arcs.length : Int)) + (N.ends.length : Int)) = ((N.sigma.length + N.arcs.length + N.ends.length : Nat) : Int) := by
    rw [wrap64 (n := (N.sigma.length : Int) + (N.arcs.length : Int)) (by omega) (by omega), wrap64 (by omega) (by omega)]; rfl
  simp only [↓Sh.dn, sx, Nat.reduceBEq, reduceCtorEq, Nat.reduceEqDiff, hb1.c0, hb1.c1, hb1.c2, hb1.c3, hb1.ca, netLenS hb1, netLenA hb1, netLenE hb1, w1]
  refine wp_for N.sigma.length 4 (List.range' 16 15 ++ [3, 4]) (fun i F H' => H' = H1 ∧ F.get 3 = some (.int .i64 ((N.sigma.length + N.arcs.length + N.ends.length + sizes (N.sigma.take i) : Nat) : Int))) (by simp only [↓Sh.dn, sx, Nat.reduceBEq, reduceCtorEq, Nat.reduceEqDiff]) ⟨rfl, by simp only [↓Sh.dn, sx, Nat.reduceBEq, reduceCtorEq, Nat.reduceEqDiff]; rfl⟩ ?_ ?_
  · rintro i F H' hlt hF f4 ⟨rfl, f3⟩ k
    have f1 := hF 1 rfl
    simp only [↓Sh.dn, sx, Nat.reduceBEq, reduceCtorEq, Nat.reduceEqDiff] at f1
    obtain ⟨g, o, kk, hia, hc, hcc⟩ := hb1.hsg.at Try.underlying22 size_9 (i := i) (x := strCell N.sigma[i]) (by simp [hlt]) .i64
    have hy := hcc 0 _ rfl
    simp only [Nat.add_zero] at hy
    have hs1 : sizes (N.sigma.take (i + 1)) = sizes (N.sigma.take i) + N.sigma[i].size := by
      unfold sizes
      rw [List.take_add_one, List.getElem?_eq_getElem hlt, List.map_append, List.sum_append]
      simp
    have hle := sizes_take_le N.sigma (i + 1)
    have w2 : IntKind.wrap .i64 (((N.sigma.length + N.arcs.length + N.ends.length + sizes (N.sigma.take i) : Nat) : Int) + (N.sigma[i].size : Int)) = ((N.sigma.length + N.arcs.length + N.ends.length + sizes (N.sigma.take (i + 1)) : Nat) : Int) := by
      rw [wrap64 (by omega) (by omega), hs1]; omega
    simp only [↓Sh.dn, sx, Nat.reduceBEq, reduceCtorEq, Nat.reduceEqDiff, hb1.c0, hb1.c1, hb1.c2, hb1.c3, hb1.ca, netLenS hb1, netLenA hb1, netLenE hb1, f1, f3, f4, nat_lt, hlt, decide_true, hia, hy, w2, wrap_succ hlt z1]
    exact k _ _ (by repeat (first | refine Same.put ?_ rfl | exact Same.rfl' _)) (by simp only [↓Sh.dn, sx, Nat.reduceBEq, reduceCtorEq, Nat.reduceEqDiff]) ⟨rfl, by simp only [↓Sh.dn, sx, Nat.reduceBEq, reduceCtorEq, Nat.reduceEqDiff]⟩
  · rintro F H' hF f4 ⟨rfl, f3⟩
    have f1 := hF 1 rfl
    simp only [↓Sh.dn, sx, Nat.reduceBEq, reduceCtorEq, Nat.reduceEqDiff] at f1
    rw [List.take_length] at f3
    have e : decide ((262144 : Int) < ((N.sigma.length + N.arcs.length + N.ends.length + sizes N.sigma : Nat) : Int)) = decide (262144 < netSize N) := decide_eq_decide.2 (by unfold netSize; omega)
    simp only [↓Sh.dn, sx, Nat.reduceBEq, reduceCtorEq, Nat.reduceEqDiff, hb1.c0, hb1.c1, hb1.c2, hb1.c3, hb1.ca, netLenS hb1, netLenA hb1, netLenE hb1, f1, f3, f4, nat_lt, Nat.lt_irrefl, decide_false, hres, e, hk1]
end Go.Proofs.Ytcgbiedfbacgpaa
/- Whether lists have far too many texts, or bytes. -/
set_option maxHeartbeats 4000000
set_option maxRecDepth 20000
set_option linter.unusedSimpArgs false
set_option linter.unusedVariables false
set_option pp.deepTerms.threshold 8
namespace Go.Proofs.Ytcgbiedfbacgpaa
open Go Go.Proofs Go.Proofs.Sh
def textN (ws : List (List ByteArray)) : Nat := (ws.map fun w => sizes w + w.length).sum
theorem sizes_append (a b : List ByteArray) : sizes (a ++ b) = sizes a + sizes b := by simp [sizes]
theorem textN_append (a b : List (List ByteArray)) : textN (a ++ b) = textN a + textN b := by simp [textN]
theorem textN_split {ws : List (List ByteArray)} {i q : Nat} {w : List ByteArray} (h : ws[i]? = some w) (hq : q ≤ w.length) : textN (ws.take i) + (sizes (w.take q) + q) ≤ textN ws := by
  have hi := (List.getElem?_eq_some_iff.1 h).1
  have e : ws = ws.take i ++ (w :: ws.drop (i + 1)) := by
    conv => lhs; rw [← List.take_append_drop i ws]
    congr 1
    rw [List.drop_eq_getElem_cons hi, (List.getElem?_eq_some_iff.1 h).2]
  have e2 : textN ws = textN (ws.take i) + (sizes w + w.length + textN (ws.drop (i + 1))) := by
    conv => lhs; rw [e]
    rw [textN_append]; rfl
  have e3 : sizes w = sizes (w.take q) + sizes (w.drop q) := by rw [← sizes_append, List.take_append_drop]
  omega
theorem isLong {H : AH} {v : Value} {vals : List Value} {ws : List (List ByteArray)} (h : JagR H v 1 (ws.map fun w => w.map strCell) vals) (hl : ws.length ≤ 1048576) (hw1 : ∀ w ∈ ws, w.length ≤ 1048576 ∧ ∀ x ∈ w, x.size ≤ 1048576) (hw : Wf H) :
    Sh.Call Try.prog (knows 6) 5 [v] H (fun r H' => H' = H ∧ r = .bool (decide (16384 < textN ws))) := by
  refine call_of rfl Try.func5 rfl (Nat.le_of_ble_eq_true rfl) ?_
  have hres : Try.f5.results.toList = [.tmp 2] := rfl
  have hlen : ∀ H', abuiltin Try.prog .len [30] [v] H' = some (.int .i64 (ws.length : Int), H') := fun H' => by
    rw [h.sl.len Try.underlying30, List.length_map, h.len, List.length_map]
  have e1 : ∀ c : Nat, decide ((c : Int) ≤ 16384) = decide (c ≤ 16384) := fun c => decide_eq_decide.2 (by omega)
  have e2 : ∀ c : Nat, decide ((16384 : Int) < (c : Int)) = decide (16384 < c) := fun c => decide_eq_decide.2 (by omega)
  simp only [↓Sh.dn, sx, Nat.reduceBEq, reduceCtorEq, Nat.reduceEqDiff]
  refine wp_for ws.length 4 (List.range' 3 37) (fun i F H' => H' = H ∧ ∃ c : Nat, F.get 3 = some (.int .i64 (c : Int)) ∧ c ≤ textN ws ∧ (c ≤ 16384 → c = textN (ws.take i)) ∧ c ≤ 2000000) (by simp only [↓Sh.dn, sx, Nat.reduceBEq, reduceCtorEq, Nat.reduceEqDiff]) ⟨rfl, 0, by simp only [↓Sh.dn, sx, Nat.reduceBEq, reduceCtorEq, Nat.reduceEqDiff]; rfl, Nat.zero_le _, fun _ => by simp [textN], by omega⟩ ?_ ?_
  · rintro i F H' hi hF f4 ⟨rfl, c, f3, hct, hce, hcb⟩ k
    have f0 := hF 0 rfl
    simp only [↓Sh.dn, sx, Nat.reduceBEq, reduceCtorEq, Nat.reduceEqDiff] at f0
    have hget : ws[i]? = some ws[i] := List.getElem?_eq_getElem hi
    obtain ⟨hwl, hwx⟩ := hw1 _ (List.getElem_mem hi)
    have htk : ws.take (i + 1) = ws.take i ++ [ws[i]] := by rw [List.take_add_one, List.getElem?_eq_getElem hi]; rfl
    generalize ws[i] = w at hget hwl hwx htk
    obtain ⟨ga, oa, ka, wv, hia, hca, hsl⟩ := h.at Try.underlying30 size_22 (i := i) (r := w.map strCell) (by rw [List.getElem?_map, hget]; rfl)
    have hlw : ∀ H', abuiltin Try.prog .len [22] [wv] H' = some (.int .i64 (w.length : Int), H') := fun H' => by rw [hsl.len Try.underlying22, List.length_map]
    have hfull : textN (ws.take (i + 1)) = textN (ws.take i) + (sizes w + w.length) := by rw [htk, textN_append]; simp [textN]
    simp only [↓Sh.dn, sx, Nat.reduceBEq, reduceCtorEq, Nat.reduceEqDiff, f0, f3, f4, hlen, nat_lt, hi, decide_true, e1]
    by_cases hc : c ≤ 16384
    case neg =>
      have hbig : decide (16384 < textN ws) = true := decide_eq_true (by omega)
      have hc' : decide (16384 < c) = true := decide_eq_true (by omega)
      simp only [↓Sh.dn, sx, Nat.reduceBEq, reduceCtorEq, Nat.reduceEqDiff, hc, decide_false, f3, e2, hres, hc', hbig]
    simp only [↓Sh.dn, sx, Nat.reduceBEq, reduceCtorEq, Nat.reduceEqDiff, hc, decide_true]
    -- behind the list
    have after : ∀ (F2 : Fr) (H2 : AH) (c2 : Nat), F2.get 3 = some (.int .i64 (c2 : Int)) → c2 ≤ textN ws → (c2 ≤ 16384 → c2 = textN (ws.take (i + 1))) → c2 ≤ 2000000 → True := fun _ _ _ _ _ _ _ => trivial
    refine wp_for w.length 5 (List.range' 16 24 ++ [3, 5]) (fun q F'' H'' => H'' = H' ∧ ∃ c : Nat, F''.get 3 = some (.int .i64 (c : Int)) ∧ c ≤ textN ws ∧ (c ≤ 16384 → c = textN (ws.take i) + (sizes (w.take q) + q)) ∧ c ≤ 2000000) (by simp only [↓Sh.dn, sx, Nat.reduceBEq, reduceCtorEq, Nat.reduceEqDiff]) ⟨rfl, c, by simp only [↓Sh.dn, sx, Nat.reduceBEq, reduceCtorEq, Nat.reduceEqDiff, f3], hct, fun h => by rw [← hce h]; simp [sizes], hcb⟩ ?_ ?_
    · rintro q F'' H'' hq hF'' f5 ⟨rfl, c, f3', hct, hce, hcb⟩ k2
      have g0 := hF'' 0 rfl
      have g4 := hF'' 4 rfl
      simp only [↓Sh.dn, sx, Nat.reduceBEq, reduceCtorEq, Nat.reduceEqDiff, f0, f4] at g0 g4
      obtain ⟨p2, hia2, hc2⟩ := Sl.elem (s := 1) Try.underlying22 size_9 hsl (i := q) (u := .string w[q]) (by rw [List.getElem?_map, List.getElem?_eq_getElem hq]; rfl)
      have hmem : w[q] ∈ w := List.getElem_mem hq
      have hqtk : sizes (w.take (q + 1)) = sizes (w.take q) + w[q].size := by
        rw [List.take_add_one, List.getElem?_eq_getElem hq, Option.toList_some, sizes_append]; simp [sizes]
      generalize w[q] = x at hc2 hmem hqtk
      have hxs := hwx x hmem
      simp only [↓Sh.dn, sx, Nat.reduceBEq, reduceCtorEq, Nat.reduceEqDiff, f3', f5, g0, g4, hia, hca, hlw, nat_lt, hq, decide_true, e1]
      by_cases hc : c ≤ 16384
      case neg =>
        simp only [↓Sh.dn, sx, Nat.reduceBEq, reduceCtorEq, Nat.reduceEqDiff, hc, decide_false, f3', g4, wrap_succ hi hl]
        refine k _ _ ?_ (by simp only [↓Sh.dn, sx, Nat.reduceBEq, reduceCtorEq, Nat.reduceEqDiff]) ⟨rfl, c, by simp only [↓Sh.dn, sx, Nat.reduceBEq, reduceCtorEq, Nat.reduceEqDiff, f3'], hct, fun h => absurd h hc, hcb⟩
        repeat refine Same.put ?_ rfl
        exact Same.trans (by repeat (first | refine Same.put ?_ rfl | exact Same.rfl' _)) (hF''.sub rfl)
      have hsp := textN_split (q := q + 1) hget hq
      have w1 : IntKind.wrap .i64 (1 + (x.size : Int)) = ((1 + x.size : Nat) : Int) := by rw [wrap64 (by omega) (by omega)]; omega
      have w2 : IntKind.wrap .i64 ((c : Int) + ((1 + x.size : Nat) : Int)) = ((c + (1 + x.size) : Nat) : Int) := by rw [wrap64 (by omega) (by omega)]; omega
      simp only [↓Sh.dn, sx, Nat.reduceBEq, reduceCtorEq, Nat.reduceEqDiff, hc, decide_true, f3', f5, g0, g4, hia, hca, hia2, hc2, w1, w2, wrap_succ hq hwl]
      refine k2 _ _ (by repeat (first | refine Same.put ?_ rfl | exact Same.rfl' _)) (by simp only [↓Sh.dn, sx, Nat.reduceBEq, reduceCtorEq, Nat.reduceEqDiff]) ⟨rfl, c + (1 + x.size), by simp only [↓Sh.dn, sx, Nat.reduceBEq, reduceCtorEq, Nat.reduceEqDiff], ?_, fun _ => ?_, by omega⟩
      · have := hce hc; omega
      · have := hce hc; omega
    · rintro F'' H'' hF'' f5 ⟨rfl, c, f3', hct, hce, hcb⟩
      have g0 := hF'' 0 rfl
      have g4 := hF'' 4 rfl
      simp only [↓Sh.dn, sx, Nat.reduceBEq, reduceCtorEq, Nat.reduceEqDiff, f0, f4] at g0 g4
      rw [List.take_length] at hce
      simp only [↓Sh.dn, sx, Nat.reduceBEq, reduceCtorEq, Nat.reduceEqDiff, f3', f5, g0, g4, hia, hca, hlw, nat_lt, Nat.lt_irrefl, decide_false, wrap_succ hi hl]
      refine k _ _ ?_ (by simp only [↓Sh.dn, sx, Nat.reduceBEq, reduceCtorEq, Nat.reduceEqDiff]) ⟨rfl, c, by simp only [↓Sh.dn, sx, Nat.reduceBEq, reduceCtorEq, Nat.reduceEqDiff, f3'], hct, fun h => by rw [hfull]; exact hce h, hcb⟩
      repeat refine Same.put ?_ rfl
      exact Same.trans (by repeat (first | refine Same.put ?_ rfl | exact Same.rfl' _)) (hF''.sub rfl)
  · rintro F H' hF f4 ⟨rfl, c, f3, hct, hce, hcb⟩
    have f0 := hF 0 rfl
    simp only [↓Sh.dn, sx, Nat.reduceBEq, reduceCtorEq, Nat.reduceEqDiff] at f0
    rw [List.take_length] at hce
    have : decide (16384 < c) = decide (16384 < textN ws) := decide_eq_decide.2 (by
      by_cases h : c ≤ 16384
      · rw [hce h]
      · omega)
    simp only [↓Sh.dn, sx, Nat.reduceBEq, reduceCtorEq, Nat.reduceEqDiff, f0, f3, f4, hlen, nat_lt, Nat.lt_irrefl, decide_false, e2, hres, this]
end Go.Proofs.Ytcgbiedfbacgpaa
/- What comes in: lists of texts, nets. -/
set_option maxHeartbeats 4000000
set_option maxRecDepth 20000
set_option linter.unusedSimpArgs false
set_option linter.unusedVariables false
namespace Go.Proofs.Ytcgbiedfbacgpaa
open Go Go.Proofs Go.Proofs.Sh
section
variable {K : Type}
theorem bulk_pos : ∀ (d : DataW K), 1 ≤ Rows.uptoBulk d
  | .lit l => by cases l <;> simp [Rows.uptoBulk]
  | .nil => by simp [Rows.uptoBulk]
  | .ptr d => by simp [Rows.uptoBulk]
  | .slice a b => by simp [Rows.uptoBulk]
  | .agg a => by simp [Rows.uptoBulk]
  | .iface n d => by simp [Rows.uptoBulk]
  | .map es => by simp [Rows.uptoBulk]
  | .held h => by simp [Rows.uptoBulk]
theorem bulk_len : ∀ (ds : List (DataW K)), ds.length ≤ Rows.uptoBulkAll ds
  | [] => Nat.zero_le _
  | d :: ds => by
    have := bulk_pos d
    have := bulk_len ds
    simp only [Rows.uptoBulkAll, List.length_cons]; omega
theorem bulk_mem : ∀ {ds : List (DataW K)} {d : DataW K}, d ∈ ds → Rows.uptoBulk d ≤ Rows.uptoBulkAll ds
  | d :: ds, x, h => by
    simp only [Rows.uptoBulkAll]
    rcases List.mem_cons.1 h with rfl | h
    · omega
    · have := bulk_mem h; omega
theorem exists_map {α β : Type} {f : α → β} : ∀ {l : List β}, (∀ x ∈ l, ∃ a, x = f a) → ∃ L : List α, l = L.map f
  | [], _ => ⟨[], rfl⟩
  | x :: l, h => by
    obtain ⟨a, rfl⟩ := h x List.mem_cons_self
    obtain ⟨L, rfl⟩ := exists_map (l := l) fun y hy => h y (List.mem_cons_of_mem _ hy)
    exact ⟨a :: L, rfl⟩
/-- A list whose elements read so. -/
theorem list_in {α : Type} {enc : α → List Value} {H : AH} {f t e s : Nat} {cs : List Value} {d : DataW K} (R : α → DataW K → Prop) (hu : Try.prog.underlying t = some (.slice e)) (hs : Try.prog.cellsOf e = s)
    (hR : ∀ f x y, RD Try.prog H f e x y → ∃ a, x = enc a ∧ R a y) (h : RD Try.prog H f t cs d) :
    ∃ u, ∃ L : List α, ∃ ds, cs = [u] ∧ Sl H u s (L.map enc) ∧ L.length = ds.length ∧ (∀ (i : Nat) a y, L[i]? = some a → ds[i]? = some y → enc a = enc a → ∃ a', enc a' = enc a ∧ R a' y) ∧ Rows.uptoBulkAll ds < Rows.uptoBulk d := by
  obtain ⟨l, ds, ⟨u, rfl, hsl⟩, hlen, hel, hd⟩ := RD.slice hu hs h
  have hget : ∀ (i : Nat) x, l[i]? = some x → ∃ y a, ds[i]? = some y ∧ x = enc a ∧ R a y := by
    intro i x hx
    have hi := (List.getElem?_eq_some_iff.1 hx).1
    have hy : ds[i]? = some (ds[i]'(by omega)) := List.getElem?_eq_getElem (by omega)
    obtain ⟨f', hf⟩ := hel i x _ hx hy
    obtain ⟨a, h1, h2⟩ := hR f' x _ hf
    exact ⟨_, a, hy, h1, h2⟩
  obtain ⟨L, rfl⟩ := exists_map (f := enc) (l := l) fun x hx => by
    obtain ⟨i, hi⟩ := List.mem_iff_getElem?.1 hx
    obtain ⟨y, a, _, h2, _⟩ := hget i x hi
    exact ⟨a, h2⟩
  refine ⟨u, L, ds, rfl, hsl, by simpa using hlen, fun i a y ha hy _ => ?_, ?_⟩
  · obtain ⟨y', a', h1, h2, h3⟩ := hget i (enc a) (by simp [ha])
    rw [hy] at h1
    injection h1 with h1
    subst h1
    exact ⟨a', h2.symm, h3⟩
  · rcases hd with ⟨rfl, rfl⟩ | ⟨sp, rfl⟩
    · simp [Rows.uptoBulk, Rows.uptoBulkAll]
    · simp only [Rows.uptoBulk]; omega
theorem str_in {H : AH} {f : Nat} {x : List Value} {y : DataW K} (h : RD Try.prog H f 9 x y) : ∃ s, x = strCell s ∧ y = .lit (.string s.data.toList) := RD.str Try.underlying9 h
theorem int_in {H : AH} {f : Nat} {x : List Value} {y : DataW K} (h : RD Try.prog H f 3 x y) : ∃ n, x = [.int .i64 n] ∧ -9223372036854775808 ≤ n ∧ n < 9223372036854775808 := RD.int Try.underlying3 h
theorem bulk_strs : ∀ {L : List ByteArray} {ds : List (DataW K)}, L.length = ds.length → (∀ (i : Nat) a y, L[i]? = some a → ds[i]? = some y → y = .lit (.string a.data.toList)) → Rows.uptoBulkAll ds = sizes L + L.length
  | [], [], _, _ => rfl
  | [], _ :: _, h, _ => by simp at h
  | _ :: _, [], h, _ => by simp at h
  | a :: L, d :: ds, h, hr => by
    have h0 := hr 0 a d rfl rfl
    have ih := bulk_strs (L := L) (ds := ds) (by simpa using h) fun i a y h1 h2 => hr (i + 1) a y (by simpa using h1) (by simpa using h2)
    subst h0
    have e : a.data.toList.length = a.size := by rw [Array.length_toList]; rfl
    simp only [Rows.uptoBulkAll, Rows.uptoBulk, ih, sizes, List.map_cons, List.sum_cons, List.length_cons, e]
    omega
theorem strCell_inj {a b : ByteArray} (h : strCell a = strCell b) : a = b := by
  simp only [strCell, List.cons.injEq, Value.string.injEq, and_true] at h; exact h
/-- A list of texts. -/
theorem strs_in {H : AH} {f : Nat} {cs : List Value} {d : DataW K} (h : RD Try.prog H f 22 cs d) : ∃ u, ∃ L : List ByteArray, cs = [u] ∧ Sl H u 1 (L.map strCell) ∧ sizes L + L.length < Rows.uptoBulk d := by
  obtain ⟨u, L, ds, h1, h2, h3, h4, h5⟩ := list_in (enc := strCell) (fun s y => y = .lit (.string s.data.toList)) Try.underlying22 cells_9 (fun f x y hf => str_in hf) h
  refine ⟨u, L, h1, h2, ?_⟩
  rw [← bulk_strs h3 fun i a y ha hy => by
    obtain ⟨a', e, hr⟩ := h4 i a y ha hy rfl
    rw [← strCell_inj e]; exact hr]
  exact h5
theorem sizes_mem {L : List ByteArray} {x : ByteArray} (h : x ∈ L) : x.size ≤ sizes L := by
  induction L with
  | nil => cases h
  | cons a L ih =>
    simp only [sizes, List.map_cons, List.sum_cons] at ih ⊢
    rcases List.mem_cons.1 h with rfl | h
    · omega
    · have := ih h; omega
theorem four {c : List Value} (h : c.length = 4) : ∃ a b x y, c = [a, b, x, y] := by
  match c, h with
  | [a, b, x, y], _ => exact ⟨a, b, x, y, rfl⟩
theorem five {c : List Value} (h : c.length = 5) : ∃ a b x y z, c = [a, b, x, y, z] := by
  match c, h with
  | [a, b, x, y, z], _ => exact ⟨a, b, x, y, z, rfl⟩
theorem two {c : List Value} (h : c.length = 2) : ∃ a b, c = [a, b] := by
  match c, h with
  | [a, b], _ => exact ⟨a, b, rfl⟩
theorem get_some {ds : List (DataW K)} {n i : Nat} (h : ds.length = n) (hi : i < n) : ∃ x, ds[i]? = some x := ⟨ds[i]'(by omega), List.getElem?_eq_getElem (by omega)⟩
theorem arc_in {H : AH} {f : Nat} {x : List Value} {y : DataW K} (h : RD Try.prog H f 40 x y) : ∃ a : ArcD, x = a.cells ∧ True := by
  · obtain ⟨f', ds, rfl, h1, h2, h3⟩ := RD.struct Try.underlying40 h
    rw [cells_40] at h1
    obtain ⟨a, b, c, d, e, rfl⟩ := five h1
    have h2' : ds.length = 5 := h2
    obtain ⟨d0, e0⟩ := get_some h2' (i := 0) (by omega)
    obtain ⟨d1, e1⟩ := get_some h2' (i := 1) (by omega)
    obtain ⟨d2, e2⟩ := get_some h2' (i := 2) (by omega)
    obtain ⟨d3, e3⟩ := get_some h2' (i := 3) (by omega)
    obtain ⟨d4, e4⟩ := get_some h2' (i := 4) (by omega)
    have g0 := h3 0 _ _ rfl e0
    have g1 := h3 1 _ _ rfl e1
    have g2 := h3 2 _ _ rfl e2
    have g3 := h3 3 _ _ rfl e3
    have g4 := h3 4 _ _ rfl e4
    simp only [cells_3, cells_9, List.drop_zero, List.drop_succ_cons, List.take_succ_cons, List.take_zero, List.getElem_toArray, List.getElem_cons_zero, List.getElem_cons_succ] at g0 g1 g2 g3 g4
    obtain ⟨n0, q0, _⟩ := int_in g0
    obtain ⟨s1, q1, _⟩ := str_in g1
    obtain ⟨s2, q2, _⟩ := str_in g2
    obtain ⟨n3, q3, _⟩ := int_in g3
    obtain ⟨n4, q4, _⟩ := int_in g4
    simp only [strCell, List.cons.injEq, and_true] at q0 q1 q2 q3 q4
    subst q0 q1 q2 q3 q4
    exact ⟨⟨n0, s1, s2, n3, n4⟩, rfl, trivial⟩
theorem end_in {H : AH} {f : Nat} {x : List Value} {y : DataW K} (h : RD Try.prog H f 42 x y) : ∃ a : EndD, x = a.cells ∧ True := by
  · obtain ⟨f', ds, rfl, h1, h2, h3⟩ := RD.struct Try.underlying42 h
    rw [cells_42] at h1
    obtain ⟨a, b, rfl⟩ := two h1
    have h2' : ds.length = 2 := h2
    obtain ⟨d0, e0⟩ := get_some h2' (i := 0) (by omega)
    obtain ⟨d1, e1⟩ := get_some h2' (i := 1) (by omega)
    have g0 := h3 0 _ _ rfl e0
    have g1 := h3 1 _ _ rfl e1
    simp only [cells_3, List.drop_zero, List.drop_succ_cons, List.take_succ_cons, List.take_zero, List.getElem_toArray, List.getElem_cons_zero, List.getElem_cons_succ] at g0 g1
    obtain ⟨n0, q0, _⟩ := int_in g0
    obtain ⟨n1, q1, _⟩ := int_in g1
    simp only [List.cons.injEq, and_true] at q0 q1
    subst q0 q1
    exact ⟨⟨n0, n1⟩, rfl, trivial⟩
theorem agg_of {v : Value} {a b : Value} {l : List Value} (h : vcells v = a :: b :: l) : v = .agg (a :: b :: l).toArray := by
  cases v <;> simp only [vcells] at h <;> try (cases h; done)
  rw [← h]
/-- A net. -/
theorem net_in {H : AH} {f : Nat} {v : Value} {d : DataW K} (h : RD Try.prog H f 26 (vcells v) d) (hb : Rows.uptoBulk d ≤ 1048576) : ∃ N : NetD, Nonempty (NetAt H v N) ∧ NetSmall N ∧ sizes N.sigma ≤ 1048576 := by
  · obtain ⟨f', ds, rfl, h1, h2, h3⟩ := RD.struct Try.underlying26 h
    rw [cells_26] at h1
    obtain ⟨a, b, c, e, hv⟩ := four h1
    rw [hv] at h3
    have h2' : ds.length = 4 := h2
    obtain ⟨d0, e0⟩ := get_some h2' (i := 0) (by omega)
    obtain ⟨d1, e1⟩ := get_some h2' (i := 1) (by omega)
    obtain ⟨d2, e2⟩ := get_some h2' (i := 2) (by omega)
    obtain ⟨d3, e3⟩ := get_some h2' (i := 3) (by omega)
    have g0 := h3 0 _ _ rfl e0
    have g1 := h3 1 _ _ rfl e1
    have g2 := h3 2 _ _ rfl e2
    have g3 := h3 3 _ _ rfl e3
    simp only [cells_3, cells_22, cells_23, cells_24, List.drop_zero, List.drop_succ_cons, List.take_succ_cons, List.take_zero, List.getElem_toArray, List.getElem_cons_zero, List.getElem_cons_succ] at g0 g1 g2 g3
    obtain ⟨u0, L0, q0, s0, b0⟩ := strs_in g0
    obtain ⟨n1, q1, _⟩ := int_in g1
    obtain ⟨u2, L2, ds2, q2, s2, k2, _, b2⟩ := list_in (enc := ArcD.cells) (fun _ _ => True) Try.underlying23 cells_40 (fun f x y hf => arc_in hf) g2
    obtain ⟨u3, L3, ds3, q3, s3, k3, _, b3⟩ := list_in (enc := EndD.cells) (fun _ _ => True) Try.underlying24 cells_42 (fun f x y hf => end_in hf) g3
    simp only [List.cons.injEq, and_true] at q0 q1 q2 q3
    subst q0 q1 q2 q3
    have m0 := bulk_mem (List.mem_of_getElem? e0)
    have m2 := bulk_mem (List.mem_of_getElem? e2)
    have m3 := bulk_mem (List.mem_of_getElem? e3)
    have l2 := bulk_len ds2
    have l3 := bulk_len ds3
    simp only [Rows.uptoBulk] at hb
    refine ⟨⟨L0, n1, L2, L3⟩, ⟨⟨a, c, e, agg_of hv, s0, s2, s3⟩⟩, ⟨?_, ?_, ?_, fun x hx => ?_⟩, ?_⟩
    · show L0.length ≤ _; omega
    · show L2.length ≤ _; omega
    · show L3.length ≤ _; omega
    · have := sizes_mem hx; show x.size ≤ _; have h' : x.size ≤ sizes L0 := this; omega
    · show sizes L0 ≤ _; omega
end
end Go.Proofs.Ytcgbiedfbacgpaa
