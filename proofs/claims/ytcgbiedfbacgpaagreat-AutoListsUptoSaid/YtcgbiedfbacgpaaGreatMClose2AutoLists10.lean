/- A part of the proof: GraphWalk, GraphWalk2, GraphFirst, GraphBeyond, GraphTexts, GraphWords, RefWalk, GraphX, RefWalk2, RefShort, RowsTotal, GraphAdd, GraphTrim, GraphTrim2, BinarySearch, PlaceWord, GraphOf, SymsSmall, IndexFuncStr, SymsValidate, WordVal, RefAcc, GraphCheck, IndexFuncArc, Priced, AutoValidate, AutoAcc, AutoWords, RefWords, IsOver, IsLong, DataIn. -/
import Derived.Test.YtcgbiedfbacgpaaGreatMClose2AutoLists8
import Derived.Test.YtcgbiedfbacgpaaGreatMClose2AutoLists9
import Derived.Test.YtcgbiedfbacgpaaGreatMClose2AutoLists4
import Derived.Test.YtcgbiedfbacgpaaGreatMClose2AutoLists7
import Derived.Test.YtcgbiedfbacgpaaGreatMClose2AutoLists6
import Derived.Test.YtcgbiedfbacgpaaGreatMClose2AutoLists3
import Derived.Test.YtcgbiedfbacgpaaGreatMClose2AutoLists5
import Derived.Test.YtcgbiedfbacgpaaGreatRows
set_option linter.unusedVariables false
set_option linter.unusedSimpArgs false
/- The search of (*graph.Graph).First: the words that go on from a set. -/
set_option maxHeartbeats 4000000
set_option maxRecDepth 20000
set_option linter.unusedSimpArgs false
set_option linter.unusedVariables false
namespace Go.Proofs.YtcgbiedfbacgpaaGreat
open Go Go.Proofs Go.Proofs.Sh
noncomputable def A5i (sg : Nat) (E : List (List (Nat × Int × Int × Int))) (ends : List Int) (Q : Nat → Prop) (m : Nat) : List (List Nat) := lexW (List.range sg) (accS (A2d E fun k => k < 0) (fun (k : Nat) => A2d E fun x => x = (k : Int)) (fun s => 0 < ends.getD s 0) Q) m
theorem B07 (sg : Nat) (E : List (List (Nat × Int × Int × Int))) (ends : List Int) (Q : Nat → Prop) (m : Nat) : A5i sg E ends Q (m + 1) = (List.range sg).flatMap fun k => (A5i sg E ends (A7x E Q k) m).map (k :: ·) := B81 _ _ _
theorem C40 {E : List (List (Nat × Int × Int × Int))} (k : Nat) (s t : Nat) (h : A2d E (fun x => x = (k : Int)) s t) : A2d E (fun x => 0 ≤ x) s t := by
 obtain ⟨r, h1, e, h2, h3, h4⟩ := h
 exact ⟨r, h1, e, h2, h3, by rw [h4]; omega⟩
theorem B7f {sg : Nat} {E : List (List (Nat × Int × Int × Int))} {ends : List Int} {Q : Nat → Prop} {m : Nat} (h : ∀ s, Q s → ¬exP E ends m s) : A5i sg E ends Q m = [] := B9v fun u hu ha => by
 obtain ⟨s, h1, h2⟩ := A3p (any := A2d E fun x => 0 ≤ x) C40 ha
 rw [hu] at h2
 exact h s h1 h2
theorem B27 {sg : Nat} {E : List (List (Nat × Int × Int × Int))} {ends : List Int} {Q : Nat → Prop} (hQ : ∀ a b, Q a → A2d E (fun k => k < 0) a b → Q b) (h : ∃ s, Q s ∧ exP E ends 0 s) : A5i sg E ends Q 0 = [[]] := by
 unfold A5i
 rw [B3u, if_pos]
 rw [A70]
 obtain ⟨s, h1, h2⟩ := h
 obtain ⟨t, h3, h4⟩ := A1s.1 h2
 exact ⟨t, (A7z hQ).1 (A9m.2 ⟨s, h1, h3⟩), h4⟩
theorem B91 {E : List (List (Nat × Int × Int × Int))} {Q : Nat → Prop} {k : Nat} : ∀ a b, A7x E Q k a → A2d E (fun k => k < 0) a b → A7x E Q k b := fun _ _ h1 h2 => .step h1 h2
theorem C2p {H : AH} {base bO : Nat} {zo : Value} {oo wb : Option Nat} {out : List (List Nat)} (h : OutAt H base bO zo oo wb out) (H' : AH) : A4a Tryz.prog .len [65] [zo] H' = some (.int .i64 (out.length : Int), H') := by
 obtain ⟨vals, h1, h2, h3⟩ := h.ex
 rw [h1.toSl.len Tryz.underlying65, List.length_map, h2]
theorem outPush {H : AH} {base bO : Nat} {zo v : Value} {oo wb o : Option Nat} {out : List (List Nat)} {u : List Nat} (h : OutAt H base bO zo oo wb out) (hw : Wf H) (hb : base ≤ H.next) (hv : Buf H 1 v (u.map natC) o) (ho : ∀ y, o = some y → base ≤ y ∧ oo ≠ some y ∧ wb ≠ some y) (hwb : ∀ y, wb = some y → y < H.next) (hol : out.length ≤ 1073741823) :
  ∃ a cap w' H3 H4 oo', zo = .slice a out.length cap ∧ A5a Tryz.prog 65 1 [(0, v)] H = some (.slice (some ⟨H.next, 0, some 0⟩) 1 1, (H.new 1 [v]).2) ∧ A4a Tryz.prog .append [65, 65] [.slice a out.length cap, .slice (some ⟨H.next, 0, some 0⟩) 1 1] (H.new 1 [v]).2 = some (w', H3) ∧
   A8e Tryz.prog 65 H3 w' (.pointer (some ⟨bO, 0, some 0⟩)) = some H4 ∧ OutAt H4 base bO w' oo' wb (out ++ [u]) ∧ Chg (fun y => y = bO ∨ oo = some y) H H4 ∧ ∀ y, oo' = some y → oo = some y ∨ H.next ≤ y := by
 obtain ⟨vals, h1, h2, h3⟩ := h.ex
 have hlt := h.lt
 obtain ⟨a, cap, w', H3, oo', e1, e2, e3, e4, e5⟩ := h1.push hw (x := [v]) rfl
 have hvc := hv.isCell
 have hbs := C60 (H := H) (x := v) (by rw [A0c hvc]; rfl) (by rw [A0c hvc]; simp [hvc])
 rw [A0c hvc] at hbs
 rw [List.length_map, h2] at e1 e2
 have ha := app1_65 (H := H) (base := a) (len := out.length) (cap := cap) (x := [v]) rfl hol
 rw [e2] at ha
 have hbO : oo ≠ some bO := fun hy => by have := (h.ob bO hy).1; omega
 have a3 := h.cell.keep (e4.old bO (h.cell.lt hw) hbO)
 obtain ⟨H4, w1, w2, w3, w4⟩ := a3.write e4.wf (i := 0) (vs := [w']) (by simp)
 have hw' := e3.isCell
 have st : A8e Tryz.prog 65 H3 w' (.pointer (some ⟨bO, 0, some 0⟩)) = some H4 := by rw [A2c C4s hw']; exact w1
 have c34 : Chg (fun y => y = bO ∨ oo = some y) H H4 := (e4.weak fun y hy => .inr hy).trans (w4.weak fun y hy => .inl hy)
 have hoo : ∀ y, oo' = some y → base ≤ y ∧ wb ≠ some y := fun y hy => by
  rcases e5 y hy with h4 | h4
  ·exact h.ob y h4
  ·exact ⟨by omega, fun hy2 => by have := hwb y hy2; omega⟩
 refine ⟨a, cap, w', H3, H4, oo', e1, hbs, ha, st, ⟨w2, ⟨vals ++ [v], ?_, by simp [h2], fun j x q hj hq => ?_⟩, hoo, hlt⟩, c34, e5⟩
 ·rw [List.map_append]
  exact e3.chg e4.wf w4 fun y hy hyb => by have := (hoo y hy).1; omega
 ·have far : ∀ {z : Value} {m : List (List Value)} {o : Option Nat}, Buf H 1 z m o → (∀ y, o = some y → base ≤ y ∧ oo ≠ some y ∧ wb ≠ some y) → Buf H4 1 z m o ∧ ∀ y, o = some y → base ≤ y ∧ oo' ≠ some y ∧ wb ≠ some y := fun {z m o} hb hx =>
    ⟨hb.chg hw c34 fun y hy hX => by
      obtain ⟨x1, x2, x3⟩ := hx y hy
      rcases hX with hX | hX
      · omega
      · exact x2 hX, fun y hy => ⟨(hx y hy).1, fun hy2 => by
      rcases e5 y hy2 with h4 | h4
      · exact (hx y hy).2.1 h4
      · have := hb.lt hw y hy; omega, (hx y hy).2.2⟩⟩
  rcases Nat.lt_or_ge j vals.length with hj1 | hj1
  · rw [List.getElem?_append_left hj1] at hj
    rw [List.getElem?_append_left (by rw [← h2]; exact hj1)] at hq
    obtain ⟨o', k1, k2⟩ := h3 j x q hj hq
    exact ⟨o', far k1 k2⟩
  · rw [List.getElem?_append_right hj1] at hj
    rw [List.getElem?_append_right (by rw [← h2]; exact hj1), ← h2] at hq
    have hj0 : j - vals.length = 0 := by
      have := (List.getElem?_eq_some_iff.1 hj).1
      simp at this; omega
    rw [hj0] at hj hq
    have hvx : v = x := by simpa using hj
    have huq : u = q := by simpa using hq
    subst hvx huq
    exact ⟨o, far hv ho⟩
end Go.Proofs.YtcgbiedfbacgpaaGreat
/- The search of (*graph.Graph).First. -/
namespace Go.Proofs.YtcgbiedfbacgpaaGreat
open Go Go.Proofs Go.Proofs.Sh
theorem C9s {H0 : AH} {base bA bO bM bG bW g n mx long : Nat} {E : List (List (Nat × Int × Int × Int))} {ends : List Int} {sv av ev cv za : Value} {vals : List Value} {sigma : List ByteArray} {costs : List Int}
  (hpg : ∀ H, Chg (fun y => y = bO ∨ base ≤ y) H0 H → PG H g n 60000 E ends sv av ev cv vals sigma costs)
  (hcA : ∀ H, Chg (fun y => y = bO ∨ base ≤ y) H0 H → H.cell ⟨bA, 0, some 0⟩ = some za)
  (hA : ∀ H, Chg (fun y => y = bO ∨ base ≤ y) H0 H → ∀ j, j ≤ long → ∃ p v, A4b Tryz.prog 103 za (.int .i64 (j : Int)) = some (.pointer (some p)) ∧ H.cell p = some v ∧ ∃ B : List Bool, Sl H v 1 (B.map A0l) ∧ B.length = n ∧ ∀ t : Nat, B[t]? = some true ↔ exP E ends j t)
  (hcM : ∀ H, Chg (fun y => y = bO ∨ base ≤ y) H0 H → H.cell ⟨bM, 0, some 0⟩ = some (.int .i64 (mx : Int)))
  (hcG : ∀ H, Chg (fun y => y = bO ∨ base ≤ y) H0 H → H.cell ⟨bG, 0, some 0⟩ = some (.pointer (some ⟨g, 0, some 0⟩)))
  (hcW : ∀ H, Chg (fun y => y = bO ∨ base ≤ y) H0 H → H.cell ⟨bW, 0, some 0⟩ = some (.func (.func 70) #[] #[.pointer (some ⟨bA, 0, some 0⟩), .pointer (some ⟨bO, 0, some 0⟩), .pointer (some ⟨bM, 0, some 0⟩), .pointer (some ⟨bG, 0, some 0⟩), .pointer (some ⟨bW, 0, some 0⟩)]))
  (hsy : ∀ (s : Nat) r, E[s]? = some r → ∀ e ∈ r, e.2.1 < (sigma.length : Int)) (hsl : sigma.length ≤ 1000) (hmx : mx ≤ 1000) (hlong : long ≤ 1000) :
  ∀ (m : Nat) (H : AH) (Q : Nat → Prop) (s wv : Value) (w : List Nat) (wb : Option Nat) (out : List (List Nat)) (zo : Value) (oo : Option Nat), Chg (fun y => y = bO ∨ base ≤ y) H0 H → base ≤ H.next → SetAt H s n Q → (∀ a b, Q a → A2d E (fun k => k < 0) a b → Q b) → Stk H wv w wb → (∀ y, wb = some y → base ≤ y) → OutAt H base bO zo oo wb out → out.length ≤ mx → w.length + m ≤ long →
   Sh.Call Tryz.prog (knows 7) 70 [s, wv, .int .i64 (m : Int), .pointer (some ⟨bA, 0, some 0⟩), .pointer (some ⟨bO, 0, some 0⟩), .pointer (some ⟨bM, 0, some 0⟩), .pointer (some ⟨bG, 0, some 0⟩), .pointer (some ⟨bW, 0, some 0⟩)] H
    (fun _ H' => Chg (fun y => y = bO ∨ oo = some y ∨ wb = some y) H H' ∧ ∃ zo' oo', OutAt H' base bO zo' oo' wb ((out ++ (A5i sigma.length E ends Q m).map (w ++ ·)).take mx) ∧ (∀ y, oo' = some y → oo = some y ∨ H.next ≤ y) ∧ ∀ y, wb = some y → StkKept H H' y w.length) := by
 intro m
 induction m using Nat.strongRecOn with
 | ind m ih =>
 intro H Q s wv w wb out zo oo hc0 hbn hS hQ hst hwb hO hol hwl
 have hw := hc0.wf
 have hbO := hO.lt
 refine A2a rfl Tryz.func70 rfl (Nat.le_of_ble_eq_true rfl) ?_
 have hres : Tryz.f70.results.toList = [] := rfl
 obtain ⟨L, hL, hnd, hlt, hLQ⟩ := hS
 have hn2 := (hpg H hc0).n2
 have hLl := A9s hnd hlt
 have nw : anew Tryz.prog 3 H (.int .i64 (m : Int)) = some (.pointer (some ⟨H.next, 0, some 0⟩), (H.new 1 [.int .i64 (m : Int)]).2) := A4r A7c rfl
 have k1 := Kept.new hw 1 [.int .i64 (m : Int)]
 have o1 := (Sh.Obj.new (H := H) 1 [.int .i64 (m : Int)]).arr
 have hx1 : H.next < (H.new 1 [.int .i64 (m : Int)]).2.next := Nat.lt_succ_self _
 simp only [↓Sh.dn, sx, reduceCtorEq, Nat.reduceEqDiff, nw]
 generalize hbl : H.next = bl at o1 hx1 ⊢
 generalize (H.new 1 [.int .i64 (m : Int)]).2 = H1 at k1 o1 hx1 ⊢
 have hcx : ∀ {H'}, Kept H H' → Chg (fun y => y = bO ∨ base ≤ y) H0 H' := fun hk => hc0.trans hk.chg
 obtain ⟨r2, H2, hd2, hk2, rfl⟩ := B2i (caps := [.pointer (some ⟨bA, 0, some 0⟩), .pointer (some ⟨bl, 0, some 0⟩)]) (fid := 72) (fun t => tB (exP E ends m t)) (hL.grow (k1.grow hw)) (by omega) k1.wf (fun H' hk t ht => by
  refine A2a rfl Tryz.func72 rfl (Nat.le_of_ble_eq_true rfl) ?_
  have hres : Tryz.f72.results.toList = [.tmp 4] := rfl
  have c1 := hcA H' (hcx (k1.trans hk))
  have c2 : H'.cell ⟨bl, 0, some 0⟩ = some (.int .i64 (m : Int)) := (o1.keep (hk.old bl hx1)).cell 0
  obtain ⟨p, v, i1, i2, B, hB, hBl, hBi⟩ := hA H' (hcx (k1.trans hk)) m (by omega)
  have htl : t < B.length := by rw [hBl]; exact hlt t ht
  obtain ⟨p2, i3, i4⟩ := Sl.elem (s := 1) Tryz.underlying58 A2j hB (i := t) (u := .bool B[t]) (by rw [List.getElem?_map, List.getElem?_eq_getElem htl]; rfl)
  have hg : B[t] = tB (exP E ends m t) := by
   rw [Bool.eq_iff_iff, A70, ← hBi, List.getElem?_eq_getElem htl]
   simp
  simp only [↓Sh.dn, sx, reduceCtorEq, Nat.reduceEqDiff, c1, c2, i1, i2, i3, i4, hres, hg]
  exact Kept.refl hk.wf)
 have k02 := k1.trans hk2
 have c02 := hcx k02
 have hO2 := hO.kept hw k02
 have hst2 := hst.chg hw (k02.chg (X := none')) fun _ _ h => h
 have cO := hO2.cell.cell 0
 have cM := hcM H2 c02
 have cG := hcG H2 c02
 have cL : H2.cell ⟨bl, 0, some 0⟩ = some (.int .i64 (m : Int)) := (o1.keep (hk2.old bl hx1)).cell 0
 have hlO := C2p hO2
 refine ⟨_, _, hd2, ?_⟩
 have skip : (A5i sigma.length E ends Q m = [] ∨ mx ≤ out.length) → Chg (fun y => y = bO ∨ oo = some y ∨ wb = some y) H H2 ∧ ∃ zo' oo', OutAt H2 base bO zo' oo' wb ((out ++ (A5i sigma.length E ends Q m).map (w ++ ·)).take mx) ∧ (∀ y, oo' = some y → oo = some y ∨ bl ≤ y) ∧ ∀ y, wb = some y → StkKept H H2 y w.length := fun hh => by
  have ho : (out ++ (A5i sigma.length E ends Q m).map (w ++ ·)).take mx = out := by
   rcases hh with h1 | h1
   ·rw [h1, List.map_nil, List.append_nil]; exact List.take_of_length_le hol
   ·rw [List.take_append_of_le_length (by omega), List.take_of_length_le hol]
  rw [ho]
  exact ⟨k02.chg, zo, oo, hO2, fun y hy => .inl hy, fun y hy => StkKept.same (k02.old y (hst.lt hw y hy))⟩
 cases hany : L.any fun t => tB (exP E ends m t) with
 | false =>
  have hno : A5i sigma.length E ends Q m = [] := B7f fun s hs he => by
   have := (List.any_eq_true (p := fun t => tB (exP E ends m t))).2 ⟨s, (hLQ s).2 hs, A70.2 he⟩
   rw [hany] at this; cases this
  simp only [↓Sh.dn, sx, Nat.reduceEqDiff, hres]
  exact skip (.inl hno)
 | true =>
 have hsome : ∃ s, Q s ∧ exP E ends m s := by
  obtain ⟨s, h1, h2⟩ := List.any_eq_true.1 hany
  exact ⟨s, (hLQ s).1 h1, A70.1 h2⟩
 simp only [↓Sh.dn, sx, Nat.reduceEqDiff, cO, cM, hlO, A9i]
 by_cases hfull : mx ≤ out.length
 ·simp only [↓Sh.dn, sx, hfull, decide_true, hres]
  exact skip (.inr hfull)
 simp only [↓Sh.dn, sx, Nat.reduceEqDiff, hfull, decide_false, cL]
 cases m with
 | zero =>
  have h00 : decide (((0 : Nat) : Int) = 0) = true := rfl
  simp only [↓Sh.dn, sx, h00]
  obtain ⟨r3, H3, hd3, hk3, o3, hb3, hf3⟩ := C9g (hst2.sl) (by rw [List.length_map]; omega) hk2.wf
  have hO3 := hO2.kept hk2.wf hk3
  have k03 := k02.trans hk3
  obtain ⟨vz, hz1, hz2, hz3⟩ := hO2.ex
  obtain ⟨a, cap, w', H4, H5, oo', rfl, e1, e2, e3, hO5, hc5, hf5⟩ := outPush hO3 hk3.wf (by have := k03.next; omega) hb3 (fun y hy => ⟨by have := hf3 y hy; have := k02.next; omega, fun hy2 => by have := hz1.lt hk2.wf y hy2; have := hf3 y hy; omega, fun hy2 => by have := hst2.lt hk2.wf y hy2; have := hf3 y hy; omega⟩) (fun y hy => by have := hst.lt hw y hy; have := k03.next; omega) (by omega)
  have cO3 := hO3.cell.cell 0
  have hvz := hz1.veq
  refine A6v (fl := [(0, []), (1, []), (2, [0]), (3, []), (4, []), (5, [])]) (by kernel_rfl) (by kernel_rfl) (by kernel_rfl) ?_
  simp only [↓Sh.dn, sx, Nat.reduceEqDiff, wpr, again, A5e, A3s, forall_eq', cO]
  refine ⟨_, _, hd3, ?_⟩
  simp only [sx, cO3, e1, e2, e3, hres]
  have hW : A5i sigma.length E ends Q 0 = [[]] := B27 hQ hsome
  have ho : (out ++ (A5i sigma.length E ends Q 0).map (w ++ ·)).take mx = out ++ [w] := by
   rw [hW]
   simp only [List.map_cons, List.map_nil, List.append_nil]
   exact List.take_of_length_le (by rw [List.length_append, List.length_singleton]; omega)
  rw [ho]
  refine ⟨(k03.chg).trans (hc5.weak fun y hy => hy.imp id .inl), w', oo', hO5, fun y hy => ?_, fun y hy => StkKept.same ?_⟩
  ·rcases hf5 y hy with h1 | h1
   ·exact .inl h1
   ·have := k03.next; exact .inr (by omega)
  ·have hyl := hst.lt hw y hy
   rw [hc5.old y (Nat.lt_of_lt_of_le hyl k03.next) ?_, k03.old y hyl]
   rintro (h1 | h1)
   ·have := hwb y hy; omega
   ·exact (hO.ob y h1).2 hy
 | succ m =>
  have h00 : decide (((m + 1 : Nat) : Int) = 0) = false := by simp; omega
  have hLQ' : (fun s => s ∈ L) = Q := funext fun s => propext (hLQ s)
  obtain ⟨r3, H3, hd3, hk3, vs, hvl, hvs⟩ := C7j (hpg H2 c02) hsy hsl (hL.grow (k02.grow hw)) hlt (by omega) hk2.wf
  rw [hLQ'] at hvs
  have k03 := k02.trans hk3
  have hlv : ∀ H', A4a Tryz.prog .len [117] [r3] H' = some (.int .i64 (sigma.length : Int), H') := fun H' => by
   rw [(hvs H3 fun _ _ _ => rfl).1.len Tryz.underlying117, List.length_map, hvl]
  simp only [↓Sh.dn, sx, reduceCtorEq, Nat.reduceEqDiff, h00, cG]
  refine ⟨_, _, hd3, ?_⟩
  simp only [sx, hlv]
  have hZ : ∀ y, (y = bO ∨ oo = some y ∨ wb = some y) → y < bl := fun y hy => by
   rcases hy with hy | hy | hy
   ·omega
   ·obtain ⟨vz, hz1, _⟩ := hO.ex
    rw [← hbl]; exact hz1.lt hw y hy
   ·rw [← hbl]; exact hst.lt hw y hy
  have hZX : ∀ y, (y = bO ∨ oo = some y ∨ wb = some y) → (y = bO ∨ base ≤ y) := fun y hy => by
   rcases hy with hy | hy | hy
   ·exact .inl hy
   ·exact .inr (hO.ob y hy).1
   ·exact .inr (hwb y hy)
  have hn3 := hk3.next
  have hn2' := hk2.next
  have hst3 := hst.chg hw (k03.chg (X := none')) fun _ _ h => h
  have ho0 : out.take mx = out := List.take_of_length_le hol
  refine A1d sigma.length 34 (List.range' 34 24 ++ [11, 12]) (fun k F H' => Chg (fun y => y = bO ∨ oo = some y ∨ wb = some y) H3 H' ∧ ∃ zo' oo', OutAt H' base bO zo' oo' wb ((out ++ ((List.range k).flatMap fun k => (A5i sigma.length E ends (A7x E Q k) m).map (fun u => w ++ k :: u))).take mx) ∧ (∀ y, oo' = some y → oo = some y ∨ H3.next ≤ y) ∧ ∀ y, wb = some y → StkKept H3 H' y w.length) (by simp only [sx])
   ⟨Chg.refl hk3.wf, zo, oo, by simpa [ho0] using hO2.kept hk2.wf hk3, fun y hy => .inl hy, fun y hy => StkKept.same rfl⟩ ?_ ?_
  ·rintro k F H' hi hF f34 ⟨hc, zo', oo', hO', hof, hsk⟩ kk
   have f1 := hF 1 rfl
   have f4 := hF 4 rfl
   have f5 := hF 5 rfl
   have f7 := hF 7 rfl
   have f10 := hF 10 rfl
   have f32 := hF 32 rfl
   have f33 := hF 33 rfl
   simp only [sx, Nat.reduceEqDiff] at f1 f4 f5 f7 f10 f32 f33
   have ch : Chg (fun y => y = bO ∨ base ≤ y) H0 H' := (hcx k03).then hc fun y hy _ => hZX y hy
   have cO' := hO'.cell.cell 0
   have cM' := hcM H' ch
   have cW' := hcW H' ch
   have hlO' := C2p hO'
   have hblZ : ¬(bl = bO ∨ oo = some bl ∨ wb = some bl) := fun h => Nat.lt_irrefl _ (hZ bl h)
   have ob' : Arr H' bl 0 1 [.int .i64 ((m + 1 : Nat) : Int)] := ((o1.keep (hk2.old bl hx1)).keep (hk3.old bl (by omega))).keep (hc.old bl (by omega) hblZ)
   have cL' := ob'.cell 0
   have hagree : ∀ {H'' : AH}, Chg (fun y => wb = some y) H' H'' → ∀ y, H2.next ≤ y → y < H3.next → H''.objs.get y = H3.objs.get y := fun {H''} hc' y h1 h2 => by
    have hny : ¬(y = bO ∨ oo = some y ∨ wb = some y) := fun h => by have := hZ y h; omega
    rw [hc'.old y (by have := hc.next; omega) fun h => hny (.inr (.inr h)), hc.old y h2 hny]
   obtain ⟨hsl1, hset1⟩ := hvs H' (hagree (Chg.refl hc.wf))
   obtain ⟨v, hv⟩ : ∃ v, vs[k]? = some v := ⟨vs[k]'(by rw [hvl]; exact hi), List.getElem?_eq_getElem _⟩
   obtain ⟨pk, ik, ck⟩ := Sl.elem (s := 1) Tryz.underlying117 B5a hsl1 (i := k) (u := v) (by rw [List.getElem?_map, hv]; rfl)
   obtain ⟨L', hL', hnd', hlt', hLQ2⟩ := hset1 k v hv
   have hlL' := fun H'' => hL'.len Tryz.underlying114 H''
   simp only [List.length_map] at hlL'
   have hst' : Stk H' wv w wb := hst3.keep hsk
   have hrange : ((List.range (k + 1)).flatMap fun k => (A5i sigma.length E ends (A7x E Q k) m).map (fun u => w ++ k :: u)) = ((List.range k).flatMap fun k => (A5i sigma.length E ends (A7x E Q k) m).map (fun u => w ++ k :: u)) ++ (A5i sigma.length E ends (A7x E Q k) m).map (fun u => w ++ k :: u) := by
    rw [List.range_succ, List.flatMap_append]; simp
   rw [hrange] at kk
   generalize hfm : ((List.range k).flatMap fun k => (A5i sigma.length E ends (A7x E Q k) m).map (fun u => w ++ k :: u)) = FM at hO' hlO' kk
   have hltk : (out ++ FM).take mx = ((out ++ FM).take mx).take mx := by rw [List.take_take, Nat.min_self]
   have wi : IntKind.wrap .i64 ((k : Int) + 1) = ((k + 1 : Nat) : Int) := A3a hi (by omega)
   have hol' : ((out ++ FM).take mx).length ≤ mx := by rw [List.length_take]; omega
   have same : ((A5i sigma.length E ends (A7x E Q k) m) = [] ∨ mx ≤ ((out ++ FM).take mx).length) → (out ++ (FM ++ (A5i sigma.length E ends (A7x E Q k) m).map (fun u => w ++ k :: u))).take mx = (out ++ FM).take mx := fun hh => by
    rw [← List.append_assoc, ← B4a]
    rcases hh with h1 | h1
    ·rw [h1, List.map_nil, List.append_nil, List.take_take, Nat.min_self]
    ·rw [List.take_append_of_le_length h1, List.take_take, Nat.min_self]
   simp only [↓Sh.dn, sx, Nat.reduceEqDiff, f34, f32, f33, A1a, hi, decide_true, ik, ck, hlL']
   by_cases hle : L' = []
   ·have hz : decide ((0 : Int) < ((L'.length : Nat) : Int)) = false := by rw [hle]; rfl
    simp only [↓Sh.dn, sx, Nat.reduceEqDiff, hz, f34, wi]
    refine kk _ _ (by repeat (first | refine Same.put ?_ rfl | exact Same.rfl' _)) (by simp only [sx]) ⟨hc, zo', oo', ?_, hof, hsk⟩
    rw [same (.inl (B7f fun s hs _ => by have := (hLQ2 s).2 hs; rw [hle] at this; cases this))]
    exact hO'
   ·have hz : decide ((0 : Int) < ((L'.length : Nat) : Int)) = true := by
      have := List.length_pos_iff.2 hle
      simp; omega
    simp only [↓Sh.dn, sx, Nat.reduceEqDiff, hz, f4, f5, cO', cM', hlO', A1a]
    by_cases hful : ((out ++ FM).take mx).length < mx
    · obtain ⟨a, cap, wv', H4, wb', hwe, p1, p2, p3, p4, p5⟩ := hst'.push hc.wf k
      subst hwe
      have hbs := A5q (H := H') (x := .int .i64 (k : Int)) rfl rfl
      have ha := B7d (H := H') (base := a) (len := w.length) (cap := cap) (x := [.int .i64 (k : Int)]) rfl (by omega)
      rw [p1] at ha
      have hwb2 : ∀ y, wb = some y → wb' = some y := fun y hy => by
        rcases p4 with h1 | ⟨h1, _⟩
        · rw [h1]; exact hy
        · rw [h1] at hy; cases hy
      have hwb3 : ∀ y, wb' = some y → wb = some y ∨ H'.next ≤ y := fun y hy => by
        rcases p4 with h1 | ⟨_, h1⟩
        · rw [h1] at hy; exact .inl hy
        · exact .inr (h1 y hy)
      have hcn := hc.next
      have hkn := k03.next
      have hwb' : ∀ y, wb' = some y → base ≤ y := fun y hy => by
        rcases hwb3 y hy with h1 | h1
        · exact hwb y h1
        · omega
      have ch4 : Chg (fun y => y = bO ∨ base ≤ y) H0 H4 := ch.trans (p3.weak fun y hy => .inr (hwb y hy))
      have hO4 := (hO'.hand hc.wf hwb3).chg hc.wf p3 hwb2 hwb'
      have hpn := p3.next
      obtain ⟨r5, H5, hd5, hc5, zo5, oo5, hO5, hof5, hsk5⟩ := ih m (Nat.lt_succ_self m) H4 (A7x E Q k) v wv' (w ++ [k]) wb' ((out ++ FM).take mx) zo' oo' ch4 (by omega) ((hvs H4 (hagree p3)).2 k v hv) B91 p2 hwb' hO4 hol' (by rw [List.length_append, List.length_singleton]; omega)
      have cW4 := hcW H4 ch4
      have cL4 : H4.cell ⟨bl, 0, some 0⟩ = some (.int .i64 ((m + 1 : Nat) : Int)) := (ob'.keep (p3.old bl (by omega) fun h => hblZ (.inr (.inr h)))).cell 0
      have cLn : (H'.new 1 [.int .i64 (k : Int)]).2.cell ⟨bl, 0, some 0⟩ = some (.int .i64 ((m + 1 : Nat) : Int)) := (ob'.keep (B92 (by omega))).cell 0
      have cWn := hcW _ (ch.trans (Kept.new hc.wf 1 [.int .i64 (k : Int)]).chg)
      have wl : IntKind.wrap .i64 (((m + 1 : Nat) : Int) - 1) = (m : Int) := by rw [wrap64 (by omega) (by omega)]; omega
      have hvf : veq (.func (.func 70) #[] #[.pointer (some ⟨bA, 0, some 0⟩), .pointer (some ⟨bO, 0, some 0⟩), .pointer (some ⟨bM, 0, some 0⟩), .pointer (some ⟨bG, 0, some 0⟩), .pointer (some ⟨bW, 0, some 0⟩)]) (.func (.func 70) #[] #[.pointer (some ⟨bA, 0, some 0⟩), .pointer (some ⟨bO, 0, some 0⟩), .pointer (some ⟨bM, 0, some 0⟩), .pointer (some ⟨bG, 0, some 0⟩), .pointer (some ⟨bW, 0, some 0⟩)]) = true := by
        simp [veq, veqs, B6g]
      simp only [↓Sh.dn, sx, hful, decide_true]
      refine A6v (fl := [(0, []), (1, []), (2, []), (3, []), (4, []), (6, []), (7, []), (5, [6, 0]), (8, [])]) (by kernel_rfl) (by kernel_rfl) (by kernel_rfl) ?_
      simp only [↓Sh.dn, sx, Nat.reduceEqDiff, wpr, again, A5e, A1y, forall_eq', f1, f7, f10, cW', hbs, A6a, cLn, ha, cW4, cL4, hvf, A1y, wl]
      refine ⟨_, _, by first | exact hd5 | simpa using hd5, ?_⟩
      simp only [sx, f34, wi]
      refine kk _ _ (by repeat (first | refine Same.put ?_ rfl | exact Same.rfl' _)) (by simp only [sx]) ⟨(hc.trans (p3.weak fun y hy => .inr (.inr hy))).then hc5 fun y hy hlt3 => ?_, zo5, oo5, ?_, fun y hy => ?_, fun y hy => ?_⟩
      · rcases hy with h1 | h1 | h1
        · exact .inl h1
        · rcases hof y h1 with h2 | h2
          · exact .inr (.inl h2)
          · omega
        · rcases hwb3 y h1 with h2 | h2
          · exact .inr (.inr h2)
          · omega
      · have he : (out ++ (FM ++ (A5i sigma.length E ends (A7x E Q k) m).map (fun u => w ++ k :: u))).take mx = ((out ++ FM).take mx ++ (A5i sigma.length E ends (A7x E Q k) m).map (w ++ [k] ++ ·)).take mx := by
          rw [← List.append_assoc, ← B4a]
          congr 3
          funext u
          simp
        rw [he]
        exact hO5.hand hc5.wf fun y hy => .inl (hwb2 y hy)
      · rcases hof5 y hy with h1 | h1
        · exact hof y h1
        · exact .inr (by omega)
      · exact ((hsk y hy).trans (p5 y hy) (Nat.le_refl _)).trans (hsk5 y (hwb2 y hy)) (by rw [List.length_append]; exact Nat.le_add_right _ _)
    · simp only [↓Sh.dn, sx, Nat.reduceEqDiff, hful, decide_false, f34, wi]
      refine kk _ _ (by repeat (first | refine Same.put ?_ rfl | exact Same.rfl' _)) (by simp only [sx]) ⟨hc, zo', oo', ?_, hof, hsk⟩
      rw [same (.inr (by omega))]
      exact hO'
  ·rintro F H' hF f34 ⟨hc, zo', oo', hO', hof, hsk⟩
   have f33 := hF 33 rfl
   simp only [sx, Nat.reduceEqDiff] at f33
   simp only [↓Sh.dn, sx, f33, f34, A1a, Nat.lt_irrefl, decide_false, hres]
   have he : (A5i sigma.length E ends Q (m + 1)).map (w ++ ·) = (List.range sigma.length).flatMap fun k => (A5i sigma.length E ends (A7x E Q k) m).map (fun u => w ++ k :: u) := by
    rw [B07, List.map_flatMap]
    congr 1
    funext k
    rw [List.map_map]
    rfl
   rw [he]
   refine ⟨k03.chg.trans hc, zo', oo', hO', fun y hy => ?_, fun y hy => ?_⟩
   ·rcases hof y hy with h1 | h1
    ·exact .inl h1
    ·exact .inr (by omega)
   ·exact (StkKept.same (L := w.length) (k03.old y (hst.lt hw y hy))).trans (hsk y hy) (Nat.le_refl _)
end Go.Proofs.YtcgbiedfbacgpaaGreat
/- (*graph.Graph).First. -/
namespace Go.Proofs.YtcgbiedfbacgpaaGreat
open Go Go.Proofs Go.Proofs.Sh
def C0b (H : AH) (v : Value) (l : List (List Nat)) : Prop := ∃ (oo : Option Nat) (vals : List Value), Buf H 1 v (vals.map fun x => [x]) oo ∧ vals.length = l.length ∧ ∀ (j : Nat) x u, vals[j]? = some x → l[j]? = some u → Sl H x 1 (u.map natC)
noncomputable def A5k (sg : Nat) (E : List (List (Nat × Int × Int × Int))) (ends : List Int) (k : Nat) : List (List Nat) := (List.range k).flatMap fun m => A5i sg E ends (Clo (A2d E fun k => k < 0) fun s => s = 0) m
theorem B26 (sg : Nat) (E : List (List (Nat × Int × Int × Int))) (ends : List Int) {i n : Nat} (h : i ≤ n) : ∃ t, A5k sg E ends n = A5k sg E ends i ++ t := by
 induction n with
 | zero => exact ⟨[], by rw [show i = 0 by omega]; simp⟩
 | succ n ih =>
  by_cases hin : i = n + 1
  ·exact ⟨[], by rw [hin]; simp⟩
  obtain ⟨t, ht⟩ := ih (by omega)
  refine ⟨t ++ A5i sg E ends (Clo (A2d E fun k => k < 0) fun s => s = 0) n, ?_⟩
  unfold A5k at ht ⊢
  rw [List.range_succ, List.flatMap_append, ht]
  simp
theorem C2n {t : Nat} {H : AH} {z x : Value} (hs : A8b Tryz.prog t = some 1) (hz : isCell z = true) (hx : isCell x = true) :
  anew Tryz.prog t H z = some (.pointer (some ⟨H.next, 0, some 0⟩), (H.new 1 [z]).2) ∧ A8e Tryz.prog t (H.new 1 [z]).2 x (.pointer (some ⟨H.next, 0, some 0⟩)) = some (H.new 1 [x]).2 :=
 ⟨A4r hs hz, by rw [A2c hs hx]; exact A4o rfl⟩
theorem C8m {H : AH} {g n mx long : Nat} {E : List (List (Nat × Int × Int × Int))} {ends : List Int} {sv av ev cv : Value} {vals : List Value} {sigma : List ByteArray} {costs : List Int} (h : PG H g n 60000 E ends sv av ev cv vals sigma costs) (hsy : ∀ (s : Nat) r, E[s]? = some r → ∀ e ∈ r, e.2.1 < (sigma.length : Int)) (hsl : sigma.length ≤ 1000) (hmx : mx ≤ 1000) (hlong : long ≤ 900) (hw : Wf H) :
  Sh.Call Tryz.prog (knows 7) 34 [.pointer (some ⟨g, 0, some 0⟩), .int .i64 (mx : Int), .int .i64 (long : Int)] H (fun r H' => Kept H H' ∧ C0b H' r ((A5k sigma.length E ends (long + 1)).take mx)) := by
 refine A2a rfl Tryz.func34 rfl (Nat.le_of_ble_eq_true rfl) ?_
 have hres : Tryz.f34.results.toList = [.tmp 6] := rfl
 obtain ⟨n1, _⟩ := C2n (H := H) (x := .pointer none) B83 (z := .pointer (some ⟨g, 0, some 0⟩)) rfl rfl
 have k1 := Kept.new hw 1 [.pointer (some ⟨g, 0, some 0⟩)]
 have oG := (Sh.Obj.new (H := H) 1 [.pointer (some ⟨g, 0, some 0⟩)]).arr
 have x1 : H.next < (H.new 1 [.pointer (some ⟨g, 0, some 0⟩)]).2.next := Nat.lt_succ_self _
 simp only [↓Sh.dn, sx, Nat.reduceEqDiff, n1]
 generalize hbG : H.next = bG at oG x1 ⊢
 generalize (H.new 1 [.pointer (some ⟨g, 0, some 0⟩)]).2 = H1 at k1 oG x1 ⊢
 obtain ⟨n2, _⟩ := C2n (H := H1) (x := .int .i64 0) A7c (z := .int .i64 (mx : Int)) rfl rfl
 have k2 := Kept.new k1.wf 1 [.int .i64 (mx : Int)]
 have oM := (Sh.Obj.new (H := H1) 1 [.int .i64 (mx : Int)]).arr
 have x2 : H1.next < (H1.new 1 [.int .i64 (mx : Int)]).2.next := Nat.lt_succ_self _
 simp only [sx, n2]
 generalize hbM : H1.next = bM at oM x2 x1 ⊢
 generalize (H1.new 1 [.int .i64 (mx : Int)]).2 = H2 at k2 oM x2 ⊢
 obtain ⟨n3, _⟩ := C2n (H := H2) (x := .slice none 0 0) C4s (z := .slice none 0 0) rfl rfl
 have k3 := Kept.new k2.wf 1 [.slice none 0 0]
 have oO := (Sh.Obj.new (H := H2) 1 [.slice none 0 0]).arr
 have x3 : H2.next < (H2.new 1 [.slice none 0 0]).2.next := Nat.lt_succ_self _
 have cG3 : (H2.new 1 [.slice none 0 0]).2.cell ⟨bG, 0, some 0⟩ = some (.pointer (some ⟨g, 0, some 0⟩)) := ((oG.keep (k2.old bG (by omega))).keep (k3.old bG (by omega))).cell 0
 simp only [sx, n3, cG3]
 generalize hbO : H2.next = bO at oO x3 x2 ⊢
 generalize (H2.new 1 [.slice none 0 0]).2 = H3 at k3 oO x3 cG3 ⊢
 have hk3 := (k1.trans k2).trans k3
 obtain ⟨r4, H4, hd4, hk4, ob, hA⟩ := B4k (h.kept hw hk3) (by omega) (most := long) (by omega) hk3.wf
 refine ⟨_, _, hd4, ?_⟩
 have hAc : isCell r4 = true := by
  obtain ⟨_, _, hb, _⟩ := hA
  exact hb.isCell
 obtain ⟨n5, s5⟩ := C2n (H := H4) (x := r4) (z := .slice none 0 0) B4p rfl hAc
 have k5 := Kept.new hk4.wf 1 [r4]
 have oA := (Sh.Obj.new (H := H4) 1 [r4]).arr
 have x5 : H4.next < (H4.new 1 [r4]).2.next := Nat.lt_succ_self _
 simp only [sx, n5, s5]
 have x4 := hk4.next
 generalize hbA : H4.next = bA at oA x5 x4 ⊢
 generalize (H4.new 1 [r4]).2 = H5 at k5 oA x5 ⊢
 obtain ⟨n6, s6⟩ := C2n (H := H5) (x := .func (.func 70) #[] #[.pointer (some ⟨bA, 0, some 0⟩), .pointer (some ⟨bO, 0, some 0⟩), .pointer (some ⟨bM, 0, some 0⟩), .pointer (some ⟨bG, 0, some 0⟩), .pointer (some ⟨H5.next, 0, some 0⟩)]) (z := .nilFunc) size_113 rfl rfl
 have k6 := Kept.new k5.wf 1 [.func (.func 70) #[] #[.pointer (some ⟨bA, 0, some 0⟩), .pointer (some ⟨bO, 0, some 0⟩), .pointer (some ⟨bM, 0, some 0⟩), .pointer (some ⟨bG, 0, some 0⟩), .pointer (some ⟨H5.next, 0, some 0⟩)]]
 have oW := (Sh.Obj.new (H := H5) 1 [.func (.func 70) #[] #[.pointer (some ⟨bA, 0, some 0⟩), .pointer (some ⟨bO, 0, some 0⟩), .pointer (some ⟨bM, 0, some 0⟩), .pointer (some ⟨bG, 0, some 0⟩), .pointer (some ⟨H5.next, 0, some 0⟩)]]).arr
 have x6 : H5.next < (H5.new 1 [.func (.func 70) #[] #[.pointer (some ⟨bA, 0, some 0⟩), .pointer (some ⟨bO, 0, some 0⟩), .pointer (some ⟨bM, 0, some 0⟩), .pointer (some ⟨bG, 0, some 0⟩), .pointer (some ⟨H5.next, 0, some 0⟩)]]).2.next := Nat.lt_succ_self _
 have hk36 := (hk4.trans k5).trans k6
 have cG6 := ((oG.keep (k2.old bG (by omega))).keep (k3.old bG (by omega))).keep (hk36.old bG (by omega))
 have cG6' := cG6.cell 0
 simp only [List.getElem?_cons_zero] at cG6'
 simp only [sx, n6, s6, cG6']
 generalize hbW : H5.next = bW at k6 oW x6 x5 hk36 cG6 ⊢
 generalize (H5.new 1 [.func (.func 70) #[] #[.pointer (some ⟨bA, 0, some 0⟩), .pointer (some ⟨bO, 0, some 0⟩), .pointer (some ⟨bM, 0, some 0⟩), .pointer (some ⟨bG, 0, some 0⟩), .pointer (some ⟨bW, 0, some 0⟩)]]).2 = H6 at k6 oW x6 hk36 cG6 ⊢
 have hk6 := hk3.trans hk36
 obtain ⟨r7, H0, hd7, hk7, out0, b0, hb0, hf0, hnd0, hlt0, hi0⟩ := C3j (h.kept hw hk6) hk6.wf
 have hk0 := hk6.trans hk7
 have x7 := hk7.next
 refine ⟨_, _, hd7, ?_⟩
 have hk37 := hk36.trans hk7
 have hold : ∀ {H' : AH} {y : Nat}, Chg (fun y => y = bO ∨ H0.next ≤ y) H0 H' → y < H0.next → y ≠ bO → H'.objs.get y = H0.objs.get y := fun hc hy hne => hc.old _ hy (by rintro (h1 | h1) <;> omega)
 have hO0 : OutAt H0 H0.next bO (.slice none 0 0) none none [] := ⟨oO.keep (hk37.old bO (by omega)), ⟨[], .void none, rfl, fun j v u hj => by simp at hj⟩, (fun y hy => by cases hy), by omega⟩
 have oG0 := cG6.keep (hk7.old bG (by omega))
 have oM0 := ((oM.keep (k3.old bM (by omega))).keep (hk36.old bM (by omega))).keep (hk7.old bM (by omega))
 have oA0 := (oA.keep (k6.old bA (by omega))).keep (hk7.old bA (by omega))
 have oW0 := oW.keep (hk7.old bW (by omega))
 have hA0 := hA.kept hk4.wf ((k5.trans k6).trans hk7)
 have hwalk := C9s (H0 := H0) (base := H0.next) (bA := bA) (bO := bO) (bM := bM) (bG := bG) (bW := bW) (mx := mx) (long := long) (za := r4)
  (fun H' hc => h.kept hw (hk0.then (Nat.le_refl _) (hc.weak fun y hy => by rcases hy with h1 | h1 <;> omega)))
  (fun H' hc => (oA0.keep (hold hc (by omega) (by omega))).cell 0)
  (fun H' hc j hj => (hA0.keepR hk0.wf fun y h1 h2 => hold hc h2 (by omega)).at (by omega))
  (fun H' hc => (oM0.keep (hold hc (by omega) (by omega))).cell 0)
  (fun H' hc => (oG0.keep (hold hc (by omega) (by omega))).cell 0)
  (fun H' hc => (oW0.keep (hold hc (by omega) (by omega))).cell 0)
  hsy hsl hmx (by omega)
 have hQ0 : (fun t => t ∈ out0) = Clo (A2d E fun k => k < 0) fun s => s = 0 := funext fun t => propext (hi0 t)
 have hS0 : ∀ {H' : AH}, Chg (fun y => y = bO ∨ H0.next ≤ y) H0 H' → SetAt H' r7 n (Clo (A2d E fun k => k < 0) fun s => s = 0) := fun {H'} hc =>
  ⟨out0, (hb0.keep fun y hy => hold hc (hb0.lt hk7.wf y hy) (by have := hf0 y hy; omega)).toSl, hnd0, hlt0, hi0⟩
 have fin : ∀ {H' : AH} {zo : Value} {oo : Option Nat} {i : Nat}, i ≤ long + 1 → OutAt H' H0.next bO zo oo none ((A5k sigma.length E ends i).take mx) → (i = long + 1 ∨ mx ≤ ((A5k sigma.length E ends i).take mx).length) → C0b H' zo ((A5k sigma.length E ends (long + 1)).take mx) := fun {H' zo oo i} hi hO hh => by
  have he : (A5k sigma.length E ends (long + 1)).take mx = (A5k sigma.length E ends i).take mx := by
   rcases hh with h1 | h1
   ·rw [h1]
   ·obtain ⟨t, ht⟩ := B26 sigma.length E ends hi
    rw [ht, List.take_append_of_le_length]
    rw [List.length_take] at h1; omega
  rw [he]
  obtain ⟨vs, h1, h2, h3⟩ := hO.ex
  exact ⟨oo, vs, h1, h2, fun j v u hv hu => by
   obtain ⟨o, h4, _⟩ := h3 j v u hv hu
   exact h4.toSl⟩
 have fz : A5k sigma.length E ends 0 = [] := rfl
 refine A1d (long + 1) 11 (List.range' 11 22) (fun i F H' => Chg (fun y => y = bO ∨ H0.next ≤ y) H0 H' ∧ ∃ zo oo, OutAt H' H0.next bO zo oo none ((A5k sigma.length E ends i).take mx)) (by simp only [sx]) ⟨Chg.refl hk0.wf, _, none, by rw [fz]; simpa using hO0⟩ ?_ ?_
 ·rintro i F H' hi hF f11 ⟨hc, zo, oo, hO⟩ k
  have f2 := hF 2 rfl
  have f4 := hF 4 rfl
  have f7 := hF 7 rfl
  have f9 := hF 9 rfl
  have f10 := hF 10 rfl
  simp only [sx, Nat.reduceEqDiff] at f2 f4 f7 f9 f10
  have cO := hO.cell.cell 0
  simp only [List.getElem?_cons_zero] at cO
  have cM := (oM0.keep (hold hc (by omega) (by omega))).cell 0
  have cW := (oW0.keep (hold hc (by omega) (by omega))).cell 0
  simp only [List.getElem?_cons_zero] at cM cW
  have hlO := C2p hO
  have hil : i ≤ long := by omega
  simp only [↓Sh.dn, sx, Nat.reduceEqDiff, f2, f11, A9i, hil, decide_true, f4, f7, cO, cM, hlO, A1a]
  by_cases hfull : ((A5k sigma.length E ends i).take mx).length < mx
  ·obtain ⟨r8, H8, hd8, hc8, zo8, oo8, hO8, hof8, _⟩ := hwalk i H' (Clo (A2d E fun k => k < 0) fun s => s = 0) r7 (.slice none 0 0) [] none _ zo oo hc hc.next (hS0 hc) (fun a b h1 h2 => .step h1 h2) (.void none) (fun y hy => by cases hy) hO (by rw [List.length_take]; omega) (by simp; omega)
   simp only [↓Sh.dn, sx, Nat.reduceEqDiff, hfull, decide_true, f9, f10, f11, cW]
   refine ⟨_, _, by first | exact hd8 | simpa using hd8, ?_⟩
   simp only [A3a hi (by omega)]
   refine k _ _ (by repeat (first | refine Same.put ?_ rfl | exact Same.rfl' _)) (by simp only [sx]) ⟨hc.trans (hc8.weak fun y hy => ?_), zo8, oo8, ?_⟩
   ·rcases hy with h1 | h1 | h1
    ·exact .inl h1
    ·exact .inr (hO.ob y h1).1
    ·cases h1
   ·have he : (A5k sigma.length E ends (i + 1)).take mx = ((A5k sigma.length E ends i).take mx ++ (A5i sigma.length E ends (Clo (A2d E fun k => k < 0) fun s => s = 0) i).map ([] ++ ·)).take mx := by
      rw [B4a]
      unfold A5k
      rw [List.range_succ, List.flatMap_append]
      simp
    rw [he]
    exact hO8
  ·simp only [↓Sh.dn, sx, Nat.reduceEqDiff, hfull, decide_false, f7, cO, hres]
   exact ⟨hk0.then (Nat.le_refl _) (hc.weak fun y hy => by rcases hy with h1 | h1 <;> omega), fin (by omega) hO (.inr (by omega))⟩
 ·rintro F H' hF f11 ⟨hc, zo, oo, hO⟩
  have f2 := hF 2 rfl
  have f7 := hF 7 rfl
  simp only [sx, Nat.reduceEqDiff] at f2 f7
  have cO := hO.cell.cell 0
  simp only [List.getElem?_cons_zero] at cO
  have hno : ¬(long + 1 ≤ long) := by omega
  simp only [↓Sh.dn, sx, Nat.reduceEqDiff, f2, f7, f11, A9i, hno, decide_false, cO, hres]
  exact ⟨hk0.then (Nat.le_refl _) (hc.weak fun y hy => by rcases hy with h1 | h1 <;> omega), fin (Nat.le_refl _) hO (.inl rfl)⟩
end Go.Proofs.YtcgbiedfbacgpaaGreat
/- (*graph.Graph).Beyond. -/
namespace Go.Proofs.YtcgbiedfbacgpaaGreat
open Go Go.Proofs Go.Proofs.Sh
theorem B66 {H : AH} {g n most : Nat} {E : List (List (Nat × Int × Int × Int))} {ends : List Int} {sv av ev cv : Value} {vals : List Value} {sigma : List ByteArray} {costs : List Int} (h : PG H g n 60000 E ends sv av ev cv vals sigma costs) (hsg : sigma.length ≤ 1048576) (hm : most ≤ 1000) (hw : Wf H) :
  Sh.Call Tryz.prog (knows 7) 58 [.pointer (some ⟨g, 0, some 0⟩), .int .i64 (most : Int)] H (fun r H' => Kept H H' ∧ r = .bool (tB (∃ j, most < j ∧ exP E ends j 0))) := by
 refine A2a rfl Tryz.func58 rfl (Nat.le_of_ble_eq_true rfl) ?_
 have hres : Tryz.f58.results.toList = [.tmp 4] := rfl
 have hn1 := h.n1
 have hn2 := h.n2
 have hc1 := h.gr.arr.cell 1
 have hlenA : ∀ H', A4a Tryz.prog .len [68] [av] H' = some (.int .i64 (n : Int), H') := fun H' => by
  rw [h.gr.jag.sl.len Tryz.underlying68, List.length_map, h.gr.jag.len]; unfold A3j; rw [List.length_map, h.le]
 obtain ⟨r1, H1, hd1, hk1, g1, rfl, R, base, hbase, hG, hRl, hRr, hRg⟩ := B4b h hsg hw
 obtain ⟨sv', av', ev', cv', vals', hR⟩ := hG.read
 have hPG : PG H1 g1 n 180000000 R (List.replicate n 0) sv' av' ev' cv' vals' sigma (List.replicate n 0) := ⟨hR, hRl, by simp, h.n1, h.n2, fun s r hr => hRr r (List.mem_of_getElem? hr)⟩
 obtain ⟨nw, st⟩ := C1s (H := H1) (g := g1)
 have kn := Kept.new hk1.wf 1 [.pointer (some ⟨g1, 0, some 0⟩)]
 have obx := (Sh.Obj.new (H := H1) 1 [.pointer (some ⟨g1, 0, some 0⟩)]).arr
 have hbx : (H1.new 1 [.pointer (some ⟨g1, 0, some 0⟩)]).2.cell ⟨H1.next, 0, some 0⟩ = some (.pointer (some ⟨g1, 0, some 0⟩)) := obx.cell 0
 have hP2 := hPG.kept hk1.wf kn
 have hk2 := hk1.trans kn
 simp only [↓Sh.dn, sx, reduceCtorEq, Nat.reduceEqDiff]
 refine ⟨_, _, hd1, ?_⟩
 simp only [sx, nw, st]
 generalize hbxe : H1.next = bx at hbx ⊢
 generalize (H1.new 1 [.pointer (some ⟨g1, 0, some 0⟩)]).2 = H2 at hP2 hk2 hbx ⊢
 have hsp := B4z hP2 hbx hk2.wf
 obtain ⟨r3, H3, hd3, hk3, ob, hA⟩ := B4k (h.kept hw hk2) hsg hm hk2.wf
 have hk03 := hk2.trans hk3
 have hlA := hA.len
 obtain ⟨p, v, i1, i2, X, hX, hXl, hXi⟩ := hA.at (j := most) (Nat.lt_succ_self _)
 have wl : IntKind.wrap .i64 (((most + 1 : Nat) : Int) - 1) = (most : Int) := by rw [wrap64 (by omega) (by omega)]; omega
 have q1 := A7b (hk03.grow hw) hc1
 have wn : IntKind.wrap .i64 ((n : Int) + 1) = ((n + 1 : Nat) : Int) := by rw [wrap64 (by omega) (by omega)]; omega
 refine ⟨_, _, hd3, ?_⟩
 simp only [sx, hlA, wl, i1, i2, q1, hlenA, wn]
 refine A1d (n + 1) 27 (List.range' 27 10 ++ [8]) (fun i F H' => Kept H2 H' ∧ ∃ v, F.get 8 = some v ∧ ∃ B : List Bool, Sl H' v 1 (B.map A0l) ∧ B.length = n ∧ (∀ t : Nat, B[t]? = some true ↔ exP E ends (most + i) t) ∧ ∀ j, most < j → j ≤ most + i → ¬exP E ends j 0) (by simp only [sx]) ⟨hk3, v, by simp only [sx, Nat.reduceEqDiff], X, hX, hXl, hXi, fun j h1 h2 => by omega⟩ ?_ ?_
 ·rintro i F H' hi hF f27 ⟨hk, v, f8, B, hB, hBl, hBi, hno⟩ k
  have f5 := hF 5 rfl
  have f6 := hF 6 rfl
  have f26 := hF 26 rfl
  simp only [sx, Nat.reduceEqDiff] at f5 f6 f26
  have cb := A7b (hk.grow hk2.wf) hbx
  obtain ⟨r6, H6, hd6, hk6, B6, o6, hB6, hB6o, hB6l, hB6i⟩ := B60 (caps := [.pointer (some ⟨bx, 0, some 0⟩)]) (fid := 90) (hP2.kept hk2.wf hk) hB hBl hk.wf (fun H'' hk'' => hsp H'' (hk.trans hk''))
  have hQ : ∀ t : Nat, B6[t]? = some true ↔ exP E ends (most + (i + 1)) t := fun t => by rw [hB6i, C4a hRg hBi]; rfl
  obtain ⟨b, hb⟩ : ∃ b, B6[0]? = some b := ⟨B6[0]'(by rw [hB6l]; exact hn1), List.getElem?_eq_getElem _⟩
  obtain ⟨q, e1, e2⟩ := Sl.elem (s := 1) Tryz.underlying58 A2j hB6.toSl (i := 0) (u := .bool b) (by rw [List.getElem?_map, hb]; rfl)
  have e1' : A4b Tryz.prog 58 r6 (.int .i64 0) = some (.pointer (some q)) := e1
  have hlt : decide ((i : Int) < ((n + 1 : Nat) : Int)) = true := by simp; omega
  simp only [↓Sh.dn, sx, Nat.reduceEqDiff, f27, f26, hlt, f5, cb, f6, f8]
  refine ⟨_, _, by first | exact hd6 | simpa using hd6, ?_⟩
  simp only [sx, e1', e2]
  cases b with
  | true =>
   have : tB (∃ j, most < j ∧ exP E ends j 0) = true := A70.2 ⟨most + (i + 1), by omega, (hQ 0).1 hb⟩
   simp only [↓Sh.dn, sx, hres, this]
   exact hk2.trans (hk.trans hk6)
  | false =>
   simp only [↓Sh.dn, sx, Nat.reduceEqDiff, f27, A3a hi (by omega)]
   refine k _ _ (by repeat (first | refine Same.put ?_ rfl | exact Same.rfl' _)) (by simp only [sx]) ⟨hk.trans hk6, r6, by simp only [sx, Nat.reduceEqDiff], B6, hB6.toSl, hB6l, hQ, fun j h1 h2 h3 => ?_⟩
   by_cases hj : j = most + (i + 1)
   ·subst hj
    have := (hQ 0).2 h3
    rw [hb] at this; cases this
   ·exact hno j h1 (by omega) h3
 ·rintro F H' hF f27 ⟨hk, v, f8, B, hB, hBl, hBi, hno⟩
  have f26 := hF 26 rfl
  simp only [sx, Nat.reduceEqDiff] at f26
  have hlt : decide (((n + 1 : Nat) : Int) < ((n + 1 : Nat) : Int)) = false := by simp
  have : tB (∃ j, most < j ∧ exP E ends j 0) = false := by
   cases hb : tB (∃ j, most < j ∧ exP E ends j 0) with
   | false => rfl
   | true =>
    obtain ⟨m, h1, h2⟩ := A70.1 hb
    obtain ⟨j, h3, h4, h5⟩ := B62 (n := n) (fun s t hst => by
     obtain ⟨r, k1, e, k2, k3, _⟩ := hst
     rw [← k3]; exact (h.to s r k1).2 e k2) m h1 h2
    exact absurd h5 (hno j h3 (by omega))
  simp only [↓Sh.dn, sx, f26, f27, hlt, hres, this]
  exact hk2.trans hk
end Go.Proofs.YtcgbiedfbacgpaaGreat
/- graph.Texts. -/
namespace Go.Proofs.YtcgbiedfbacgpaaGreat
open Go Go.Proofs Go.Proofs.Sh
theorem C1k {H : AH} {v u : Value} {sigma : List ByteArray} {w : List Nat} (hs : Sl H v 1 (sigma.map A6b)) (hu : Sl H u 1 (w.map natC)) (hwl : w.length ≤ 1000) (hin : ∀ k ∈ w, k < sigma.length) (hw : Wf H) :
  Sh.Call Tryz.prog (knows 7) 35 [v, u] H (fun r H' => Kept H H' ∧ ∃ o, LS H' H.next r (w.map fun k => sigma.getD k A9a) o) := by
 refine A2a rfl Tryz.func35 rfl (Nat.le_of_ble_eq_true rfl) ?_
 have hres : Tryz.f35.results.toList = [.tmp 4] := rfl
 have hlen := fun H' => hu.len Tryz.underlying69 H'
 simp only [List.length_map] at hlen
 have hmk : A6f Tryz.prog 22 (.int .i64 0) (.int .i64 (w.length : Int)) H = some (.slice (some ⟨H.next, 0, some 0⟩) 0 w.length, (H.new 1 (List.replicate w.length (.string ⟨#[]⟩))).2) := mk_22 (H := H) (l := 0) (c := w.length) (Nat.zero_le _) (by omega)
 have k1 := Kept.new hw 1 (List.replicate w.length (.string ⟨#[]⟩))
 have f1 := Buf.room hw (.string ⟨#[]⟩) (c := w.length) (by omega)
 simp only [↓Sh.dn, sx, Nat.reduceEqDiff, hlen, hmk]
 have l1 : LS (H.new 1 (List.replicate w.length (.string ⟨#[]⟩))).2 H.next (.slice (some ⟨H.next, 0, some 0⟩) 0 w.length) [] (if w.length = 0 then none else some H.next) := ⟨f1, fun y hy => by
  split at hy
  ·cases hy
  ·exact Nat.le_of_eq (Option.some.inj hy)⟩
 refine A1d w.length 13 (List.range' 13 12 ++ [5, 7]) (fun i F H' => Kept H H' ∧ ∃ z, F.get 5 = some z ∧ ∃ o, LS H' H.next z ((w.take i).map fun k => sigma.getD k A9a) o) (by simp only [sx]) ⟨k1, _, by simp only [sx, Nat.reduceEqDiff], _, l1⟩ ?_ ?_
 ·rintro i F H' hi hF f13 ⟨hk, z, f5, o, hl⟩ k
  have f0 := hF 0 rfl
  have f11 := hF 11 rfl
  have f12 := hF 12 rfl
  simp only [sx, reduceCtorEq, Nat.reduceEqDiff] at f0 f11 f12
  obtain ⟨p, hia, hc⟩ := A03 Tryz.underlying69 A7c (hu.grow (hk.grow hw)) hi
  have hks := hin _ (List.getElem_mem hi)
  have htake : w.take (i + 1) = w.take i ++ [w[i]] := by rw [List.take_add_one, List.getElem?_eq_getElem hi]; rfl
  generalize w[i] = x at hc htake hks
  obtain ⟨q, e1, e2⟩ := Sl.elem (s := 1) Tryz.underlying22 A1j (hs.grow (hk.grow hw)) (i := x) (u := .string (sigma.getD x A9a)) (by rw [List.getElem?_map, List.getElem?_eq_getElem hks]; simp [A6b, List.getD, List.getElem?_eq_getElem hks])
  obtain ⟨a, cap, w', H4, o2, rfl, e3, e4, e5, e6⟩ := B48 (sigma.getD x A9a) hk.next hk.wf hl (by rw [List.length_map, List.length_take]; omega)
  simp only [↓Sh.dn, sx, reduceCtorEq, Nat.reduceEqDiff, f0, f5, f11, f12, f13, A1a, hi, decide_true, hia, hc, e1, e2, e3, e4, A3a hi (by omega)]
  refine k _ _ (by repeat (first | refine Same.put ?_ rfl | exact Same.rfl' _)) (by simp only [sx]) ⟨hk.then (Nat.le_refl _) (e6.weak fun y hy => hl.fr y hy), w', by simp only [sx, Nat.reduceEqDiff], o2, by rw [htake, List.map_append]; exact e5⟩
 ·rintro F H' hF f13 ⟨hk, z, f5, o, hl⟩
  have f12 := hF 12 rfl
  simp only [sx, Nat.reduceEqDiff] at f12
  rw [List.take_length] at hl
  simp only [↓Sh.dn, sx, Nat.reduceEqDiff, f5, f12, f13, A1a, Nat.lt_irrefl, decide_false, hres]
  exact ⟨hk, o, hl⟩
end Go.Proofs.YtcgbiedfbacgpaaGreat
/- (*graph.Graph).Words. -/
namespace Go.Proofs.YtcgbiedfbacgpaaGreat
open Go Go.Proofs Go.Proofs.Sh
def textOf (sigma : List ByteArray) (u : List Nat) : List ByteArray := u.map fun k => sigma.getD k A9a
def strRow (u : List ByteArray) : List (List Value) := u.map A6b
theorem B8b {H : AH} {G : Nat → Prop} {z v : Value} {oo o : Option Nat} {out : List (List ByteArray)} {u : List ByteArray} (h : RowsB strRow H G z oo out) (hw : Wf H) (hb : ∀ y, H.next ≤ y → G y) (hv : Buf H 1 v (strRow u) o) (ho : ∀ y, o = some y → G y ∧ oo ≠ some y) (hol : out.length ≤ 1073741823) :
  ∃ a cap w' H3 oo', z = .slice a out.length cap ∧ A5a Tryz.prog 29 1 [(0, v)] H = some (.slice (some ⟨H.next, 0, some 0⟩) 1 1, (H.new 1 [v]).2) ∧ A4a Tryz.prog .append [29, 29] [.slice a out.length cap, .slice (some ⟨H.next, 0, some 0⟩) 1 1] (H.new 1 [v]).2 = some (w', H3) ∧ RowsB strRow H3 G w' oo' (out ++ [u]) ∧ Chg (fun y => oo = some y) H H3 ∧ ∀ y, oo' = some y → oo = some y ∨ H.next ≤ y := by
 obtain ⟨a, cap, w', H3, oo', e1, e2, e3, e4, e5⟩ := h.push hw hb hv ho
 have hvc := hv.isCell
 have hbs := C0u (H := H) (x := v) (by rw [A0c hvc]; rfl) (by rw [A0c hvc]; simp [hvc])
 rw [A0c hvc] at hbs
 have ha := app1_29 (H := H) (base := a) (len := out.length) (cap := cap) (x := [v]) rfl hol
 rw [e2] at ha
 exact ⟨a, cap, w', H3, oo', e1, hbs, ha, e3, e4, e5⟩
noncomputable def A8k (all : List (List ByteArray)) (more : Prop) (most : Nat) : List (List ByteArray) × Bool × Int :=
 if most < all.length then (all.take most, true, 0) else if tB more = true then (if all.length < most then ([], false, 3) else (all, true, 0)) else (all, false, 0)
theorem C4k {H : AH} {g n most : Nat} {E : List (List (Nat × Int × Int × Int))} {ends : List Int} {sv av ev cv : Value} {vals : List Value} {sigma : List ByteArray} {costs : List Int} (h : PG H g n 60000 E ends sv av ev cv vals sigma costs) (hsy : ∀ (s : Nat) r, E[s]? = some r → ∀ e ∈ r, e.2.1 < (sigma.length : Int)) (hsl : sigma.length ≤ 1000) (hm : most ≤ 900) (h1m : 1 ≤ most) (hw : Wf H) :
  Sh.Call Tryz.prog (knows 7) 27 [.pointer (some ⟨g, 0, some 0⟩), .int .i64 (most : Int)] H (fun r H' => Kept H H' ∧ ∃ lv, r = .tuple #[lv, .bool (A8k ((A5k sigma.length E ends 61).map (textOf sigma)) (∃ j, 60 < j ∧ exP E ends j 0) most).2.1, .int .i64 (A8k ((A5k sigma.length E ends 61).map (textOf sigma)) (∃ j, 60 < j ∧ exP E ends j 0) most).2.2] ∧ ∃ vs, JagR H' lv 1 ((A8k ((A5k sigma.length E ends 61).map (textOf sigma)) (∃ j, 60 < j ∧ exP E ends j 0) most).1.map strRow) vs) := by
 refine A2a rfl Tryz.func27 rfl (Nat.le_of_ble_eq_true rfl) ?_
 have hres : Tryz.f27.results.toList = [.tmp 4, .tmp 5, .tmp 6] := rfl
 have hn1 := h.n1
 have hc0 := h.gr.arr.cell 0
 have wm : IntKind.wrap .i64 ((most : Int) + 1) = ((most + 1 : Nat) : Int) := by rw [wrap64 (by omega) (by omega)]; omega
 obtain ⟨r1, H1, hd1, hk1, oo1, vs1, hb1, hl1, hr1⟩ := C8m (mx := most + 1) (long := 60) h hsy hsl (by omega) (by omega) hw
 generalize hFP : A5k sigma.length E ends (60 + 1) = FP at hl1 hr1
 have hFP' : A5k sigma.length E ends 61 = FP := hFP
 have hin : ∀ u ∈ FP, ∀ k ∈ u, k < sigma.length := fun u hu k hk => by
  rw [← hFP'] at hu
  unfold A5k A5i at hu
  obtain ⟨m, _, hm2⟩ := List.mem_flatMap.1 hu
  exact List.mem_range.1 ((B1q.1 hm2).1.2 k hk)
 have hln : ∀ u ∈ FP, u.length ≤ 60 := fun u hu => by
  rw [← hFP'] at hu
  unfold A5k A5i at hu
  obtain ⟨m, hm1, hm2⟩ := List.mem_flatMap.1 hu
  have := List.mem_range.1 hm1
  rw [(B1q.1 hm2).1.1]; omega
 have hlen1 : ∀ H', A4a Tryz.prog .len [65] [r1] H' = some (.int .i64 ((min (most + 1) FP.length : Nat) : Int), H') := fun H' => by
  rw [hb1.toSl.len Tryz.underlying65, List.length_map, hl1, List.length_take]
 have hc0' := A7b (hk1.grow hw) hc0
 simp only [↓Sh.dn, sx, reduceCtorEq, Nat.reduceEqDiff, wm]
 refine ⟨_, _, hd1, ?_⟩
 simp only [sx, hlen1, A1a]
 refine wp_then (fun F' H' => ∃ zl l b, F'.get 0 = some (.pointer (some ⟨g, 0, some 0⟩)) ∧ F'.get 7 = some zl ∧ F'.get 8 = some (.bool b) ∧ Kept H H' ∧ C0b H' zl l ∧ (∀ u ∈ l, u ∈ FP) ∧ l.length ≤ most ∧ A8k (FP.map (textOf sigma)) (∃ j, 60 < j ∧ exP E ends j 0) most = (l.map (textOf sigma), b, 0)) ?_ ?_
 ·rintro F' H' ⟨zl, l, b, f0, f7, f8, hk, ⟨oo, vs, hb, hvl, hvr⟩, hsub, hlm, hout⟩
  have hlz : ∀ H', A4a Tryz.prog .len [65] [zl] H' = some (.int .i64 ((l.length : Nat) : Int), H') := fun H' => by
   rw [hb.toSl.len Tryz.underlying65, List.length_map, hvl]
  rw [hout]
  simp only [↓Sh.dn, sx, Nat.reduceEqDiff, f7, hlz]
  refine A1d l.length 32 (List.range' 32 14 ++ [9, 11]) (fun i F H'' => Kept H' H'' ∧ ∃ z, F.get 9 = some z ∧ ∃ ob, RowsB strRow H'' (fun y => H'.next ≤ y) z ob ((l.take i).map (textOf sigma))) (by simp only [sx]) ⟨Kept.refl hk.wf, _, by simp only [sx, Nat.reduceEqDiff], none, RowsB.void _ _⟩ ?_ ?_
  ·rintro i F H'' hi hF f32 ⟨hk2, z, f9, ob, hR⟩ k
   have g0 := hF 0 rfl
   have g30 := hF 30 rfl
   have g31 := hF 31 rfl
   simp only [sx, reduceCtorEq, Nat.reduceEqDiff, f0] at g0 g30 g31
   obtain ⟨v, hv⟩ : ∃ v, vs[i]? = some v := ⟨vs[i]'(by rw [hvl]; exact hi), List.getElem?_eq_getElem _⟩
   obtain ⟨p, i1, c1⟩ := Sl.elem (s := 1) Tryz.underlying65 A6w ((hb.kept hk.wf hk2).toSl) (i := i) (u := v) (by rw [List.getElem?_map, hv]; rfl)
   have hu := hvr i v _ hv (List.getElem?_eq_getElem hi)
   have hlu : l[i] ∈ l := List.getElem_mem hi
   have htake : l.take (i + 1) = l.take i ++ [l[i]] := by rw [List.take_add_one, List.getElem?_eq_getElem hi]; rfl
   generalize l[i] = u at hu hlu htake
   have hk3 := hk.trans hk2
   have hsg := h.gr.sg.grow (hk3.grow hw)
   obtain ⟨r4, H4, hd4, hk4, o4, hL4⟩ := C1k hsg (hu.grow (hk2.grow hk.wf)) (Nat.le_trans (hln u (hsub u hlu)) (by decide)) (hin u (hsub u hlu)) hk2.wf
   have hR4 := hR.kept hk2.wf hk4
   have hn2 := hk2.next
   obtain ⟨a, cap, w', H5, ob5, rfl, e1, e2, e3, e4, e5⟩ := B8b hR4 hk4.wf (fun y hy => by have := hk4.next; omega) (u := textOf sigma u) hL4.bf (fun y hy => ⟨by have := hL4.fr y hy; omega, fun hy2 => by
    obtain ⟨vz, hz1, _⟩ := hR.ex
    have := hz1.lt hk2.wf y hy2
    have := hL4.fr y hy
    omega⟩) (by rw [List.length_map, List.length_take]; omega)
   have q0 := A7b (hk3.grow hw) hc0
   simp only [↓Sh.dn, sx, reduceCtorEq, Nat.reduceEqDiff, g0, g30, g31, f9, f32, A1a, hi, decide_true, i1, c1, q0]
   refine ⟨_, _, hd4, ?_⟩
   simp only [sx, e1, e2, A3a hi (by omega)]
   exact k _ _ (by repeat (first | refine Same.put ?_ rfl | exact Same.rfl' _)) (by simp only [sx]) ⟨(hk2.trans hk4).then (Nat.le_refl _) (e4.weak hR4.ob), w', by simp only [sx, Nat.reduceEqDiff], ob5, by rw [htake, List.map_append]; exact e3⟩
  ·rintro F H'' hF f32 ⟨hk2, z, f9, ob, hR⟩
   have g8 := hF 8 rfl
   have g31 := hF 31 rfl
   simp only [sx, Nat.reduceEqDiff, f8] at g8 g31
   rw [List.take_length] at hR
   simp only [↓Sh.dn, sx, Nat.reduceEqDiff, f9, f32, g8, g31, A1a, Nat.lt_irrefl, decide_false, hres]
   exact ⟨hk.trans hk2, _, rfl, hR.read⟩
 ·intro S' rest
  by_cases hmore : most < FP.length
  ·have h1 : decide (most < min (most + 1) FP.length) = true := by rw [decide_eq_true_eq]; omega
   obtain ⟨v', hc1, hc2⟩ := hb1.cut (k := most) (by rw [List.length_map, hl1, List.length_take]; omega)
   have hcut := hc1 (P := Tryz.prog) (H' := H1) Tryz.underlying65 A6w (fun he => by
    have := congrArg List.length he
    rw [List.length_map, hl1, List.length_take] at this
    have h2 : min (most + 1) FP.length = 0 := this
    omega)
   simp only [↓Sh.dn, sx, Nat.reduceEqDiff, h1, hcut]
   refine rest _ _ ⟨v', FP.take most, true, by simp only [sx, reduceCtorEq], by simp only [sx], by simp only [sx, Nat.reduceEqDiff], hk1, ⟨oo1, vs1.take most, by rw [← List.map_take] at hc2; exact hc2, by rw [List.length_take, List.length_take, hl1, List.length_take]; omega, fun j x u hx hu => ?_⟩, fun u hu => List.mem_of_mem_take hu, by rw [List.length_take]; omega, ?_⟩
   ·rw [List.getElem?_take] at hx hu
    split at hx
    ·rename_i hj
     rw [if_pos hj] at hu
     exact hr1 j x u hx (by rw [List.getElem?_take, if_pos (by omega)]; exact hu)
    ·cases hx
   ·unfold A8k
    rw [List.length_map, if_pos hmore, List.map_take]
  ·have h1 : decide (most < min (most + 1) FP.length) = false := by rw [decide_eq_false_iff_not]; omega
   have htk : FP.take (most + 1) = FP := List.take_of_length_le (by omega)
   rw [htk] at hl1 hr1
   obtain ⟨r2, H2, hd2, hk2, rfl⟩ := B66 (most := 60) (h.kept hw hk1) (by omega) (by decide) hk1.wf
   have hk12 := hk1.trans hk2
   have hWN : C0b H2 r1 FP := ⟨oo1, vs1, hb1.kept hk1.wf hk2, hl1, fun j x u hx hu => (hr1 j x u hx hu).grow (hk2.grow hk1.wf)⟩
   simp only [↓Sh.dn, sx, reduceCtorEq, h1]
   refine ⟨_, _, hd2, ?_⟩
   cases hbe : tB (∃ j, 60 < j ∧ exP E ends j 0) with
   | false =>
    simp only [↓Sh.dn, sx]
    refine rest _ _ ⟨r1, FP, false, by simp only [sx, reduceCtorEq], by simp only [sx, Nat.reduceEqDiff], by simp only [sx, Nat.reduceEqDiff], hk12, hWN, fun u hu => hu, by omega, ?_⟩
    unfold A8k
    rw [List.length_map, if_neg hmore, hbe]
    simp
   | true =>
    have hmin : min (most + 1) FP.length = FP.length := by omega
    simp only [↓Sh.dn, sx, Nat.reduceEqDiff, hlen1, hmin, A1a]
    by_cases hfew : FP.length < most
    ·have ho : A8k (FP.map (textOf sigma)) (∃ j, 60 < j ∧ exP E ends j 0) most = ([], false, 3) := by
       unfold A8k
       rw [List.length_map, if_neg hmore, hbe, if_pos rfl, if_pos hfew]
     simp only [↓Sh.dn, sx, Nat.reduceEqDiff, hfew, decide_true, hres, ho]
     exact ⟨hk12, _, rfl, [], Sl.nil _ _, rfl, fun i w r hi => by simp at hi⟩
    ·simp only [↓Sh.dn, sx, hfew, decide_false]
     refine rest _ _ ⟨r1, FP, true, by simp only [sx, reduceCtorEq], by simp only [sx, Nat.reduceEqDiff], by simp only [sx], hk12, hWN, fun u hu => hu, by omega, ?_⟩
     unfold A8k
     rw [List.length_map, if_neg hmore, hbe, if_pos rfl, if_neg hfew]
end Go.Proofs.YtcgbiedfbacgpaaGreat
/- The reference's lister: the words that go on from a set. -/
namespace Go.Proofs.YtcgbiedfbacgpaaGreat
open Go Go.Proofs Go.Proofs.Sh
def symE (E : List (List (ByteArray × Nat))) (x : ByteArray) (s t : Nat) : Prop := x ≠ A9a ∧ A0e E x s t
def B5w (E : List (List (ByteArray × Nat))) (Q : Nat → Prop) (x : ByteArray) : Nat → Prop := Clo (A0e E A9a) fun t => ∃ s, Q s ∧ symE E x s t
noncomputable def A7k (sigma : List ByteArray) (E : List (List (ByteArray × Nat))) (ends : List Bool) (Q : Nat → Prop) (m : Nat) : List (List ByteArray) := lexW sigma (accS (A0e E A9a) (symE E) (fun s => ends[s]? = some true) Q) m
theorem B97 (sigma : List ByteArray) (E : List (List (ByteArray × Nat))) (ends : List Bool) (Q : Nat → Prop) (m : Nat) : A7k sigma E ends Q (m + 1) = sigma.flatMap fun x => (A7k sigma E ends (B5w E Q x) m).map (x :: ·) := B81 _ _ _
theorem B4r {E : List (List (ByteArray × Nat))} (x : ByteArray) (s t : Nat) (h : symE E x s t) : anyE E s t := ⟨x, h.1, h.2⟩
theorem B7i {sigma : List ByteArray} {E : List (List (ByteArray × Nat))} {ends : List Bool} {Q : Nat → Prop} {m : Nat} (h : ∀ s, Q s → ¬exE E ends m s) : A7k sigma E ends Q m = [] := B9v fun u hu ha => by
 obtain ⟨s, h1, h2⟩ := A3p (any := anyE E) B4r ha
 rw [hu] at h2
 exact h s h1 h2
theorem B64 {sigma : List ByteArray} {E : List (List (ByteArray × Nat))} {ends : List Bool} {Q : Nat → Prop} (hQ : ∀ a b, Q a → A0e E A9a a b → Q b) (h : ∃ s, Q s ∧ exE E ends 0 s) : A7k sigma E ends Q 0 = [[]] := by
 unfold A7k
 rw [B3u, if_pos]
 rw [A70]
 obtain ⟨s, h1, h2⟩ := h
 obtain ⟨t, h3, h4⟩ := A1s.1 h2
 exact ⟨t, (A7z hQ).1 (A9m.2 ⟨s, h1, h3⟩), h4⟩
theorem B28 {sigma : List ByteArray} {E : List (List (ByteArray × Nat))} {ends : List Bool} {Q : Nat → Prop} {m : Nat} : A7k sigma E ends Q m = A7k sigma E ends (fun s => Q s ∧ exE E ends m s) m := B9m fun u hu _ => by
 have := acc_keep (E := A0e E A9a) (A := symE E) (any := anyE E) (end_ := fun s => ends[s]? = some true) B4r (w := u) (S := Q)
 rw [hu] at this
 exact this
theorem B9d {α : Type} {f : ByteArray → List α} {l : List ByteArray} : ∀ {sigma : List ByteArray}, (∀ x ∈ sigma, x ∉ l → f x = []) → (sigma.filter fun x => A7r l x).flatMap f = sigma.flatMap f
 | [], _ => rfl
 | x :: sigma, h => by
  have ih := B9d (sigma := sigma) fun y hy => h y (List.mem_cons_of_mem _ hy)
  rw [List.filter_cons]
  cases hx : A7r l x with
  | true => rw [if_pos rfl, List.flatMap_cons, List.flatMap_cons, ih]
  | false =>
   have hn : x ∉ l := fun h2 => by rw [A0j.2 h2] at hx; cases hx
   rw [if_neg (by simp), List.flatMap_cons, h x List.mem_cons_self hn, List.nil_append, ih]
theorem C6l {l : List ByteArray} (h : Asc l) (p : ByteArray → Bool) : Asc (l.filter p) := by
 have h0 : l.Pairwise fun a b => A0b a b = true := by
  rw [List.pairwise_iff_getElem]
  intro i j hi hj hij
  exact h i j _ _ hij (List.getElem?_eq_getElem hi) (List.getElem?_eq_getElem hj)
 have := List.pairwise_iff_getElem.1 (h0.filter p)
 intro i j x y hij hx hy
 obtain ⟨h1, h2⟩ := List.getElem?_eq_some_iff.1 hx
 obtain ⟨h3, h4⟩ := List.getElem?_eq_some_iff.1 hy
 rw [← h2, ← h4]
 exact this i j h1 h3 hij
structure LisAt (H : AH) (G : Nat → Prop) (gx : Nat) (ev bv xv : Value) (most : Nat) (zo : Value) (oo : Option Nat) (out : List (List ByteArray)) : Prop where
 cell : Arr H gx 0 6 [.int .i64 0, ev, bv, xv, .int .i64 (most : Int), zo]
 rows : RowsB strRow H G zo oo out
 ng : ¬G gx
theorem LisAt.kept {H H' : AH} {G : Nat → Prop} {gx : Nat} {ev bv xv zo : Value} {most : Nat} {oo : Option Nat} {out : List (List ByteArray)} (h : LisAt H G gx ev bv xv most zo oo out) (hw : Wf H) (hk : Kept H H') : LisAt H' G gx ev bv xv most zo oo out := ⟨h.cell.keep (hk.old gx (h.cell.lt hw)), h.rows.kept hw hk, h.ng⟩
theorem B24 {H : AH} {G : Nat → Prop} {z : Value} {oo : Option Nat} {out : List (List ByteArray)} (h : RowsB strRow H G z oo out) (H' : AH) : A4a Tryz.prog .len [29] [z] H' = some (.int .i64 (out.length : Int), H') := by
 obtain ⟨vals, h1, h2, h3⟩ := h.ex
 rw [h1.toSl.len Tryz.underlying29, List.length_map, h2]
theorem B0h {H : AH} {G : Nat → Prop} {z : Value} {oo : Option Nat} {out : List (List ByteArray)} (h : RowsB strRow H G z oo out) : veq z z = true ∧ isCell z = true ∧ ∀ y, Wf H → oo = some y → y < H.next := by
 obtain ⟨vals, h1, h2, h3⟩ := h.ex
 exact ⟨h1.veq, h1.isCell, fun y hw hy => h1.lt hw y hy⟩
theorem C1c {H : AH} {u : Value} {w : List ByteArray} (hu : Sl H u 1 (w.map A6b)) (hwl : w.length ≤ 1000000) (hw : Wf H) :
  ∃ v' H' b', A4a Tryz.prog .append [22, 22] [.slice none 0 0, u] H = some (v', H') ∧ Buf H' 1 v' (w.map A6b) b' ∧ Kept H H' ∧ ∀ y, b' = some y → H.next ≤ y := by
 obtain ⟨v', H', b', e1, e2, e3, e4⟩ := (Buf.void (H := H) (s := 1) none).append hw (xs := w.map A6b) (by intro x hx; obtain ⟨b, _, rfl⟩ := List.mem_map.1 hx; rfl)
 have happ := C6t (base := none) (len := 0) (cap := 0) (hu.srcKind Tryz.underlying22) hu.newCells (by rw [List.length_map]; omega)
 rw [e1] at happ
 have hk : Kept H H' := e3.kept fun g hg h => by cases h
 rw [List.nil_append] at e2
 refine ⟨v', H', b', happ, e2, hk, fun y hy => ?_⟩
 rcases e4 with h4 | ⟨h4, h5⟩
 ·rw [h4] at hy; cases hy
 ·rw [h4] at hy; rw [← Option.some.inj hy]; exact Nat.le_refl _
end Go.Proofs.YtcgbiedfbacgpaaGreat
/- (*graph.Graph).Arc, End, State, of a graph that keeps to its own places. -/
namespace Go.Proofs.YtcgbiedfbacgpaaGreat
open Go Go.Proofs Go.Proofs.Sh
theorem grArcX {H : AH} {X : Nat → Prop} {g : Nat} {sigma : List ByteArray} {rows : List (List (List Value))} {ends costs : List Int} {s : Nat} {r : List (List Value)} {x0 x1 x2 x3 : Int}
  (h : GrX H X g sigma rows ends costs) (hr : rows[s]? = some r) (hl : r.length ≤ 1073741823) (hw : Wf H) :
  Sh.Call Tryz.prog (knows 7) 42 [.pointer (some ⟨g, 0, some 0⟩), .int .i64 (s : Int), .int .i64 x0, .int .i64 x1, .int .i64 x2, .int .i64 x3] H (fun _ H' => Chg X H H' ∧ GrX H' (fun y => X y ∨ H.next ≤ y) g sigma (rows.set s (r ++ [[.int .i64 x0, .int .i64 x1, .int .i64 x2, .int .i64 x3]])) ends costs) := by
 obtain ⟨sv, av, ev, cv, os, ot, oe, oc, vals, obs, h, ho⟩ := h
 refine (C2h h.arr h.jag h.gj hr hl hw).mono ?_
 rintro _ H' ⟨hc, vals', obs', hj, hin⟩
 have hg := h.arr.lt hw
 refine ⟨hc.weak fun y hy => ho y (.inr (.inr (.inl hy))), sv, av, ev, cv, os, ot, oe, oc, vals', obs', ?_, ?_⟩
 ·exact { h with
  arr := h.arr.keep (hc.old g hg h.gj)
  sg := h.sg.chg hw hc h.sj
  jag := hj
  en := h.en.chg hw hc h.je
  co := h.co.chg hw hc h.jc
  fj := fun _ _ => Nat.zero_le _
  gj := fun hy => by
   rcases hin g hy with h1 | h1
   ·exact h.gj h1
   ·omega
  sj := fun y hy hy2 => by
   rcases hin y hy2 with h1 | h1
   ·exact h.sj y hy h1
   ·have := h.sg.lt hw y hy; omega
  je := fun y hy hy2 => by
   rcases hin y hy2 with h1 | h1
   ·exact h.je y hy h1
   ·have := h.en.lt hw y hy; omega
  jc := fun y hy hy2 => by
   rcases hin y hy2 with h1 | h1
   ·exact h.jc y hy h1
   ·have := h.co.lt hw y hy; omega }
 ·rintro y (hy | hy | hy | hy | hy)
  ·exact .inl (ho y (.inl hy))
  ·exact .inl (ho y (.inr (.inl hy)))
  ·rcases hin y hy with h1 | h1
   ·exact .inl (ho y (.inr (.inr (.inl h1))))
   ·exact .inr h1
  ·exact .inl (ho y (.inr (.inr (.inr (.inl hy)))))
  ·exact .inl (ho y (.inr (.inr (.inr (.inr hy)))))
theorem made_new {H H2 : AH} {s : Nat} {vals : List Value} (hv : veqs vals vals = true) (he : H2.objs.get H.next = (H.new s vals).2.objs.get H.next) : MadeQ H.next (H.new s vals).2 H2 := by
 intro x hx
 have := Sh.Obj.new (H := H) s vals
 unfold Sh.Obj at this
 rw [he]
 refine ⟨hx, ?_⟩
 rw [this] at hx
 injection hx with hx
 subst hx
 simp [B7a, rowEq, hv]
end Go.Proofs.YtcgbiedfbacgpaaGreat
/- The reference's lister: its search. -/
namespace Go.Proofs.YtcgbiedfbacgpaaGreat
open Go Go.Proofs Go.Proofs.Sh
theorem refWalk {H0 : AH} {G : Nat → Prop} {base gx n most long : Nat} {oo0 : Option Nat} {E : List (List (ByteArray × Nat))} {ends : List Bool} {sigma : List ByteArray} {ev bv xv : Value} {vals : List Value}
  (hrg : ∀ H, Chg (fun y => y = gx ∨ oo0 = some y ∨ base ≤ y) H0 H → RG H (.agg #[.int .i64 0, ev, bv]) n E ends ev bv vals)
  (hA : ∀ H, Chg (fun y => y = gx ∨ oo0 = some y ∨ base ≤ y) H0 H → ∀ j, j ≤ long → ∃ p v, A4b Tryz.prog 103 xv (.int .i64 (j : Int)) = some (.pointer (some p)) ∧ H.cell p = some v ∧ ∃ B : List Bool, Sl H v 1 (B.map A0l) ∧ B.length = n ∧ ∀ t : Nat, B[t]? = some true ↔ exE E ends j t)
  (htot : (E.map List.length).sum ≤ 1048576) (hasc : Asc sigma) (hsy : ∀ x s t, A0e E x s t → x = A9a ∨ x ∈ sigma) (hno : A9a ∉ sigma) (hmost : most ≤ 900) (hlong : long ≤ 900) (hb0 : ∀ y, base ≤ y → G y) (hgx : gx < base) :
  ∀ (m : Nat) (H : AH) (Q : Nat → Prop) (sv wv : Value) (w : List ByteArray) (wb : Option Nat) (out : List (List ByteArray)) (zo : Value) (oo : Option Nat), Chg (fun y => y = gx ∨ oo0 = some y ∨ base ≤ y) H0 H → base ≤ H.next → SetAt H sv n Q → (∀ a b, Q a → A0e E A9a a b → Q b) → Buf H 1 wv (w.map A6b) wb → (∀ y, wb = some y → y ≠ gx ∧ oo ≠ some y) → LisAt H G gx ev bv xv most zo oo out → (∀ y, oo = some y → oo0 = some y ∨ base ≤ y) → out.length ≤ most + 1 → w.length + m ≤ long →
   Sh.Call Tryz.prog (knows 7) 63 [.pointer (some ⟨gx, 0, some 0⟩), sv, wv, .int .i64 (m : Int)] H
    (fun _ H' => Chg (fun y => y = gx ∨ oo = some y) H H' ∧ ∃ zo' oo', LisAt H' G gx ev bv xv most zo' oo' ((out ++ (A7k sigma E ends Q m).map (w ++ ·)).take (most + 1)) ∧ ∀ y, oo' = some y → oo = some y ∨ H.next ≤ y) := by
 intro m
 induction m using Nat.strongRecOn with
 | ind m ih =>
 intro H Q sv wv w wb out zo oo hc0 hbn hS hQ hwv hwb hO hoo hol hwl
 have hw := hc0.wf
 refine A2a rfl Tryz.func63 rfl (Nat.le_of_ble_eq_true rfl) ?_
 have hres : Tryz.f63.results.toList = [] := rfl
 obtain ⟨L, hL, hnd, hlt, hLQ⟩ := hS
 have hRG := hrg H hc0
 have hn2 := hRG.n2
 have hLl := A9s hnd hlt
 have c3 := hO.cell.cell 3
 have c4 := hO.cell.cell 4
 have c5 := hO.cell.cell 5
 simp only [List.getElem?_cons_succ, List.getElem?_cons_zero] at c3 c4 c5
 obtain ⟨p, v, i1, i2, B, hB, hBl, hBi⟩ := hA H hc0 m (by omega)
 obtain ⟨r2, H2, hd2, hk2, kb, hKb, hKf⟩ := refKeptB hL hB hBl hlt (by omega) hw
 have c02 : Chg (fun y => y = gx ∨ oo0 = some y ∨ base ≤ y) H0 H2 := hc0.trans hk2.chg
 have hO2 := hO.kept hw hk2
 obtain ⟨hzv, hzc, hzl⟩ := B0h hO.rows
 have hlO := B24 hO.rows
 have d4 := hO2.cell.cell 4
 have d5 := hO2.cell.cell 5
 simp only [List.getElem?_cons_succ, List.getElem?_cons_zero] at d4 d5
 simp only [↓Sh.dn, sx, reduceCtorEq, Nat.reduceEqDiff, c3, i1, i2]
 refine ⟨_, _, hd2, ?_⟩
 generalize hK : L.filter (fun t => decide (B[t]? = some true)) = Kl at hKb
 have hKm : ∀ t, t ∈ Kl ↔ Q t ∧ exE E ends m t := fun t => by
  rw [← hK, List.mem_filter, hLQ, decide_eq_true_eq, hBi]
 have hKnd : Kl.Nodup := by rw [← hK]; exact List.Pairwise.filter _ hnd
 have hKlt : ∀ t ∈ Kl, t < n := fun t ht => hlt t ((hLQ t).2 ((hKm t).1 ht).1)
 have hKl := A9s hKnd hKlt
 have hlK := fun H' => hKb.toSl.len Tryz.underlying69 H'
 simp only [List.length_map] at hlK
 have skip : (A7k sigma E ends Q m = [] ∨ most < out.length) → Chg (fun y => y = gx ∨ oo = some y) H H2 ∧ ∃ zo' oo', LisAt H2 G gx ev bv xv most zo' oo' ((out ++ (A7k sigma E ends Q m).map (w ++ ·)).take (most + 1)) ∧ ∀ y, oo' = some y → oo = some y ∨ H.next ≤ y := fun hh => by
  have ho : (out ++ (A7k sigma E ends Q m).map (w ++ ·)).take (most + 1) = out := by
   rcases hh with h1 | h1
   ·rw [h1, List.map_nil, List.append_nil]; exact List.take_of_length_le hol
   ·rw [List.take_append_of_le_length (by omega), List.take_of_length_le hol]
  rw [ho]
  exact ⟨hk2.chg, zo, oo, hO2, fun y hy => .inl hy⟩
 by_cases hKn : Kl = []
 ·have hz : decide ((Kl.length : Int) = 0) = true := by rw [hKn]; rfl
  have hnone : A7k sigma E ends Q m = [] := B7i fun s hs he => by
   have := (hKm s).2 ⟨hs, he⟩
   rw [hKn] at this; cases this
  simp only [↓Sh.dn, sx, Nat.reduceEqDiff, hlK, hz, hres]
  exact skip (.inl hnone)
 have hz : decide ((Kl.length : Int) = 0) = false := by
  have := List.length_pos_iff.2 hKn
  simp; omega
 simp only [↓Sh.dn, sx, reduceCtorEq, Nat.reduceEqDiff, hlK, hz, d4, d5, hlO, A1a]
 by_cases hfull : most < out.length
 ·simp only [↓Sh.dn, sx, hfull, decide_true, hres]
  exact skip (.inr hfull)
 simp only [↓Sh.dn, sx, Nat.reduceEqDiff, hfull, decide_false]
 have hsome : ∃ s, Q s ∧ exE E ends m s := by
  cases hKe : Kl with
  | nil => exact absurd hKe hKn
  | cons s K' => exact ⟨s, (hKm s).1 (by rw [hKe]; exact List.mem_cons_self)⟩
 have hw2 := hwv.kept hw hk2
 cases m with
 | zero =>
  have h00 : decide (((0 : Nat) : Int) = 0) = true := rfl
  simp only [↓Sh.dn, sx, h00]
  obtain ⟨v3, H3, b3, e1, hb3, hk3, hf3⟩ := C1c hw2.toSl (by omega) hk2.wf
  have hO3 := hO2.kept hk2.wf hk3
  have k03 := hk2.trans hk3
  have hn3 := k03.next
  obtain ⟨a, cap, w', H4, oo', rfl, e2, e3, hR4, hc4, hf4⟩ := B8b (u := w) hO3.rows hk3.wf (fun y hy => hb0 y (by omega)) hb3 (fun y hy => ⟨hb0 y (by have := hf3 y hy; have := hk2.next; omega), fun hy2 => by have := hzl y hw hy2; have := hf3 y hy; have := hk2.next; omega⟩) (by omega)
  have hgo : oo ≠ some gx := fun hy => hO.ng (hO.rows.ob gx hy)
  have a4 := hO3.cell.keep (hc4.old gx (hO3.cell.lt hk3.wf) hgo)
  obtain ⟨H5, s1, s2, s3, s4⟩ := a4.write hc4.wf (i := 5) (vs := [w']) (by simp)
  have hw'c := (B0h hR4).2.1
  have st : A8e Tryz.prog 29 H4 w' (.pointer (some ⟨gx, 5, some 0⟩)) = some H5 := by rw [A2c C1u hw'c]; exact s1
  have d53 := hO3.cell.cell 5
  simp only [List.getElem?_cons_succ, List.getElem?_cons_zero] at d53
  refine A6v (fl := [(0, []), (1, []), (2, []), (3, []), (4, []), (5, []), (6, [4]), (7, []), (8, []), (9, []), (10, []), (11, [])]) (by kernel_rfl) (by kernel_rfl) (by kernel_rfl) ?_
  simp only [↓Sh.dn, sx, reduceCtorEq, Nat.reduceEqDiff, wpr, again, A5e, forall_eq', d5, e1, d53, hzv, e2, e3, st, hres]
  have hW : A7k sigma E ends Q 0 = [[]] := B64 hQ hsome
  have ho : (out ++ (A7k sigma E ends Q 0).map (w ++ ·)).take (most + 1) = out ++ [w] := by
   rw [hW]
   simp only [List.map_cons, List.map_nil, List.append_nil]
   exact List.take_of_length_le (by rw [List.length_append, List.length_singleton]; omega)
  rw [ho]
  refine ⟨((k03.chg).trans (hc4.weak fun y hy => .inr hy)).trans (s4.weak fun y hy => .inl hy), w', oo', ⟨s2, ?_, hO.ng⟩, fun y hy => ?_⟩
  ·exact hR4.move hc4.wf (fun y hy hyl => s4.old y hyl fun hyx => hO.ng (hyx ▸ hy)) fun y hy _ => hy
  ·rcases hf4 y hy with h1 | h1
   ·exact .inl h1
   ·exact .inr (by omega)
 | succ m =>
  have h00 : decide (((m + 1 : Nat) : Int) = 0) = false := by simp; omega
  have hRG2 := hrg H2 c02
  have hcells : ∀ {H'}, Arr H' gx 0 6 [.int .i64 0, ev, bv, xv, .int .i64 (most : Int), zo] → H'.cells ⟨gx, 0, some 0⟩ 3 = some [.int .i64 0, ev, bv] := fun h => by
   rw [h.cells (by simp)]; rfl
  obtain ⟨r3, H3, hd3, hk3, l, lb, hlb, hlasc, hll, hlf, hlm⟩ := B67 hRG2 hKb.toSl hKlt hKnd htot hk2.wf
  have k03 := hk2.trans hk3
  have hn2' := hk2.next
  have hn3 := hk3.next
  have hlsub : ∀ x ∈ l, x ∈ sigma ∧ x ≠ A9a := fun x hx => by
   obtain ⟨h1, s, _, t, h2⟩ := (hlm x).1 hx
   exact ⟨(hsy x s t h2).resolve_left h1, h1⟩
  have hcell2 : H2.cells ⟨gx, 0, some 0⟩ 3 = some [.int .i64 0, ev, bv] := hcells hO2.cell
  have hlen3 : ∀ H', A4a Tryz.prog .len [22] [r3] H' = some (.int .i64 (l.length : Int), H') := fun H' => by
   rw [hlb.toSl.len Tryz.underlying22, List.length_map]
  simp only [↓Sh.dn, sx, reduceCtorEq, Nat.reduceEqDiff, h00, hcell2]
  refine ⟨_, _, hd3, ?_⟩
  have hZ : ∀ y, (y = gx ∨ oo = some y) → y < H.next := fun y hy => by
   rcases hy with hy | hy
   ·omega
   ·exact hzl y hw hy
  have hZX : ∀ y, (y = gx ∨ oo = some y) → (y = gx ∨ oo0 = some y ∨ base ≤ y) := fun y hy => by
   rcases hy with hy | hy
   ·exact .inl hy
   ·exact .inr (hoo y hy)
  have ho0 : out.take (most + 1) = out := List.take_of_length_le hol
  have c03 : Chg (fun y => y = gx ∨ oo0 = some y ∨ base ≤ y) H0 H3 := hc0.trans k03.chg
  have hK3 := hKb.kept hk2.wf hk3
  have hw3 := hw2.kept hk2.wf hk3
  refine A1d l.length 9 (List.range' 53 28 ++ [9]) (fun k F H' => Chg (fun y => y = gx ∨ oo = some y) H3 H' ∧ ∃ zo' oo', LisAt H' G gx ev bv xv most zo' oo' ((out ++ ((l.take k).flatMap fun x => (A7k sigma E ends (B5w E (fun s => s ∈ Kl) x) m).map (fun u => w ++ x :: u))).take (most + 1)) ∧ ∀ y, oo' = some y → oo = some y ∨ H3.next ≤ y) (by simp only [sx])
   ⟨Chg.refl hk3.wf, zo, oo, by simpa [ho0] using hO2.kept hk2.wf hk3, fun y hy => .inl hy⟩ ?_ ?_
  ·rintro k F H' hi hF f9 ⟨hc, zo', oo', hO', hof⟩ kk
   have f0 := hF 0 rfl
   have f1 := hF 1 rfl
   have f2 := hF 2 rfl
   have f3 := hF 3 rfl
   have f8 := hF 8 rfl
   simp only [sx, reduceCtorEq, Nat.reduceEqDiff] at f0 f1 f2 f3 f8
   have ch : Chg (fun y => y = gx ∨ oo0 = some y ∨ base ≤ y) H0 H' := c03.then hc fun y hy _ => hZX y hy
   have hnZ : ∀ {y}, H.next ≤ y → ¬(y = gx ∨ oo = some y) := fun hy h => by have := hZ _ h; omega
   have hKs : Buf H' 1 r2 (Kl.map natC) kb := hK3.chg hk3.wf hc fun y hy => hnZ (hKf y hy)
   have hls : Buf H' 1 r3 (l.map A6b) lb := hlb.chg hk3.wf hc fun y hy => hnZ (by have := hlf y hy; omega)
   have hws : Buf H' 1 wv (w.map A6b) wb := hw3.chg hk3.wf hc fun y hy h => by
    obtain ⟨h1, h2⟩ := hwb y hy
    rcases h with h | h
    ·exact h1 h
    ·exact h2 h
   obtain ⟨p8, i8, c8⟩ := Sl.elem (s := 1) Tryz.underlying22 A1j hls.toSl (i := k) (u := .string l[k]) (by rw [List.getElem?_map, List.getElem?_eq_getElem hi]; rfl)
   have hlk : l[k] ∈ l := List.getElem_mem hi
   have htake : l.take (k + 1) = l.take k ++ [l[k]] := by rw [List.take_add_one, List.getElem?_eq_getElem hi]; rfl
   generalize l[k] = x at c8 hlk htake
   have kn := Kept.new hc.wf 1 [.string x]
   have hbs := B6s (H := H') (x := .string x) rfl rfl
   have mq := fun H2 => made_new (H := H') (H2 := H2) (s := 1) (vals := [.string x]) (by simp only [C0w, veqs_nil, B74, Bool.and_self])
   have hSm : Buf (H'.new 1 [.string x]).2 1 (.slice (some ⟨H'.next, 0, some 0⟩) 1 1) [A6b x] (some H'.next) := Buf.fresh (H := H') (s := 1) (xs := [A6b x]) hc.wf (by intro x hx; rw [List.mem_singleton.1 hx]; rfl) (by simp) 1 rfl
   have hxa : H'.next < (H'.new 1 [.string x]).2.next := Nat.lt_succ_self _
   have cha := ch.trans kn.chg
   have hKa := hKs.kept hc.wf kn
   have hwa := hws.kept hc.wf kn
   have c8a := A7b (kn.grow hc.wf) c8
   have ga : (H'.new 1 [.string x]).2.cells ⟨gx, 0, some 0⟩ 3 = some [.int .i64 0, ev, bv] := by rw [(hO'.kept hc.wf kn).cell.cells (by simp)]; rfl
   generalize hHa : (H'.new 1 [.string x]).2 = Ha at kn mq hSm hxa cha hKa hwa c8a ga
   obtain ⟨r4, H4, hd4, hk4, S4, b4, hb4, hf4, hnd4, hlt4, hi4⟩ := refStep (x := x) (hrg Ha cha) hKa.toSl hKlt (by omega) kn.wf
   obtain ⟨v5, H5, b5, e5, hb5, hk5, hf5⟩ := C1c (hwa.toSl.grow (hk4.grow kn.wf)) (by omega) hk4.wf
   have k45 := hk4.trans hk5
   have k5' := kn.trans k45
   have hSm5 := hSm.kept kn.wf k45
   obtain ⟨a6, cap6, hv6⟩ := hb5.shape
   subst hv6
   rw [List.length_map] at hb5 e5
   obtain ⟨w6, H6, b6, h6b, h6c, h6d, h6e⟩ := hb5.append hk5.wf (xs := [A6b x]) (by intro y hy; rw [List.mem_singleton.1 hy]; rfl)
   have ha := C6t (base := a6) (len := w.length) (cap := cap6) (hSm5.toSl.srcKind Tryz.underlying22) hSm5.toSl.newCells (by rw [List.length_singleton]; omega)
   rw [h6b] at ha
   have hcn := hc.next
   have hn4 := hk4.next
   have hn5 := hk5.next
   have k46 : Kept H' H6 := k5'.then (base := H'.next) (Nat.le_refl _) (h6d.weak fun y hy => by have := hf5 y hy; omega)
   have hO6 := hO'.kept hc.wf k46
   have ch6 : Chg (fun y => y = gx ∨ oo0 = some y ∨ base ≤ y) H0 H6 := ch.trans k46.chg
   have hlO' := (B0h hO'.rows).2.2
   have hf6 : ∀ y, b6 = some y → H'.next ≤ y := fun y hy => by
    rcases h6e with h1 | ⟨h1, _⟩
    ·rw [h1] at hy; have := hf5 y hy; omega
    ·rw [h1] at hy; have := Option.some.inj hy; omega
   have hS6 : SetAt H6 r4 n (B5w E (fun s => s ∈ Kl) x) := by
    have hb46 : Buf H6 1 r4 (S4.map natC) b4 := (hb4.kept hk4.wf hk5).chg hk5.wf h6d fun y hy hy2 => by have := hb4.lt hk4.wf y hy; have := hf5 y hy2; omega
    refine ⟨S4, hb46.toSl, hnd4, hlt4, fun t => ?_⟩
    rw [hi4]
    have : (fun t => ∃ s, s ∈ Kl ∧ A0e E x s t) = fun t => ∃ s, s ∈ Kl ∧ symE E x s t := by
     funext t
     apply propext
     unfold symE
     constructor
     ·rintro ⟨s, h1, h2⟩; exact ⟨s, h1, (hlsub x hlk).2, h2⟩
     ·rintro ⟨s, h1, h2⟩; exact ⟨s, h1, h2.2⟩
    rw [this]
    rfl
   obtain ⟨r7, H7, hd7, hc7, zo7, oo7, hO7, hof7⟩ := ih m (Nat.lt_succ_self m) H6 (B5w E (fun s => s ∈ Kl) x) r4 w6 (w ++ [x]) b6 _ zo' oo' ch6 (by have := k46.next; omega) hS6 (fun a b h1 h2 => .step h1 h2) (by rw [List.map_append]; exact h6c) (fun y hy => ⟨by have := hf6 y hy; have := hZ gx (.inl rfl); omega, fun hy2 => by have := hlO' y hc.wf hy2; have := hf6 y hy; omega⟩) hO6 (fun y hy => by
    rcases hof y hy with h1 | h1
    ·exact hoo y h1
    ·exact .inr (by omega)) (by rw [List.length_take]; omega) (by rw [List.length_append, List.length_singleton]; omega)
   have c84 := A7b (hk4.grow kn.wf) c8a
   have c85 := A7b (k45.grow kn.wf) c8a
   have wl : IntKind.wrap .i64 (((m + 1 : Nat) : Int) - 1) = (m : Int) := by rw [wrap64 (by omega) (by omega)]; omega
   have wi : IntKind.wrap .i64 ((k : Int) + 1) = ((k + 1 : Nat) : Int) := A3a hi (by omega)
   have g0 : H'.cells ⟨gx, 0, some 0⟩ 3 = some [.int .i64 0, ev, bv] := by rw [hO'.cell.cells (by simp)]; rfl
   have u4 : MadeQ H'.next Ha H4 := mq H4 (hk4.old _ hxa)
   have u5 : MadeQ H'.next Ha H5 := mq H5 (k45.old _ hxa)
   simp only [↓Sh.dn, sx, Nat.reduceEqDiff, f8, f9, hlen3, A1a, hi, decide_true]
   refine wp_made (fl := [(0, [], [], []), (1, [], [], []), (2, [], [], []), (3, [], [], []), (4, [], [], []), (5, [], [], []), (6, [], [], []), (7, [], [], []), (8, [], [], []), (9, [], [], []), (11, [], [], []), (13, [], [], []), (14, [], [], []), (15, [], [], []), (16, [], [], []), (17, [], [], []), (19, [], [], []), (20, [], [], []), (10, [16], [true], [true]), (12, [16], [true], [true]), (18, [], [false], [false]), (21, [], [], [])]) (by kernel_rfl) (by kernel_rfl) (by kernel_rfl) ?_
   simp only [↓Sh.dn, sx, reduceCtorEq, Nat.reduceEqDiff, wpm, B7z, C7z, B7e, again, isEff, A5e, B74, forall_eq', f0, f1, f2, f3, f8, f9, i8, c8, wl, hbs, A6a, hHa, g0]
   refine ⟨_, _, hd4, ?_⟩
   simp only [sx, u4, c84, e5, u5, c85, ha]
   refine ⟨_, _, by first | exact hd7 | simpa using hd7, ?_⟩
   simp only [wi]
   refine kk _ _ (by repeat (first | refine Same.put ?_ rfl | exact Same.rfl' _)) (by simp only [sx]) ⟨(hc.trans k46.chg).then hc7 fun y hy hlt3 => ?_, zo7, oo7, ?_, fun y hy => ?_⟩
   ·rcases hy with h1 | h1
    ·exact .inl h1
    ·rcases hof y h1 with h2 | h2
     ·exact .inr h2
     ·omega
   ·have he : (out ++ (l.take (k + 1)).flatMap fun x => (A7k sigma E ends (B5w E (fun s => s ∈ Kl) x) m).map (fun u => w ++ x :: u)).take (most + 1) = ((out ++ (l.take k).flatMap fun x => (A7k sigma E ends (B5w E (fun s => s ∈ Kl) x) m).map (fun u => w ++ x :: u)).take (most + 1) ++ (A7k sigma E ends (B5w E (fun s => s ∈ Kl) x) m).map (w ++ [x] ++ ·)).take (most + 1) := by
      rw [B4a, htake, List.flatMap_append, ← List.append_assoc]
      congr 2
      simp
    rw [he]
    exact hO7
   ·rcases hof7 y hy with h1 | h1
    ·exact hof y h1
    ·have := k46.next
     exact .inr (by omega)
  ·rintro F H' hF f9 ⟨hc, zo', oo', hO', hof⟩
   have f8 := hF 8 rfl
   simp only [sx, Nat.reduceEqDiff] at f8
   rw [List.take_length] at hO'
   simp only [↓Sh.dn, sx, Nat.reduceEqDiff, f8, f9, hlen3, A1a, Nat.lt_irrefl, decide_false, hres]
   have hKQ : (fun s => s ∈ Kl) = fun s => Q s ∧ exE E ends (m + 1) s := funext fun s => propext (hKm s)
   have hfl : l = sigma.filter fun x => A7r l x := by
    refine C6q hlasc (C6l hasc _) fun x => ?_
    rw [List.mem_filter, A0j]
    exact ⟨fun hx => ⟨(hlsub x hx).1, hx⟩, fun h => h.2⟩
   have he : (A7k sigma E ends Q (m + 1)).map (w ++ ·) = l.flatMap fun x => (A7k sigma E ends (B5w E (fun s => s ∈ Kl) x) m).map (fun u => w ++ x :: u) := by
    rw [B28, ← hKQ, B97, List.map_flatMap]
    rw [← B9d (l := l) (fun x hx hxl => by
     rw [B7i, List.map_nil, List.map_nil]
     intro s hs _
     refine hs.of (Q := fun _ => False) (fun t ⟨s', h1, h2⟩ => hxl ((hlm x).2 ⟨h2.1, s', h1, t, h2.2⟩)) fun _ _ h _ => h), ← hfl]
    congr 1
    funext x
    rw [List.map_map]
    rfl
   rw [he]
   refine ⟨k03.chg.trans hc, zo', oo', hO', fun y hy => ?_⟩
   rcases hof y hy with h1 | h1
   ·exact .inl h1
   ·exact .inr (by omega)
end Go.Proofs.YtcgbiedfbacgpaaGreat
/- The reference's Shortlex. -/
namespace Go.Proofs.YtcgbiedfbacgpaaGreat
open Go Go.Proofs Go.Proofs.Sh
def AliveP (H : AH) (P : Nat → Prop) (n : Nat) (z : Value) (ob : Option Nat) (Q : Nat → Nat → Prop) (k : Nat) : Prop :=
 (∀ y, ob = some y → P y) ∧ ∃ vals : List Value, Buf H 1 z (vals.map fun x => [x]) ob ∧ vals.length = k ∧ ∀ (j : Nat) v, vals[j]? = some v → ∃ (B : List Bool) (o : Option Nat), Buf H 1 v (B.map A0l) o ∧ (∀ y, o = some y → P y ∧ ob ≠ some y) ∧ B.length = n ∧ ∀ t : Nat, B[t]? = some true ↔ Q j t
theorem AliveP.move {H H' : AH} {P P' : Nat → Prop} {n : Nat} {z : Value} {ob : Option Nat} {Q : Nat → Nat → Prop} {k : Nat} (h : AliveP H P n z ob Q k) (hw : Wf H) (hk : ∀ y, P y → y < H.next → H'.objs.get y = H.objs.get y) (hP : ∀ y, P y → y < H.next → P' y) : AliveP H' P' n z ob Q k := by
 obtain ⟨h0, vals, h1, h2, h3⟩ := h
 refine ⟨fun y hy => hP y (h0 y hy) (h1.lt hw y hy), vals, h1.keep fun y hy => hk y (h0 y hy) (h1.lt hw y hy), h2, fun j v hv => ?_⟩
 obtain ⟨B, o, h4, h5, h6⟩ := h3 j v hv
 exact ⟨B, o, h4.keep fun y hy => hk y (h5 y hy).1 (h4.lt hw y hy), fun y hy => ⟨hP y (h5 y hy).1 (h4.lt hw y hy), (h5 y hy).2⟩, h6⟩
theorem B58 {H : AH} {P : Nat → Prop} {n : Nat} {z v : Value} {ob o : Option Nat} {Q : Nat → Nat → Prop} {k : Nat} {B : List Bool} (h : AliveP H P n z ob Q k) (hw : Wf H) (hb : ∀ y, H.next ≤ y → P y) (hB : Buf H 1 v (B.map A0l) o) (ho : ∀ y, o = some y → P y ∧ ob ≠ some y) (hBl : B.length = n) (hQ : ∀ t : Nat, B[t]? = some true ↔ Q k t) (hk : k ≤ 1073741823) :
  ∃ a cap w' H4 ob', z = .slice a k cap ∧ A5a Tryz.prog 103 1 [(0, v)] H = some (.slice (some ⟨H.next, 0, some 0⟩) 1 1, (H.new 1 [v]).2) ∧ A4a Tryz.prog .append [103, 103] [.slice a k cap, .slice (some ⟨H.next, 0, some 0⟩) 1 1] (H.new 1 [v]).2 = some (w', H4) ∧ AliveP H4 P n w' ob' Q (k + 1) ∧ Chg (fun y => ob = some y) H H4 ∧ ∀ y, ob' = some y → ob = some y ∨ H.next ≤ y := by
 obtain ⟨h0, vals, h1, h2, h3⟩ := h
 obtain ⟨a, cap, w', H4, ob', e1, e2, e3, e4, e5⟩ := h1.push hw (x := [v]) rfl
 have hv := hB.isCell
 have hbs := A16 (H := H) (x := v) (by rw [A0c hv]; rfl) (by rw [A0c hv]; simp [hv])
 rw [A0c hv] at hbs
 rw [List.length_map, h2] at e1 e2
 have ha := C2c (H := H) (base := a) (len := k) (cap := cap) (x := [v]) rfl hk
 rw [e2] at ha
 have hfar : ∀ y, o = some y → ob' ≠ some y := fun y hy hy2 => by
  rcases e5 y hy2 with h4 | h4
  ·exact (ho y hy).2 h4
  ·have := hB.lt hw y hy; omega
 refine ⟨a, cap, w', H4, ob', e1, hbs, ha, ⟨fun y hy => ?_, vals ++ [v], by rw [List.map_append]; exact e3, by simp [h2], fun j w hj => ?_⟩, e4, e5⟩
 ·rcases e5 y hy with h4 | h4
  ·exact h0 y h4
  ·exact hb y h4
 ·rcases Nat.lt_or_ge j vals.length with hj1 | hj1
  ·rw [List.getElem?_append_left hj1] at hj
   obtain ⟨B', o', k1, k2, k3⟩ := h3 j w hj
   refine ⟨B', o', k1.chg hw e4 fun y hy hy2 => (k2 y hy).2 hy2, fun y hy => ⟨(k2 y hy).1, fun hy2 => ?_⟩, k3⟩
   rcases e5 y hy2 with h4 | h4
   ·exact (k2 y hy).2 h4
   ·have := k1.lt hw y hy; omega
  ·rw [List.getElem?_append_right hj1] at hj
   have hj0 : j - vals.length = 0 := by
    have := (List.getElem?_eq_some_iff.1 hj).1
    simp at this; omega
   have hjk : j = k := by omega
   rw [hj0] at hj
   have : v = w := by simpa using hj
   subst this hjk
   exact ⟨B, o, hB.chg hw e4 fun y hy hy2 => (ho y hy).2 hy2, fun y hy => ⟨(ho y hy).1, hfar y hy⟩, hBl, hQ⟩
theorem C0o {H : AH} {P : Nat → Prop} {n : Nat} {z : Value} {ob : Option Nat} {Q : Nat → Nat → Prop} {k j : Nat} (h : AliveP H P n z ob Q k) (hj : j < k) :
  ∃ p v, A4b Tryz.prog 103 z (.int .i64 (j : Int)) = some (.pointer (some p)) ∧ H.cell p = some v ∧ ∃ B : List Bool, Sl H v 1 (B.map A0l) ∧ B.length = n ∧ ∀ t : Nat, B[t]? = some true ↔ Q j t := by
 obtain ⟨h0, vals, h1, h2, h3⟩ := h
 have hv : vals[j]? = some (vals[j]'(by rw [h2]; exact hj)) := List.getElem?_eq_getElem _
 obtain ⟨B, o, k1, k2, k3⟩ := h3 j _ hv
 obtain ⟨p, i1, i2⟩ := Sl.elem (s := 1) Tryz.underlying103 B5i h1.toSl (i := j) (u := vals[j]'(by rw [h2]; exact hj)) (by rw [List.getElem?_map, hv]; rfl)
 exact ⟨p, _, i1, i2, B, k1.toSl, k3⟩
noncomputable def A0i (sigma : List ByteArray) (E : List (List (ByteArray × Nat))) (ends : List Bool) (k : Nat) : List (List ByteArray) := (List.range k).flatMap fun m => A7k sigma E ends (Clo (A0e E A9a) fun s => s = 0) m
theorem B9a (sigma : List ByteArray) (E : List (List (ByteArray × Nat))) (ends : List Bool) (k : Nat) : A0i sigma E ends (k + 1) = A0i sigma E ends k ++ A7k sigma E ends (Clo (A0e E A9a) fun s => s = 0) k := by
 unfold A0i
 rw [List.range_succ, List.flatMap_append]
 simp
theorem B13 (sigma : List ByteArray) (E : List (List (ByteArray × Nat))) (ends : List Bool) {i n : Nat} (h : i ≤ n) : ∃ t, A0i sigma E ends n = A0i sigma E ends i ++ t := by
 induction n with
 | zero => exact ⟨[], by rw [show i = 0 by omega]; simp⟩
 | succ n ih =>
  by_cases hin : i = n + 1
  ·exact ⟨[], by rw [hin]; simp⟩
  obtain ⟨t, ht⟩ := ih (by omega)
  exact ⟨t ++ A7k sigma E ends (Clo (A0e E A9a) fun s => s = 0) n, by rw [B9a, ht, List.append_assoc]⟩
noncomputable def A9f (all : List (List ByteArray)) (more : Prop) (most : Nat) : List (List ByteArray) × Bool × Bool :=
 if most < all.length then (all.take most, true, false) else if tB more = true then (if all.length < most then ([], false, true) else (all, true, false)) else (all, false, false)
theorem B56 {H : AH} {v ev bv : Value} {vals : List Value} {n most : Nat} {E : List (List (ByteArray × Nat))} {ends : List Bool} {sigma : List ByteArray} (h : RG H v n E ends ev bv vals) (htot : (E.map List.length).sum ≤ 1048576) (hasc : Asc sigma) (hsy : ∀ x s t, A0e E x s t → x = A9a ∨ x ∈ sigma) (hno : A9a ∉ sigma) (hmost : most ≤ 900) (h1m : 1 ≤ most) (hw : Wf H) :
  Sh.Call Tryz.prog (knows 7) 29 [v, .int .i64 (most : Int)] H (fun r H' => Kept H H' ∧ ∃ lv, r = .tuple #[lv, .bool (A9f (A0i sigma E ends 61) (A1n (A0e E A9a) (anyE E) (fun s => ends[s]? = some true) 61 0) most).2.1, .bool (A9f (A0i sigma E ends 61) (A1n (A0e E A9a) (anyE E) (fun s => ends[s]? = some true) 61 0) most).2.2] ∧ ∃ vs, JagR H' lv 1 ((A9f (A0i sigma E ends 61) (A1n (A0e E A9a) (anyE E) (fun s => ends[s]? = some true) 61 0) most).1.map strRow) vs) := by
 refine A2a rfl Tryz.func29 rfl (Nat.le_of_ble_eq_true rfl) ?_
 have hres : Tryz.f29.results.toList = [.tmp 4, .tmp 5, .tmp 6] := rfl
 have hn1 := h.n1
 have hn2 := h.n2
 have hrb := RBox.of h hw
 have hk1 : Kept H (H.new 3 [.int .i64 0, ev, bv]).2 := Kept.new hw 3 _
 have hE := h.ed.sl.isCell
 have hB := h.en.isCell
 rw [h.eq]
 simp only [↓Sh.dn, sx, Nat.reduceEqDiff, B2u hE hB]
 generalize (H.new 3 [.int .i64 0, ev, bv]).2 = H1 at hrb hk1 ⊢
 generalize hgb : H.next = gb at hrb ⊢
 have hlE : ∀ H', A4a Tryz.prog .len [57] [ev] H' = some (.int .i64 (n : Int), H') := fun H' => by
  rw [h.ed.sl.len Tryz.underlying57, List.length_map, h.ed.len]; unfold A6h; rw [List.length_map, h.le]
 have hz : decide ((n : Int) = 0) = false := by simp; omega
 obtain ⟨rv, H3, hd3, hk3, R, ot, vs, obs, hJ, hin, hRl, hRr, hRg⟩ := A51 hrb.rg hk1.wf
 have hrb3 := hrb.kept hk1.wf hk3
 simp only [↓Sh.dn, sx, Nat.reduceEqDiff, hrb.c1, hlE, hz, hrb.ca]
 refine ⟨_, _, hd3, ?_⟩
 have hs3 := hrb3.rg.en
 obtain ⟨mv, H4, os, a1, a2, a3, a4⟩ := (Buf.void (H := H3) (s := 1) none).append hk3.wf (xs := ends.map A0l) (by intro x hx; obtain ⟨b, _, rfl⟩ := List.mem_map.1 hx; rfl)
 have happ := app_58 (base := none) (len := 0) (cap := 0) (hs3.srcKind Tryz.underlying58) hs3.newCells (by rw [List.length_map, h.ln]; omega)
 rw [a1] at happ
 have hk4 : Kept H3 H4 := a3.kept fun g hg h => by cases h
 rw [List.nil_append] at a2
 have hos : ∀ y, os = some y → H3.next ≤ y ∧ y < H4.next := by
  intro y hy
  rcases a4 with h4 | ⟨h4, h5⟩
  ·rw [h4] at hy; cases hy
  ·rw [h4] at hy; rw [← Option.some.inj hy]; exact ⟨Nat.le_refl _, h5⟩
 have hJ4 := hJ.kept hk3.wf hk4
 have hJn := hJ.lt hk3.wf
 obtain ⟨rr, H5, hd5, hc5, seen, hb5, hsl5, hi5⟩ := B6f (em := true) (hk3.trans hk4) hJ4 hRl hRr a2 (fun y hy => by have := (hos y hy).1; have := hk3.next; omega) (fun y hy hj => by have := hJn y hj; have := (hos y hy).1; omega) h.ln hn2
 have hk35 : Kept H3 H5 := hk4.then (Nat.le_refl _) (hc5.weak fun y hy => (hos y hy).1)
 have hJ5 := hJ.kept hk3.wf hk35
 have hrb5 := hrb3.kept hk3.wf hk35
 have hX0 : ∀ t : Nat, seen[t]? = some true ↔ exE E ends 0 t := fun t => by rw [hi5, B9c hRg]; rfl
 simp only [sx, hrb3.c2, happ]
 refine ⟨_, _, hd5, ?_⟩
 have va : ∀ xs : Array Value, A6a (.agg xs) = xs.toList := fun _ => rfl
 have vi : ∀ n : Int, A6a (.int .i64 n) = [.int .i64 n] := fun _ => rfl
 have ci : ∀ n : Int, isCell (.int .i64 n) = true := fun _ => rfl
 have cs : isCell (.slice none 0 0) = true := rfl
 have bl : A6t Tryz.prog 105 [(0, .agg #[.int .i64 0, ev, bv]), (2, .int .i64 (most : Int))] = some (.agg #[.int .i64 0, ev, bv, .slice none 0 0, .int .i64 (most : Int), .slice none 0 0]) := by
  refine A9q (pl := [(0, 3), (3, 1), (4, 1), (5, 1)]) Tryz.underlying105 B0q (by kernel_rfl) ?_
  simp [A62, va, vi, ci, hE, hB, setCells, A3c]
 have nl : ∀ (H : AH), anew Tryz.prog 105 H (.agg #[.int .i64 0, ev, bv, .slice none 0 0, .int .i64 (most : Int), .slice none 0 0]) = some (.pointer (some ⟨H.next, 0, some 0⟩), (H.new 6 [.int .i64 0, ev, bv, .slice none 0 0, .int .i64 (most : Int), .slice none 0 0]).2) :=
  fun H => A0r C8b rfl (by simp [hE, hB, ci, cs])
 have k6 := Kept.new hc5.wf 6 [.int .i64 0, ev, bv, .slice none 0 0, .int .i64 (most : Int), .slice none 0 0]
 have o6 := (Sh.Obj.new (H := H5) 6 [.int .i64 0, ev, bv, .slice none 0 0, .int .i64 (most : Int), .slice none 0 0]).arr
 have x6 : H5.next < (H5.new 6 [.int .i64 0, ev, bv, .slice none 0 0, .int .i64 (most : Int), .slice none 0 0]).2.next := Nat.lt_succ_self _
 have hrb6 := hrb5.kept hc5.wf k6
 simp only [sx, hrb5.ca, bl, nl, hrb6.ca]
 generalize hgx : H5.next = gx at o6 x6 ⊢
 generalize (H5.new 6 [.int .i64 0, ev, bv, .slice none 0 0, .int .i64 (most : Int), .slice none 0 0]).2 = H6 at k6 o6 x6 hrb6 ⊢
 obtain ⟨r7, H7, hd7, hk7, S0, b7, hb7, hf7, hnd7, hlt7, hi7⟩ := refStart hrb6.rg k6.wf
 refine ⟨_, _, hd7, ?_⟩
 have hb0 : gx < H7.next := Nat.lt_of_lt_of_le x6 hk7.next
 have hk57 := k6.trans hk7
 have o7 := o6.keep (hk7.old gx x6)
 have hQ0 : (fun t => t ∈ S0) = Clo (A0e E A9a) fun s => s = 0 := funext fun t => propext (hi7 t)
 have hk07 := (hk1.trans hk3).trans (hk35.trans hk57)
 have h67 := hk7.next
 have h13 := hk1.next
 have h33 := hk3.next
 have h35 := hk35.next
 have far : ∀ y, y < H5.next → y ≠ gx := fun y hy => by omega
 have hlL : LisAt H7 (fun y => H7.next ≤ y ∧ (none : Option Nat) ≠ some y) gx ev bv (.slice none 0 0) most (.slice none 0 0) none [] := ⟨o7, RowsB.void _ _, fun h => by omega⟩
 have hA0 : AliveP H7 (fun y => y ≠ gx ∧ (none : Option Nat) ≠ some y) n (.slice none 0 0) none (exE E ends) 0 := ⟨fun y hy => (by cases hy), [], .void none, rfl, fun j v hj => by simp at hj⟩
 have f0e : A0i sigma E ends 0 = [] := rfl
 have hK5 : ∀ {H'}, Chg (fun y => y = gx ∨ H7.next ≤ y) H7 H' → Kept H5 H' := fun hc => hk57.then (Nat.le_refl _) (hc.weak fun y hy => by have := hk57.next; omega)
 refine A1d 61 11 (List.range' 31 35 ++ [8, 11]) (fun i F H' => Chg (fun y => y = gx ∨ H7.next ≤ y) H7 H' ∧ (A0i sigma E ends i).length ≤ most ∧ ∃ zm, F.get 8 = some zm ∧ ∃ (X : List Bool) (om : Option Nat) (xv : Value) (ob : Option Nat) (zo : Value) (oo : Option Nat), Buf H' 1 zm (X.map A0l) om ∧ (∀ y, om = some y → y ≠ gx ∧ oo ≠ some y ∧ ob ≠ some y) ∧ X.length = n ∧ (∀ t : Nat, X[t]? = some true ↔ exE E ends i t) ∧ (∀ y, ob = some y → H7.next ≤ y) ∧ LisAt H' (fun y => H7.next ≤ y ∧ ob ≠ some y) gx ev bv xv most zo oo (A0i sigma E ends i) ∧ AliveP H' (fun y => y ≠ gx ∧ oo ≠ some y) n xv ob (exE E ends) i) (by simp only [sx])
  ⟨Chg.refl hk7.wf, by rw [f0e]; exact Nat.zero_le _, mv, by simp only [sx, Nat.reduceEqDiff], seen, os, _, none, _, none, hb5.kept hc5.wf hk57, fun y hy => ⟨far y (by have := (hos y hy).2; have := hc5.next; omega), (fun h => by cases h), fun h => by cases h⟩, hsl5, hX0, (fun y hy => by cases hy), hlL, hA0⟩ ?_ ?_
 ·rintro i F H' hi hF f11 ⟨hc, hfl, zm, f8, X, om, xv, ob, zo, oo, hX, hom, hXl, hXi, hob, hL, hA⟩ k
  have g1 := hF 1 rfl
  have g7 := hF 7 rfl
  have g9 := hF 9 rfl
  have g10 := hF 10 rfl
  simp only [sx, Nat.reduceEqDiff] at g1 g7 g9 g10
  have hgl := hL.ng
  have hcn := hc.next
  have hool := (B0h hL.rows).2.2
  have hoog : ∀ y, oo = some y → H7.next ≤ y := fun y hy => (hL.rows.ob y hy).1
  obtain ⟨a, cap, xv2, Ha, ob2, rfl, e1, e2, hA2, hca, hob2⟩ := B58 hA hc.wf (fun y hy => ⟨by omega, fun h => by have := hool y hc.wf h; omega⟩) hX (fun y hy => ⟨⟨(hom y hy).1, (hom y hy).2.1⟩, (hom y hy).2.2⟩) hXl hXi (by omega)
  have hobn : ∀ y, ob = some y → y ≠ gx ∧ oo ≠ some y := hA.1
  have ca := hL.cell.keep (hca.old gx (hL.cell.lt hc.wf) fun h => (hobn gx h).1 rfl)
  obtain ⟨Hb, s1, s2, s3, s4⟩ := ca.write hca.wf (i := 3) (vs := [xv2]) (by simp)
  have hx2c : isCell xv2 = true := by
   obtain ⟨_, _, hb, _⟩ := hA2
   exact hb.isCell
  have st : A8e Tryz.prog 103 Ha xv2 (.pointer (some ⟨gx, 3, some 0⟩)) = some Hb := by rw [A2c B4p hx2c]; exact s1
  have hcab : Chg (fun y => ob = some y ∨ y = gx) H' Hb := (hca.weak fun y hy => .inl hy).trans (s4.weak fun y hy => .inr hy)
  have hcb : Chg (fun y => y = gx ∨ H7.next ≤ y) H7 Hb := hc.trans (hcab.weak fun y hy => by
   rcases hy with h1 | h1
   ·exact .inr (hob y h1)
   ·exact .inl h1)
  have hbn := hcab.next
  have hob2l : ∀ y, ob2 = some y → y < Ha.next := fun y hy => by
   obtain ⟨_, vz, hz1, _⟩ := hA2
   exact hz1.lt hca.wf y hy
  have hHa : Ha.next = Hb.next := s3.symm
  have hLb : LisAt Hb (fun y => H7.next ≤ y ∧ ob2 ≠ some y) gx ev bv xv2 most zo oo (A0i sigma E ends i) := ⟨s2, hL.rows.move hc.wf (fun y hy hyl => hcab.old y hyl fun h => by
      rcases h with h1 | h1
      · exact hy.2 h1
      · have := hy.1; omega) (fun y hy hyl => ⟨hy.1, fun h => by
      rcases hob2 y h with h1 | h1
      · exact hy.2 h1
      · omega⟩), fun h => by omega⟩
  have hAb := hA2.move (H' := Hb) (P' := fun y => y ≠ gx ∧ oo ≠ some y) hca.wf (fun y hy hyl => s4.old y hyl hy.1) fun y hy _ => hy
  have hXb := hX.chg hc.wf hcab fun y hy h => by
   rcases h with h1 | h1
   ·exact (hom y hy).2.2 h1
   ·exact (hom y hy).1 h1
  have hS0 : SetAt Hb r7 n (Clo (A0e E A9a) fun s => s = 0) := ⟨S0, (hb7.chg hk7.wf hcb fun y hy h => by
   have h1 := hf7 y hy
   have h2 := hb7.lt hk7.wf y hy
   omega).toSl, hnd7, hlt7, hi7⟩
  obtain ⟨r8, Hc, hd8, hcc, zo2, oo2, hLc, hof⟩ := refWalk (H0 := Hb) (G := fun y => H7.next ≤ y ∧ ob2 ≠ some y) (base := Hb.next) (gx := gx) (n := n) (most := most) (long := i) (oo0 := oo) (E := E) (ends := ends) (sigma := sigma) (ev := ev) (bv := bv) (xv := xv2) (vals := vals)
   (fun H8 hc8 => (hrb5.rg.kept hc5.wf ((hK5 hcb).then (Nat.le_refl _) (hc8.weak fun y hy => by
    have := (hK5 hcb).next
    rcases hy with h1 | h1 | h1
    ·omega
    ·have := hoog y h1; omega
    ·omega))))
   (fun H8 hc8 j hj => C0o (hAb.move (P' := fun _ => True) hcb.wf (fun y hy hyl => hc8.old y hyl fun h => by
    rcases h with h1 | h1 | h1
    ·exact hy.1 h1
    ·exact hy.2 h1
    ·omega) fun _ _ _ => trivial) (by omega))
   htot hasc hsy hno hmost (by omega) (fun y hy => ⟨by omega, fun h => by have := hob2l y h; omega⟩) (by omega)
   i Hb (Clo (A0e E A9a) fun s => s = 0) r7 (.slice none 0 0) [] none _ zo oo (Chg.refl hcb.wf) (Nat.le_refl _) hS0 (fun a b h1 h2 => .step h1 h2) (.void none) (fun y hy => by cases hy) hLb (fun y hy => .inl hy) (by omega) (by simp)
  have hlist : (A0i sigma E ends i ++ (A7k sigma E ends (Clo (A0e E A9a) fun s => s = 0) i).map ([] ++ ·)).take (most + 1) = (A0i sigma E ends (i + 1)).take (most + 1) := by
   rw [B9a]; simp
  rw [hlist] at hLc
  have hcc' : Chg (fun y => y = gx ∨ H7.next ≤ y) H7 Hc := hcb.trans (hcc.weak fun y hy => by
   rcases hy with h1 | h1
   ·exact .inl h1
   ·exact .inr (hoog y h1))
  have hccn := hcc.next
  have c3 := hL.cell.cell 3
  have c5 := hLc.cell.cell 5
  simp only [List.getElem?_cons_succ, List.getElem?_cons_zero] at c3 c5
  have hlO := B24 hLc.rows
  have h60 : decide ((i : Int) ≤ 60) = true := by simp; omega
  simp only [↓Sh.dn, sx, Nat.reduceEqDiff, f11, h60, f8, g9, c3, e1, e2, st, g10]
  refine ⟨_, _, hd8, ?_⟩
  simp only [sx, c5, hlO, g1, A1a]
  by_cases hmo : most < (A0i sigma E ends (i + 1)).length
  ·have h1 : decide (most < ((A0i sigma E ends (i + 1)).take (most + 1)).length) = true := by rw [decide_eq_true_eq, List.length_take]; omega
   obtain ⟨vz, hz1, hz2, hz3⟩ := hLc.rows.ex
   have hzl : ((vz.map fun x => [x]) : List (List Value)).length = most + 1 := by rw [List.length_map, hz2, List.length_take]; omega
   obtain ⟨lv, hcut, hsl⟩ := hz1.cut3 (k := most) (by omega) (by unfold big; omega) (fun h => by rw [h] at hzl; simp at hzl)
   have hcu := hcut (P := Tryz.prog) Tryz.underlying29 A4w
   obtain ⟨tl, htl⟩ := B13 sigma E ends (i := i + 1) (n := 61) (by omega)
   have ho : A9f (A0i sigma E ends 61) (A1n (A0e E A9a) (anyE E) (fun s => ends[s]? = some true) 61 0) most = ((A0i sigma E ends (i + 1)).take most, true, false) := by
    unfold A9f
    rw [htl, if_pos (by rw [List.length_append]; omega), List.take_append_of_le_length (by omega)]
   simp only [↓Sh.dn, sx, Nat.reduceEqDiff, h1, g9, c5, g1, hcu, hres, ho]
   refine ⟨(hk1.trans (hk3.trans hk35)).trans (hK5 hcc'), lv, rfl, vz.take most, by rw [List.map_take]; exact hsl, by rw [List.length_take, List.length_map, List.length_take, hz2, List.length_take]; omega, fun j w r hw hr => ?_⟩
   rw [List.getElem?_take] at hw
   split at hw
   ·rename_i hj
    rw [List.getElem?_map, List.getElem?_take, if_pos hj] at hr
    obtain ⟨u, hu, rfl⟩ := Option.map_eq_some_iff.1 hr
    obtain ⟨o, h4, _⟩ := hz3 j w u hw (by rw [List.getElem?_take, if_pos (by omega)]; exact hu)
    exact h4.toSl
   ·cases hw
  ·have h1 : decide (most < ((A0i sigma E ends (i + 1)).take (most + 1)).length) = false := by rw [decide_eq_false_iff_not, List.length_take]; omega
   have htk : (A0i sigma E ends (i + 1)).take (most + 1) = A0i sigma E ends (i + 1) := List.take_of_length_le (by omega)
   rw [htk] at hLc
   have hXc := hXb.chg hcb.wf hcc fun y hy h => by
    rcases h with h2 | h2
    ·exact (hom y hy).1 h2
    ·exact (hom y hy).2.1 h2
   obtain ⟨r9, Hd, hd9, hk9, X9, o9, hX9, hX9o, hX9l, hX9i⟩ := B3z (hJ5.kept hc5.wf (hK5 hcc')) hRl hRr hXc.toSl hXl hn1 hn2 hcc.wf
   have hool2 := (B0h hLc.rows).2.2
   simp only [↓Sh.dn, sx, Nat.reduceEqDiff, h1, g7, f8]
   refine ⟨_, _, hd9, ?_⟩
   simp only [sx, f11, A3a hi (by omega)]
   have h7n := hcb.next
   refine k _ _ (by repeat (first | refine Same.put ?_ rfl | exact Same.rfl' _)) (by simp only [sx]) ⟨hcc'.trans hk9.chg, by omega, r9, by simp only [sx, Nat.reduceEqDiff], X9, o9, xv2, ob2, zo2, oo2, hX9, fun y hy => ?_, hX9l, fun t => ?_, fun y hy => ?_, hLc.kept hcc.wf hk9, ?_⟩
   ·have h2 := hX9o y hy
    exact ⟨by omega, fun h => by have := hool2 y hcc.wf h; omega, fun h => by have := hob2l y h; omega⟩
   ·rw [hX9i, B6c hRg hXi]; rfl
   ·rcases hob2 y hy with h2 | h2
    ·exact hob y h2
    ·omega
   ·refine hAb.move hcb.wf (fun y hy hyl => ?_) fun y hy hyl => ⟨hy.1, fun h => ?_⟩
    ·rw [hk9.old y (by omega), hcc.old y hyl fun h => ?_]
     rcases h with h2 | h2
     ·exact hy.1 h2
     ·exact hy.2 h2
    ·rcases hof y h with h2 | h2
     ·exact hy.2 h2
     ·omega
 ·rintro F H' hF f11 ⟨hc, hfl, zm, f8, X, om, xv, ob, zo, oo, hX, hom, hXl, hXi, hob, hL, hA⟩
  have g1 := hF 1 rfl
  have g2 := hF 2 rfl
  have g9 := hF 9 rfl
  simp only [sx, Nat.reduceEqDiff] at g1 g2 g9
  have hrb' := hrb5.kept hc5.wf (hK5 hc)
  obtain ⟨r8, H8, hd8, hk8, rfl⟩ := C7t (m := 61) hrb'.rg (by omega) hc.wf
  have hL8 := hL.kept hc.wf hk8
  have c5 := hL8.cell.cell 5
  simp only [List.getElem?_cons_succ, List.getElem?_cons_zero] at c5
  have hlO := B24 hL8.rows
  have h61 : decide (((61 : Nat) : Int) ≤ 60) = false := rfl
  have hkk := ((hk1.trans (hk3.trans hk35)).trans (hK5 hc)).trans hk8
  simp only [↓Sh.dn, sx, Nat.reduceEqDiff, f11, h61, g2, hrb'.ca]
  refine ⟨_, _, by exact hd8, ?_⟩
  have hno' : ¬(most < (A0i sigma E ends 61).length) := by omega
  cases hlo : tB (A1n (A0e E A9a) (anyE E) (fun s => ends[s]? = some true) 61 0) with
  | false =>
   have ho : A9f (A0i sigma E ends 61) (A1n (A0e E A9a) (anyE E) (fun s => ends[s]? = some true) 61 0) most = (A0i sigma E ends 61, false, false) := by
    unfold A9f; rw [if_neg hno', hlo, if_neg (by simp)]
   simp only [↓Sh.dn, sx, Nat.reduceEqDiff, g9, c5, hres, ho]
   exact ⟨hkk, _, rfl, hL8.rows.read⟩
  | true =>
   simp only [↓Sh.dn, sx, Nat.reduceEqDiff, g1, g9, c5, hlO, A1a]
   by_cases hfew : (A0i sigma E ends 61).length < most
   ·have ho : A9f (A0i sigma E ends 61) (A1n (A0e E A9a) (anyE E) (fun s => ends[s]? = some true) 61 0) most = ([], false, true) := by
      unfold A9f; rw [if_neg hno', hlo, if_pos rfl, if_pos hfew]
    simp only [↓Sh.dn, sx, Nat.reduceEqDiff, hfew, decide_true, hres, ho]
    exact ⟨hkk, _, rfl, [], Sl.nil _ _, rfl, fun i w r hi => by simp at hi⟩
   ·have ho : A9f (A0i sigma E ends 61) (A1n (A0e E A9a) (anyE E) (fun s => ends[s]? = some true) 61 0) most = (A0i sigma E ends 61, true, false) := by
      unfold A9f; rw [if_neg hno', hlo, if_pos rfl, if_neg hfew]
    simp only [↓Sh.dn, sx, Nat.reduceEqDiff, hfew, decide_false, g9, c5, hres, ho]
    exact ⟨hkk, _, rfl, hL8.rows.read⟩
end Go.Proofs.YtcgbiedfbacgpaaGreat
/- Elements by states: how many there are. -/
namespace Go.Proofs.YtcgbiedfbacgpaaGreat
open Go Go.Proofs Go.Proofs.Sh
theorem A28 {α : Type} {p q r : α → Bool} (h1 : ∀ a, r a = (p a || q a)) (h2 : ∀ a, p a = true → q a = false) : ∀ l : List α, (l.filter p).length + (l.filter q).length = (l.filter r).length
 | [] => rfl
 | a :: l => by
  have ih := A28 h1 h2 l
  have e := h1 a
  cases hp : p a with
  | true =>
   have hq := h2 a hp
   rw [hp, hq] at e
   simp only [List.filter_cons, hp, hq, e, if_true, Bool.or_false, List.length_cons, Bool.false_eq_true, if_false]; omega
  | false =>
   cases hq : q a with
   | true =>
    rw [hp, hq] at e
    simp only [List.filter_cons, hp, hq, e, if_true, Bool.or_true, List.length_cons, Bool.false_eq_true, if_false]; omega
   | false =>
    rw [hp, hq] at e
    simp only [List.filter_cons, hp, hq, e, Bool.or_self, Bool.false_eq_true, if_false]; exact ih
theorem C6k {α β : Type} {key : α → Int} {f : α → β} {n : Nat} {l : List α} : ((rowsOf key f n l).map List.length).sum ≤ l.length := by
 have h : ∀ n : Nat, ((List.range n).map fun (s : Nat) => (l.filter fun a => decide (key a = (s : Int))).length).sum = (l.filter fun a => decide (0 ≤ key a ∧ key a < (n : Int))).length := by
  intro n
  induction n with
  | zero =>
   have : (l.filter fun a => decide (0 ≤ key a ∧ key a < ((0 : Nat) : Int))) = [] := by
    rw [List.filter_eq_nil_iff]
    intro a _
    simp only [decide_eq_true_eq]; omega
   rw [this]; rfl
  | succ n ih =>
   rw [List.range_succ, List.map_append, List.sum_append, ih]
   simp only [List.map_cons, List.map_nil, List.sum_cons, List.sum_nil, Nat.add_zero]
   refine A28 (fun a => ?_) (fun a ha => ?_) l
   ·rw [Bool.eq_iff_iff, Bool.or_eq_true]; simp only [decide_eq_true_eq]; omega
   ·simp only [decide_eq_true_eq, decide_eq_false_iff_not] at ha ⊢; omega
 unfold rowsOf
 rw [List.map_map]
 have e : (List.length ∘ fun (s : Nat) => (l.filter fun a => decide (key a = (s : Int))).map f) = fun (s : Nat) => (l.filter fun a => decide (key a = (s : Int))).length := by
  funext s; simp
 rw [e, h]
 exact List.length_filter_le _ _
end Go.Proofs.YtcgbiedfbacgpaaGreat
/- (*graph.Graph).Add: another graph is put into one. -/
namespace Go.Proofs.YtcgbiedfbacgpaaGreat
open Go Go.Proofs Go.Proofs.Sh
theorem GrX.setEC {H : AH} {X : Nat → Prop} {g : Nat} {sigma : List ByteArray} {rows : List (List (List Value))} {ends costs : List Int} {s : Nat} (h : GrX H X g sigma rows ends costs) (hw : Wf H) (hs : s < ends.length) (hs' : s < costs.length) (x y : Int) :
  ∃ ev cv p1 p2 H1 H2, H.cell ⟨g, 2, some 0⟩ = some ev ∧ H.cell ⟨g, 3, some 0⟩ = some cv ∧ H1.cell ⟨g, 3, some 0⟩ = some cv ∧ veq cv cv = true ∧ A4b Tryz.prog 69 ev (.int .i64 (s : Int)) = some (.pointer (some p1)) ∧ A4b Tryz.prog 69 cv (.int .i64 (s : Int)) = some (.pointer (some p2)) ∧
   A8e Tryz.prog 3 H (.int .i64 x) (.pointer (some p1)) = some H1 ∧ A8e Tryz.prog 3 H1 (.int .i64 y) (.pointer (some p2)) = some H2 ∧ Chg X H H1 ∧ Chg X H H2 ∧ GrX H2 X g sigma rows (ends.set s x) (costs.set s y) := by
 obtain ⟨sv, av, ev, cv, os, ot, oe, oc, vals, obs, h, ho⟩ := h
 obtain ⟨p1, H1, i1, e1, b1, c1, n1⟩ := Buf.set (P := Tryz.prog) h.en hw (i := s) (x := intC x) (by simpa using hs) rfl
 have hco1 := h.co.chg hw c1 fun y hy hye => h.ec y hye hy
 obtain ⟨p2, H2, i2, e2, b2, c2, n2⟩ := Buf.set (P := Tryz.prog) hco1 c1.wf (i := s) (x := intC y) (by simpa using hs') rfl
 have a1 := h.arr.keep (c1.old g (h.arr.lt hw) h.ge)
 have hX1 : Chg X H H1 := c1.weak fun y hy => ho y (.inr (.inr (.inr (.inl hy))))
 have hX2 : Chg X H1 H2 := c2.weak fun y hy => ho y (.inr (.inr (.inr (.inr hy))))
 have c12 : Chg (fun y => oe = some y ∨ oc = some y) H H2 := (c1.weak fun y hy => .inl hy).trans (c2.weak fun y hy => .inr hy)
 refine ⟨ev, cv, p1, p2, H1, H2, h.arr.cell 2, h.arr.cell 3, a1.cell 3, h.co.toSl.veq, i1 Tryz.underlying69 A7c, i2 Tryz.underlying69 A7c, by rw [A2c A7c rfl]; exact e1, by rw [A2c A7c rfl]; exact e2, hX1, hX1.trans hX2, sv, av, ev, cv, os, ot, oe, oc, vals, obs, { h with arr := h.arr.keep (c12.old g (h.arr.lt hw) ?_), sg := h.sg.chg hw c12 ?_, jag := h.jag.chg hw c12 ?_, en := ?_, co := ?_ }, ho⟩
 ·rintro (hy | hy)
  ·exact h.ge hy
  ·exact h.gc hy
 ·rintro y hy (hy2 | hy2)
  ·exact h.se y hy hy2
  ·exact h.sc y hy hy2
 ·rintro y hy (hy2 | hy2)
  ·exact h.je y hy2 hy
  ·exact h.jc y hy2 hy
 ·rw [List.map_set]; exact b1.chg c1.wf c2 fun y hy hyc => h.ec y hy hyc
 ·rw [List.map_set]; exact b2
end Go.Proofs.YtcgbiedfbacgpaaGreat
/- (*graph.Graph).Useful, Trim. -/
namespace Go.Proofs.YtcgbiedfbacgpaaGreat
open Go Go.Proofs Go.Proofs.Sh
def B5q (E : List (List (Nat × Int × Int × Int))) (ends : List Int) (t : Nat) : Prop := Clo (A2d E fun _ => True) (fun s => s = 0) t ∧ Clo (fun s t => A2d E (fun _ => True) t s) (fun s => 0 < ends.getD s 0) t
theorem B63 {H : AH} {g n : Nat} {E : List (List (Nat × Int × Int × Int))} {ends : List Int} {sv av ev cv : Value} {vals : List Value} {sigma : List ByteArray} {costs : List Int} (h : PG H g n 60000 E ends sv av ev cv vals sigma costs) (hsg : sigma.length ≤ 1048576) (hw : Wf H) :
  Sh.Call Tryz.prog (knows 7) 57 [.pointer (some ⟨g, 0, some 0⟩)] H (fun r H' => Kept H H' ∧ ∃ U : List Bool, ∃ o, Buf H' 1 r (U.map A0l) o ∧ (∀ y, o = some y → H.next ≤ y) ∧ U.length = n ∧ ∀ t : Nat, U[t]? = some true ↔ B5q E ends t) := by
 refine A2a rfl Tryz.func57 rfl (Nat.le_of_ble_eq_true rfl) ?_
 have hres : Tryz.f57.results.toList = [.tmp 2] := rfl
 have hn1 := h.n1
 have hn2 := h.n2
 have hbs := A5q (H := H) (x := .int .i64 0) rfl rfl
 have k1 := Kept.new hw 1 [.int .i64 0]
 have hS : Sl (H.new 1 [.int .i64 0]).2 (.slice (some ⟨H.next, 0, some 0⟩) 1 1) 1 (([0] : List Nat).map natC) :=
  (Buf.fresh (H := H) (s := 1) (xs := [natC 0]) hw (by intro x hx; rw [List.mem_singleton.1 hx]; rfl) (by simp) 1 rfl).toSl
 obtain ⟨r1, H2, hd2, hk2, B1, o1, hb1, ho1, hl1, hi1⟩ := A00 (caps := []) (fid := 67) (fun _ => true) (h.kept hw k1) (by decide) hS (fun t ht => by rw [List.mem_singleton.1 ht]; exact hn1) (by decide) k1.wf (fun H' hk e => B0n hk.wf)
 have hk12 := k1.trans hk2
 obtain ⟨r2, H3, hd3, hk3, B2, o2, hb2, ho2, hl2, hi2⟩ := B6r (h.kept hw hk12) hsg hk2.wf
 have hb13 := hb1.kept hk2.wf hk3
 have hsep : ∀ y, o1 = some y → o2 ≠ some y := fun y h1 h2 => by have := hb1.lt hk2.wf y h1; have := ho2 y h2; omega
 simp only [↓Sh.dn, sx, reduceCtorEq, Nat.reduceEqDiff, hbs, A6a]
 refine ⟨_, _, hd2, ?_⟩
 refine ⟨_, _, hd3, ?_⟩
 have hlen := hb13.toSl.len Tryz.underlying58 H3
 rw [List.length_map, hl1] at hlen
 have k0 := hk12.trans hk3
 simp only [sx, hlen]
 refine A1d n 13 (List.range' 13 17 ++ [5]) (fun i F H' => Chg (fun y => o1 = some y) H3 H' ∧ ∃ C : List Bool, Buf H' 1 r1 (C.map A0l) o1 ∧ C.length = n ∧ ∀ t : Nat, C[t]? = some true ↔ B1[t]? = some true ∧ (t < i → B2[t]? = some true)) (by simp only [sx]) ⟨Chg.refl hk3.wf, B1, hb13, hl1, fun t => by simp⟩ ?_ ?_
 ·rintro i F H' hi hF f13 ⟨hc, C, hC, hCl, hCi⟩ k
  have f3 := hF 3 rfl
  have f4 := hF 4 rfl
  have f12 := hF 12 rfl
  simp only [sx, Nat.reduceEqDiff] at f3 f4 f12
  obtain ⟨c, hcx⟩ : ∃ c, C[i]? = some c := ⟨C[i]'(by rw [hCl]; exact hi), List.getElem?_eq_getElem _⟩
  obtain ⟨b, hbx⟩ : ∃ b, B2[i]? = some b := ⟨B2[i]'(by rw [hl2]; exact hi), List.getElem?_eq_getElem _⟩
  obtain ⟨p, e1, e2, e3⟩ := hC.spot Tryz.underlying58 A2j hc.wf (i := i) (u := .bool c) (by rw [List.getElem?_map, hcx]; rfl)
  obtain ⟨q, e4, e5⟩ := Sl.elem (s := 1) Tryz.underlying58 A2j (hb2.chg hk3.wf hc fun y hy h1 => hsep y h1 hy).toSl (i := i) (u := .bool b) (by rw [List.getElem?_map, hbx]; rfl)
  obtain ⟨H4, w1, w2, w3, w4⟩ := e3 (.bool (c && b))
  have st : A8e Tryz.prog 4 H' (.bool (c && b)) (.pointer (some p)) = some H4 := by rw [A2c A2j rfl]; exact w1
  have hnew : ∀ t : Nat, (C.set i (c && b))[t]? = some true ↔ B1[t]? = some true ∧ (t < i + 1 → B2[t]? = some true) := by
   intro t
   rw [List.getElem?_set, hCl, if_pos hi]
   by_cases ht : i = t
   ·subst ht
    rw [if_pos rfl]
    have := hCi i
    rw [hcx] at this
    simp only [Option.some.injEq, Nat.lt_irrefl, false_implies, and_true] at this
    rw [hbx, ← this]
    simp
   ·rw [if_neg ht, hCi t]
    constructor
    ·rintro ⟨h1, h2⟩; exact ⟨h1, fun h3 => h2 (by omega)⟩
    ·rintro ⟨h1, h2⟩; exact ⟨h1, fun h3 => h2 (by omega)⟩
  cases c with
  | true =>
   simp only [Bool.true_and] at st hnew w2
   simp only [↓Sh.dn, sx, Nat.reduceEqDiff, f3, f4, f12, f13, A1a, hi, decide_true, e1, e2, e4, e5, st, A3a hi (Nat.le_trans hn2 (by decide))]
   exact k _ _ (by repeat (first | refine Same.put ?_ rfl | exact Same.rfl' _)) (by simp only [sx]) ⟨hc.trans w3, C.set i b, by rw [List.map_set]; exact w2, by simp [hCl], hnew⟩
  | false =>
   simp only [Bool.false_and] at st hnew w2
   simp only [↓Sh.dn, sx, Nat.reduceEqDiff, f3, f12, f13, A1a, hi, decide_true, e1, e2, st, A3a hi (Nat.le_trans hn2 (by decide))]
   exact k _ _ (by repeat (first | refine Same.put ?_ rfl | exact Same.rfl' _)) (by simp only [sx]) ⟨hc.trans w3, C.set i false, by rw [List.map_set]; exact w2, by simp [hCl], hnew⟩
 ·rintro F H' hF f13 ⟨hc, C, hC, hCl, hCi⟩
  have f3 := hF 3 rfl
  have f12 := hF 12 rfl
  simp only [sx, Nat.reduceEqDiff] at f3 f12
  simp only [↓Sh.dn, sx, Nat.reduceEqDiff, f3, f12, f13, A1a, Nat.lt_irrefl, decide_false, hres]
  have hfr : ∀ y, o1 = some y → H.next ≤ y := fun y hy => Nat.le_trans k1.next (ho1 y hy)
  refine ⟨k0.then (Nat.le_refl _) (hc.weak hfr), C, o1, hC, hfr, hCl, fun t => ?_⟩
  rw [hCi]
  unfold B5q
  have e1 : fitP E (fun _ => true) = A2d E fun _ => True := by
   funext s t
   apply propext
   unfold fitP A2d
   simp
  have e2 : (fun s => s ∈ [0]) = fun s => s = 0 := by funext s; simp
  rw [hi1, e1, e2, ← hi2]
  constructor
  ·rintro ⟨h1, h2⟩
   refine ⟨h1, h2 ?_⟩
   have := (hi1 t).2 (by rw [e1, e2]; exact h1)
   rw [← hl1]
   exact (List.getElem?_eq_some_iff.1 this).1
  ·rintro ⟨h1, h2⟩; exact ⟨h1, fun _ => h2⟩
end Go.Proofs.YtcgbiedfbacgpaaGreat
/- (*graph.Graph).Trim. -/
namespace Go.Proofs.YtcgbiedfbacgpaaGreat
open Go Go.Proofs Go.Proofs.Sh
def A4k (U : List Bool) (r : List (Nat × Int × Int × Int)) : List (Nat × Int × Int × Int) := (r.filter fun e => decide (U[e.1]? = some true)).map fun e => (numU U e.1, e.2)
structure TrimI (E : List (List (Nat × Int × Int × Int))) (ends : List Int) (U : List Bool) (m i : Nat) (R : List (List (Nat × Int × Int × Int))) (es : List Int) : Prop where
 lr : R.length = m
 le : es.length = m
 row : ∀ s r, s < i → U[s]? = some true → E[s]? = some r → R[numU U s]? = some (A4k U r)
 non : ∀ a, a < m → (∀ s, s < i → U[s]? = some true → numU U s ≠ a) → R[a]? = some []
 fin : ∀ s, s < i → U[s]? = some true → es.getD (numU U s) 0 = ends.getD s 0
 nof : ∀ a, (∀ s, s < i → U[s]? = some true → numU U s ≠ a) → es.getD a 0 = 0
theorem TrimI.none (E : List (List (Nat × Int × Int × Int))) (ends : List Int) (U : List Bool) (m : Nat) : TrimI E ends U m 0 (List.replicate m []) (List.replicate m 0) :=
 ⟨by simp, by simp, fun s r hs => absurd hs (Nat.not_lt_zero s), fun a ha _ => by rw [List.getElem?_replicate, if_pos ha], fun s hs => absurd hs (Nat.not_lt_zero s), fun a _ => by
  rw [List.getD_eq_getElem?_getD, List.getElem?_replicate]; split <;> rfl⟩
section
variable {E : List (List (Nat × Int × Int × Int))} {ends : List Int} {U : List Bool} {m i : Nat} {R : List (List (Nat × Int × Int × Int))} {es : List Int}
theorem TrimI.skip (h : TrimI E ends U m i R es) (hi : U[i]? ≠ some true) : TrimI E ends U m (i + 1) R es := by
 have key : ∀ s, s < i + 1 → U[s]? = some true → s < i := fun s hs hu => by
  rcases Nat.lt_or_ge s i with h1 | h1
  ·exact h1
  ·have : s = i := by omega
   subst this; exact absurd hu hi
 exact ⟨h.lr, h.le, fun s r hs hu => h.row s r (key s hs hu) hu, fun a ha hn => h.non a ha fun s hs => hn s (by omega), fun s hs hu => h.fin s (key s hs hu) hu, fun a hn => h.nof a fun s hs => hn s (by omega)⟩
theorem TrimI.add (h : TrimI E ends U m i R es) (hi : U[i]? = some true) (hm : numU U i < m) {r : List (Nat × Int × Int × Int)} (hr : E[i]? = some r) {x : Int} (hx : ends.getD i 0 = x) : TrimI E ends U m (i + 1) (R.set (numU U i) (A4k U r)) (es.set (numU U i) x) := by
 have hne : ∀ s, s < i → U[s]? = some true → numU U i ≠ numU U s := fun s hs hu he => by have := B9q (.inl hi) (.inl hu) he; omega
 refine ⟨by simp [h.lr], by simp [h.le], fun s r' hs hu hr' => ?_, fun a ha hn => ?_, fun s hs hu => ?_, fun a hn => ?_⟩
 ·rw [List.getElem?_set, h.lr]
  by_cases hsi : s = i
  ·subst hsi
   rw [hr] at hr'
   rw [if_pos rfl, if_pos hm, Option.some.inj hr']
  ·rw [if_neg (hne s (by omega) hu)]
   exact h.row s r' (by omega) hu hr'
 ·rw [List.getElem?_set, if_neg (hn i (by omega) hi)]
  exact h.non a ha fun s hs => hn s (by omega)
 ·rw [List.getD_eq_getElem?_getD, List.getElem?_set, h.le]
  by_cases hsi : s = i
  ·subst hsi
   rw [if_pos rfl, if_pos hm, hx]; rfl
  ·rw [if_neg (hne s (by omega) hu), ← List.getD_eq_getElem?_getD]
   exact h.fin s (by omega) hu
 ·rw [List.getD_eq_getElem?_getD, List.getElem?_set, if_neg (hn i (by omega) hi), ← List.getD_eq_getElem?_getD]
  exact h.nof a fun s hs => hn s (by omega)
theorem TrimI.of {n : Nat} (h : TrimI E ends U (1 + A3o U n) n R es) (hE : E.length = n) (hU : U.length = n) (hto : ∀ (s : Nat) r, E[s]? = some r → ∀ e ∈ r, e.1 < n) (hu : ∀ t : Nat, U[t]? = some true ↔ B5q E ends t) :
  TrimOf (fun x s t => A2d E (fun k => k = x) s t) (fun x s t => A2d R (fun k => k = x) s t) (fun s => U[s]? = some true) (numU U) (fun s => 0 < ends.getD s 0) (fun s => 0 < es.getD s 0) := by
 have hlt : ∀ s, U[s]? = some true → s < n := fun s hs => by rw [← hU]; exact (List.getElem?_eq_some_iff.1 hs).1
 refine ⟨fun x a b => ?_, fun a => ?_, B1u U, fun s t hs ht he => B9q hs ht he, fun s => ?_⟩
 ·constructor
  ·rintro ⟨r', h1, e', h2, h3, h4⟩
   by_cases hex : ∃ s, U[s]? = some true ∧ numU U s = a
   ·obtain ⟨s, hs, rfl⟩ := hex
    have hsn := hlt s hs
    have hr : E[s]? = some (E[s]'(by rw [hE]; exact hsn)) := List.getElem?_eq_getElem _
    generalize E[s]'(by rw [hE]; exact hsn) = r at hr
    rw [h.row s r hsn hs hr] at h1
    rw [← Option.some.inj h1] at h2
    obtain ⟨e, h5, h6⟩ := List.mem_map.1 h2
    obtain ⟨h7, h8⟩ := List.mem_filter.1 h5
    subst h6
    exact ⟨s, e.1, hs, of_decide_eq_true h8, rfl, h3.symm, r, hr, e, h7, rfl, h4⟩
   ·have ha : a < 1 + A3o U n := by rw [← h.lr]; exact (List.getElem?_eq_some_iff.1 h1).1
    rw [h.non a ha fun s _ hs he => hex ⟨s, hs, he⟩] at h1
    rw [← Option.some.inj h1] at h2
    cases h2
  ·rintro ⟨s, t, hs, ht, rfl, rfl, r, h1, e, h2, h3, h4⟩
   refine ⟨_, h.row s r (hlt s hs) hs h1, (numU U e.1, e.2), List.mem_map.2 ⟨e, List.mem_filter.2 ⟨h2, decide_eq_true (by rw [h3]; exact ht)⟩, rfl⟩, by rw [h3], h4⟩
 ·constructor
  ·intro ha
   by_cases hex : ∃ s, U[s]? = some true ∧ numU U s = a
   ·obtain ⟨s, hs, rfl⟩ := hex
    exact ⟨s, hs, rfl, by rw [← h.fin s (hlt s hs) hs]; exact ha⟩
   ·rw [h.nof a fun s _ hs he => hex ⟨s, hs, he⟩] at ha
    exact absurd ha (Int.lt_irrefl 0)
  ·rintro ⟨s, hs, rfl, h1⟩
   rw [h.fin s (hlt s hs) hs]; exact h1
 ·rw [hu]
  unfold B5q
  have e1 : (A2d E fun _ => True) = fun s t => ∃ x, A2d E (fun k => k = x) s t := by
   funext s t
   apply propext
   unfold A2d
   constructor
   ·rintro ⟨r, h1, e, h2, h3, _⟩; exact ⟨_, r, h1, e, h2, h3, rfl⟩
   ·rintro ⟨x, r, h1, e, h2, h3, _⟩; exact ⟨r, h1, e, h2, h3, trivial⟩
  rw [e1]
end
theorem C7n {H : AH} {g n : Nat} {E : List (List (Nat × Int × Int × Int))} {ends : List Int} {sv av ev cv : Value} {vals : List Value} {sigma : List ByteArray} {costs : List Int} (h : PG H g n 60000 E ends sv av ev cv vals sigma costs) (hsg : sigma.length ≤ 1048576) (hcl : costs.length = n) (hw : Wf H) :
  Sh.Call Tryz.prog (knows 7) 26 [.pointer (some ⟨g, 0, some 0⟩)] H (fun r H' => Kept H H' ∧ ∃ g', r = .pointer (some ⟨g', 0, some 0⟩) ∧ ∃ m R es, (∃ sv av ev cv vals cs, PG H' g' m 60000 R es sv av ev cv vals sigma cs) ∧ m ≤ n ∧ ∃ U,
   TrimOf (fun x s t => A2d E (fun k => k = x) s t) (fun x s t => A2d R (fun k => k = x) s t) (fun s => U[s]? = some true) (numU U) (fun s => 0 < ends.getD s 0) (fun s => 0 < es.getD s 0)) := by
 refine A2a rfl Tryz.func26 rfl (Nat.le_of_ble_eq_true rfl) ?_
 have hres : Tryz.f26.results.toList = [.tmp 2] := rfl
 have hn1 := h.n1
 have hn2 := h.n2
 have hc0 := h.gr.arr.cell 0
 have hc1 := h.gr.arr.cell 1
 have hc2 := h.gr.arr.cell 2
 have hc3 := h.gr.arr.cell 3
 have hlenA : ∀ H', A4a Tryz.prog .len [68] [av] H' = some (.int .i64 (n : Int), H') := fun H' => by
  rw [h.gr.jag.sl.len Tryz.underlying68, List.length_map, h.gr.jag.len]; unfold A3j; rw [List.length_map, h.le]
 obtain ⟨r1, H2, hd2, hk2, U, o1, hU, ho1, hUl, hUi⟩ := B63 h hsg hw
 have hc1a := A7b (hk2.grow hw) hc1
 have hmk := mk_69 (H := H2) (l := n) (c := n) (Nat.le_refl _) (by omega)
 have k3 := Kept.new hk2.wf 1 (List.replicate n (.int .i64 0))
 have f3 := Buf.fill hk2.wf (.int .i64 0) (c := n) (by omega)
 rw [if_neg (by omega)] at f3
 have hU3 := hU.kept hk2.wf k3
 have hrep : List.replicate n [Value.int .i64 0] = (numL U n 1).map natC := by rw [numL_one, List.map_replicate]; rfl
 rw [hrep] at f3
 simp only [↓Sh.dn, sx, reduceCtorEq]
 refine ⟨_, _, hd2, ?_⟩
 simp only [sx, hc1a, hlenA, hmk]
 obtain ⟨on, hon⟩ : ∃ on, some H2.next = on := ⟨_, rfl⟩
 have hon1 : ∀ y, on = some y → y = H2.next := fun y hy => by rw [← hon] at hy; exact (Option.some.inj hy).symm
 have hx3 : H2.next < (H2.new 1 (List.replicate n (.int .i64 0))).2.next := Nat.lt_succ_self _
 rw [hon] at f3
 have hk3 := hk2.trans k3
 have hlenN := f3.toSl.len Tryz.underlying69 (H2.new 1 (List.replicate n (.int .i64 0))).2
 generalize (Value.slice (some ⟨H2.next, 0, some 0⟩) n n) = nv at f3 hlenN ⊢
 generalize (H2.new 1 (List.replicate n (.int .i64 0))).2 = H3 at f3 hU3 hk3 k3 hx3 ⊢
 have hUs : ∀ y, on = some y → o1 ≠ some y := fun y h1 h2 => by have := hU.lt hk2.wf y h2; have := hon1 y h1; omega
 have hlenN : ∀ {H'} i, Buf H' 1 nv ((numL U n i).map natC) on → ∀ H'', A4a Tryz.prog .len [69] [nv] H'' = some (.int .i64 (n : Int), H'') := fun i hb H'' => by
  rw [hb.toSl.len Tryz.underlying69]; simp [numL]
 have ik : ∀ {H' : AH}, Chg (fun y => on = some y) H3 H' → Kept H H' := fun hc => hk3.then (Nat.le_refl _) (hc.weak fun y hy => by have := hon1 y hy; have := hk2.next; omega)
 refine wp_from n 6 1 (List.range' 20 16 ++ [5, 6]) (fun i F H' => Chg (fun y => on = some y) H3 H' ∧ F.get 5 = some (.int .i64 ((1 + A3o U i : Nat) : Int)) ∧ Buf H' 1 nv ((numL U n i).map natC) on) hn1 (by simp only [sx]; rfl) ⟨Chg.refl hk3.wf, by simp only [sx, Nat.reduceEqDiff]; rfl, f3⟩ ?_ ?_
 ·rintro i F H' hi1 hi hF f6 ⟨hc, f5, hN⟩ k
  have f3' := hF 3 rfl
  have f4 := hF 4 rfl
  simp only [sx, Nat.reduceEqDiff] at f3' f4
  have hl := hlenN i hN
  obtain ⟨b, hbx⟩ : ∃ b, U[i]? = some b := ⟨U[i]'(by rw [hUl]; exact hi), List.getElem?_eq_getElem _⟩
  obtain ⟨q, e4, e5⟩ := Sl.elem (s := 1) Tryz.underlying58 A2j (hU3.chg hk3.wf hc fun y hy h1 => hUs y h1 hy).toSl (i := i) (u := .bool b) (by rw [List.getElem?_map, hbx]; rfl)
  have hrl := C0e U i
  simp only [↓Sh.dn, sx, Nat.reduceEqDiff, f3', f4, f6, hl, A1a, hi, decide_true, e4, e5]
  cases b with
  | true =>
   have hnu : numU U i = 1 + A3o U i := by unfold numU; rw [if_pos ⟨hi1, hbx⟩]
   have hrk : A3o U (i + 1) = A3o U i + 1 := by rw [A3o, if_pos ⟨hi1, hbx⟩]
   obtain ⟨p, e1, e2, e3⟩ := hN.spot Tryz.underlying69 A7c hc.wf (i := i) (u := .int .i64 ((0 : Nat) : Int)) (by rw [List.getElem?_map, A14 hi, if_neg (Nat.lt_irrefl i)]; rfl)
   obtain ⟨H4, w1, w2, w3, w4⟩ := e3 (.int .i64 ((1 + A3o U i : Nat) : Int))
   have st : A8e Tryz.prog 3 H' (.int .i64 ((1 + A3o U i : Nat) : Int)) (.pointer (some p)) = some H4 := by rw [A2c A7c rfl]; exact w1
   have wr : IntKind.wrap .i64 (((1 + A3o U i : Nat) : Int) + 1) = ((1 + A3o U (i + 1) : Nat) : Int) := by rw [wrap64 (by omega) (by omega)]; omega
   simp only [↓Sh.dn, sx, Nat.reduceEqDiff, f4, f5, f6, e1, st, wr, A3a hi (Nat.le_trans hn2 (by decide))]
   refine k _ _ (by repeat (first | refine Same.put ?_ rfl | exact Same.rfl' _)) (by simp only [sx]) ⟨hc.trans w3, by simp only [sx, Nat.reduceEqDiff], ?_⟩
   have : (numL U n (i + 1)).map natC = ((numL U n i).map natC).set i [.int .i64 ((1 + A3o U i : Nat) : Int)] := by rw [numL_set, List.map_set, hnu]; rfl
   rw [this]; exact w2
  | false =>
   have hnu : numU U i = 0 := by unfold numU; rw [if_neg (by rw [hbx]; simp)]
   have hrk : A3o U (i + 1) = A3o U i := by rw [A3o, if_neg (by rw [hbx]; simp)]; omega
   simp only [↓Sh.dn, sx, Nat.reduceEqDiff, f6, A3a hi (Nat.le_trans hn2 (by decide))]
   exact k _ _ (by repeat (first | refine Same.put ?_ rfl | exact Same.rfl' _)) (by simp only [sx]) ⟨hc, by simp only [sx, Nat.reduceEqDiff, f5, hrk], by rw [C1z hnu]; exact hN⟩
 ·rintro F H4 hF f6 ⟨hc4, f5, hN⟩
  have f0 := hF 0 rfl
  have f3' := hF 3 rfl
  have f4 := hF 4 rfl
  simp only [sx, reduceCtorEq, Nat.reduceEqDiff] at f0 f3' f4
  have hl := hlenN n hN
  have hk4 := ik hc4
  have hU4 := hU3.chg hk3.wf hc4 fun y hy h1 => hUs y h1 hy
  have hrl := C0e U n
  have hm : 1 + A3o U n ≤ n := by
   have : ∀ m, 1 + A3o U (m + 1) ≤ m + 1 := fun m => by
    induction m with
    | zero => simp [A3o]
    | succ m ih => rw [A3o]; split <;> omega
   have h1 := this (n - 1)
   rw [show n - 1 + 1 = n by omega] at h1
   exact h1
  obtain ⟨M, hM⟩ : ∃ M, 1 + A3o U n = M := ⟨_, rfl⟩
  rw [hM] at f5 hm
  obtain ⟨r5, H5, hd5, hk5, g1, rfl, hG1⟩ := B0r (n := M) ((h.kept hw hk4).gr.sg) hsg (by omega) hk4.wf
  have q0 := A7b (hk4.grow hw) hc0
  have hk05 := hk4.trans hk5
  have q1 := A7b (hk05.grow hw) hc1
  have hGX : GrX H5 (fun y => H4.next ≤ y) g1 sigma (A3j (List.replicate M [])) (List.replicate M 0) (List.replicate M 0) := by
   have := (hG1.own hk5.wf).mono (Z := fun y => H4.next ≤ y) fun y hy => hy.1
   simpa [A3j] using this
  have hU5 := hU4.kept hc4.wf hk5
  have hN5 := hN.kept hc4.wf hk5
  have hUb := hU4.lt hc4.wf
  have hNb := hN.lt hc4.wf
  have hb4 := hk4.next
  simp only [↓Sh.dn, sx, reduceCtorEq, Nat.reduceEqDiff, f0, f4, f5, f6, hl, A1a, Nat.lt_irrefl, decide_false, q0]
  refine ⟨_, _, hd5, ?_⟩
  simp only [sx, q1, hlenA]
  refine A1d n 47 (List.range' 47 72 ++ [8, 9, 11]) (fun i F H' => Chg (fun y => H4.next ≤ y) H5 H' ∧ ∃ R es cs, GrX H' (fun y => H4.next ≤ y) g1 sigma (A3j R) es cs ∧ cs.length = M ∧ TrimI E ends U M i R es) (by simp only [sx]) ⟨Chg.refl hk5.wf, _, _, _, hGX, by simp, TrimI.none E ends U M⟩ ?_ ?_
  ·rintro i F' H' hi hF' f47 ⟨hc, R, es, cs, hG, hcs, hT⟩ k
   have g0 := hF' 0 rfl
   have g3 := hF' 3 rfl
   have g4 := hF' 4 rfl
   have g7 := hF' 7 rfl
   have g45 := hF' 45 rfl
   have g46 := hF' 46 rfl
   simp only [sx, reduceCtorEq, Nat.reduceEqDiff, f0, f3', f4] at g0 g3 g4 g7 g45 g46
   have hkH : Kept H H' := hk05.then hb4 hc
   obtain ⟨r, hr⟩ : ∃ r, E[i]? = some r := ⟨E[i]'(by rw [h.le]; exact hi), List.getElem?_eq_getElem _⟩
   obtain ⟨hrl', hrt⟩ := h.to i r hr
   obtain ⟨pr, wr, hiar, hcr, hsr, hlr⟩ := PG.row h hr
   have q2 := A7b (hkH.grow hw) hcr
   obtain ⟨b, hbx⟩ : ∃ b, U[i]? = some b := ⟨U[i]'(by rw [hUl]; exact hi), List.getElem?_eq_getElem _⟩
   obtain ⟨qb, e4, e5⟩ := Sl.elem (s := 1) Tryz.underlying58 A2j (hU5.chg hk5.wf hc fun y hy h1 => by have := hUb y hy; omega).toSl (i := i) (u := .bool b) (by rw [List.getElem?_map, hbx]; rfl)
   simp only [↓Sh.dn, sx, Nat.reduceEqDiff, g3, g45, g46, f47, A1a, hi, decide_true, hiar, q2, e4, e5]
   cases b with
   | false =>
    simp only [↓Sh.dn, sx, Nat.reduceBEq, Nat.reduceEqDiff, f47, A3a hi (Nat.le_trans hn2 (by decide))]
    exact k _ _ (by repeat (first | refine Same.put ?_ rfl | exact Same.rfl' _)) (by simp only [sx]) ⟨hc, R, es, cs, hG, hcs, hT.skip (by rw [hbx]; simp)⟩
   | true =>
   have hnm : numU U i < M := by rw [← hM]; exact C4v hi
   have hnil : R[numU U i]? = some [] := hT.non _ hnm fun s hs hu he => by have := B9q (.inl hu) (.inl hbx) he; omega
   have hR0 : R.set (numU U i) (A4k U (r.take 0)) = R := by
    refine List.ext_getElem? fun a => ?_
    rw [List.getElem?_set]
    split
    ·rename_i ha; subst ha
     rw [hT.lr, if_pos hnm, hnil]; rfl
    ·rfl
   have hnum : ∀ {H'' : AH} {t : Nat}, Chg (fun y => H4.next ≤ y) H5 H'' → t < n → ∃ p, A4b Tryz.prog 69 nv (.int .i64 (t : Int)) = some (.pointer (some p)) ∧ H''.cell p = some (.int .i64 ((numU U t : Nat) : Int)) := fun {H'' t} hc ht =>
    Sl.elem (s := 1) Tryz.underlying69 A7c (hN5.chg hk5.wf hc fun y hy h1 => by have := hNb y hy; omega).toSl (by rw [List.getElem?_map, A14 ht, if_pos ht]; rfl)
   simp only [↓Sh.dn, sx, Nat.reduceEqDiff, hlr]
   refine A1d r.length 59 (List.range' 59 27 ++ [11]) (fun q F'' H'' => Chg (fun y => H4.next ≤ y) H5 H'' ∧ GrX H'' (fun y => H4.next ≤ y) g1 sigma (A3j (R.set (numU U i) (A4k U (r.take q)))) es cs) (by simp only [sx]) ⟨hc, by rw [hR0]; exact hG⟩ ?_ ?_
   ·rintro q F'' H'' hq hF'' f59 ⟨hc', hG'⟩ k2
    have v3 := hF'' 3 rfl
    have v4 := hF'' 4 rfl
    have v7 := hF'' 7 rfl
    have v8 := hF'' 8 rfl
    have v57 := hF'' 57 rfl
    have v58 := hF'' 58 rfl
    simp only [sx, Nat.reduceEqDiff, g3, g4, g7] at v3 v4 v7 v8 v57 v58
    have hkH2 : Kept H H'' := hk05.then hb4 hc'
    obtain ⟨pe, hiae, hce⟩ := PG.edge (hsr.grow (hkH2.grow hw)) hq
    have hrq : r[q] ∈ r := List.getElem_mem hq
    have htk : r.take (q + 1) = r.take q ++ [r[q]] := by rw [List.take_add_one, List.getElem?_eq_getElem hq]; rfl
    generalize r[q] = e at hce hrq htk
    have kn := Kept.new hc'.wf 4 (A8f e)
    have hc3 : Chg (fun y => H4.next ≤ y) H5 (H''.new 4 (A8f e)).2 := hc'.trans kn.chg
    have hG3 := hG'.kept hc'.wf kn
    obtain ⟨be, hbe⟩ : ∃ b, U[e.1]? = some b := ⟨U[e.1]'(by rw [hUl]; exact hrt e hrq), List.getElem?_eq_getElem _⟩
    obtain ⟨qe, e6, e7⟩ := Sl.elem (s := 1) Tryz.underlying58 A2j (hU5.chg hk5.wf hc3 fun y hy h1 => by have := hUb y hy; omega).toSl (i := e.1) (u := .bool be) (by rw [List.getElem?_map, hbe]; rfl)
    simp only [↓Sh.dn, sx, Nat.reduceEqDiff, f59, v3, v57, v58, hiae, hce, A1a, hq, decide_true, B3k, A87, B8k, ge0, e6, e7]
    cases be with
    | false =>
     simp only [↓Sh.dn, sx, Nat.reduceEqDiff, f59, A3a hq (Nat.le_trans hrl' (by decide))]
     refine k2 _ _ (by repeat (first | refine Same.put ?_ rfl | exact Same.rfl' _)) (by simp only [sx]) ⟨hc3, ?_⟩
     have : A4k U (r.take (q + 1)) = A4k U (r.take q) := by rw [htk]; unfold A4k; rw [List.filter_append]; simp [hbe]
     rw [this]; exact hG3
    | true =>
     obtain ⟨p1, i1, c1⟩ := hnum hc3 hi
     obtain ⟨p2, i2, c2⟩ := hnum hc3 (hrt e hrq)
     have hrow : (A3j (R.set (numU U i) (A4k U (r.take q))))[numU U i]? = some ((A4k U (r.take q)).map A8f) := by
      unfold A3j; rw [List.getElem?_map, List.getElem?_set, if_pos rfl, hT.lr, if_pos hnm]; rfl
     have hrll : ((A4k U (r.take q)).map A8f).length ≤ 1073741823 := by
      rw [List.length_map]; unfold A4k; rw [List.length_map]
      refine Nat.le_trans (List.length_filter_le _ _) ?_
      rw [List.length_take]; omega
     obtain ⟨rr, H6, hd6, hc6, hG6⟩ := grArcX (x0 := ((numU U e.1 : Nat) : Int)) (x1 := e.2.1) (x2 := e.2.2.1) (x3 := e.2.2.2) hG3 hrow hrll hc3.wf
     simp only [↓Sh.dn, sx]
     refine (A7a (by kernel_rfl)).2 ?_
     simp only [↓Sh.dn, sx, Nat.reduceEqDiff, f59, v4, v7, v8, ge0, ge1, ge2, ge3, i1, c1, i2, c2]
     refine ⟨_, _, hd6, ?_⟩
     simp only [A3a hq (Nat.le_trans hrl' (by decide))]
     refine k2 _ _ (by repeat (first | refine Same.put ?_ rfl | exact Same.rfl' _)) (by simp only [sx]) ⟨hc3.trans hc6, ?_⟩
     have h5 := hc3.next
     have h6 := hk5.next
     have hrs : A3j (R.set (numU U i) (A4k U (r.take (q + 1)))) = (A3j (R.set (numU U i) (A4k U (r.take q)))).set (numU U i) ((A4k U (r.take q)).map A8f ++ [[.int .i64 ((numU U e.1 : Nat) : Int), .int .i64 e.2.1, .int .i64 e.2.2.1, .int .i64 e.2.2.2]]) := by
      have : A4k U (r.take (q + 1)) = A4k U (r.take q) ++ [(numU U e.1, e.2)] := by rw [htk]; unfold A4k; rw [List.filter_append]; simp [hbe]
      rw [this]; unfold A3j; rw [List.map_set, List.map_set, List.set_set]; simp [A8f]
     rw [hrs]
     exact hG6.mono fun y hy => by rcases hy with hy | hy <;> omega
   ·rintro F'' H'' hF'' f59 ⟨hc', hG'⟩
    have g0' := hF'' 0 rfl
    have g4' := hF'' 4 rfl
    have g7' := hF'' 7 rfl
    have g8' := hF'' 8 rfl
    have g47 := hF'' 47 rfl
    have g58 := hF'' 58 rfl
    simp only [sx, reduceCtorEq, Nat.reduceEqDiff, g0, g4, g7, f47] at g0' g4' g7' g8' g47 g58
    rw [List.take_length] at hG'
    have hkH2 : Kept H H'' := hk05.then hb4 hc'
    have hPG := h.kept hw hkH2
    have hie : i < ends.length := by rw [h.ln]; exact hi
    have hic : i < costs.length := by rw [hcl]; exact hi
    have z2 := hPG.gr.arr.cell 2
    have z3 := hPG.gr.arr.cell 3
    obtain ⟨pa, ia, ca⟩ := Sl.elem (s := 1) Tryz.underlying69 A7c hPG.gr.en (i := i) (u := .int .i64 ends[i]) (by rw [List.getElem?_map, List.getElem?_eq_getElem hie]; rfl)
    obtain ⟨pb, ib, cb⟩ := Sl.elem (s := 1) Tryz.underlying69 A7c hPG.gr.co (i := i) (u := .int .i64 costs[i]) (by rw [List.getElem?_map, List.getElem?_eq_getElem hic]; rfl)
    obtain ⟨p1, i1, c1⟩ := hnum hc' hi
    obtain ⟨ev', cv', pe, pc, K1, K2, x1, x2, x3, x4, x5, x6, x7, x8, x9, x10, x11⟩ := GrX.setEC (s := numU U i) hG' hc'.wf (by rw [hT.le]; exact hnm) (by rw [hcs]; exact hnm) ends[i] costs[i]
    simp only [↓Sh.dn, sx, Nat.reduceBEq, f59, g58, A1a, Nat.lt_irrefl, decide_false]
    refine (A7a (by kernel_rfl)).2 ?_
    simp only [↓Sh.dn, sx, reduceCtorEq, Nat.reduceEqDiff, g0', g4', g7', g8', g47, z2, z3, ia, ca, ib, cb, i1, c1, x1, x2, x5, x6, x7, x8, A3a hi (Nat.le_trans hn2 (by decide))]
    refine k _ _ ?_ (by simp only [sx]) ⟨hc'.trans x10, _, _, _, x11, by rw [List.length_set]; exact hcs, hT.add hbx hnm hr (by simp [List.getD, List.getElem?_eq_getElem hie])⟩
    ·repeat refine Same.put ?_ rfl
     exact Same.trans (by repeat (first | refine Same.put ?_ rfl | exact Same.rfl' _)) (hF''.sub rfl)
  ·rintro F' H' hF' f47 ⟨hc, R, es, cs, hG, hcs, hT⟩
   have g7 := hF' 7 rfl
   have g46 := hF' 46 rfl
   simp only [sx, Nat.reduceEqDiff] at g7 g46
   simp only [↓Sh.dn, sx, Nat.reduceEqDiff, g7, g46, f47, A1a, Nat.lt_irrefl, decide_false, hres]
   obtain ⟨sv', av', ev', cv', vals', hR⟩ := hG.read
   rw [← hM] at hT
   have hof := hT.of h.le hUl (fun s r hr => (h.to s r hr).2) hUi
   refine ⟨hk05.then hb4 hc, g1, rfl, M, R, es, ⟨sv', av', ev', cv', vals', cs, hR, by rw [← hM]; exact hT.lr, by rw [← hM]; exact hT.le, by omega, by omega, fun s r hr => ?_⟩, hm, U, hof⟩
   by_cases hex : ∃ t, U[t]? = some true ∧ numU U t = s
   ·obtain ⟨t, ht, rfl⟩ := hex
    have htn : t < n := by rw [← hUl]; exact (List.getElem?_eq_some_iff.1 ht).1
    have hr0 : E[t]? = some (E[t]'(by rw [h.le]; exact htn)) := List.getElem?_eq_getElem _
    generalize E[t]'(by rw [h.le]; exact htn) = r0 at hr0
    rw [hT.row t r0 htn ht hr0] at hr
    rw [← Option.some.inj hr]
    obtain ⟨b1, b2⟩ := h.to t r0 hr0
    refine ⟨by unfold A4k; rw [List.length_map]; exact Nat.le_trans (List.length_filter_le _ _) b1, fun e he => ?_⟩
    obtain ⟨e0, he0, rfl⟩ := List.mem_map.1 he
    have := b2 e0 (List.mem_filter.1 he0).1
    rw [← hM]
    exact C4v this
   ·have hs := (List.getElem?_eq_some_iff.1 hr).1
    rw [hT.lr] at hs
    rw [hT.non s hs fun t _ ht he => hex ⟨t, ht, he⟩] at hr
    rw [← Option.some.inj hr]
    exact ⟨Nat.zero_le _, fun e he => by cases he⟩
end Go.Proofs.YtcgbiedfbacgpaaGreat
/- slices.BinarySearch of an ascending list of texts. -/
namespace Go.Proofs.YtcgbiedfbacgpaaGreat
open Go Go.Proofs Go.Proofs.Sh
theorem isNaNStr {H : AH} {x : ByteArray} : Sh.Call Tryz.prog (knows 7) 108 [.string x] H (fun r H' => H' = H ∧ r = .bool false) := by
 refine A2a rfl Tryz.func108 rfl (Nat.le_of_ble_eq_true rfl) ?_
 have hres : Tryz.f108.results.toList = [.tmp 2] := rfl
 simp only [↓Sh.dn, sx, reduceCtorEq, Nat.reduceEqDiff, hres, decide_true]
theorem A38 {H : AH} {v : Value} {x : ByteArray} {l : List ByteArray} (hs : Sl H v 1 (l.map A6b)) (ha : Asc l) (hl : l.length ≤ 1048576) :
  Sh.Call Tryz.prog (knows 7) 88 [v, .string x] H (fun r H' => H' = H ∧ ∃ k : Nat, r = .tuple #[.int .i64 (k : Int), .bool (A7r l x)] ∧ k ≤ l.length ∧ (l[k]? = some x ↔ x ∈ l)) := by
 refine A2a rfl Tryz.func88 rfl (Nat.le_of_ble_eq_true rfl) ?_
 have hres : Tryz.f88.results.toList = [.tmp 4, .tmp 5] := rfl
 have hlen := hs.len Tryz.underlying22 H
 simp only [↓Sh.dn, sx, reduceCtorEq, Nat.reduceEqDiff, hlen, List.length_map]
 refine A2b (fun m F H' => H' = H ∧ ∃ a b : Nat, m = b - a ∧ a ≤ b ∧ b ≤ l.length ∧ F.get 7 = some (.int .i64 (a : Int)) ∧ F.get 8 = some (.int .i64 (b : Int)) ∧ F.get 0 = some v ∧ F.get 1 = some (.string x) ∧ F.get 6 = some (.int .i64 (l.length : Int)) ∧
  (∀ (i : Nat) y, i < a → l[i]? = some y → A0b y x = true) ∧ (∀ (i : Nat) y, b ≤ i → l[i]? = some y → A0b y x = false)) (m := l.length)
  ⟨rfl, 0, l.length, by omega, by omega, by omega, by simp only [sx, Nat.reduceEqDiff]; rfl, by simp only [sx], by simp only [sx, reduceCtorEq], by simp only [sx, Nat.reduceEqDiff], by simp only [sx, Nat.reduceEqDiff], fun i y h => by omega, fun i y h1 h2 => by have := (List.getElem?_eq_some_iff.1 h2).1; omega⟩ ?_
 rintro m F H' ⟨rfl, a, b, rfl, hab, hbn, f7, f8, f0, f1, f6, hlo, hhi⟩ k
 by_cases hlt : a < b
 ·have hm : (a + b) / 2 < l.length := by omega
  have hw2 : IntKind.wrap .i64 (((a + b) / 2 : Nat) : Int) = (((a + b) / 2 : Nat) : Int) := wrap64 (by omega) (by omega)
  obtain ⟨g, o, kk, hia, hc, hcc⟩ := hs.at Tryz.underlying22 A1j (i := (a + b) / 2) (x := A6b l[(a + b) / 2]) (by simp [hm]) .i64
  have hy := hcc 0 _ rfl
  simp only [Nat.add_zero] at hy
  obtain ⟨r, H1, hd, rfl, rfl⟩ := B6m (H := H') (x := l[(a + b) / 2]) (y := x)
  have hget : l[(a + b) / 2]? = some l[(a + b) / 2] := List.getElem?_eq_getElem hm
  simp only [↓Sh.dn, sx, reduceCtorEq, Nat.reduceEqDiff, f0, f1, f7, f8, A1a, hlt, decide_true, C7k, half a b (by omega), hw2, hia, hy, reduceCtorEq]
  refine ⟨_, _, hd, ?_⟩
  cases hpv : A0b l[(a + b) / 2] x with
  | true =>
   have hw3 : IntKind.wrap .i64 ((((a + b) / 2 : Nat) : Int) + 1) = (((a + b) / 2 + 1 : Nat) : Int) := wrap_succ (n := l.length) (by omega) hl
   simp only [↓Sh.dn, sx, Nat.reduceEqDiff, hw3]
   refine k (b - ((a + b) / 2 + 1)) _ _ (by omega) ⟨rfl, (a + b) / 2 + 1, b, rfl, by omega, hbn, by simp only [sx], by simp only [sx, Nat.reduceEqDiff, f8], by simp only [sx, reduceCtorEq, f0], by simp only [sx, Nat.reduceEqDiff, f1], by simp only [sx, Nat.reduceEqDiff, f6], fun i y hi hy => ?_, hhi⟩
   by_cases he : i = (a + b) / 2
   ·subst he; rw [hget] at hy; rw [← Option.some.inj hy]; exact hpv
   ·exact A0n (ha _ _ _ _ (by omega) hy hget) hpv
  | false =>
   simp only [↓Sh.dn, sx, Nat.reduceEqDiff]
   refine k ((a + b) / 2 - a) _ _ (by omega) ⟨rfl, a, (a + b) / 2, rfl, by omega, by omega, by simp only [sx, Nat.reduceEqDiff, f7], by simp only [sx], by simp only [sx, reduceCtorEq, f0], by simp only [sx, Nat.reduceEqDiff, f1], by simp only [sx, Nat.reduceEqDiff, f6], hlo, fun i y h1 hy => ?_⟩
   by_cases he : i = (a + b) / 2
   ·subst he; rw [hget] at hy; rw [← Option.some.inj hy]; exact hpv
   ·cases hlt2 : A0b y x with
    | false => rfl
    | true => rw [A0n (ha _ _ _ _ (by omega) hget hy) hlt2] at hpv; cases hpv
 ·have hab' : a = b := by omega
  subst hab'
  have hp := B5y ha x hlo hhi
  by_cases hla : a < l.length
  ·obtain ⟨g, o, kk, hia, hc, hcc⟩ := hs.at Tryz.underlying22 A1j (i := a) (x := A6b l[a]) (by simp [hla]) .i64
   have hy := hcc 0 _ rfl
   simp only [Nat.add_zero] at hy
   have hget : l[a]? = some l[a] := List.getElem?_eq_getElem hla
   by_cases hex : l[a] = x
   ·have hin : A7r l x = true := A0j.2 (hp.1 (by rw [hget, hex]))
    simp only [↓Sh.dn, sx, reduceCtorEq, Nat.reduceEqDiff, f0, f1, f6, f7, f8, A1a, hlt, hla, hia, hy, hex, decide_true, decide_false, hres, hin, reduceCtorEq]
    exact ⟨a, rfl, hbn, hp⟩
   ·have hin : A7r l x = false := by
      cases h : A7r l x with
      | false => rfl
      | true => have := hp.2 (A0j.1 h); rw [hget] at this; exact absurd (Option.some.inj this) hex
    obtain ⟨r, H1, hd, rfl, rfl⟩ := isNaNStr (H := H') (x := l[a])
    simp only [↓Sh.dn, sx, reduceCtorEq, Nat.reduceEqDiff, f0, f1, f6, f7, f8, A1a, hlt, hla, hia, hy, hex, decide_true, decide_false, hres, hin, reduceCtorEq]
    refine ⟨_, _, hd, ?_⟩
    simp only [↓Sh.dn, sx, Nat.reduceEqDiff]
    exact ⟨a, rfl, hbn, hp⟩
  ·have hin : A7r l x = false := by
     cases h : A7r l x with
     | false => rfl
     | true => have := hp.2 (A0j.1 h); rw [List.getElem?_eq_none (by omega)] at this; cases this
   simp only [↓Sh.dn, sx, Nat.reduceEqDiff, f6, f7, f8, A1a, hlt, hla, decide_false, hres, hin]
   exact ⟨a, rfl, hbn, hp⟩
end Go.Proofs.YtcgbiedfbacgpaaGreat
/- The number of a symbol; a word as numbers. -/
namespace Go.Proofs.YtcgbiedfbacgpaaGreat
open Go Go.Proofs Go.Proofs.Sh
theorem place {H : AH} {v : Value} {x : ByteArray} {l : List ByteArray} (hs : Sl H v 1 (l.map A6b)) (ha : Asc l) (hl : l.length ≤ 1048576) :
  Sh.Call Tryz.prog (knows 7) 56 [v, .string x] H (fun r H' => H' = H ∧ r = .int .i64 (A7o l x)) := by
 refine A2a rfl Tryz.func56 rfl (Nat.le_of_ble_eq_true rfl) ?_
 have hres : Tryz.f56.results.toList = [.tmp 4] := rfl
 obtain ⟨r, H1, hd, rfl, k, rfl, _, hk⟩ := A38 (x := x) hs ha hl
 simp only [↓Sh.dn, sx, reduceCtorEq, Nat.reduceEqDiff]
 refine ⟨_, _, hd, ?_⟩
 cases hin : A7r l x with
 | true =>
  have := A7u ha (hk.2 (A0j.1 hin))
  simp only [↓Sh.dn, sx, Nat.reduceEqDiff, hres, this]
 | false =>
  have := A45 (l := l) (x := x) (fun h => by rw [A0j.2 h] at hin; cases hin)
  simp only [↓Sh.dn, sx, hres, this]
theorem C2z {l : List ByteArray} {x : ByteArray} (ha : Asc l) : decide (A7o l x < 0) = !A7r l x := by
 cases hin : A7r l x with
 | true =>
  obtain ⟨k, hk⟩ := List.mem_iff_getElem?.1 (A0j.1 hin)
  rw [A7u ha hk]; simp
 | false =>
  rw [A45 (fun h => by rw [A0j.2 h] at hin; cases hin)]; rfl
end Go.Proofs.YtcgbiedfbacgpaaGreat
/- graph.Of: the graph of a net. -/
namespace Go.Proofs.YtcgbiedfbacgpaaGreat
open Go Go.Proofs Go.Proofs.Sh
theorem graphOf {H : AH} {v : Value} {N : NetD} (h : A11 H v N) (hok : A5s N) (hsm : A7l N) (hw : Wf H) :
  Sh.Call Tryz.prog (knows 7) 25 [v] H (fun r H' => Kept H H' ∧ ∃ g, r = .pointer (some ⟨g, 0, some 0⟩) ∧ ∃ base, H.next ≤ base ∧ Gr H' base g N.sigma (A08 N N.arcs) (A3m N N.ends) (A9n N N.ends)) := by
 refine A2a rfl Tryz.func25 rfl (Nat.le_of_ble_eq_true rfl) ?_
 have hres : Tryz.f25.results.toList = [.tmp 2] := rfl
 obtain ⟨sg, ar, en, rfl, hsg, har, hen⟩ := h
 have hb1 := NetBox.of (N := N) hw hsg har hen
 have hk1 : Kept H (H.new 4 [sg, .int .i64 N.states, ar, en]).2 := Kept.new hw 4 _
 have h1 := hok.st1
 have h2 := hok.st2
 obtain ⟨n, hn⟩ : ∃ n : Nat, N.states = (n : Int) := ⟨N.states.toNat, by omega⟩
 have hnn : N.states.toNat = n := by omega
 simp only [↓Sh.dn, sx, Nat.reduceEqDiff, A5x hsg.isCell har.isCell hen.isCell]
 have hnx : H.next < (H.new 4 [sg, .int .i64 N.states, ar, en]).2.next := Nat.lt_succ_self _
 generalize H.next = gg at hb1 hnx ⊢
 generalize (H.new 4 [sg, .int .i64 N.states, ar, en]).2 = H1 at hb1 hk1 hnx ⊢
 obtain ⟨r, H2, hd2, hk2, g, rfl, hgr⟩ := B0r (n := n) hb1.hsg (by simpa using hsm.sg) (by omega) hk1.wf
 simp only [sx, hb1.c0, hb1.c1, hn]
 refine ⟨_, _, hd2, ?_⟩
 have hb2 := hb1.kept hk1.wf hk2
 simp only [sx, hb2.c2, A2m hb2]
 have hz : ∀ f : List Int → Int, f [] = 0 → (rowsOf EndD.state EndD.cost N.states.toNat []).map f = List.replicate n 0 := by
  intro f hf
  rw [A02, hnn, List.map_replicate, hf]
 refine A1d N.arcs.length 16 (List.range' 16 37 ++ [5]) (fun i F H' => Kept H1 H' ∧ Gr H' H1.next g N.sigma (A08 N (N.arcs.take i)) (A3m N []) (A9n N [])) (by simp only [sx]) ⟨hk2, by
  rw [List.take_zero]; unfold A08 A3m A9n; rw [A02, hz _ rfl, hz _ rfl, hnn]; exact hgr⟩ ?_ ?_
 ·rintro i F H' hlt hF f16 ⟨hk, hg⟩ k
  have f1 := hF 1 rfl
  have f3 := hF 3 rfl
  have f14 := hF 14 rfl
  have f15 := hF 15 rfl
  simp only [sx, Nat.reduceEqDiff] at f1 f3 f14 f15
  have hb' := hb1.kept hk1.wf hk
  obtain ⟨q, o, kk, hia, hc, hcc⟩ := hb'.har.at Tryz.underlying23 A9o (i := i) (x := N.arcs[i].cells) (by simp [hlt]) .i64
  clear hcc
  have htake : N.arcs.take (i + 1) = N.arcs.take i ++ [N.arcs[i]] := by rw [List.take_add_one, List.getElem?_eq_getElem hlt]; rfl
  obtain ⟨k0, k1, k2, k3, k4, k5⟩ := hok.arc _ (List.getElem_mem hlt)
  have hb3 := hb'.new hk.wf 5 (N.arcs[i].cells)
  have hk3 := hk.news 5 (N.arcs[i].cells)
  generalize N.arcs[i] = a at hb3 hk3 hc htake k0 k1 k2 k3 k4 k5
  obtain ⟨s, hs⟩ : ∃ s : Nat, a.fr = (s : Int) := ⟨a.fr.toNat, by omega⟩
  have hsn : s < N.states.toNat := by omega
  obtain ⟨r1, K1, hd1, rfl, rfl⟩ := place (x := a.inn) hb3.hsg hok.asc hsm.sg
  obtain ⟨r2, K2, hd2, rfl, rfl⟩ := place (x := a.out) hb3.hsg hok.asc hsm.sg
  have hrow := A1h (key := ArcD.fr) (f := B23 N.sigma) (l := N.arcs.take i) hsn
  have hrl := A4y hrow
  have hsmA := hsm.ar
  have htl : (N.arcs.take i).length ≤ 1048576 := by rw [List.length_take]; omega
  obtain ⟨sv, av, ev, cv, os, ot, oe, oc, vals, obs, hG0⟩ := hg
  have hG := hG0.chg hk.wf ((Kept.new hk.wf 5 a.cells).chg (X := none')) fun _ _ h => h
  have hnj : ¬JIn ot obs H'.next := fun h => by have := hG0.jag.lt hk.wf _ h; omega
  have hn := hG.arr.cell 1
  obtain ⟨ba, cap, w', H4, H5, o', p, e1, e2, e3, e4, e5, e6, e7, e8, e9⟩ := hG.jag.pushAt Tryz.underlying68 A85 hk3.wf hrow (x := B23 N.sigma a) rfl
  rw [← hs] at e2
  have bl := bld_95 (v0 := .int .i64 a.to) (v1 := .int .i64 (A7o N.sigma a.inn)) (v2 := .int .i64 (A7o N.sigma a.out)) (v3 := .int .i64 a.cost) rfl rfl rfl rfl
  have hbs := B8z (H := (H'.new 5 a.cells).2) (x := .agg (B23 N.sigma a).toArray) rfl rfl
  have ha := C50 (H := (H'.new 5 a.cells).2) (base := ba) (len := _) (cap := cap) (x := B23 N.sigma a) rfl (Nat.le_trans hrl (by omega))
  rw [e1] at ha
  have hn4 := (hG.arr.keep (e7.old g (hG.arr.lt hk3.wf) hG.gj)).cell 1
  have c4 := ((Obj.new (H := H') 5 a.cells).arr.keep (e7.old H'.next (Nat.lt_succ_self _) hnj)).cell 0
  have c4' : (a.cells)[0]? = some (.int .i64 a.fr) := rfl
  rw [c4'] at c4
  have st : A8e Tryz.prog 92 H4 w' (.pointer (some p)) = some H5 := by rw [A2c A85 e8, e4]
  have va : ∀ xs : Array Value, A6a (.agg xs) = xs.toList := fun _ => rfl
  have hav := hG.jag.top.veq
  simp only [va] at hbs
  obtain ⟨z1, z2⟩ := GrB.arced hG hk3.wf e6 e5 e9
  simp only [↓Sh.dn, sx, Nat.reduceEqDiff, B5g, A73, B6e, f14, f15, f16, A1a, hlt, decide_true, hia, hc]
  refine A6v (fl := [(0, []), (1, []), (2, []), (3, []), (4, []), (5, []), (6, []), (7, []), (8, []), (9, []), (10, []), (11, []), (12, []), (13, []), (14, []), (15, []), (16, []), (17, []), (18, []), (19, []), (21, []), (22, []), (23, []), (24, []), (26, []), (27, []), (20, [27, 24, 22, 15, 13, 11, 9, 5, 3]), (25, [27, 15, 13, 11, 9, 5, 3]), (28, []), (29, []), (30, [5, 3]), (31, []), (32, [])]) (by kernel_rfl) (by kernel_rfl) (by kernel_rfl) ?_
  simp only [↓Sh.dn, sx, Nat.reduceEqDiff, wpr, again, A5e, A1y, B74, A3s, forall_eq', hb3.c0, arc0, arc1, arc2, arc3, arc4, f1, f3, hn, e2, e3]
  refine ⟨_, _, hd1, ?_⟩
  simp only [sx, hb3.c0, arc0, arc2, arc3, arc4, hn, e3, hav, hsg.veq]
  refine ⟨_, _, hd2, ?_⟩
  have bl' : A6t Tryz.prog 95 [(0, .int .i64 a.to), (1, .int .i64 (A7o N.sigma a.inn)), (2, .int .i64 (A7o N.sigma a.out)), (3, .int .i64 a.cost)] = some (.agg (B23 N.sigma a).toArray) := bl
  simp only [sx, arc0, arc3, arc4, hn, e3, bl', hbs, ha, hn4, st, c4, f16, wrap_succ hlt hsm.ar]
  refine k _ _ (by repeat (first | refine Same.put ?_ rfl | exact Same.rfl' _)) (by simp only [sx]) ⟨hk3.then (Nat.le_refl _) z1, ?_⟩
  rw [htake]
  unfold A08
  rw [A8v hsn hs]
  exact z2
 ·rintro F H' hF f16 ⟨hk, hg⟩
  have f1 := hF 1 rfl
  have f3 := hF 3 rfl
  have f15 := hF 15 rfl
  simp only [sx, Nat.reduceEqDiff] at f1 f3 f15
  rw [List.take_length] at hg
  have hb' := hb1.kept hk1.wf hk
  simp only [↓Sh.dn, sx, Nat.reduceEqDiff, hb'.c3, A1r hb', f1, f15, f16, A1a, Nat.lt_irrefl, decide_false]
  refine A1d N.ends.length 56 (List.range' 56 11 ++ [7]) (fun i F H' => Kept H1 H' ∧ Gr H' H1.next g N.sigma (A08 N N.arcs) (A3m N (N.ends.take i)) (A9n N (N.ends.take i))) (by simp only [sx]) ⟨hk, hg⟩ ?_ ?_
  ·rintro i F' H' hlt hF' f56 ⟨hk, hg⟩ k
   have g1 := hF' 1 rfl
   have g3 := hF' 3 rfl
   have f54 := hF' 54 rfl
   have f55 := hF' 55 rfl
   simp only [sx, Nat.reduceEqDiff, f1, f3] at g1 g3 f54 f55
   have hb' := hb1.kept hk1.wf hk
   obtain ⟨q, o, kk, hia, hc, hcc⟩ := hb'.hen.at Tryz.underlying24 A9t (i := i) (x := N.ends[i].cells) (by simp [hlt]) .i64
   clear hcc
   have htake : N.ends.take (i + 1) = N.ends.take i ++ [N.ends[i]] := by rw [List.take_add_one, List.getElem?_eq_getElem hlt]; rfl
   obtain ⟨k0, k1⟩ := hok.fin _ (List.getElem_mem hlt)
   have hk3 := hk.news 2 (N.ends[i].cells)
   have hg3 := hg.kept hk.wf (Kept.new hk.wf 2 (N.ends[i].cells))
   generalize N.ends[i] = e at hk3 hg3 hc htake k0 k1
   obtain ⟨s, hs⟩ : ∃ s : Nat, e.state = (s : Int) := ⟨e.state.toNat, by omega⟩
   have hsn : s < N.states.toNat := by omega
   have hrow := A1h (key := EndD.state) (f := EndD.cost) (l := N.ends.take i) hsn
   have hrl := A4y hrow
   have htl : (N.ends.take i).length ≤ 60000 := by rw [List.length_take]; have := hok.en; omega
   have l1 : s < (A3m N (N.ends.take i)).length := by unfold A3m; rw [List.length_map, A9e]; exact hsn
   have l2 : s < (A9n N (N.ends.take i)).length := by unfold A9n; rw [List.length_map, A9e]; exact hsn
   have v1 : (A3m N (N.ends.take i))[s] = ((((N.ends.take i).filter fun a => decide (a.state = (s : Int))).map EndD.cost).length : Int) := by
    apply Option.some.inj
    rw [← List.getElem?_eq_getElem l1]
    unfold A3m
    rw [List.getElem?_map, hrow]; rfl
   have v2 : (A9n N (N.ends.take i))[s] = leastOf (((N.ends.take i).filter fun a => decide (a.state = (s : Int))).map EndD.cost) := by
    apply Option.some.inj
    rw [← List.getElem?_eq_getElem l2]
    unfold A9n
    rw [List.getElem?_map, hrow]; rfl
   obtain ⟨r, H5, hd5, hc5, hg5⟩ := grEnd (x := e.cost) hg3 l1 l2 hk3.wf (by rw [v1]; omega) (by rw [v1]; omega)
   rw [v1, v2] at hg5
   rw [← hs] at hd5
   simp only [↓Sh.dn, sx, Nat.reduceEqDiff, B96, B3s, B75, end0, end1, g3, f54, f55, f56, A1a, hlt, decide_true, hia, hc]
   refine ⟨_, _, hd5, ?_⟩
   have hen := hsm.en
   simp only [wrap_succ hlt hen]
   refine k _ _ (by repeat (first | refine Same.put ?_ rfl | exact Same.rfl' _)) (by simp only [sx]) ⟨hk3.then (Nat.le_refl _) hc5, ?_⟩
   rw [htake]
   have e1 : A3m N (N.ends.take i ++ [e]) = (A3m N (N.ends.take i)).set s (((((N.ends.take i).filter fun a => decide (a.state = (s : Int))).map EndD.cost).length : Int) + 1) := by
    unfold A3m
    rw [A8v hsn hs, List.map_set]
    congr 1
    rw [List.length_append]; simp
   have e2 : A9n N (N.ends.take i ++ [e]) = (A9n N (N.ends.take i)).set s (A3y ((((N.ends.take i).filter fun a => decide (a.state = (s : Int))).map EndD.cost).length : Int) (leastOf (((N.ends.take i).filter fun a => decide (a.state = (s : Int))).map EndD.cost)) e.cost) := by
    unfold A9n
    rw [A8v hsn hs, List.map_set]
    congr 1
    rw [B70]
    unfold A3y
    have : ((((N.ends.take i).filter fun a => decide (a.state = (s : Int))).map EndD.cost).length : Int) = 0 ↔ ((N.ends.take i).filter fun a => decide (a.state = (s : Int))).map EndD.cost = [] := by
     rw [← List.length_eq_zero_iff]; omega
    simp only [this]
   rw [e1, e2]
   exact hg5
  ·rintro F' H' hF' f56 ⟨hk, hg⟩
   have g3 := hF' 3 rfl
   have f55 := hF' 55 rfl
   simp only [sx, Nat.reduceEqDiff, f3] at g3 f55
   rw [List.take_length] at hg
   simp only [↓Sh.dn, sx, Nat.reduceEqDiff, g3, f55, f56, A1a, Nat.lt_irrefl, decide_false, hres]
   exact ⟨hk1.trans hk, _, rfl, _, Nat.le_of_lt hnx, hg⟩
end Go.Proofs.YtcgbiedfbacgpaaGreat
/- syms.isLong and syms.isSymbol. -/
namespace Go.Proofs.YtcgbiedfbacgpaaGreat
open Go Go.Proofs Go.Proofs.Sh
theorem C7i {H : AH} {x : ByteArray} : Sh.Call Tryz.prog (knows 7) 77 [.string x] H (fun r H' => H' = H ∧ r = .bool (decide (16 < x.size))) := by
 refine A2a rfl Tryz.func77 rfl (Nat.le_of_ble_eq_true rfl) ?_
 have hres : Tryz.f77.results.toList = [.tmp 2] := rfl
 have e : decide ((16 : Int) < (x.size : Int)) = decide (16 < x.size) := decide_eq_decide.2 (by omega)
 simp only [↓Sh.dn, sx, reduceCtorEq, hres, e]
def chOk (s : ByteArray) : Bool := !s.data.toList.any badByte && decide (1 ≤ s.size)
theorem C5l (s : ByteArray) : A6y s = (chOk s && decide (s.size ≤ 16)) := rfl
theorem C4m {x : ByteArray} : decide (x = ⟨#[]⟩) = !decide (1 ≤ x.size) := by
 by_cases h : x = ⟨#[]⟩
 ·subst h; rfl
 ·have : 1 ≤ x.size := by
    refine Nat.one_le_iff_ne_zero.2 fun h0 => h (ByteArray.ext ?_)
    exact Array.eq_empty_of_size_eq_zero h0
  simp [h, this]
theorem B1t {H : AH} {x : ByteArray} (hl : x.size ≤ 1048576) :
  Sh.Call Tryz.prog (knows 7) 78 [.string x] H (fun r H' => H' = H ∧ r = .bool (chOk x)) := by
 refine A2a rfl Tryz.func78 rfl (Nat.le_of_ble_eq_true rfl) ?_
 have hres : Tryz.f78.results.toList = [.tmp 2] := rfl
 have hsz : x.data.toList.length = x.size := by rw [Array.length_toList]; rfl
 simp only [↓Sh.dn, sx, reduceCtorEq]
 refine A1d x.size 6 (List.range' 6 26 ++ [2, 3]) (fun i F H' => H' = H ∧ (x.data.toList.take i).any badByte = false) (by simp only [sx]) ⟨rfl, rfl⟩ ?_ ?_
 ·rintro i F H' hlt hF f6 ⟨rfl, hall⟩ k
  have f0 := hF 0 rfl
  have f5 := hF 5 rfl
  simp only [sx, reduceCtorEq, Nat.reduceEqDiff] at f0 f5
  obtain ⟨u, hu⟩ : ∃ u, x.data.toList[i]? = some u := ⟨x.data.toList[i]'(by omega), List.getElem?_eq_getElem (by omega)⟩
  have hix := B7g (P := Tryz.prog) (j := .i64) Tryz.underlying9 hu
  have e33 : decide ((u.toNat : Int) < 33) = decide (u.toNat < 33) := decide_eq_decide.2 (by omega)
  have e126 : decide (126 < (u.toNat : Int)) = decide (126 < u.toNat) := decide_eq_decide.2 (by omega)
  have e60 : decide ((u.toNat : Int) = 60) = decide (u.toNat = 60) := decide_eq_decide.2 (by omega)
  have e62 : decide ((u.toNat : Int) = 62) = decide (u.toNat = 62) := decide_eq_decide.2 (by omega)
  have hbad : badByte u = true → chOk x = false := by
   intro h
   have : x.data.toList.any badByte = true := List.any_eq_true.2 ⟨_, List.mem_of_getElem? hu, h⟩
   simp [chOk, this]
  simp only [↓Sh.dn, sx, reduceCtorEq, Nat.reduceEqDiff, f0, f5, f6, hix, A1a, hlt, e33, decide_true]
  by_cases h1 : u.toNat < 33
  ·simp only [↓Sh.dn, sx, Nat.reduceEqDiff, h1, decide_true, hres, hbad (by simp [badByte, h1])]
  simp only [↓Sh.dn, sx, reduceCtorEq, Nat.reduceEqDiff, f0, hix, h1, e126, decide_false]
  by_cases h2 : 126 < u.toNat
  ·simp only [↓Sh.dn, sx, Nat.reduceEqDiff, h2, decide_true, hres, hbad (by simp [badByte, h2])]
  simp only [↓Sh.dn, sx, reduceCtorEq, Nat.reduceEqDiff, f0, hix, h2, e60, decide_false]
  by_cases h3 : u.toNat = 60
  ·simp only [↓Sh.dn, sx, Nat.reduceEqDiff, h3, decide_true, hres, hbad (by simp [badByte, h3])]
  simp only [↓Sh.dn, sx, reduceCtorEq, Nat.reduceEqDiff, f0, hix, h3, e62, decide_false]
  by_cases h4 : u.toNat = 62
  ·simp only [↓Sh.dn, sx, h4, decide_true, hres, hbad (by simp [badByte, h4])]
  simp only [↓Sh.dn, sx, Nat.reduceEqDiff, f6, h4, decide_false, wrap_succ hlt hl]
  refine k _ _ (by repeat (first | refine Same.put ?_ rfl | exact Same.rfl' _)) (by simp only [sx]) ⟨rfl, ?_⟩
  rw [List.take_add_one, hu]
  simp only [Option.toList, List.any_append, hall, List.any_cons, List.any_nil, Bool.or_false, badByte, h1, h2, h3, h4, decide_false]
 ·rintro F H' hF f6 ⟨rfl, hall⟩
  have f0 := hF 0 rfl
  have f5 := hF 5 rfl
  simp only [sx, reduceCtorEq, Nat.reduceEqDiff] at f0 f5
  rw [← hsz, List.take_length] at hall
  simp only [↓Sh.dn, sx, reduceCtorEq, f0, f5, f6, A1a, Nat.lt_irrefl, decide_false, hres, chOk, hall, C4m]
end Go.Proofs.YtcgbiedfbacgpaaGreat
/- slices.IndexFunc and ContainsFunc: whether some element is so. -/
namespace Go.Proofs.YtcgbiedfbacgpaaGreat
open Go Go.Proofs Go.Proofs.Sh
theorem B6w {H : AH} {v : Value} {l : List ByteArray} {fid : Nat} {caps : List Value} (p : ByteArray → Bool) (hs : Sl H v 1 (l.map A6b)) (hl : l.length ≤ 1048576) (hw : Wf H)
  (hp : ∀ H', Kept H H' → ∀ x ∈ l, Sh.Call Tryz.prog (knows 7) fid ((fun s => Value.string s) x :: caps) H' (fun r H'' => Kept H' H'' ∧ r = .bool (p x))) :
  Sh.Call Tryz.prog (knows 7) 102 [v, .func (.func fid) #[] caps.toArray] H (fun r H' => Kept H H' ∧ ∃ k : Int, r = .int .i64 k ∧ decide (0 ≤ k) = l.any p) := by
 refine A2a rfl Tryz.func102 rfl (Nat.le_of_ble_eq_true rfl) ?_
 have hres : Tryz.f102.results.toList = [.tmp 4] := rfl
 have hlen := hs.len Tryz.underlying22 H
 simp only [↓Sh.dn, sx, reduceCtorEq, hlen, List.length_map]
 refine A1d l.length 8 [5, 8, 9, 10, 11, 12, 13, 14, 15, 16, 18] (fun i F H' => Kept H H' ∧ (l.take i).any p = false) (by simp only [sx]) ⟨Kept.refl hw, rfl⟩ ?_ ?_
 ·rintro i F H' hlt hF f8 ⟨hk, hall⟩ k
  have hs1 := hs.grow (hk.grow hw)
  obtain ⟨g, o, kk, hia, hc, hcc⟩ := hs1.at Tryz.underlying22 A1j (i := i) (x := A6b l[i]) (by simp [hlt]) .i64
  have hld := hcc 0 _ rfl; simp only [Nat.add_zero] at hld
  have f0 := hF 0 rfl
  have f1 := hF 1 rfl
  have f7 := hF 7 rfl
  simp only [sx, reduceCtorEq, Nat.reduceEqDiff] at f0 f1 f7
  obtain ⟨r, H2, hd, hk2, rfl⟩ := hp H' hk l[i] (List.getElem_mem hlt)
  simp only [↓Sh.dn, sx, reduceCtorEq, Nat.reduceEqDiff, f0, f1, f7, f8, A1a, hlt, decide_true, hia, hld, reduceCtorEq]
  refine ⟨_, _, hd, ?_⟩
  cases hpv : p l[i] with
  | true =>
   simp only [↓Sh.dn, sx, Nat.reduceEqDiff, hres]
   refine ⟨hk.trans hk2, _, rfl, ?_⟩
   rw [List.any_eq_true.2 ⟨_, List.getElem_mem hlt, hpv⟩]
   simp
  | false =>
   simp only [↓Sh.dn, sx, Nat.reduceEqDiff, hres, f8, wrap_succ hlt hl]
   refine k _ _ (by repeat (first | refine Same.put ?_ rfl | exact Same.rfl' _)) (by simp only [sx]) ⟨hk.trans hk2, ?_⟩
   rw [List.take_add_one, List.getElem?_eq_getElem hlt]
   simp only [Option.toList, List.any_append, hall, List.any_cons, List.any_nil, hpv, Bool.or_false]
 ·rintro F H' hF f8 ⟨hk, hall⟩
  have f7 := hF 7 rfl
  simp only [sx, Nat.reduceEqDiff] at f7
  rw [List.take_length] at hall
  simp only [↓Sh.dn, sx, f7, f8, A1a, Nat.lt_irrefl, decide_false, hres]
  exact ⟨hk, _, rfl, by rw [hall]; rfl⟩
theorem B8g {H : AH} {v : Value} {l : List ByteArray} {fid : Nat} {caps : List Value} (p : ByteArray → Bool) (hs : Sl H v 1 (l.map A6b)) (hl : l.length ≤ 1048576) (hw : Wf H)
  (hp : ∀ H', Kept H H' → ∀ x ∈ l, Sh.Call Tryz.prog (knows 7) fid ((fun s => Value.string s) x :: caps) H' (fun r H'' => Kept H' H'' ∧ r = .bool (p x))) :
  Sh.Call Tryz.prog (knows 7) 76 [v, .func (.func fid) #[] caps.toArray] H (fun r H' => Kept H H' ∧ r = .bool (l.any p)) := by
 refine A2a rfl Tryz.func76 rfl (Nat.le_of_ble_eq_true rfl) ?_
 have hres : Tryz.f76.results.toList = [.tmp 4] := rfl
 obtain ⟨r, H2, hd, hk, k, rfl, hk0⟩ := B6w p hs hl hw hp
 simp only [↓Sh.dn, sx, reduceCtorEq, Nat.reduceEqDiff]
 refine ⟨_, _, hd, ?_⟩
 simp only [sx, hres, hk0]
 exact hk
end Go.Proofs.YtcgbiedfbacgpaaGreat
/- What is wrong with an alphabet, by the program. -/
namespace Go.Proofs.YtcgbiedfbacgpaaGreat
open Go Go.Proofs Go.Proofs.Sh
theorem B7y {H : AH} {v : Value} {l : List ByteArray} (hs : Sl H v 1 (l.map A6b)) (hl : l.length ≤ 1048576) (hlx : ∀ x ∈ l, x.size ≤ 1048576) (hw : Wf H) :
  Sh.Call Tryz.prog (knows 7) 37 [v] H (fun r H' => Kept H H' ∧ r = .int .i64 (A9j l)) := by
 refine A2a rfl Tryz.func37 rfl (Nat.le_of_ble_eq_true rfl) ?_
 have hres : Tryz.f37.results.toList = [.tmp 2] := rfl
 have hlen := hs.len Tryz.underlying22 H
 have e40 : decide ((40 : Int) < ((l.length : Nat) : Int)) = decide (40 < l.length) := decide_eq_decide.2 (by omega)
 simp only [↓Sh.dn, sx, reduceCtorEq, hlen, List.length_map, e40]
 by_cases h40 : 40 < l.length
 ·simp only [↓Sh.dn, sx, Nat.reduceEqDiff, h40, decide_true, hres, A9j, Kept.refl hw]
 simp only [↓Sh.dn, sx, reduceCtorEq, Nat.reduceEqDiff, h40, decide_false]
 obtain ⟨r1, H1, hd1, hk1, rfl⟩ := B8g (caps := []) (fid := 77) (fun s => decide (16 < s.size)) hs hl hw (fun H' hk x hx => (C7i (H := H') (x := x)).mono fun r H'' h => by rcases h with ⟨rfl, h⟩; exact ⟨Kept.refl hk.wf, h⟩)
 refine ⟨_, _, hd1, ?_⟩
 cases hL : (l.any fun s => decide (16 < s.size)) with
 | true => simp only [↓Sh.dn, sx, hres, hL, A9j, A8s, h40, decide_false, hk1]
 | false =>
  have hs1 := hs.grow (hk1.grow hw)
  have hlen1 := hs1.len Tryz.underlying22 H1
  simp only [↓Sh.dn, sx, reduceCtorEq, hlen1, List.length_map]
  have h16 : ∀ x ∈ l, decide (x.size ≤ 16) = true := by
   intro x hx
   have := List.any_eq_false.1 hL x hx
   simp only [decide_eq_true_eq, Nat.not_lt] at this
   simpa using this
  have e1 : (l.all A6y && ascB l) = false → A9j l = 1 := by intro h; simp [A9j, A8s, h40, hL]; simpa using h
  have e0 : (l.all A6y && ascB l) = true → A9j l = 0 := by intro h; simp [A9j, A8s, h40, hL]; simpa using h
  have hsy : ∀ x ∈ l, A6y x = chOk x := by intro x hx; rw [C5l, h16 x hx, Bool.and_true]
  refine A1d l.length 14 (List.range' 14 22 ++ [2, 3, 4]) (fun i F H' => H' = H1 ∧ (∀ (j : Nat) x, j < i → l[j]? = some x → chOk x = true) ∧ (∀ (j : Nat) x y, j + 1 < i → l[j]? = some x → l[j + 1]? = some y → A0b x y = true)) (by simp only [sx]) ⟨rfl, fun j x h => by omega, fun j x y h => by omega⟩ ?_ ?_
  ·rintro i F H' hlt hF f14 ⟨rfl, hall, hasc⟩ k
   have f0 := hF 0 rfl
   have f12 := hF 12 rfl
   have f13 := hF 13 rfl
   simp only [sx, reduceCtorEq, Nat.reduceEqDiff] at f0 f12 f13
   obtain ⟨g, o, kk, hia, hc, hcc⟩ := hs1.at Tryz.underlying22 A1j (i := i) (x := A6b l[i]) (by simp [hlt]) .i64
   have hy := hcc 0 _ rfl
   simp only [Nat.add_zero] at hy
   have hget : l[i]? = some l[i] := List.getElem?_eq_getElem hlt
   obtain ⟨r, H2, hd2, rfl, rfl⟩ := B1t (H := H') (x := l[i]) (hlx _ (List.getElem_mem hlt))
   simp only [↓Sh.dn, sx, Nat.reduceEqDiff, f12, f13, f14, A1a, hlt, decide_true, hia, hy]
   refine ⟨_, _, hd2, ?_⟩
   cases hch : chOk l[i] with
   | false =>
    have hbad : A9j l = 1 := e1 (by
     rw [Bool.and_eq_false_iff]; left
     exact List.all_eq_false.2 ⟨_, List.getElem_mem hlt, by rw [hsy _ (List.getElem_mem hlt), hch]; simp⟩)
    simp only [↓Sh.dn, sx, Nat.reduceEqDiff, hres, hbad, hk1]
   | true =>
    have hall' : ∀ (j : Nat) x, j < i + 1 → l[j]? = some x → chOk x = true := by
     intro j x hj hx
     by_cases he : j = i
     ·subst he; rw [hget] at hx; rw [← Option.some.inj hx]; exact hch
     ·exact hall j x (by omega) hx
    by_cases hi0 : 0 < i
    ·have hlt1 : i - 1 < l.length := by omega
     obtain ⟨g', o', kk', hia', hc', hcc'⟩ := hs1.at Tryz.underlying22 A1j (i := i - 1) (x := A6b l[i - 1]) (by simp [hlt1]) .i64
     have hy' := hcc' 0 _ rfl
     simp only [Nat.add_zero] at hy'
     have hw1 : IntKind.wrap .i64 ((i : Int) - 1) = ((i - 1 : Nat) : Int) := by rw [wrap64 (by omega) (by omega)]; omega
     have ei : decide ((0 : Int) < (i : Int)) = true := by simpa using hi0
     have hget' : l[i - 1]? = some l[i - 1] := List.getElem?_eq_getElem hlt1
     simp only [↓Sh.dn, sx, reduceCtorEq, Nat.reduceEqDiff, f0, ei, hw1, hia', hy']
     cases hq : A0b l[i - 1] l[i] with
     | false =>
      have hbad : A9j l = 1 := e1 (by
       rw [Bool.and_eq_false_iff]; right
       cases hb : ascB l with
       | false => rfl
       | true =>
        have := A4z.1 hb (i - 1) _ _ hget' (by rw [show i - 1 + 1 = i by omega]; exact hget)
        rw [this] at hq; cases hq)
      simp only [↓Sh.dn, sx, hres, hbad, hk1]
     | true =>
      simp only [↓Sh.dn, sx, Nat.reduceEqDiff, f14, wrap_succ hlt hl]
      refine k _ _ (by repeat (first | refine Same.put ?_ rfl | exact Same.rfl' _)) (by simp only [sx]) ⟨rfl, hall', fun j x y hj hx hy => ?_⟩
      by_cases he : j + 1 = i
      ·have : j = i - 1 := by omega
       subst this
       rw [he, hget] at hy
       rw [hget'] at hx
       rw [← Option.some.inj hx, ← Option.some.inj hy]; exact hq
      ·exact hasc j x y (by omega) hx hy
    ·have ei : decide ((0 : Int) < (i : Int)) = false := by simpa using hi0
     simp only [↓Sh.dn, sx, Nat.reduceEqDiff, f14, ei, wrap_succ hlt hl]
     exact k _ _ (by repeat (first | refine Same.put ?_ rfl | exact Same.rfl' _)) (by simp only [sx]) ⟨rfl, hall', fun j x y hj hx hy => by omega⟩
  ·rintro F H' hF f14 ⟨rfl, hall, hasc⟩
   have f13 := hF 13 rfl
   simp only [sx, Nat.reduceEqDiff] at f13
   have hgood : A9j l = 0 := e0 (by
    rw [Bool.and_eq_true]
    refine ⟨List.all_eq_true.2 fun x hx => ?_, A4z.2 fun j x y hx hy => hasc j x y (List.getElem?_eq_some_iff.1 hy).1 hx hy⟩
    obtain ⟨j, hj⟩ := List.mem_iff_getElem?.1 hx
    rw [hsy x hx]
    exact hall j x (List.getElem?_eq_some_iff.1 hj).1 hj)
   simp only [↓Sh.dn, sx, f13, f14, A1a, Nat.lt_irrefl, decide_false, hres, hgood, hk1]
end Go.Proofs.YtcgbiedfbacgpaaGreat
/- What is wrong with a word: by the reference, by the program. -/
namespace Go.Proofs.YtcgbiedfbacgpaaGreat
open Go Go.Proofs Go.Proofs.Sh
end Go.Proofs.YtcgbiedfbacgpaaGreat
/- The reference's Accepts and Begins. -/
namespace Go.Proofs.YtcgbiedfbacgpaaGreat
open Go Go.Proofs Go.Proofs.Sh
theorem B9u {N : NetD} (h : A6n N = 0) : A5s N := by
 refine netOk ?_
 unfold A6n at h
 by_cases hE : A5g N = 0
 ·exact hE
 ·rw [if_pos hE] at h; exact absurd h hE
theorem A36 {N : NetD} (hok : A5s N) : A0e (A7j N) = N.goes := by
 funext x s t
 apply propext
 unfold A0e A7j NetD.goes
 constructor
 ·rintro ⟨r, h1, h2⟩
  obtain ⟨a, ha, h3, h4⟩ := (A2p h1 _).1 h2
  have := hok.arc a ha
  injection h4 with h4 h5
  exact ⟨a, ha, h3, h4, by omega⟩
 ·rintro ⟨a, ha, h1, h2, h3⟩
  have := hok.arc a ha
  have hs : s < N.states.toNat := by omega
  refine ⟨_, A1h hs, ?_⟩
  rw [A2p (A1h hs)]
  exact ⟨a, ha, h1, by rw [h2, h3]; rfl⟩
theorem B6l {N : NetD} (hok : A5s N) (t : Nat) : (marksOf EndD.state N.states.toNat N.ends)[t]? = some true ↔ N.isEnd t := by
 unfold NetD.isEnd
 constructor
 ·intro h
  have ht := (List.getElem?_eq_some_iff.1 h).1
  rw [A4i] at ht
  rw [A8r ht] at h
  obtain ⟨e, h1, h2⟩ := List.any_eq_true.1 (Option.some.inj h)
  exact ⟨e, h1, of_decide_eq_true h2⟩
 ·rintro ⟨e, h1, h2⟩
  have := hok.fin e h1
  rw [A8r (by omega)]
  exact congrArg some (List.any_eq_true.2 ⟨e, h1, decide_eq_true h2⟩)
def A9x (N : NetD) (w : List ByteArray) : Prop := (∀ x ∈ w, x ≠ A9a) ∧ ∃ t, N.run w t ∧ N.isEnd t
def begins (N : NetD) (w : List ByteArray) : Prop := (∀ x ∈ w, x ≠ A9a) ∧ ∃ t, N.run w t ∧ N.alive t
end Go.Proofs.YtcgbiedfbacgpaaGreat
/- What is wrong with a net of any kind, by the program. -/
namespace Go.Proofs.YtcgbiedfbacgpaaGreat
open Go Go.Proofs Go.Proofs.Sh
theorem C7u {H : AH} {gg : Nat} {sg ar en : Value} {N : NetD} {s : ByteArray} (hb : NetBox H gg sg ar en N) (ha : Asc N.sigma) (hl : N.sigma.length ≤ 1048576) :
  Sh.Call Tryz.prog (knows 7) 87 [.string s, .pointer (some ⟨gg, 0, some 0⟩)] H (fun r H' => H' = H ∧ r = .bool (!A8i N s)) := by
 refine A2a rfl Tryz.func87 rfl (Nat.le_of_ble_eq_true rfl) ?_
 have hres : Tryz.f87.results.toList = [.tmp 3] := rfl
 obtain ⟨r, H1, hd, rfl, k, rfl, _, _⟩ := A38 (x := s) hb.hsg ha hl
 simp only [↓Sh.dn, sx, reduceCtorEq, Nat.reduceEqDiff, hb.c0]
 refine ⟨_, _, hd, ?_⟩
 simp only [sx]
 by_cases h : s = ⟨#[]⟩
 ·simp only [↓Sh.dn, sx, Nat.reduceEqDiff, h, decide_true, hres, A8i]
 ·simp only [↓Sh.dn, sx, Nat.reduceEqDiff, h, decide_false, hres, A8i]
theorem C3l {H : AH} {v : Value} {N : NetD} (h : A11 H v N) (hsm : A7l N) (hw : Wf H) :
  Sh.Call Tryz.prog (knows 7) 52 [v] H (fun r H' => Kept H H' ∧ r = .int .i64 (A5g N)) := by
 refine A2a rfl Tryz.func52 rfl (Nat.le_of_ble_eq_true rfl) ?_
 have hres : Tryz.f52.results.toList = [.tmp 2] := rfl
 obtain ⟨sg, ar, en, rfl, hsg, har, hen⟩ := h
 have hb1 := NetBox.of (N := N) hw hsg har hen
 have hk1 : Kept H (H.new 4 [sg, .int .i64 N.states, ar, en]).2 := Kept.new hw 4 _
 have eA : decide ((60000 : Int) < (N.arcs.length : Int)) = decide (60000 < N.arcs.length) := decide_eq_decide.2 (by omega)
 have eE : decide ((60000 : Int) < (N.ends.length : Int)) = decide (60000 < N.ends.length) := decide_eq_decide.2 (by omega)
 simp only [↓Sh.dn, sx, Nat.reduceEqDiff, A5x hsg.isCell har.isCell hen.isCell]
 generalize H.next = gg at hb1 ⊢
 generalize (H.new 4 [sg, .int .i64 N.states, ar, en]).2 = H1 at hb1 hk1 ⊢
 simp only [sx, hb1.c1]
 by_cases hA : 3000 < N.states
 ·simp only [↓Sh.dn, sx, Nat.reduceEqDiff, hA, decide_true, hres, A5g, A6m, hk1]
 by_cases hB : 60000 < N.arcs.length
 ·simp only [↓Sh.dn, sx, Nat.reduceEqDiff, hb1.c2, A2m hb1, hA, eA, hB, decide_true, decide_false, hres, A5g, A6m, hk1]
 by_cases hC : 60000 < N.ends.length
 ·simp only [↓Sh.dn, sx, Nat.reduceEqDiff, hb1.c2, hb1.c3, A2m hb1, A1r hb1, hA, eA, eE, hB, hC, decide_true, decide_false, hres, A5g, A6m, hk1]
 have hT : A6m N = false := by simp [A6m, hA, hB, hC]
 simp only [↓Sh.dn, sx, Nat.reduceEqDiff, hb1.c0, hb1.c2, hb1.c3, A2m hb1, A1r hb1, hA, eA, eE, hB, hC, decide_false, hres]
 obtain ⟨r, H2, hd, hk2, rfl⟩ := B7y hb1.hsg hsm.sg hsm.sx hk1.wf
 refine ⟨_, _, hd, ?_⟩
 have hb2 := hb1.kept hk1.wf hk2
 have hk12 := hk1.trans hk2
 by_cases hS : A9j N.sigma = 0
 case neg => simp only [↓Sh.dn, sx, Nat.reduceEqDiff, hS, decide_false, A5g, hT, hk12]
 have hasc := A27 hS
 simp only [↓Sh.dn, sx, Nat.reduceEqDiff, hS, decide_true, hb2.c1]
 by_cases hst : N.states < 1
 ·simp only [↓Sh.dn, sx, hst, decide_true, A5g, hT, hS, hk12]
 simp only [↓Sh.dn, sx, Nat.reduceEqDiff, hst, decide_false, hb2.c2, A2m hb2]
 have e1 : N.arcs.any (A2h N) = true → A5g N = 1 := by intro h; simp [A5g, hT, hS, hst, h]
 have e2 : N.ends.any (A6q N) = true → A5g N = 1 := by intro h; simp [A5g, hT, hS, hst, h]
 have e3 : N.arcs.any (A2h N) = false → N.ends.any (A6q N) = false → A5g N = 0 := by intro h h'; simp [A5g, hT, hS, hst, h, h']
 refine A1d N.arcs.length 37 (List.range' 37 41 ++ [2, 6]) (fun i F H' => Kept H2 H' ∧ (N.arcs.take i).any (A2h N) = false) (by simp only [sx]) ⟨Kept.refl hk12.wf, rfl⟩ ?_ ?_
 ·rintro i F H' hlt hF f37 ⟨hk, hall⟩ k
  have f1 := hF 1 rfl
  have f4 := hF 4 rfl
  have f35 := hF 35 rfl
  have f36 := hF 36 rfl
  simp only [sx, Nat.reduceEqDiff] at f1 f4 f35 f36
  have hb' := hb2.kept hk12.wf hk
  have hb3 := hb'.new hk.wf 5 (N.arcs[i].cells)
  have hk3 := hk.news 5 (N.arcs[i].cells)
  obtain ⟨g, o, kk, hia, hc, hcc⟩ := hb'.har.at Tryz.underlying23 A9o (i := i) (x := N.arcs[i].cells) (by simp [hlt]) .i64
  clear hcc
  have hin : N.arcs[i] ∈ N.arcs := List.getElem_mem hlt
  have hnext : A2h N N.arcs[i] = false → (N.arcs.take (i + 1)).any (A2h N) = false := by
   intro h
   rw [List.take_add_one, List.getElem?_eq_getElem hlt]
   simp only [Option.toList, List.any_append, hall, List.any_cons, List.any_nil, h, Bool.or_false]
  have hbad : A2h N N.arcs[i] = true → A5g N = 1 := fun h => e1 (List.any_eq_true.2 ⟨_, hin, h⟩)
  generalize N.arcs[i] = a at hb3 hk3 hc hnext hbad
  simp only [↓Sh.dn, sx, Nat.reduceEqDiff, B5g, A73, B6e, arc0, f35, f36, f37, A1a, hlt, decide_true, hia, hc]
  by_cases h1 : a.fr < 0
  ·simp only [↓Sh.dn, sx, Nat.reduceEqDiff, h1, decide_true, hbad (by simp [A2h, h1]), hk12.trans hk3]
  simp only [↓Sh.dn, sx, Nat.reduceEqDiff, hb3.c1, arc0, f1, h1, decide_false]
  by_cases h2 : N.states ≤ a.fr
  ·simp only [↓Sh.dn, sx, Nat.reduceEqDiff, h2, decide_true, hbad (by simp [A2h, h2]), hk12.trans hk3]
  simp only [↓Sh.dn, sx, Nat.reduceEqDiff, arc3, h2, decide_false]
  by_cases h3 : a.to < 0
  ·simp only [↓Sh.dn, sx, Nat.reduceEqDiff, h3, decide_true, hbad (by simp [A2h, h3]), hk12.trans hk3]
  simp only [↓Sh.dn, sx, Nat.reduceEqDiff, hb3.c1, arc3, f1, h3, decide_false]
  by_cases h4 : N.states ≤ a.to
  ·simp only [↓Sh.dn, sx, Nat.reduceEqDiff, h4, decide_true, hbad (by simp [A2h, h4]), hk12.trans hk3]
  obtain ⟨r, H4, hd4, rfl, rfl⟩ := C7u (s := a.inn) hb3 hasc hsm.sg
  simp only [↓Sh.dn, sx, Nat.reduceEqDiff, arc1, f4, h4, decide_false]
  refine ⟨_, _, hd4, ?_⟩
  have hb4 := hb3
  cases hI : A8i N a.inn with
  | true => simp only [↓Sh.dn, sx, Nat.reduceEqDiff, hbad (by simp [A2h, hI]), hk12.trans hk3]
  | false =>
   obtain ⟨r, H5, hd5, rfl, rfl⟩ := C7u (s := a.out) hb3 hasc hsm.sg
   simp only [↓Sh.dn, sx, Nat.reduceEqDiff, arc2, f4]
   refine ⟨_, _, hd5, ?_⟩
   cases hO : A8i N a.out with
   | true => simp only [↓Sh.dn, sx, hbad (by simp [A2h, hO]), hk12.trans hk3]
   | false =>
    simp only [↓Sh.dn, sx, Nat.reduceEqDiff, f37, wrap_succ hlt hsm.ar]
    exact k _ _ (by repeat (first | refine Same.put ?_ rfl | exact Same.rfl' _)) (by simp only [sx]) ⟨hk3, hnext (by simp [A2h, h1, h2, h3, h4, hI, hO])⟩
 ·rintro F H' hF f37 ⟨hk, hall⟩
  have f1 := hF 1 rfl
  have f36 := hF 36 rfl
  simp only [sx, Nat.reduceEqDiff] at f1 f36
  rw [List.take_length] at hall
  have hb' := hb2.kept hk12.wf hk
  simp only [↓Sh.dn, sx, Nat.reduceEqDiff, hb'.c3, A1r hb', f1, f36, f37, A1a, Nat.lt_irrefl, decide_false]
  refine A1d N.ends.length 81 (List.range' 81 15 ++ [2, 8]) (fun i F H'' => Kept H' H'' ∧ (N.ends.take i).any (A6q N) = false) (by simp only [sx]) ⟨Kept.refl hk.wf, rfl⟩ ?_ ?_
  ·rintro i F2 H'' hlt hF2 f81 ⟨hk2', hall2⟩ k
   have g1 := hF2 1 rfl
   have g79 := hF2 79 rfl
   have g80 := hF2 80 rfl
   simp only [sx, Nat.reduceEqDiff, f1] at g1 g79 g80
   have hbx := hb'.kept hk.wf hk2'
   have hb3 := hbx.new hk2'.wf 2 (N.ends[i].cells)
   have hk3 := hk2'.news 2 (N.ends[i].cells)
   have hkk := (hk12.trans hk).trans hk3
   obtain ⟨g, o, kk, hia, hc, hcc⟩ := hbx.hen.at Tryz.underlying24 A9t (i := i) (x := N.ends[i].cells) (by simp [hlt]) .i64
   clear hcc
   have hbad : A6q N N.ends[i] = true → A5g N = 1 := fun h => e2 (List.any_eq_true.2 ⟨_, List.getElem_mem hlt, h⟩)
   simp only [↓Sh.dn, sx, Nat.reduceEqDiff, B96, B3s, B75, end0, g79, g80, f81, A1a, hlt, decide_true, hia, hc]
   by_cases h1 : N.ends[i].state < 0
   ·simp only [↓Sh.dn, sx, Nat.reduceEqDiff, h1, decide_true, hbad (by simp [A6q, h1]), hkk]
   simp only [↓Sh.dn, sx, Nat.reduceEqDiff, hb3.c1, end0, g1, h1, decide_false]
   by_cases h2 : N.states ≤ N.ends[i].state
   ·simp only [↓Sh.dn, sx, h2, decide_true, hbad (by simp [A6q, h2]), hkk]
   simp only [↓Sh.dn, sx, Nat.reduceEqDiff, f81, h2, decide_false, wrap_succ hlt hsm.en]
   refine k _ _ (by repeat (first | refine Same.put ?_ rfl | exact Same.rfl' _)) (by simp only [sx]) ⟨hk3, ?_⟩
   rw [List.take_add_one, List.getElem?_eq_getElem hlt]
   simp only [Option.toList, List.any_append, hall2, List.any_cons, List.any_nil, Bool.or_false, A6q, h1, h2, decide_false]
  ·rintro F2 H'' hF2 f81 ⟨hk2', hall2⟩
   have g80 := hF2 80 rfl
   simp only [sx, Nat.reduceEqDiff] at g80
   rw [List.take_length] at hall2
   simp only [↓Sh.dn, sx, g80, f81, A1a, Nat.lt_irrefl, decide_false, e3 hall hall2, (hk12.trans hk).trans hk2']
end Go.Proofs.YtcgbiedfbacgpaaGreat
/- slices.IndexFunc and ContainsFunc: whether some element is so. -/
namespace Go.Proofs.YtcgbiedfbacgpaaGreat
open Go Go.Proofs Go.Proofs.Sh
theorem B7u {H : AH} {v : Value} {l : List ArcD} {fid : Nat} {caps : List Value} (p : ArcD → Bool) (hs : Sl H v 5 (l.map ArcD.cells)) (hl : l.length ≤ 1048576) (hw : Wf H)
  (hp : ∀ H', Kept H H' → ∀ x ∈ l, Sh.Call Tryz.prog (knows 7) fid ((fun a => Value.agg a.cells.toArray) x :: caps) H' (fun r H'' => Kept H' H'' ∧ r = .bool (p x))) :
  Sh.Call Tryz.prog (knows 7) 89 [v, .func (.func fid) #[] caps.toArray] H (fun r H' => Kept H H' ∧ ∃ k : Int, r = .int .i64 k ∧ decide (0 ≤ k) = l.any p) := by
 refine A2a rfl Tryz.func89 rfl (Nat.le_of_ble_eq_true rfl) ?_
 have hres : Tryz.f89.results.toList = [.tmp 4] := rfl
 have hlen := hs.len Tryz.underlying23 H
 simp only [↓Sh.dn, sx, reduceCtorEq, hlen, List.length_map]
 refine A1d l.length 8 [5, 8, 9, 10, 11, 12, 13, 14, 15, 16, 18] (fun i F H' => Kept H H' ∧ (l.take i).any p = false) (by simp only [sx]) ⟨Kept.refl hw, rfl⟩ ?_ ?_
 ·rintro i F H' hlt hF f8 ⟨hk, hall⟩ k
  have hs1 := hs.grow (hk.grow hw)
  obtain ⟨g, o, kk, hia, hc, hcc⟩ := hs1.at Tryz.underlying23 A9o (i := i) (x := ArcD.cells l[i]) (by simp [hlt]) .i64
  have hld := hc
  have f0 := hF 0 rfl
  have f1 := hF 1 rfl
  have f7 := hF 7 rfl
  simp only [sx, reduceCtorEq, Nat.reduceEqDiff] at f0 f1 f7
  obtain ⟨r, H2, hd, hk2, rfl⟩ := hp H' hk l[i] (List.getElem_mem hlt)
  simp only [↓Sh.dn, sx, reduceCtorEq, Nat.reduceEqDiff, f0, f1, f7, f8, A1a, hlt, decide_true, hia, hld, reduceCtorEq]
  refine ⟨_, _, hd, ?_⟩
  cases hpv : p l[i] with
  | true =>
   simp only [↓Sh.dn, sx, Nat.reduceEqDiff, hres]
   refine ⟨hk.trans hk2, _, rfl, ?_⟩
   rw [List.any_eq_true.2 ⟨_, List.getElem_mem hlt, hpv⟩]
   simp
  | false =>
   simp only [↓Sh.dn, sx, Nat.reduceEqDiff, hres, f8, wrap_succ hlt hl]
   refine k _ _ (by repeat (first | refine Same.put ?_ rfl | exact Same.rfl' _)) (by simp only [sx]) ⟨hk.trans hk2, ?_⟩
   rw [List.take_add_one, List.getElem?_eq_getElem hlt]
   simp only [Option.toList, List.any_append, hall, List.any_cons, List.any_nil, hpv, Bool.or_false]
 ·rintro F H' hF f8 ⟨hk, hall⟩
  have f7 := hF 7 rfl
  simp only [sx, Nat.reduceEqDiff] at f7
  rw [List.take_length] at hall
  simp only [↓Sh.dn, sx, f7, f8, A1a, Nat.lt_irrefl, decide_false, hres]
  exact ⟨hk, _, rfl, by rw [hall]; rfl⟩
theorem B9b {H : AH} {v : Value} {l : List ArcD} {fid : Nat} {caps : List Value} (p : ArcD → Bool) (hs : Sl H v 5 (l.map ArcD.cells)) (hl : l.length ≤ 1048576) (hw : Wf H)
  (hp : ∀ H', Kept H H' → ∀ x ∈ l, Sh.Call Tryz.prog (knows 7) fid ((fun a => Value.agg a.cells.toArray) x :: caps) H' (fun r H'' => Kept H' H'' ∧ r = .bool (p x))) :
  Sh.Call Tryz.prog (knows 7) 54 [v, .func (.func fid) #[] caps.toArray] H (fun r H' => Kept H H' ∧ r = .bool (l.any p)) := by
 refine A2a rfl Tryz.func54 rfl (Nat.le_of_ble_eq_true rfl) ?_
 have hres : Tryz.f54.results.toList = [.tmp 4] := rfl
 obtain ⟨r, H2, hd, hk, k, rfl, hk0⟩ := B7u p hs hl hw hp
 simp only [↓Sh.dn, sx, reduceCtorEq, Nat.reduceEqDiff]
 refine ⟨_, _, hd, ?_⟩
 simp only [sx, hres, hk0]
 exact hk
end Go.Proofs.YtcgbiedfbacgpaaGreat
/- Whether a net has a cost out of bounds. -/
namespace Go.Proofs.YtcgbiedfbacgpaaGreat
open Go Go.Proofs Go.Proofs.Sh
def A3w (N : NetD) (m : Int) : Bool := N.arcs.any (fun a => decide (a.cost < 0) || decide (m < a.cost)) || N.ends.any (fun a => decide (a.cost < 0) || decide (m < a.cost))
theorem priced {H : AH} {v : Value} {N : NetD} {m : Int} (h : A11 H v N) (hsm : A7l N) (hw : Wf H) :
  Sh.Call Tryz.prog (knows 7) 55 [v, .int .i64 m] H (fun r H' => Kept H H' ∧ r = .bool (A3w N m)) := by
 refine A2a rfl Tryz.func55 rfl (Nat.le_of_ble_eq_true rfl) ?_
 have hres : Tryz.f55.results.toList = [.tmp 4] := rfl
 obtain ⟨sg, ar, en, rfl, hsg, har, hen⟩ := h
 have hb1 := NetBox.of (N := N) hw hsg har hen
 have hk1 : Kept H (H.new 4 [sg, .int .i64 N.states, ar, en]).2 := Kept.new hw 4 _
 simp only [↓Sh.dn, sx, Nat.reduceEqDiff, A5x hsg.isCell har.isCell hen.isCell]
 generalize H.next = gg at hb1 ⊢
 generalize (H.new 4 [sg, .int .i64 N.states, ar, en]).2 = H1 at hb1 hk1 ⊢
 simp only [sx, hb1.c2, A2m hb1]
 refine A1d N.arcs.length 12 (List.range' 12 14 ++ [4, 6]) (fun i F H' => Kept H1 H' ∧ (N.arcs.take i).any (fun a => decide (a.cost < 0) || decide (m < a.cost)) = false) (by simp only [sx]) ⟨Kept.refl hk1.wf, rfl⟩ ?_ ?_
 ·rintro i F H' hlt hF f12 ⟨hk, hall⟩ k
  have f1 := hF 1 rfl
  have f10 := hF 10 rfl
  have f11 := hF 11 rfl
  simp only [sx, Nat.reduceEqDiff] at f1 f10 f11
  have hb' := hb1.kept hk1.wf hk
  have hb3 := hb'.new hk.wf 5 (N.arcs[i].cells)
  have hk3 := hk.news 5 (N.arcs[i].cells)
  obtain ⟨g, o, kk, hia, hc, hcc⟩ := hb'.har.at Tryz.underlying23 A9o (i := i) (x := N.arcs[i].cells) (by simp [hlt]) .i64
  clear hcc
  have hbad : (decide (N.arcs[i].cost < 0) || decide (m < N.arcs[i].cost)) = true → A3w N m = true := fun h => by
   rw [A3w, List.any_eq_true.2 ⟨_, List.getElem_mem hlt, h⟩]; rfl
  simp only [↓Sh.dn, sx, Nat.reduceEqDiff, B5g, A73, B6e, arc4, f10, f11, f12, A1a, hlt, decide_true, hia, hc, hres]
  by_cases h1 : N.arcs[i].cost < 0
  ·simp only [↓Sh.dn, sx, Nat.reduceEqDiff, h1, decide_true, hbad (by simp [h1]), hk1.trans hk3]
  simp only [↓Sh.dn, sx, Nat.reduceEqDiff, arc4, f1, h1, decide_false]
  by_cases h2 : m < N.arcs[i].cost
  ·simp only [↓Sh.dn, sx, h2, decide_true, hbad (by simp [h2]), hk1.trans hk3]
  simp only [↓Sh.dn, sx, Nat.reduceEqDiff, f12, h2, decide_false, wrap_succ hlt hsm.ar]
  refine k _ _ (by repeat (first | refine Same.put ?_ rfl | exact Same.rfl' _)) (by simp only [sx]) ⟨hk3, ?_⟩
  rw [List.take_add_one, List.getElem?_eq_getElem hlt]
  simp only [Option.toList, List.any_append, hall, List.any_cons, List.any_nil, Bool.or_false, h1, h2, decide_false]
 ·rintro F H' hF f12 ⟨hk, hall⟩
  have f2 := hF 2 rfl
  have f11 := hF 11 rfl
  simp only [sx, Nat.reduceEqDiff] at f2 f11
  rw [List.take_length] at hall
  have hb' := hb1.kept hk1.wf hk
  simp only [↓Sh.dn, sx, Nat.reduceEqDiff, hb'.c3, A1r hb', f2, f11, f12, A1a, Nat.lt_irrefl, decide_false]
  refine A1d N.ends.length 29 (List.range' 29 14 ++ [4, 8]) (fun i F H'' => Kept H' H'' ∧ (N.ends.take i).any (fun a => decide (a.cost < 0) || decide (m < a.cost)) = false) (by simp only [sx]) ⟨Kept.refl hk.wf, rfl⟩ ?_ ?_
  ·rintro i F2 H'' hlt hF2 f29 ⟨hk2', hall2⟩ k
   have g1 := hF2 1 rfl
   have h1' := hF 1 rfl
   have g27 := hF2 27 rfl
   have g28 := hF2 28 rfl
   simp only [sx, Nat.reduceEqDiff] at g1 g27 g28 h1'
   have hbx := hb'.kept hk.wf hk2'
   have hb3 := hbx.new hk2'.wf 2 (N.ends[i].cells)
   have hk3 := hk2'.news 2 (N.ends[i].cells)
   have hkk := (hk1.trans hk).trans hk3
   obtain ⟨g, o, kk, hia, hc, hcc⟩ := hbx.hen.at Tryz.underlying24 A9t (i := i) (x := N.ends[i].cells) (by simp [hlt]) .i64
   clear hcc
   have hbad : (decide (N.ends[i].cost < 0) || decide (m < N.ends[i].cost)) = true → A3w N m = true := fun h => by
    rw [A3w, List.any_eq_true.2 ⟨_, List.getElem_mem hlt, h⟩, Bool.or_true]
   simp only [↓Sh.dn, sx, Nat.reduceEqDiff, B96, B3s, B75, end1, g27, g28, f29, A1a, hlt, decide_true, hia, hc]
   by_cases h1 : N.ends[i].cost < 0
   ·simp only [↓Sh.dn, sx, Nat.reduceEqDiff, h1, decide_true, hres, hbad (by simp [h1]), hkk]
   simp only [↓Sh.dn, sx, Nat.reduceEqDiff, end1, g1, h1', h1, decide_false]
   by_cases h2 : m < N.ends[i].cost
   ·simp only [↓Sh.dn, sx, h2, decide_true, hres, hbad (by simp [h2]), hkk]
   simp only [↓Sh.dn, sx, Nat.reduceEqDiff, f29, h2, decide_false, wrap_succ hlt hsm.en]
   refine k _ _ (by repeat (first | refine Same.put ?_ rfl | exact Same.rfl' _)) (by simp only [sx]) ⟨hk3, ?_⟩
   rw [List.take_add_one, List.getElem?_eq_getElem hlt]
   simp only [Option.toList, List.any_append, hall2, List.any_cons, List.any_nil, Bool.or_false, h1, h2, decide_false]
  ·rintro F2 H'' hF2 f29 ⟨hk2', hall2⟩
   have g28 := hF2 28 rfl
   simp only [sx, Nat.reduceEqDiff] at g28
   rw [List.take_length] at hall2
   simp only [↓Sh.dn, sx, g28, f29, A1a, Nat.lt_irrefl, decide_false, hres, A3w, hall, hall2, (hk1.trans hk).trans hk2']
end Go.Proofs.YtcgbiedfbacgpaaGreat
/- What is wrong with an acceptor, by the program. -/
namespace Go.Proofs.YtcgbiedfbacgpaaGreat
open Go Go.Proofs Go.Proofs.Sh
theorem C2k {H : AH} {a : ArcD} (hw : Wf H) : Sh.Call Tryz.prog (knows 7) 53 [.agg a.cells.toArray] H (fun r H' => Kept H H' ∧ r = .bool (!decide (a.inn = a.out))) := by
 refine A2a rfl Tryz.func53 rfl (Nat.le_of_ble_eq_true rfl) ?_
 have hres : Tryz.f53.results.toList = [.tmp 2] := rfl
 simp only [↓Sh.dn, sx, Nat.reduceEqDiff, arcNew, arc1, arc2, hres, Kept.new hw 5 a.cells]
theorem B3d (N : NetD) : NetD.free N = !A3w N 0 := by
 have h : ∀ c : Int, decide (c = 0) = !(decide (c < 0) || decide (0 < c)) := by
  intro c
  by_cases h1 : c < 0
  ·have : c ≠ 0 := by omega
   simp [h1, this]
  ·by_cases h2 : 0 < c
   ·have : c ≠ 0 := by omega
    simp [h2, this]
   ·have : c = 0 := by omega
    simp [this]
 simp only [NetD.free, A3w, h, Bool.not_or, List.all_eq_not_any_not]
 simp
theorem B8w {H : AH} {v : Value} {N : NetD} (h : A11 H v N) (hsm : A7l N) (hw : Wf H) :
  Sh.Call Tryz.prog (knows 7) 24 [v] H (fun r H' => Kept H H' ∧ r = .int .i64 (A6n N)) := by
 refine A2a rfl Tryz.func24 rfl (Nat.le_of_ble_eq_true rfl) ?_
 have hres : Tryz.f24.results.toList = [.tmp 2] := rfl
 obtain ⟨sg, ar, en, rfl, hsg, har, hen⟩ := h
 have hb1 := NetBox.of (N := N) hw hsg har hen
 have hk1 : Kept H (H.new 4 [sg, .int .i64 N.states, ar, en]).2 := Kept.new hw 4 _
 simp only [↓Sh.dn, sx, Nat.reduceEqDiff, A5x hsg.isCell har.isCell hen.isCell]
 generalize H.next = gg at hb1 ⊢
 generalize (H.new 4 [sg, .int .i64 N.states, ar, en]).2 = H1 at hb1 hk1 ⊢
 simp only [sx, hb1.ca]
 obtain ⟨r, H2, hd, hk2, rfl⟩ := C3l hb1.netAt hsm hk1.wf
 refine ⟨_, _, hd, ?_⟩
 have hb2 := hb1.kept hk1.wf hk2
 have hk12 := hk1.trans hk2
 by_cases hE : A5g N = 0
 case neg => simp only [↓Sh.dn, sx, Nat.reduceEqDiff, hE, decide_false, hres, A6n, hk12]
 simp only [↓Sh.dn, sx, Nat.reduceEqDiff, hE, decide_true, hb2.c2]
 obtain ⟨r, H3, hd3, hk3, rfl⟩ := B9b (caps := []) (fid := 53) (fun a => !decide (a.inn = a.out)) hb2.har hsm.ar hk12.wf (fun H' hk a ha => C2k hk.wf)
 refine ⟨_, _, hd3, ?_⟩
 have hb3 := hb2.kept hk12.wf hk3
 have hk13 := hk12.trans hk3
 cases hu : N.arcs.any (fun a => !decide (a.inn = a.out)) with
 | true => simp only [↓Sh.dn, sx, Nat.reduceEqDiff, hres, A6n, hE, B0f, hu, hk13]
 | false =>
  simp only [↓Sh.dn, sx, Nat.reduceEqDiff, hb3.ca]
  obtain ⟨r, H4, hd4, hk4, rfl⟩ := priced (m := 0) hb3.netAt hsm hk13.wf
  refine ⟨_, _, hd4, ?_⟩
  cases hp : A3w N 0 with
  | true => simp only [↓Sh.dn, sx, hres, A6n, hE, B0f, hu, B3d, hp, hk13.trans hk4]
  | false => simp only [↓Sh.dn, sx, hres, A6n, hE, B0f, hu, B3d, hp, hk13.trans hk4]
end Go.Proofs.YtcgbiedfbacgpaaGreat
/- auto.given, Accepts, Begins. -/
namespace Go.Proofs.YtcgbiedfbacgpaaGreat
open Go Go.Proofs Go.Proofs.Sh
def A4m (N : NetD) : List (List (Nat × Int × Int × Int)) := rowsOf ArcD.fr (fun a => (a.to.toNat, A7o N.sigma a.inn, A7o N.sigma a.out, a.cost)) N.states.toNat N.arcs
theorem B0u {N : NetD} (hok : A5s N) : A3j (A4m N) = A08 N N.arcs := by
 unfold A3j A4m A08 rowsOf
 rw [List.map_map]
 refine List.map_congr_left fun s _ => ?_
 simp only [Function.comp, List.map_map]
 refine List.map_congr_left fun a ha => ?_
 have := hok.arc a (List.mem_filter.1 ha).1
 simp only [Function.comp, A8f, B23]
 rw [show ((a.to.toNat : Nat) : Int) = a.to by omega]
theorem B3c {N : NetD} (hok : A5s N) (p : Int → Prop) (s t : Nat) : A2d (A4m N) p s t ↔ ∃ a ∈ N.arcs, a.fr = (s : Int) ∧ p (A7o N.sigma a.inn) ∧ a.to = (t : Int) := by
 unfold A2d A4m
 constructor
 ·rintro ⟨r, h1, e, h2, h3, h4⟩
  obtain ⟨a, ha, h5, rfl⟩ := (A2p h1 _).1 h2
  have := hok.arc a ha
  exact ⟨a, ha, h5, h4, by simp only at h3; omega⟩
 ·rintro ⟨a, ha, h1, h2, h3⟩
  have := hok.arc a ha
  have hs : s < N.states.toNat := by omega
  exact ⟨_, A1h hs, (a.to.toNat, A7o N.sigma a.inn, A7o N.sigma a.out, a.cost), (A2p (A1h hs) _).2 ⟨a, ha, h1, rfl⟩, by simp only; omega, h2⟩
theorem B0a {l : List ByteArray} {x : ByteArray} (ha : Asc l) : A7o l x < 0 ↔ x ∉ l := by
 have := C2z (x := x) ha
 rw [← A0j]
 cases h : A7r l x with
 | true => rw [h] at this; simpa using this
 | false => rw [h] at this; simpa using this
theorem C7o {l : List ByteArray} {x y : ByteArray} (ha : Asc l) (hx : x ∈ l) : A7o l y = A7o l x ↔ y = x := by
 constructor
 ·intro h
  have hx0 : ¬(A7o l x < 0) := fun h0 => (B0a ha).1 h0 hx
  have hy : y ∈ l := by
   by_cases hy : y ∈ l
   ·exact hy
   ·have := (B0a ha).2 hy; omega
  obtain ⟨i, hi⟩ := List.mem_iff_getElem?.1 hx
  obtain ⟨j, hj⟩ := List.mem_iff_getElem?.1 hy
  rw [A7u ha hi, A7u ha hj] at h
  have : j = i := by omega
  subst this
  rw [hi] at hj
  exact (Option.some.inj hj).symm
 ·rintro rfl; rfl
theorem A3z {N : NetD} (hok : A5s N) : A9a ∉ N.sigma := by
 intro h
 have := hok.sym _ h
 have h0 : A6y A9a = false := rfl
 rw [h0] at this; cases this
theorem C8l {N : NetD} (hok : A5s N) (s t : Nat) : N.goes A9a s t ↔ A2d (A4m N) (fun k => k < 0) s t := by
 rw [B3c hok]
 unfold NetD.goes
 constructor
 ·rintro ⟨a, ha, h1, h2, h3⟩
  exact ⟨a, ha, h1, (B0a hok.asc).2 (by rw [h2]; exact A3z hok), h3⟩
 ·rintro ⟨a, ha, h1, h2, h3⟩
  have h4 := (B0a hok.asc).1 h2
  exact ⟨a, ha, h1, ((hok.arc a ha).2.2.2.2.1).resolve_right h4, h3⟩
theorem C2m {N : NetD} (hok : A5s N) {x : ByteArray} (hx : x ∈ N.sigma) (s t : Nat) : N.goes x s t ↔ A2d (A4m N) (fun k => k = A7o N.sigma x) s t := by
 rw [B3c hok]
 unfold NetD.goes
 constructor
 ·rintro ⟨a, ha, h1, h2, h3⟩; exact ⟨a, ha, h1, by rw [h2], h3⟩
 ·rintro ⟨a, ha, h1, h2, h3⟩; exact ⟨a, ha, h1, (C7o hok.asc hx).1 h2, h3⟩
theorem B0l {N : NetD} (hok : A5s N) {w : List ByteArray} (hw : ∀ x ∈ w, x ∈ N.sigma) (t : Nat) :
  N.run w t ↔ RunS (A2d (A4m N) fun k => k < 0) (fun x => A2d (A4m N) fun k => k = x) (Clo (A2d (A4m N) fun k => k < 0) fun s => s = 0) (w.map (A7o N.sigma)) t := by
 unfold NetD.run NetD.clo
 have e : N.goes A9a = A2d (A4m N) fun k => k < 0 := funext fun s => funext fun t => propext (C8l hok s t)
 rw [e]
 exact RunS.congr (f := A7o N.sigma) (fun _ _ => Iff.rfl) (fun _ => Iff.rfl) (fun x hx s t => C2m hok (hw x hx) s t) t
theorem C8w {N : NetD} (hok : A5s N) (t : Nat) : 0 < (A3m N N.ends).getD t 0 ↔ N.isEnd t := by
 unfold NetD.isEnd A3m
 rw [List.getD_eq_getElem?_getD, List.getElem?_map]
 by_cases ht : t < N.states.toNat
 ·rw [A1h ht]
  simp only [Option.map_some, Option.getD_some, List.length_map]
  rw [show (0 : Int) < ((N.ends.filter fun a => decide (a.state = (t : Int))).length : Int) ↔ 0 < (N.ends.filter fun a => decide (a.state = (t : Int))).length by omega, List.length_pos_iff_exists_mem]
  simp only [List.mem_filter, decide_eq_true_eq]
 ·rw [List.getElem?_eq_none (by rw [A9e]; omega)]
  simp only [Option.map_none, Option.getD_none, Int.lt_irrefl, false_iff, not_exists, not_and]
  intro e he h
  have := hok.fin e he
  omega
theorem Gr.pg {H : AH} {base g : Nat} {N : NetD} (hok : A5s N) (h : Gr H base g N.sigma (A08 N N.arcs) (A3m N N.ends) (A9n N N.ends)) :
  ∃ sv av ev cv vals, PG H g N.states.toNat 60000 (A4m N) (A3m N N.ends) sv av ev cv vals N.sigma (A9n N N.ends) := by
 obtain ⟨sv, av, ev, cv, vals, hR⟩ := h.read
 rw [← B0u hok] at hR
 have h1 := hok.st1
 have h2 := hok.st2
 refine ⟨sv, av, ev, cv, vals, hR, by unfold A4m; rw [A9e], by unfold A3m; rw [List.length_map, A9e], by omega, by omega, fun s r hr => ⟨Nat.le_trans (A4y hr) hok.ar, fun e he => ?_⟩⟩
 obtain ⟨a, ha, _, rfl⟩ := (A2p hr e).1 he
 have := hok.arc a ha
 show a.to.toNat < _
 omega
end Go.Proofs.YtcgbiedfbacgpaaGreat
/- auto.Words. -/
namespace Go.Proofs.YtcgbiedfbacgpaaGreat
open Go Go.Proofs Go.Proofs.Sh
noncomputable def A6o (N : NetD) : List (List ByteArray) := B8i N.sigma (A9x N) 60
def B8j (N : NetD) : Prop := ∃ w : List ByteArray, 60 < w.length ∧ (∀ x ∈ w, x ∈ N.sigma) ∧ A9x N w
noncomputable def A6g (N : NetD) (most : Int) : List (List ByteArray) × Bool × Int :=
 if A6n N ≠ 0 then ([], false, A6n N) else if most < 1 ∨ 200 < most then ([], false, 1) else A8k (A6o N) (B8j N) most.toNat
theorem B43 (l : List ByteArray) (x : ByteArray) : A7o l x < (l.length : Int) ∨ l.length = 0 := by
 unfold A7o
 split
 ·rename_i i h
  have := (List.findIdx?_eq_some_iff_getElem.1 h).1
  left; omega
 ·rcases Nat.eq_zero_or_pos l.length with h | h
  ·exact .inr h
  ·left; omega
theorem C0j {N : NetD} (s : Nat) (r : List (Nat × Int × Int × Int)) (h : (A4m N)[s]? = some r) : ∀ e ∈ r, e.2.1 < (N.sigma.length : Int) := by
 intro e he
 unfold A4m at h
 obtain ⟨a, ha, h1, rfl⟩ := (A2p h e).1 he
 rcases B43 N.sigma a.inn with h2 | h2
 ·exact h2
 ·show A7o N.sigma a.inn < _
  have h3 : N.sigma = [] := List.length_eq_zero_iff.1 h2
  rw [h3, A45 (by simp)]
  decide
theorem C9x {N : NetD} (hok : A5s N) {u : List Nat} (hu : ∀ k ∈ u, k < N.sigma.length) :
  accS (A2d (A4m N) fun k => k < 0) (fun (k : Nat) => A2d (A4m N) fun x => x = (k : Int)) (fun s => 0 < (A3m N N.ends).getD s 0) (Clo (A2d (A4m N) fun k => k < 0) fun s => s = 0) u ↔ A9x N (textOf N.sigma u) := by
 have hin : ∀ x ∈ textOf N.sigma u, x ∈ N.sigma := fun x hx => by
  obtain ⟨k, hk, rfl⟩ := List.mem_map.1 hx
  have := hu k hk
  simp only [List.getD, List.getElem?_eq_getElem this, Option.getD_some]
  exact List.getElem_mem _
 have hmap : (textOf N.sigma u).map (A7o N.sigma) = u.map fun (k : Nat) => (k : Int) := by
  unfold textOf
  rw [List.map_map]
  refine List.map_congr_left fun k hk => ?_
  have := hu k hk
  simp only [Function.comp, List.getD, List.getElem?_eq_getElem this, Option.getD_some]
  exact A7u hok.asc (List.getElem?_eq_getElem this)
 unfold accS A9x
 constructor
 ·rintro ⟨t, h1, h2⟩
  refine ⟨fun x hx h0 => A3z hok (h0 ▸ hin x hx), t, ?_, (C8w hok t).1 h2⟩
  rw [B0l hok hin, hmap]
  exact (RunS.congr (f := fun (k : Nat) => (k : Int)) (fun _ _ => Iff.rfl) (fun _ => Iff.rfl) (fun x _ s t => Iff.rfl) t).1 h1
 ·rintro ⟨_, t, h1, h2⟩
  refine ⟨t, ?_, (C8w hok t).2 h2⟩
  rw [B0l hok hin, hmap] at h1
  exact (RunS.congr (f := fun (k : Nat) => (k : Int)) (fun _ _ => Iff.rfl) (fun _ => Iff.rfl) (fun x _ s t => Iff.rfl) t).2 h1
theorem B55 (sigma : List ByteArray) : (List.range sigma.length).map (fun k => sigma.getD k A9a) = sigma := by
 refine List.ext_getElem? fun i => ?_
 rw [List.getElem?_map]
 by_cases h : i < sigma.length
 ·rw [List.getElem?_range h, List.getElem?_eq_getElem h]
  simp [List.getD, List.getElem?_eq_getElem h]
 ·rw [List.getElem?_eq_none (by simp; omega), List.getElem?_eq_none (by omega)]; rfl
theorem eps_of {E : List (List (Nat × Int × Int × Int))} : B0k (fun x s t => A2d E (fun k => k = x) s t) = A2d E fun k => k < 0 := by
 funext s t
 apply propext
 unfold B0k A2d
 constructor
 ·rintro ⟨x, hx, r, h1, e, h2, h3, h4⟩; exact ⟨r, h1, e, h2, h3, by rw [h4]; exact hx⟩
 ·rintro ⟨r, h1, e, h2, h3, h4⟩; exact ⟨_, h4, r, h1, e, h2, h3, rfl⟩
section
variable {N : NetD} {R : List (List (Nat × Int × Int × Int))} {es : List Int} {us : Nat → Prop} {f : Nat → Nat}
theorem B3r (hok : A5s N) (hT : TrimOf (fun x s t => A2d (A4m N) (fun k => k = x) s t) (fun x s t => A2d R (fun k => k = x) s t) us f (fun s => 0 < (A3m N N.ends).getD s 0) (fun s => 0 < es.getD s 0)) {u : List Nat} (hu : ∀ k ∈ u, k < N.sigma.length) :
  accS (A2d R fun k => k < 0) (fun (k : Nat) => A2d R fun x => x = (k : Int)) (fun s => 0 < es.getD s 0) (Clo (A2d R fun k => k < 0) fun s => s = 0) u ↔ A9x N (textOf N.sigma u) := by
 rw [← C9x hok hu]
 have := hT.acc u
 rw [eps_of, eps_of] at this
 exact this
theorem C5g (hT : TrimOf (fun x s t => A2d (A4m N) (fun k => k = x) s t) (fun x s t => A2d R (fun k => k = x) s t) us f (fun s => 0 < (A3m N N.ends).getD s 0) (fun s => 0 < es.getD s 0)) (s : Nat) (r : List (Nat × Int × Int × Int)) (h : R[s]? = some r) : ∀ e ∈ r, e.2.1 < (N.sigma.length : Int) := by
 intro e he
 obtain ⟨a, b, _, _, _, _, r', h1, e', h2, _, h3⟩ := (hT.edge e.2.1 s e.1).1 ⟨r, h, e, he, rfl, rfl⟩
 rw [← h3]
 exact C0j a r' h1 e' h2
theorem C8j (hok : A5s N) (hT : TrimOf (fun x s t => A2d (A4m N) (fun k => k = x) s t) (fun x s t => A2d R (fun k => k = x) s t) us f (fun s => 0 < (A3m N N.ends).getD s 0) (fun s => 0 < es.getD s 0)) :
  (A5k N.sigma.length R es 61).map (textOf N.sigma) = A6o N := by
 unfold A6o
 conv => rhs; rw [← B55 N.sigma]
 rw [C6n]
 have : B8i (List.range N.sigma.length) (fun u => A9x N (u.map fun k => N.sigma.getD k A9a)) 60 = A5k N.sigma.length R es 61 :=
  B7b fun u hu => (B3r hok hT fun k hk => List.mem_range.1 (hu k hk)).symm
 rw [this]
 rfl
theorem C9p (hok : A5s N) (hT : TrimOf (fun x s t => A2d (A4m N) (fun k => k = x) s t) (fun x s t => A2d R (fun k => k = x) s t) us f (fun s => 0 < (A3m N N.ends).getD s 0) (fun s => 0 < es.getD s 0)) :
  (∃ j, 60 < j ∧ exP R es j 0) ↔ B8j N := by
 constructor
 ·rintro ⟨j, h1, h2⟩
  obtain ⟨w, ⟨h3, h4⟩, h5⟩ := A32 (A := fun (k : Nat) => A2d R fun x => x = (k : Int)) (q := fun k => k < N.sigma.length) (fun s t hst => by
   obtain ⟨r, k1, e, k2, k3, k4⟩ := hst
   have := C5g hT s r k1 e k2
   exact ⟨e.2.1.toNat, by omega, r, k1, e, k2, k3, by omega⟩) (S := Clo (A2d R fun k => k < 0) fun s => s = 0) (fun a b h1 h2 => .step h1 h2) ⟨0, .base rfl, h2⟩
  refine ⟨textOf N.sigma w, by unfold textOf; rw [List.length_map]; omega, fun x hx => ?_, (B3r hok hT h4).1 h5⟩
  obtain ⟨k, hk, rfl⟩ := List.mem_map.1 hx
  have := h4 k hk
  simp only [List.getD, List.getElem?_eq_getElem this, Option.getD_some]
  exact List.getElem_mem _
 ·rintro ⟨w, h1, h2, h3⟩
  obtain ⟨u, hu, rfl⟩ : ∃ u : List Nat, (∀ k ∈ u, k < N.sigma.length) ∧ textOf N.sigma u = w := by
   clear h1 h3
   induction w with
   | nil => exact ⟨[], (fun k hk => by cases hk), rfl⟩
   | cons x w ih =>
    obtain ⟨u, h3, h4⟩ := ih fun y hy => h2 y (List.mem_cons_of_mem _ hy)
    obtain ⟨k, hk⟩ := List.mem_iff_getElem?.1 (h2 x List.mem_cons_self)
    have hkl := (List.getElem?_eq_some_iff.1 hk).1
    refine ⟨k :: u, fun j hj => ?_, ?_⟩
    ·rcases List.mem_cons.1 hj with rfl | hj
     ·exact hkl
     ·exact h3 j hj
    ·show N.sigma.getD k A9a :: textOf N.sigma u = x :: w
     rw [h4]
     simp [List.getD, hk]
  obtain ⟨s, h4, h5⟩ := A3p (any := A2d R fun x => 0 ≤ x) C40 ((B3r hok hT hu).2 h3)
  refine ⟨u.length, by unfold textOf at h1; rw [List.length_map] at h1; exact h1, A7t ?_ h5⟩
  exact h4
end
theorem C0p {N : NetD} (hok : A5s N) : N.sigma.length ≤ 40 := by
 have h := hok.sig
 unfold A9j at h
 split at h
 ·cases h
 ·rename_i h1
  simp only [Bool.or_eq_true, decide_eq_true_eq, not_or] at h1
  omega
theorem C2w {H : AH} {v : Value} {N : NetD} {most : Int} (h : A11 H v N) (hsm : A7l N) (hw : Wf H) :
  Sh.Call Tryz.prog (knows 7) 8 [v, .int .i64 most] H (fun r H' => Kept H H' ∧ ∃ lv, r = .tuple #[lv, .bool (A6g N most).2.1, .int .i64 (A6g N most).2.2] ∧ ∃ vs, JagR H' lv 1 ((A6g N most).1.map strRow) vs) := by
 refine A2a rfl Tryz.func8 rfl (Nat.le_of_ble_eq_true rfl) ?_
 have hres : Tryz.f8.results.toList = [.tmp 4, .tmp 5, .tmp 6] := rfl
 obtain ⟨sg, ar, en, rfl, hsg, har, hen⟩ := h
 have hb1 := NetBox.of (N := N) hw hsg har hen
 have hk1 : Kept H (H.new 4 [sg, .int .i64 N.states, ar, en]).2 := Kept.new hw 4 _
 simp only [↓Sh.dn, sx, Nat.reduceEqDiff, A5x hsg.isCell har.isCell hen.isCell]
 generalize H.next = gg at hb1 ⊢
 generalize (H.new 4 [sg, .int .i64 N.states, ar, en]).2 = H1 at hb1 hk1 ⊢
 obtain ⟨r, H2, hd2, hk2, rfl⟩ := B8w hb1.netAt hsm hk1.wf
 have hb2 := hb1.kept hk1.wf hk2
 simp only [sx, hb1.ca]
 refine ⟨_, _, hd2, ?_⟩
 have hk12 := hk1.trans hk2
 have nil : ∀ {H' : AH}, ∃ vs, JagR H' (.slice none 0 0) 1 (([] : List (List ByteArray)).map strRow) vs := fun {H'} => ⟨[], Sl.nil _ _, rfl, fun i w r hi => by simp at hi⟩
 by_cases hA : A6n N = 0
 case neg =>
  have ho : A6g N most = ([], false, A6n N) := by unfold A6g; rw [if_pos hA]
  simp only [↓Sh.dn, sx, Nat.reduceEqDiff, hA, decide_false, hres, ho]
  exact ⟨hk12, _, rfl, nil⟩
 simp only [↓Sh.dn, sx, Nat.reduceEqDiff, hA, decide_true]
 by_cases h1 : most < 1
 ·have ho : A6g N most = ([], false, 1) := by unfold A6g; rw [if_neg (by simpa using hA), if_pos (.inl h1)]
  simp only [↓Sh.dn, sx, Nat.reduceEqDiff, h1, decide_true, hres, ho]
  exact ⟨hk12, _, rfl, nil⟩
 by_cases h2 : 200 < most
 ·have ho : A6g N most = ([], false, 1) := by unfold A6g; rw [if_neg (by simpa using hA), if_pos (.inr h2)]
  simp only [↓Sh.dn, sx, Nat.reduceEqDiff, h1, h2, decide_false, decide_true, hres, ho]
  exact ⟨hk12, _, rfl, nil⟩
 have ho : A6g N most = A8k (A6o N) (B8j N) most.toNat := by unfold A6g; rw [if_neg (by simpa using hA), if_neg (by omega)]
 have hok := B9u hA
 have hs40 : N.sigma.length ≤ 1000 := by have := C0p hok; omega
 obtain ⟨r, H3, hd3, hk3, g, rfl, base, hbase, hG⟩ := graphOf hb2.netAt hok hsm hk2.wf
 obtain ⟨sv, av, ev, cv, vals, hPG⟩ := Gr.pg hok hG
 obtain ⟨r, H4, hd4, hk4, g4, rfl, m, R, es, ⟨sv4, av4, ev4, cv4, vals4, cs4, hP4⟩, hmn, U, hT⟩ := C7n hPG (by omega) (by unfold A9n; rw [List.length_map, A9e]) hk3.wf
 obtain ⟨mm, rfl⟩ : ∃ mm : Nat, most = (mm : Int) := ⟨most.toNat, by omega⟩
 obtain ⟨r, H5, hd5, hk5, lv, rfl, vs, hJ⟩ := C4k (most := mm) hP4 (C5g hT) hs40 (by omega) (by omega) hk4.wf
 rw [C8j hok hT, show (∃ j, 60 < j ∧ exP R es j 0) = B8j N from propext (C9p hok hT)] at hJ hd5
 simp only [↓Sh.dn, sx, Nat.reduceEqDiff, h1, h2, decide_false, hb2.ca]
 refine ⟨_, _, hd3, ?_⟩
 refine ⟨_, _, hd4, ?_⟩
 refine ⟨_, _, hd5, ?_⟩
 simp only [sx, Nat.reduceEqDiff, hres, ho, Int.toNat_natCast]
 exact ⟨((hk12.trans hk3).trans hk4).trans hk5, lv, rfl, vs, hJ⟩
end Go.Proofs.YtcgbiedfbacgpaaGreat
/- The reference's Words; lists of lists of texts are held against each other. -/
namespace Go.Proofs.YtcgbiedfbacgpaaGreat
open Go Go.Proofs Go.Proofs.Sh
section
variable {N : NetD}
theorem B77 (hok : A5s N) {u : List ByteArray} (hu : ∀ x ∈ u, x ∈ N.sigma) :
  accS (A0e (A7j N) A9a) (symE (A7j N)) (fun s => (marksOf EndD.state N.states.toNat N.ends)[s]? = some true) (Clo (A0e (A7j N) A9a) fun s => s = 0) u ↔ A9x N u := by
 have hne : ∀ x ∈ u, x ≠ A9a := fun x hx h0 => A3z hok (h0 ▸ hu x hx)
 unfold accS A9x NetD.run NetD.clo
 rw [A36 hok]
 have hrun : ∀ t, RunS (N.goes A9a) (symE (A7j N)) (Clo (N.goes A9a) fun s => s = 0) u t ↔ RunS (N.goes A9a) N.goes (Clo (N.goes A9a) fun s => s = 0) u t := fun t => by
  have := RunS.congr (f := id) (E := N.goes A9a) (E' := N.goes A9a) (A := symE (A7j N)) (B := N.goes) (fun _ _ => Iff.rfl) (w := u) (S := Clo (N.goes A9a) fun s => s = 0) (fun _ => Iff.rfl) (fun x hx s t => by
   unfold symE
   rw [A36 hok]
   exact ⟨fun h => h.2, fun h => ⟨hne x hx, h⟩⟩) t
  rw [List.map_id] at this
  exact this
 constructor
 ·rintro ⟨t, h1, h2⟩; exact ⟨hne, t, (hrun t).1 h1, (B6l hok t).1 h2⟩
 ·rintro ⟨_, t, h1, h2⟩; exact ⟨t, (hrun t).2 h1, (B6l hok t).2 h2⟩
theorem ref_all (hok : A5s N) : A0i N.sigma (A7j N) (marksOf EndD.state N.states.toNat N.ends) 61 = A6o N :=
 B7b fun u hu => B77 hok hu
theorem C6p (hok : A5s N) (x : ByteArray) (s t : Nat) (h : A0e (A7j N) x s t) : x = A9a ∨ x ∈ N.sigma := by
 rw [A36 hok] at h
 obtain ⟨a, ha, _, h2, _⟩ := h
 rw [← h2]
 exact (hok.arc a ha).2.2.2.2.1
theorem ref_long (hok : A5s N) : A1n (A0e (A7j N) A9a) (anyE (A7j N)) (fun s => (marksOf EndD.state N.states.toNat N.ends)[s]? = some true) 61 0 ↔ B8j N := by
 rw [A91]
 constructor
 ·rintro ⟨j, hj⟩
  obtain ⟨w, ⟨h1, h2⟩, h3⟩ := A32 (A := symE (A7j N)) (q := fun x => x ∈ N.sigma) (fun s t ⟨x, hx, h⟩ => ⟨x, (C6p hok x s t h).resolve_left hx, hx, h⟩) (S := Clo (A0e (A7j N) A9a) fun s => s = 0) (fun a b h1 h2 => .step h1 h2) ⟨0, .base rfl, hj⟩
  exact ⟨w, by omega, h2, (B77 hok h2).1 h3⟩
 ·rintro ⟨w, h1, h2, h3⟩
  obtain ⟨s, h4, h5⟩ := A3p (any := anyE (A7j N)) B4r ((B77 hok h2).2 h3)
  exact ⟨w.length - 61, by rw [show 61 + (w.length - 61) = w.length by omega]; exact A7t h4 h5⟩
end
theorem B72 (all : List (List ByteArray)) (P : Prop) (most : Nat) :
  A8k all P most = ((A9f all P most).1, (A9f all P most).2.1, if (A9f all P most).2.2 = true then 3 else 0) ∧ ((A9f all P most).2.2 = true → (A9f all P most).1 = [] ∧ (A9f all P most).2.1 = false) := by
 unfold A8k A9f
 split
 ·exact ⟨rfl, fun h => by cases h⟩
 ·split
  ·split
   ·exact ⟨rfl, fun _ => ⟨rfl, rfl⟩⟩
   ·exact ⟨rfl, fun h => by cases h⟩
  ·exact ⟨rfl, fun h => by cases h⟩
theorem refWords {H : AH} {v : Value} {N : NetD} {most : Int} (h : A11 H v N) (hsm : A7l N) (hw : Wf H) :
  Sh.Call Tryz.prog (knows 7) 9 [v, .int .i64 most] H (fun r H' => Kept H H' ∧ ∃ lv, r = .tuple #[lv, .bool (A6g N most).2.1, .int .i64 (A6g N most).2.2] ∧ ∃ vs, JagR H' lv 1 ((A6g N most).1.map strRow) vs) := by
 refine A2a rfl Tryz.func9 rfl (Nat.le_of_ble_eq_true rfl) ?_
 have hres : Tryz.f9.results.toList = [.tmp 4, .tmp 5, .tmp 6] := rfl
 obtain ⟨sg, ar, en, rfl, hsg, har, hen⟩ := h
 have hb1 := NetBox.of (N := N) hw hsg har hen
 have hk1 : Kept H (H.new 4 [sg, .int .i64 N.states, ar, en]).2 := Kept.new hw 4 _
 simp only [↓Sh.dn, sx, Nat.reduceEqDiff, A5x hsg.isCell har.isCell hen.isCell]
 generalize H.next = gg at hb1 ⊢
 generalize (H.new 4 [sg, .int .i64 N.states, ar, en]).2 = H1 at hb1 hk1 ⊢
 obtain ⟨r, H2, hd2, hk2, rfl⟩ := B33 hb1.netAt hsm hk1.wf
 have hb2 := hb1.kept hk1.wf hk2
 simp only [sx, hb1.ca]
 refine ⟨_, _, hd2, ?_⟩
 have hk12 := hk1.trans hk2
 have nil : ∀ {H' : AH}, ∃ vs, JagR H' (.slice none 0 0) 1 (([] : List (List ByteArray)).map strRow) vs := fun {H'} => ⟨[], Sl.nil _ _, rfl, fun i w r hi => by simp at hi⟩
 by_cases hA : A6n N = 0
 case neg =>
  have ho : A6g N most = ([], false, A6n N) := by unfold A6g; rw [if_pos hA]
  simp only [↓Sh.dn, sx, Nat.reduceEqDiff, hA, decide_false, hres, ho]
  exact ⟨hk12, _, rfl, nil⟩
 simp only [↓Sh.dn, sx, Nat.reduceEqDiff, hA, decide_true]
 by_cases h1 : most < 1
 ·have ho : A6g N most = ([], false, 1) := by unfold A6g; rw [if_neg (by simpa using hA), if_pos (.inl h1)]
  simp only [↓Sh.dn, sx, Nat.reduceEqDiff, h1, decide_true, hres, ho]
  exact ⟨hk12, _, rfl, nil⟩
 by_cases h2 : 200 < most
 ·have ho : A6g N most = ([], false, 1) := by unfold A6g; rw [if_neg (by simpa using hA), if_pos (.inr h2)]
  simp only [↓Sh.dn, sx, Nat.reduceEqDiff, h1, h2, decide_false, decide_true, hres, ho]
  exact ⟨hk12, _, rfl, nil⟩
 have hok := B9u hA
 obtain ⟨r, H3, hd3, hk3, ev, bv, vals, hR⟩ := C1j hb2.netAt hok hsm hk2.wf
 obtain ⟨mm, rfl⟩ : ∃ mm : Nat, most = (mm : Int) := ⟨most.toNat, by omega⟩
 have htot : ((A7j N).map List.length).sum ≤ 1048576 := Nat.le_trans C6k (Nat.le_trans hok.ar (by decide))
 obtain ⟨r, H4, hd4, hk4, lv, rfl, vs, hJ⟩ := B56 (most := mm) hR htot hok.asc (C6p hok) (A3z hok) (by omega) (by omega) hk3.wf
 rw [ref_all hok, propext (ref_long hok)] at hJ hd4
 obtain ⟨ho1, ho2⟩ := B72 (A6o N) (B8j N) mm
 have ho : A6g N (mm : Int) = ((A9f (A6o N) (B8j N) mm).1, (A9f (A6o N) (B8j N) mm).2.1, if (A9f (A6o N) (B8j N) mm).2.2 = true then 3 else 0) := by
  rw [← ho1]; unfold A6g; rw [if_neg (by simpa using hA), if_neg (by omega), Int.toNat_natCast]
 simp only [↓Sh.dn, sx, Nat.reduceEqDiff, h1, h2, decide_false, hb2.ca]
 refine ⟨_, _, hd3, ?_⟩
 refine ⟨_, _, hd4, ?_⟩
 have hkk := (hk12.trans hk3).trans hk4
 cases hlg : (A9f (A6o N) (B8j N) mm).2.2 with
 | true =>
  obtain ⟨e1, e2⟩ := ho2 hlg
  rw [hlg, e1, e2, if_pos rfl] at ho
  simp only [↓Sh.dn, sx, Nat.reduceEqDiff, hres, ho]
  exact ⟨hkk, _, rfl, nil⟩
 | false =>
  rw [hlg, if_neg (by simp)] at ho
  simp only [↓Sh.dn, sx, Nat.reduceEqDiff, hres, ho]
  exact ⟨hkk, lv, rfl, vs, hJ⟩
theorem B0z {H : AH} {v u : Value} {l : List (List ByteArray)} {vs ws : List Value} (hl : JagR H v 1 (l.map strRow) vs) (hm : JagR H u 1 (l.map strRow) ws) (hll : l.length ≤ 1048576) (hx : ∀ w ∈ l, w.length ≤ 1048576) (hw : Wf H) :
  Sh.Call Tryz.prog (knows 7) 10 [v, u] H (fun r H' => H' = H ∧ r = .bool true) := by
 refine A2a rfl Tryz.func10 rfl (Nat.le_of_ble_eq_true rfl) ?_
 have hres : Tryz.f10.results.toList = [.tmp 4] := rfl
 have l1 : ∀ H', A4a Tryz.prog .len [29] [v] H' = some (.int .i64 (l.length : Int), H') := fun H' => by
  rw [hl.sl.len Tryz.underlying29, List.length_map, hl.len, List.length_map]
 have l2 : ∀ H', A4a Tryz.prog .len [29] [u] H' = some (.int .i64 (l.length : Int), H') := fun H' => by
  rw [hm.sl.len Tryz.underlying29, List.length_map, hm.len, List.length_map]
 simp only [↓Sh.dn, sx, reduceCtorEq, Nat.reduceEqDiff, l1, l2, eq_self, decide_true]
 refine A1d l.length 5 (List.range' 5 22) (fun i F H' => H' = H) (by simp only [sx]) rfl ?_ ?_
 ·rintro i F H' hi hF f5 rfl k
  have f0 := hF 0 rfl
  have f1 := hF 1 rfl
  simp only [sx, reduceCtorEq, Nat.reduceEqDiff] at f0 f1
  obtain ⟨g1, o1, k1, w1, i1, c1, s1⟩ := hl.at Tryz.underlying29 A4w (i := i) (r := strRow l[i]) (by rw [List.getElem?_map, List.getElem?_eq_getElem hi]; rfl)
  obtain ⟨g2, o2, k2, w2, i2, c2, s2⟩ := hm.at Tryz.underlying29 A4w (i := i) (r := strRow l[i]) (by rw [List.getElem?_map, List.getElem?_eq_getElem hi]; rfl)
  have hli := hx _ (List.getElem_mem hi)
  obtain ⟨r3, H3, hd3, e3, rfl⟩ := refSame (l := l[i]) (m := l[i]) s1 s2 hli hli hw
  rw [e3] at hd3
  have ht : decide (l[i] = l[i]) = true := decide_eq_true rfl
  rw [ht] at hd3
  simp only [↓Sh.dn, sx, reduceCtorEq, Nat.reduceEqDiff, f0, f5, l1, A1a, hi, decide_true]
  refine (A7a (by kernel_rfl)).2 ?_
  simp only [↓Sh.dn, sx, reduceCtorEq, Nat.reduceEqDiff, f0, f1, f5, i1, c1, i2, c2]
  refine ⟨_, _, hd3, ?_⟩
  simp only [↓Sh.dn, sx, Nat.reduceEqDiff, f5, wrap_succ hi hll]
  exact k _ _ (by repeat (first | refine Same.put ?_ rfl | exact Same.rfl' _)) (by simp only [sx]) rfl
 ·rintro F H' hF f5 rfl
  have f0 := hF 0 rfl
  simp only [sx, reduceCtorEq] at f0
  simp only [↓Sh.dn, sx, reduceCtorEq, Nat.reduceEqDiff, f0, f5, l1, A1a, Nat.lt_irrefl, decide_false, hres]
end Go.Proofs.YtcgbiedfbacgpaaGreat
/- Whether there is far more in a net than may be. -/
namespace Go.Proofs.YtcgbiedfbacgpaaGreat
open Go Go.Proofs Go.Proofs.Sh
def A8j (l : List ByteArray) : Nat := (l.map fun s => s.size).sum
def B6q (N : NetD) : Nat := N.sigma.length + N.arcs.length + N.ends.length + A8j N.sigma
theorem B1s (l : List ByteArray) (i : Nat) : A8j (l.take i) ≤ A8j l := by
 unfold A8j
 have : l = l.take i ++ l.drop i := (List.take_append_drop i l).symm
 conv => rhs; rw [this]
 rw [List.map_append, List.sum_append]
 omega
theorem isOver {H : AH} {v : Value} {N : NetD} (h : A11 H v N) (hsm : A7l N) (hsz : A8j N.sigma ≤ 1048576) (hw : Wf H) :
  Sh.Call Tryz.prog (knows 7) 6 [v] H (fun r H' => Kept H H' ∧ r = .bool (decide (262144 < B6q N))) := by
 refine A2a rfl Tryz.func6 rfl (Nat.le_of_ble_eq_true rfl) ?_
 have hres : Tryz.f6.results.toList = [.tmp 2] := rfl
 obtain ⟨sg, ar, en, rfl, hsg, har, hen⟩ := h
 have hb1 := NetBox.of (N := N) hw hsg har hen
 have hk1 : Kept H (H.new 4 [sg, .int .i64 N.states, ar, en]).2 := Kept.new hw 4 _
 simp only [↓Sh.dn, sx, Nat.reduceEqDiff, A5x hsg.isCell har.isCell hen.isCell]
 generalize H.next = gg at hb1 ⊢
 generalize (H.new 4 [sg, .int .i64 N.states, ar, en]).2 = H1 at hb1 hk1 ⊢
 obtain ⟨z1, z2, z3, _⟩ := hsm
 have w1 : IntKind.wrap .i64 (IntKind.wrap .i64 ((N.sigma.length : Int) + (N.arcs.length : Int)) + (N.ends.length : Int)) = ((N.sigma.length + N.arcs.length + N.ends.length : Nat) : Int) := by
  rw [wrap64 (n := (N.sigma.length : Int) + (N.arcs.length : Int)) (by omega) (by omega), wrap64 (by omega) (by omega)]; rfl
 simp only [sx, hb1.c0, hb1.c2, hb1.c3, B15 hb1, A2m hb1, A1r hb1, w1]
 refine A1d N.sigma.length 4 (List.range' 16 15 ++ [3, 4]) (fun i F H' => H' = H1 ∧ F.get 3 = some (.int .i64 ((N.sigma.length + N.arcs.length + N.ends.length + A8j (N.sigma.take i) : Nat) : Int))) (by simp only [sx]) ⟨rfl, by simp only [sx, Nat.reduceEqDiff]; rfl⟩ ?_ ?_
 ·rintro i F H' hlt hF f4 ⟨rfl, f3⟩ k
  have f1 := hF 1 rfl
  simp only [sx, Nat.reduceEqDiff] at f1
  obtain ⟨g, o, kk, hia, hc, hcc⟩ := hb1.hsg.at Tryz.underlying22 A1j (i := i) (x := A6b N.sigma[i]) (by simp [hlt]) .i64
  have hy := hcc 0 _ rfl
  simp only [Nat.add_zero] at hy
  have hs1 : A8j (N.sigma.take (i + 1)) = A8j (N.sigma.take i) + N.sigma[i].size := by
   unfold A8j
   rw [List.take_add_one, List.getElem?_eq_getElem hlt, List.map_append, List.sum_append]
   simp
  have hle := B1s N.sigma (i + 1)
  have w2 : IntKind.wrap .i64 (((N.sigma.length + N.arcs.length + N.ends.length + A8j (N.sigma.take i) : Nat) : Int) + (N.sigma[i].size : Int)) = ((N.sigma.length + N.arcs.length + N.ends.length + A8j (N.sigma.take (i + 1)) : Nat) : Int) := by
   rw [wrap64 (by omega) (by omega), hs1]; omega
  simp only [↓Sh.dn, sx, Nat.reduceEqDiff, hb1.c0, B15 hb1, f1, f3, f4, A1a, hlt, decide_true, hia, hy, w2, wrap_succ hlt z1]
  exact k _ _ (by repeat (first | refine Same.put ?_ rfl | exact Same.rfl' _)) (by simp only [sx]) ⟨rfl, by simp only [sx, Nat.reduceEqDiff]⟩
 ·rintro F H' hF f4 ⟨rfl, f3⟩
  have f1 := hF 1 rfl
  simp only [sx, Nat.reduceEqDiff] at f1
  rw [List.take_length] at f3
  have e : decide ((262144 : Int) < ((N.sigma.length + N.arcs.length + N.ends.length + A8j N.sigma : Nat) : Int)) = decide (262144 < B6q N) := decide_eq_decide.2 (by unfold B6q; omega)
  simp only [↓Sh.dn, sx, Nat.reduceEqDiff, hb1.c0, B15 hb1, f1, f3, f4, A1a, Nat.lt_irrefl, decide_false, hres, e, hk1]
end Go.Proofs.YtcgbiedfbacgpaaGreat
/- Whether lists have far too many texts, or bytes. -/
namespace Go.Proofs.YtcgbiedfbacgpaaGreat
open Go Go.Proofs Go.Proofs.Sh
def A7s (ws : List (List ByteArray)) : Nat := (ws.map fun w => A8j w + w.length).sum
theorem A18 (a b : List ByteArray) : A8j (a ++ b) = A8j a + A8j b := by simp [A8j]
theorem A29 (a b : List (List ByteArray)) : A7s (a ++ b) = A7s a + A7s b := by simp [A7s]
theorem B82 {ws : List (List ByteArray)} {i q : Nat} {w : List ByteArray} (h : ws[i]? = some w) (hq : q ≤ w.length) : A7s (ws.take i) + (A8j (w.take q) + q) ≤ A7s ws := by
 have hi := (List.getElem?_eq_some_iff.1 h).1
 have e : ws = ws.take i ++ (w :: ws.drop (i + 1)) := by
  conv => lhs; rw [← List.take_append_drop i ws]
  congr 1
  rw [List.drop_eq_getElem_cons hi, (List.getElem?_eq_some_iff.1 h).2]
 have e2 : A7s ws = A7s (ws.take i) + (A8j w + w.length + A7s (ws.drop (i + 1))) := by
  conv => lhs; rw [e]
  rw [A29]; rfl
 have e3 : A8j w = A8j (w.take q) + A8j (w.drop q) := by rw [← A18, List.take_append_drop]
 omega
theorem isLong {H : AH} {v : Value} {vals : List Value} {ws : List (List ByteArray)} (h : JagR H v 1 (ws.map fun w => w.map A6b) vals) (hl : ws.length ≤ 1048576) (hw1 : ∀ w ∈ ws, w.length ≤ 1048576 ∧ ∀ x ∈ w, x.size ≤ 1048576) (hw : Wf H) :
  Sh.Call Tryz.prog (knows 7) 18 [v] H (fun r H' => H' = H ∧ r = .bool (decide (16384 < A7s ws))) := by
 refine A2a rfl Tryz.func18 rfl (Nat.le_of_ble_eq_true rfl) ?_
 have hres : Tryz.f18.results.toList = [.tmp 2] := rfl
 have hlen : ∀ H', A4a Tryz.prog .len [29] [v] H' = some (.int .i64 (ws.length : Int), H') := fun H' => by
  rw [h.sl.len Tryz.underlying29, List.length_map, h.len, List.length_map]
 have e1 : ∀ c : Nat, decide ((c : Int) ≤ 16384) = decide (c ≤ 16384) := fun c => decide_eq_decide.2 (by omega)
 have e2 : ∀ c : Nat, decide ((16384 : Int) < (c : Int)) = decide (16384 < c) := fun c => decide_eq_decide.2 (by omega)
 simp only [↓Sh.dn, sx]
 refine A1d ws.length 4 (List.range' 3 37) (fun i F H' => H' = H ∧ ∃ c : Nat, F.get 3 = some (.int .i64 (c : Int)) ∧ c ≤ A7s ws ∧ (c ≤ 16384 → c = A7s (ws.take i)) ∧ c ≤ 2000000) (by simp only [sx]) ⟨rfl, 0, by simp only [sx, Nat.reduceEqDiff]; rfl, Nat.zero_le _, fun _ => by simp [A7s], by omega⟩ ?_ ?_
 ·rintro i F H' hi hF f4 ⟨rfl, c, f3, hct, hce, hcb⟩ k
  have f0 := hF 0 rfl
  simp only [sx, reduceCtorEq] at f0
  have hget : ws[i]? = some ws[i] := List.getElem?_eq_getElem hi
  obtain ⟨hwl, hwx⟩ := hw1 _ (List.getElem_mem hi)
  have htk : ws.take (i + 1) = ws.take i ++ [ws[i]] := by rw [List.take_add_one, List.getElem?_eq_getElem hi]; rfl
  generalize ws[i] = w at hget hwl hwx htk
  obtain ⟨ga, oa, ka, wv, hia, hca, hsl⟩ := h.at Tryz.underlying29 A4w (i := i) (r := w.map A6b) (by rw [List.getElem?_map, hget]; rfl)
  have hlw : ∀ H', A4a Tryz.prog .len [22] [wv] H' = some (.int .i64 (w.length : Int), H') := fun H' => by rw [hsl.len Tryz.underlying22, List.length_map]
  have hfull : A7s (ws.take (i + 1)) = A7s (ws.take i) + (A8j w + w.length) := by rw [htk, A29]; simp [A7s]
  simp only [↓Sh.dn, sx, reduceCtorEq, Nat.reduceEqDiff, f0, f3, f4, hlen, A1a, hi, decide_true, e1]
  by_cases hc : c ≤ 16384
  case neg =>
   have hbig : decide (16384 < A7s ws) = true := decide_eq_true (by omega)
   have hc' : decide (16384 < c) = true := decide_eq_true (by omega)
   simp only [↓Sh.dn, sx, Nat.reduceEqDiff, hc, decide_false, f3, e2, hres, hc', hbig]
  simp only [↓Sh.dn, sx, hc, decide_true]
  have after : ∀ (F2 : Fr) (H2 : AH) (c2 : Nat), F2.get 3 = some (.int .i64 (c2 : Int)) → c2 ≤ A7s ws → (c2 ≤ 16384 → c2 = A7s (ws.take (i + 1))) → c2 ≤ 2000000 → True := fun _ _ _ _ _ _ _ => trivial
  refine A1d w.length 5 (List.range' 16 24 ++ [3, 5]) (fun q F'' H'' => H'' = H' ∧ ∃ c : Nat, F''.get 3 = some (.int .i64 (c : Int)) ∧ c ≤ A7s ws ∧ (c ≤ 16384 → c = A7s (ws.take i) + (A8j (w.take q) + q)) ∧ c ≤ 2000000) (by simp only [sx]) ⟨rfl, c, by simp only [sx, Nat.reduceEqDiff, f3], hct, fun h => by rw [← hce h]; simp [A8j], hcb⟩ ?_ ?_
  ·rintro q F'' H'' hq hF'' f5 ⟨rfl, c, f3', hct, hce, hcb⟩ k2
   have g0 := hF'' 0 rfl
   have g4 := hF'' 4 rfl
   simp only [sx, reduceCtorEq, Nat.reduceEqDiff, f0, f4] at g0 g4
   obtain ⟨p2, hia2, hc2⟩ := Sl.elem (s := 1) Tryz.underlying22 A1j hsl (i := q) (u := .string w[q]) (by rw [List.getElem?_map, List.getElem?_eq_getElem hq]; rfl)
   have hmem : w[q] ∈ w := List.getElem_mem hq
   have hqtk : A8j (w.take (q + 1)) = A8j (w.take q) + w[q].size := by
    rw [List.take_add_one, List.getElem?_eq_getElem hq, Option.toList_some, A18]; simp [A8j]
   generalize w[q] = x at hc2 hmem hqtk
   have hxs := hwx x hmem
   simp only [↓Sh.dn, sx, reduceCtorEq, Nat.reduceEqDiff, f3', f5, g0, g4, hia, hca, hlw, A1a, hq, decide_true, e1]
   by_cases hc : c ≤ 16384
   case neg =>
    simp only [↓Sh.dn, sx, Nat.reduceBEq, Nat.reduceEqDiff, hc, decide_false, g4, wrap_succ hi hl]
    refine k _ _ ?_ (by simp only [sx]) ⟨rfl, c, by simp only [sx, Nat.reduceEqDiff, f3'], hct, fun h => absurd h hc, hcb⟩
    repeat refine Same.put ?_ rfl
    exact Same.trans (by repeat (first | refine Same.put ?_ rfl | exact Same.rfl' _)) (hF''.sub rfl)
   have hsp := B82 (q := q + 1) hget hq
   have w1 : IntKind.wrap .i64 (1 + (x.size : Int)) = ((1 + x.size : Nat) : Int) := by rw [wrap64 (by omega) (by omega)]; omega
   have w2 : IntKind.wrap .i64 ((c : Int) + ((1 + x.size : Nat) : Int)) = ((c + (1 + x.size) : Nat) : Int) := by rw [wrap64 (by omega) (by omega)]; omega
   simp only [↓Sh.dn, sx, reduceCtorEq, Nat.reduceEqDiff, hc, decide_true, f3', f5, g0, g4, hia, hca, hia2, hc2, w1, w2, wrap_succ hq hwl]
   refine k2 _ _ (by repeat (first | refine Same.put ?_ rfl | exact Same.rfl' _)) (by simp only [sx]) ⟨rfl, c + (1 + x.size), by simp only [sx, Nat.reduceEqDiff], ?_, fun _ => ?_, by omega⟩
   ·have := hce hc; omega
   ·have := hce hc; omega
  ·rintro F'' H'' hF'' f5 ⟨rfl, c, f3', hct, hce, hcb⟩
   have g0 := hF'' 0 rfl
   have g4 := hF'' 4 rfl
   simp only [sx, reduceCtorEq, Nat.reduceEqDiff, f0, f4] at g0 g4
   rw [List.take_length] at hce
   simp only [↓Sh.dn, sx, Nat.reduceBEq, reduceCtorEq, Nat.reduceEqDiff, f5, g0, g4, hia, hca, hlw, A1a, Nat.lt_irrefl, decide_false, wrap_succ hi hl]
   refine k _ _ ?_ (by simp only [sx]) ⟨rfl, c, by simp only [sx, Nat.reduceEqDiff, f3'], hct, fun h => by rw [hfull]; exact hce h, hcb⟩
   repeat refine Same.put ?_ rfl
   exact Same.trans (by repeat (first | refine Same.put ?_ rfl | exact Same.rfl' _)) (hF''.sub rfl)
 ·rintro F H' hF f4 ⟨rfl, c, f3, hct, hce, hcb⟩
  have f0 := hF 0 rfl
  simp only [sx, reduceCtorEq] at f0
  rw [List.take_length] at hce
  have : decide (16384 < c) = decide (16384 < A7s ws) := decide_eq_decide.2 (by
   by_cases h : c ≤ 16384
   ·rw [hce h]
   ·omega)
  simp only [↓Sh.dn, sx, reduceCtorEq, Nat.reduceEqDiff, f0, f3, f4, hlen, A1a, Nat.lt_irrefl, decide_false, e2, hres, this]
end Go.Proofs.YtcgbiedfbacgpaaGreat
/- What comes in: lists of texts, nets. -/
namespace Go.Proofs.YtcgbiedfbacgpaaGreat
open Go Go.Proofs Go.Proofs.Sh
section
variable {K : Type}
theorem bulk_pos : ∀ (d : DataW K), 1 ≤ Rows.uptoBulk d
 | .lit l => by cases l <;> simp [Rows.uptoBulk]
 | .nil => by simp [Rows.uptoBulk]
 | .ptr d => by simp [Rows.uptoBulk]
 | .slice a b => by simp [Rows.uptoBulk]
 | .agg a => by simp [Rows.uptoBulk]
 | .iface n d => by simp [Rows.uptoBulk]
 | .map es => by simp [Rows.uptoBulk]
 | .held h => by simp [Rows.uptoBulk]
theorem B2p : ∀ (ds : List (DataW K)), ds.length ≤ Rows.uptoBulkAll ds
 | [] => Nat.zero_le _
 | d :: ds => by
  have := bulk_pos d
  have := B2p ds
  simp only [Rows.uptoBulkAll, List.length_cons]; omega
theorem B1a : ∀ {ds : List (DataW K)} {d : DataW K}, d ∈ ds → Rows.uptoBulk d ≤ Rows.uptoBulkAll ds
 | d :: ds, x, h => by
  simp only [Rows.uptoBulkAll]
  rcases List.mem_cons.1 h with rfl | h
  ·omega
  ·have := B1a h; omega
theorem B5l {α β : Type} {f : α → β} : ∀ {l : List β}, (∀ x ∈ l, ∃ a, x = f a) → ∃ L : List α, l = L.map f
 | [], _ => ⟨[], rfl⟩
 | x :: l, h => by
  obtain ⟨a, rfl⟩ := h x List.mem_cons_self
  obtain ⟨L, rfl⟩ := B5l (l := l) fun y hy => h y (List.mem_cons_of_mem _ hy)
  exact ⟨a :: L, rfl⟩
theorem B94 {α : Type} {enc : α → List Value} {H : AH} {f t e s : Nat} {cs : List Value} {d : DataW K} (R : α → DataW K → Prop) (hu : Tryz.prog.underlying t = some (.slice e)) (hs : Tryz.prog.cellsOf e = s)
  (hR : ∀ f x y, RD Tryz.prog H f e x y → ∃ a, x = enc a ∧ R a y) (h : RD Tryz.prog H f t cs d) :
  ∃ u, ∃ L : List α, ∃ ds, cs = [u] ∧ Sl H u s (L.map enc) ∧ L.length = ds.length ∧ (∀ (i : Nat) a y, L[i]? = some a → ds[i]? = some y → enc a = enc a → ∃ a', enc a' = enc a ∧ R a' y) ∧ Rows.uptoBulkAll ds < Rows.uptoBulk d := by
 obtain ⟨l, ds, ⟨u, rfl, hsl⟩, hlen, hel, hd⟩ := RD.slice hu hs h
 have hget : ∀ (i : Nat) x, l[i]? = some x → ∃ y a, ds[i]? = some y ∧ x = enc a ∧ R a y := by
  intro i x hx
  have hi := (List.getElem?_eq_some_iff.1 hx).1
  have hy : ds[i]? = some (ds[i]'(by omega)) := List.getElem?_eq_getElem (by omega)
  obtain ⟨f', hf⟩ := hel i x _ hx hy
  obtain ⟨a, h1, h2⟩ := hR f' x _ hf
  exact ⟨_, a, hy, h1, h2⟩
 obtain ⟨L, rfl⟩ := B5l (f := enc) (l := l) fun x hx => by
  obtain ⟨i, hi⟩ := List.mem_iff_getElem?.1 hx
  obtain ⟨y, a, _, h2, _⟩ := hget i x hi
  exact ⟨a, h2⟩
 refine ⟨u, L, ds, rfl, hsl, by simpa using hlen, fun i a y ha hy _ => ?_, ?_⟩
 ·obtain ⟨y', a', h1, h2, h3⟩ := hget i (enc a) (by simp [ha])
  rw [hy] at h1
  injection h1 with h1
  subst h1
  exact ⟨a', h2.symm, h3⟩
 ·rcases hd with ⟨rfl, rfl⟩ | ⟨sp, rfl⟩
  ·simp [Rows.uptoBulk, Rows.uptoBulkAll]
  ·simp only [Rows.uptoBulk]; omega
theorem C9z {H : AH} {f : Nat} {x : List Value} {y : DataW K} (h : RD Tryz.prog H f 9 x y) : ∃ s, x = A6b s ∧ y = .lit (.string s.data.toList) := RD.str Tryz.underlying9 h
theorem B4e {H : AH} {f : Nat} {x : List Value} {y : DataW K} (h : RD Tryz.prog H f 3 x y) : ∃ n, x = [.int .i64 n] ∧ -9223372036854775808 ≤ n ∧ n < 9223372036854775808 := RD.int Tryz.underlying3 h
theorem B0v : ∀ {L : List ByteArray} {ds : List (DataW K)}, L.length = ds.length → (∀ (i : Nat) a y, L[i]? = some a → ds[i]? = some y → y = .lit (.string a.data.toList)) → Rows.uptoBulkAll ds = A8j L + L.length
 | [], [], _, _ => rfl
 | [], _ :: _, h, _ => by simp at h
 | _ :: _, [], h, _ => by simp at h
 | a :: L, d :: ds, h, hr => by
  have h0 := hr 0 a d rfl rfl
  have ih := B0v (L := L) (ds := ds) (by simpa using h) fun i a y h1 h2 => hr (i + 1) a y (by simpa using h1) (by simpa using h2)
  subst h0
  have e : a.data.toList.length = a.size := by rw [Array.length_toList]; rfl
  simp only [Rows.uptoBulkAll, Rows.uptoBulk, ih, A8j, List.map_cons, List.sum_cons, List.length_cons, e]
  omega
theorem B34 {a b : ByteArray} (h : A6b a = A6b b) : a = b := by
 simp only [A6b, List.cons.injEq, Value.string.injEq, and_true] at h; exact h
theorem strs_in {H : AH} {f : Nat} {cs : List Value} {d : DataW K} (h : RD Tryz.prog H f 22 cs d) : ∃ u, ∃ L : List ByteArray, cs = [u] ∧ Sl H u 1 (L.map A6b) ∧ A8j L + L.length < Rows.uptoBulk d := by
 obtain ⟨u, L, ds, h1, h2, h3, h4, h5⟩ := B94 (enc := A6b) (fun s y => y = .lit (.string s.data.toList)) Tryz.underlying22 C9u (fun f x y hf => C9z hf) h
 refine ⟨u, L, h1, h2, ?_⟩
 rw [← B0v h3 fun i a y ha hy => by
  obtain ⟨a', e, hr⟩ := h4 i a y ha hy rfl
  rw [← B34 e]; exact hr]
 exact h5
theorem C10 {L : List ByteArray} {x : ByteArray} (h : x ∈ L) : x.size ≤ A8j L := by
 induction L with
 | nil => cases h
 | cons a L ih =>
  simp only [A8j, List.map_cons, List.sum_cons] at ih ⊢
  rcases List.mem_cons.1 h with rfl | h
  ·omega
  ·have := ih h; omega
theorem four {c : List Value} (h : c.length = 4) : ∃ a b x y, c = [a, b, x, y] := by
 match c, h with
 | [a, b, x, y], _ => exact ⟨a, b, x, y, rfl⟩
theorem five {c : List Value} (h : c.length = 5) : ∃ a b x y z, c = [a, b, x, y, z] := by
 match c, h with
 | [a, b, x, y, z], _ => exact ⟨a, b, x, y, z, rfl⟩
theorem two {c : List Value} (h : c.length = 2) : ∃ a b, c = [a, b] := by
 match c, h with
 | [a, b], _ => exact ⟨a, b, rfl⟩
theorem A7n {ds : List (DataW K)} {n i : Nat} (h : ds.length = n) (hi : i < n) : ∃ x, ds[i]? = some x := ⟨ds[i]'(by omega), List.getElem?_eq_getElem (by omega)⟩
theorem arc_in {H : AH} {f : Nat} {x : List Value} {y : DataW K} (h : RD Tryz.prog H f 49 x y) : ∃ a : ArcD, x = a.cells ∧ True := by
 ·obtain ⟨f', ds, rfl, h1, h2, h3⟩ := RD.struct Tryz.underlying49 h
  rw [C6a] at h1
  obtain ⟨a, b, c, d, e, rfl⟩ := five h1
  have h2' : ds.length = 5 := h2
  obtain ⟨d0, e0⟩ := A7n h2' (i := 0) (by omega)
  obtain ⟨d1, e1⟩ := A7n h2' (i := 1) (by omega)
  obtain ⟨d2, e2⟩ := A7n h2' (i := 2) (by omega)
  obtain ⟨d3, e3⟩ := A7n h2' (i := 3) (by omega)
  obtain ⟨d4, e4⟩ := A7n h2' (i := 4) (by omega)
  have g0 := h3 0 _ _ rfl e0
  have g1 := h3 1 _ _ rfl e1
  have g2 := h3 2 _ _ rfl e2
  have g3 := h3 3 _ _ rfl e3
  have g4 := h3 4 _ _ rfl e4
  simp only [B36, C9u, List.drop_zero, List.drop_succ_cons, List.take_succ_cons, List.take_zero, List.getElem_toArray, List.getElem_cons_zero, List.getElem_cons_succ] at g0 g1 g2 g3 g4
  obtain ⟨n0, q0, _⟩ := B4e g0
  obtain ⟨s1, q1, _⟩ := C9z g1
  obtain ⟨s2, q2, _⟩ := C9z g2
  obtain ⟨n3, q3, _⟩ := B4e g3
  obtain ⟨n4, q4, _⟩ := B4e g4
  simp only [A6b, List.cons.injEq, and_true] at q0 q1 q2 q3 q4
  subst q0 q1 q2 q3 q4
  exact ⟨⟨n0, s1, s2, n3, n4⟩, rfl, trivial⟩
theorem end_in {H : AH} {f : Nat} {x : List Value} {y : DataW K} (h : RD Tryz.prog H f 51 x y) : ∃ a : EndD, x = a.cells ∧ True := by
 ·obtain ⟨f', ds, rfl, h1, h2, h3⟩ := RD.struct Tryz.underlying51 h
  rw [C6b] at h1
  obtain ⟨a, b, rfl⟩ := two h1
  have h2' : ds.length = 2 := h2
  obtain ⟨d0, e0⟩ := A7n h2' (i := 0) (by omega)
  obtain ⟨d1, e1⟩ := A7n h2' (i := 1) (by omega)
  have g0 := h3 0 _ _ rfl e0
  have g1 := h3 1 _ _ rfl e1
  simp only [B36, List.drop_zero, List.drop_succ_cons, List.take_succ_cons, List.take_zero, List.getElem_toArray, List.getElem_cons_zero, List.getElem_cons_succ] at g0 g1
  obtain ⟨n0, q0, _⟩ := B4e g0
  obtain ⟨n1, q1, _⟩ := B4e g1
  simp only [List.cons.injEq, and_true] at q0 q1
  subst q0 q1
  exact ⟨⟨n0, n1⟩, rfl, trivial⟩
theorem agg_of {v : Value} {a b : Value} {l : List Value} (h : A6a v = a :: b :: l) : v = .agg (a :: b :: l).toArray := by
 cases v <;> simp only [A6a] at h <;> try (cases h; done)
 rw [← h]
theorem net_in {H : AH} {f : Nat} {v : Value} {d : DataW K} (h : RD Tryz.prog H f 26 (A6a v) d) (hb : Rows.uptoBulk d ≤ 1048576) : ∃ N : NetD, Nonempty (A11 H v N) ∧ A7l N ∧ A8j N.sigma ≤ 1048576 := by
 ·obtain ⟨f', ds, rfl, h1, h2, h3⟩ := RD.struct Tryz.underlying26 h
  rw [cells_26] at h1
  obtain ⟨a, b, c, e, hv⟩ := four h1
  rw [hv] at h3
  have h2' : ds.length = 4 := h2
  obtain ⟨d0, e0⟩ := A7n h2' (i := 0) (by omega)
  obtain ⟨d1, e1⟩ := A7n h2' (i := 1) (by omega)
  obtain ⟨d2, e2⟩ := A7n h2' (i := 2) (by omega)
  obtain ⟨d3, e3⟩ := A7n h2' (i := 3) (by omega)
  have g0 := h3 0 _ _ rfl e0
  have g1 := h3 1 _ _ rfl e1
  have g2 := h3 2 _ _ rfl e2
  have g3 := h3 3 _ _ rfl e3
  simp only [B36, cells_22, cells_23, cells_24, List.drop_zero, List.drop_succ_cons, List.take_succ_cons, List.take_zero, List.getElem_toArray, List.getElem_cons_zero, List.getElem_cons_succ] at g0 g1 g2 g3
  obtain ⟨u0, L0, q0, s0, b0⟩ := strs_in g0
  obtain ⟨n1, q1, _⟩ := B4e g1
  obtain ⟨u2, L2, ds2, q2, s2, k2, _, b2⟩ := B94 (enc := ArcD.cells) (fun _ _ => True) Tryz.underlying23 C6a (fun f x y hf => arc_in hf) g2
  obtain ⟨u3, L3, ds3, q3, s3, k3, _, b3⟩ := B94 (enc := EndD.cells) (fun _ _ => True) Tryz.underlying24 C6b (fun f x y hf => end_in hf) g3
  simp only [List.cons.injEq, and_true] at q0 q1 q2 q3
  subst q0 q1 q2 q3
  have m0 := B1a (List.mem_of_getElem? e0)
  have m2 := B1a (List.mem_of_getElem? e2)
  have m3 := B1a (List.mem_of_getElem? e3)
  have l2 := B2p ds2
  have l3 := B2p ds3
  simp only [Rows.uptoBulk] at hb
  refine ⟨⟨L0, n1, L2, L3⟩, ⟨⟨a, c, e, agg_of hv, s0, s2, s3⟩⟩, ⟨?_, ?_, ?_, fun x hx => ?_⟩, ?_⟩
  ·show L0.length ≤ _; omega
  ·show L2.length ≤ _; omega
  ·show L3.length ≤ _; omega
  ·have := C10 hx; show x.size ≤ _; have h' : x.size ≤ A8j L0 := this; omega
  ·show A8j L0 ≤ _; omega
end
end Go.Proofs.YtcgbiedfbacgpaaGreat
