/- A part of the proof: RefRev, Marks, RefSpread, RefAlive. -/
import Derived.Test.YtcgbiedfbacgpaaGreatMClose2AutoLists3
import Derived.Test.YtcgbiedfbacgpaaGreatMClose2AutoLists4
set_option linter.unusedVariables false
set_option linter.unusedSimpArgs false
/- The reference's reversed: the edges turned round. -/
set_option maxHeartbeats 4000000
set_option maxRecDepth 20000
set_option linter.unusedSimpArgs false
set_option linter.unusedVariables false
namespace Go.Proofs.YtcgbiedfbacgpaaGreat
open Go Go.Proofs Go.Proofs.Sh
theorem A51 {H : AH} {v ev bv : Value} {vals : List Value} {n : Nat} {E : List (List (ByteArray × Nat))} {ends : List Bool} (h : RG H v n E ends ev bv vals) (hw : Wf H) :
  Sh.Call Tryz.prog (knows 7) 60 [v] H (fun r H' => Kept H H' ∧ ∃ R ot vals obs, Jag H' r ot 2 vals (A6h R) obs ∧ (∀ y, JIn ot obs y → H.next ≤ y) ∧ R.length = n ∧ (∀ r ∈ R, r.length ≤ 180000000 ∧ ∀ e ∈ r, e.2 < n) ∧ ∀ x t s, A0e R x t s ↔ A0e E x s t) := by
 refine A2a rfl Tryz.func60 rfl (Nat.le_of_ble_eq_true rfl) ?_
 have hres : Tryz.f60.results.toList = [.tmp 2] := rfl
 have hrb := RBox.of h hw
 have hk1 : Kept H (H.new 3 [.int .i64 0, ev, bv]).2 := Kept.new hw 3 _
 have hE := h.ed.sl.isCell
 have hB := h.en.isCell
 rw [h.eq]
 simp only [↓Sh.dn, sx, Nat.reduceEqDiff, B2u hE hB]
 have e0 : ∀ y, (H.new 3 [.int .i64 0, ev, bv]).2.next ≤ y → H.next ≤ y := fun y hy => Nat.le_trans (Nat.le_succ _) hy
 obtain ⟨gb, hgb⟩ : ∃ gb, H.next = gb := ⟨_, rfl⟩
 rw [hgb] at hrb
 generalize (H.new 3 [.int .i64 0, ev, bv]).2 = H1 at hrb hk1 e0 ⊢
 have hn1 := h.n1
 have hn2 := h.n2
 have hlenE : ∀ H', A4a Tryz.prog .len [57] [ev] H' = some (.int .i64 (n : Int), H') := fun H' => by
  rw [h.ed.sl.len Tryz.underlying57, List.length_map, h.ed.len]; unfold A6h; rw [List.length_map, h.le]
 have hmk := mk_57 (H := H1) (l := n) (c := n) (Nat.le_refl _) (by omega)
 have k2 := Kept.new hk1.wf 1 (List.replicate n (.slice none 0 0))
 have jg := Jag.make hk1.wf 2 (n := n) (by omega)
 simp only [sx, hgb, hrb.c1, hlenE, hmk]
 obtain ⟨ot, hot⟩ : ∃ ot, (if n = 0 then none else some H1.next) = ot := ⟨_, rfl⟩
 rw [hot] at jg
 have lot : ∀ y, JIn ot (List.replicate n none) y → H1.next ≤ y := by
  rintro y (hy | ⟨i, hy⟩)
  ·rw [← hot, if_neg (by omega)] at hy
   rw [← Option.some.inj hy]; exact Nat.le_refl _
  ·rw [List.getElem?_replicate] at hy
   split at hy <;> cases hy
 generalize (Value.slice (some ⟨H1.next, 0, some 0⟩) n n) = rv at jg ⊢
 generalize (H1.new 1 (List.replicate n (.slice none 0 0))).2 = H2 at k2 jg ⊢
 have hrc0 : A6h (List.replicate n ([] : List (ByteArray × Nat))) = List.replicate n [] := by simp [A6h]
 rw [← hrc0] at jg
 refine A1d n 4 (List.range' 4 47) (fun i F H' => Kept H1 H' ∧ ∃ R vals obs, Jag H' rv ot 2 vals (A6h R) obs ∧ (∀ y, JIn ot obs y → H1.next ≤ y) ∧ R.length = n ∧ (∀ r ∈ R, r.length ≤ i * 60000 ∧ ∀ e ∈ r, e.2 < n) ∧ ∀ x t s, A0e R x t s ↔ s < i ∧ A0e E x s t) (by simp only [sx]) ⟨k2, _, _, _, jg, lot, by simp, fun r hr => by rw [List.eq_of_mem_replicate hr]; simp, fun x t s => by
  constructor
  ·rintro ⟨r, h1, h2⟩
   rw [List.getElem?_replicate] at h1
   split at h1
   ·rw [← Option.some.inj h1] at h2; cases h2
   ·cases h1
  ·rintro ⟨h1, _⟩; exact absurd h1 (Nat.not_lt_zero _)⟩ ?_ ?_
 ·rintro i F H' hi hF f4 ⟨hk, R, vs, obs, hJ, hin, hRl, hRr, hiff⟩ k
  have f1 := hF 1 rfl
  have f3 := hF 3 rfl
  simp only [sx, Nat.reduceEqDiff] at f1 f3
  obtain ⟨r, hr⟩ : ∃ r, E[i]? = some r := ⟨E[i]'(by rw [h.le]; exact hi), List.getElem?_eq_getElem _⟩
  have hr' : (A6h E)[i]? = some (r.map A4h) := by unfold A6h; rw [List.getElem?_map, hr]; rfl
  obtain ⟨hrl, hrt⟩ := h.to i r hr
  obtain ⟨ga, oa, ka, wr, hia2, hca, hsr⟩ := (h.ed.grow (hk1.grow hw)).at Tryz.underlying57 A6p hr'
  have hro : ∀ {H'}, Kept H1 H' → H'.cell ⟨ga, oa, some ka⟩ = some wr ∧ Sl H' wr 2 (r.map A4h) ∧ A4a Tryz.prog .len [97] [wr] H' = some (.int .i64 (r.length : Int), H') := fun hk => by
   have h2 := hsr.grow (hk.grow hk1.wf)
   refine ⟨A7b (hk.grow hk1.wf) hca, h2, ?_⟩
   rw [h2.len Tryz.underlying97, List.length_map]
  have hb1 := hrb.kept hk1.wf hk
  simp only [↓Sh.dn, sx, Nat.reduceEqDiff, f1, f4, hb1.c1, A1a, hi, decide_true, hlenE]
  refine A1d r.length 5 (List.range' 18 33 ++ [5, 6]) (fun q F'' H'' => Kept H1 H'' ∧ ∃ R vals obs, Jag H'' rv ot 2 vals (A6h R) obs ∧ (∀ y, JIn ot obs y → H1.next ≤ y) ∧ R.length = n ∧ (∀ r ∈ R, r.length ≤ i * 60000 + q ∧ ∀ e ∈ r, e.2 < n) ∧ ∀ x t s, A0e R x t s ↔ s < i ∧ A0e E x s t ∨ s = i ∧ (x, t) ∈ r.take q) (by simp only [sx]) ⟨hk, R, vs, obs, hJ, hin, hRl, fun r hr => ⟨Nat.le_trans (hRr r hr).1 (Nat.le_add_right _ _), (hRr r hr).2⟩, fun x t s => by rw [hiff]; simp⟩ ?_ ?_
  ·rintro q F'' H'' hq hF'' f5 ⟨hk'', R, vs, obs, hJ, hin, hRl, hRr, hiff⟩ k2
   have g1 := hF'' 1 rfl
   have g3 := hF'' 3 rfl
   have g4 := hF'' 4 rfl
   simp only [sx, Nat.reduceEqDiff, f1, f3, f4] at g1 g3 g4
   obtain ⟨hc1, hs1, hl1⟩ := hro hk''
   have hb1 := hrb.kept hk1.wf hk''
   obtain ⟨g', o', k', hia3, hcs2, _⟩ := hs1.at Tryz.underlying97 A4s (i := q) (x := A4h r[q]) (by simp [hq]) .i64
   have hrq : r[q] ∈ r := List.getElem_mem hq
   have htk : r.take (q + 1) = r.take q ++ [r[q]] := by rw [List.take_add_one, List.getElem?_eq_getElem hq]; rfl
   generalize r[q] = e at hcs2 hrq htk
   have kn := Kept.new hk''.wf 2 (A4h e)
   have hk3 := hk''.trans kn
   have hJ3 := hJ.kept hk''.wf kn
   have hnj : ¬JIn ot obs H''.next := fun h => by have := hJ.lt hk''.wf _ h; omega
   obtain ⟨ro, hro2⟩ : ∃ ro, R[e.2]? = some ro := ⟨R[e.2]'(by rw [hRl]; exact hrt e hrq), List.getElem?_eq_getElem _⟩
   have hrow : (A6h R)[e.2]? = some (ro.map A4h) := by unfold A6h; rw [List.getElem?_map, hro2]; rfl
   obtain ⟨hrol, hrot⟩ := hRr ro (List.mem_of_getElem? hro2)
   obtain ⟨ba, cap, w', H5, H6, oo, p, e1, e2, e3, e4, e5, e6, e7, e8, e9⟩ := hJ3.pushAt Tryz.underlying57 A6p hk3.wf hrow (x := A4h (e.1, i)) rfl
   rw [List.length_map] at e1 e3
   have bl : A6t Tryz.prog 99 [(0, .string e.1), (1, .int .i64 (i : Int))] = some (.agg (A4h (e.1, i)).toArray) := bld_99 (v0 := .string e.1) (v1 := .int .i64 (i : Int)) rfl rfl
   have hbs := B20 (H := (H''.new 2 (A4h e)).2) (x := .agg (A4h (e.1, i)).toArray) rfl rfl
   have ha := C5v (H := (H''.new 2 (A4h e)).2) (base := ba) (len := ro.length) (cap := cap) (x := A4h (e.1, i)) rfl (by omega)
   rw [e1] at ha
   have c5 := ((Sh.Obj.new (H := H'') 2 (A4h e)).arr.keep (e7.old H''.next (Nat.lt_succ_self _) hnj)).cell 1
   have c5' : (A4h e)[1]? = some (.int .i64 (e.2 : Int)) := rfl
   rw [c5'] at c5
   have st : A8e Tryz.prog 97 H5 w' (.pointer (some p)) = some H6 := by rw [A2c A6p e8, e4]
   have va : ∀ xs : Array Value, A6a (.agg xs) = xs.toList := fun _ => rfl
   have hav := hJ3.top.veq
   simp only [va] at hbs
   simp only [↓Sh.dn, sx, Nat.reduceEqDiff, f5, g1, g4, hb1.c1, hia2, hc1, hl1, hia3, hcs2, A1a, hq, decide_true, C5b, B1r, C1g]
   refine A6v (fl := [(0, []), (1, []), (2, []), (3, []), (4, []), (5, []), (6, []), (7, []), (8, []), (9, []), (10, []), (11, []), (12, []), (13, [2]), (14, []), (15, [])]) (by kernel_rfl) (by kernel_rfl) (by kernel_rfl) ?_
   simp only [↓Sh.dn, sx, Nat.reduceEqDiff, wpr, again, A5e, A1y, forall_eq', f5, g3, g4, re0, re1, e2, e3, bl, hbs, ha, c5, st, A3a hq (Nat.le_trans hrl (by decide))]
   have hrs : A6h (R.set e.2 (ro ++ [(e.1, i)])) = (A6h R).set e.2 (ro.map A4h ++ [A4h (e.1, i)]) := by unfold A6h; rw [List.map_set]; simp
   refine k2 _ _ (by repeat (first | refine Same.put ?_ rfl | exact Same.rfl' _)) (by simp only [sx]) ⟨hk3.then (Nat.le_refl _) (e6.weak fun y hy => hin y hy), R.set e.2 (ro ++ [(e.1, i)]), _, _, by rw [hrs]; exact e5, fun y hy => ?_, by rw [List.length_set]; exact hRl, fun r' hr' => ?_, fun x t s => ?_⟩
   ·rcases e9 y hy with h1 | h1
    ·exact hin y h1
    ·exact Nat.le_trans hk3.next h1
   ·rcases List.mem_or_eq_of_mem_set hr' with h1 | h1
    ·have := hRr r' h1; exact ⟨by omega, this.2⟩
    ·rw [h1]
     refine ⟨by rw [List.length_append]; simp; omega, fun e' he' => ?_⟩
     rcases List.mem_append.1 he' with h2 | h2
     ·exact hrot e' h2
     ·rw [List.mem_singleton.1 h2]; exact hi
   ·rw [C3k hro2, hiff, htk, List.mem_append, List.mem_singleton]
    constructor
    ·rintro ((h1 | ⟨h1, h2⟩) | ⟨h1, h2, h3⟩)
     ·exact .inl h1
     ·exact .inr ⟨h1, .inl h2⟩
     ·exact .inr ⟨h3, .inr (by rw [h1, h2])⟩
    ·rintro (h1 | ⟨h1, h2 | h2⟩)
     ·exact .inl (.inl h1)
     ·exact .inl (.inr ⟨h1, h2⟩)
     ·exact .inr ⟨by rw [← h2], by rw [← h2], h1⟩
  ·rintro F'' H'' hF'' f5 ⟨hk'', R, vs, obs, hJ, hin, hRl, hRr, hiff⟩
   have g1 := hF'' 1 rfl
   have g3 := hF'' 3 rfl
   have g4 := hF'' 4 rfl
   simp only [sx, Nat.reduceEqDiff, f1, f3, f4] at g1 g3 g4
   obtain ⟨hc1, hs1, hl1⟩ := hro hk''
   have hb1 := hrb.kept hk1.wf hk''
   rw [List.take_length] at hiff
   simp only [↓Sh.dn, sx, Nat.reduceBEq, Nat.reduceEqDiff, f5, g1, g4, hb1.c1, hia2, hc1, hl1, A1a, Nat.lt_irrefl, decide_false, A3a hi (Nat.le_trans hn2 (by decide))]
   refine k _ _ ?_ (by simp only [sx]) ⟨hk'', R, vs, obs, hJ, hin, hRl, fun r' hr' => ?_, fun x t s => ?_⟩
   ·repeat refine Same.put ?_ rfl
    exact Same.trans (by repeat (first | refine Same.put ?_ rfl | exact Same.rfl' _)) (hF''.sub rfl)
   ·have := hRr r' hr'; exact ⟨by omega, this.2⟩
   ·rw [hiff]
    constructor
    ·rintro (⟨h1, h2⟩ | ⟨h1, h2⟩)
     ·exact ⟨by omega, h2⟩
     ·exact ⟨by omega, r, by rw [h1]; exact hr, h2⟩
    ·rintro ⟨h1, h2⟩
     by_cases hs : s = i
     ·subst hs
      obtain ⟨r', h3, h4⟩ := h2
      rw [hr] at h3
      exact .inr ⟨rfl, by rw [Option.some.inj h3]; exact h4⟩
     ·exact .inl ⟨by omega, h2⟩
 ·rintro F H' hF f4 ⟨hk, R, vs, obs, hJ, hin, hRl, hRr, hiff⟩
  have f1 := hF 1 rfl
  have f3 := hF 3 rfl
  simp only [sx, Nat.reduceEqDiff] at f1 f3
  have hb1 := hrb.kept hk1.wf hk
  simp only [↓Sh.dn, sx, Nat.reduceEqDiff, f1, f3, f4, hb1.c1, A1a, Nat.lt_irrefl, decide_false, hlenE, hres]
  refine ⟨hk1.trans hk, R, ot, vs, obs, hJ, fun y hy => by rw [← hgb]; exact e0 y (hin y hy), hRl, fun r hr => ⟨by have := (hRr r hr).1; omega, (hRr r hr).2⟩, fun x t s => ?_⟩
  rw [hiff]
  constructor
  ·exact fun h => h.2
  ·rintro ⟨r, h1, h2⟩
   exact ⟨by rw [← h.le]; exact (List.getElem?_eq_some_iff.1 h1).1, r, h1, h2⟩
end Go.Proofs.YtcgbiedfbacgpaaGreat
/- A state is marked and put into a list. -/
namespace Go.Proofs.YtcgbiedfbacgpaaGreat
open Go Go.Proofs Go.Proofs.Sh
theorem B6h {H1 H' : AH} {z : Value} {os ob : Option Nat} {l : List Nat} (t : Nat) (hk : Kept H1 H') (ho : ∀ y, os = some y → y < H'.next) (hl : LB H' H1.next os z l ob) (hn : l.length ≤ 1073741823) :
  ∃ a cap w' H4 ob', z = .slice a l.length cap ∧ A5a Tryz.prog 69 1 [(0, .int .i64 (t : Int))] H' = some (.slice (some ⟨H'.next, 0, some 0⟩) 1 1, (H'.new 1 [.int .i64 (t : Int)]).2) ∧
      A4a Tryz.prog .append [69, 69] [.slice a l.length cap, .slice (some ⟨H'.next, 0, some 0⟩) 1 1] (H'.new 1 [.int .i64 (t : Int)]).2 = some (w', H4) ∧
      Kept H1 H4 ∧ LB H4 H1.next os w' (l ++ [t]) ob' ∧ Chg (fun y => ob = some y) H' H4 := by
 obtain ⟨a, cap, w', H4, ob', rfl, k1, k2, k3, k4⟩ := hl.push hk.next ho hk.wf t
 have ha := B7d (H := H') (base := a) (len := l.length) (cap := cap) (x := natC t) rfl hn
 rw [k1] at ha
 exact ⟨a, cap, w', H4, ob', rfl, A5q (H := H') (x := .int .i64 (t : Int)) rfl rfl, ha, hk.then (Nat.le_refl _) (k3.weak fun y hy => (hl.fr y hy).1), k2, k3⟩
theorem C4d {base : Nat} {H' : AH} {z : Value} {os ob : Option Nat} {l : List Nat} (t : Nat) (hb : base ≤ H'.next) (hw : Wf H') (ho : ∀ y, os = some y → y < H'.next) (hl : LB H' base os z l ob) (hn : l.length ≤ 1073741823) :
  ∃ a cap w' H4 ob', z = .slice a l.length cap ∧ A5a Tryz.prog 69 1 [(0, .int .i64 (t : Int))] H' = some (.slice (some ⟨H'.next, 0, some 0⟩) 1 1, (H'.new 1 [.int .i64 (t : Int)]).2) ∧
      A4a Tryz.prog .append [69, 69] [.slice a l.length cap, .slice (some ⟨H'.next, 0, some 0⟩) 1 1] (H'.new 1 [.int .i64 (t : Int)]).2 = some (w', H4) ∧
      LB H4 base os w' (l ++ [t]) ob' ∧ Chg (fun y => ob = some y) H' H4 := by
 obtain ⟨a, cap, w', H4, ob', rfl, k1, k2, k3, k4⟩ := hl.push hb ho hw t
 have ha := B7d (H := H') (base := a) (len := l.length) (cap := cap) (x := natC t) rfl hn
 rw [k1] at ha
 exact ⟨a, cap, w', H4, ob', rfl, A5q (H := H') (x := .int .i64 (t : Int)) rfl rfl, ha, k2, k3⟩
theorem C00 {H1 H' : AH} {n : Nat} {sv : Value} {os : Option Nat} {seen : List Bool} {out : List Nat} {t : Nat} (hk : Kept H1 H') (hM : MB H' H1.next n sv os seen out) (ht : t < n) (hnt : t ∉ out) :
  ∃ p H3, A4b Tryz.prog 58 sv (.int .i64 (t : Int)) = some (.pointer (some p)) ∧ H'.cell p = some (.bool false) ∧ A8e Tryz.prog 4 H' (.bool true) (.pointer (some p)) = some H3 ∧ Kept H1 H3 ∧ MB H3 H1.next n sv os (seen.set t true) (out ++ [t]) ∧ Chg (fun y => os = some y) H' H3 := by
 obtain ⟨p, H3, e1, e2, e3, e4, e5, e6⟩ := hM.set Tryz.underlying58 A2j hk.wf ht hnt
 exact ⟨p, H3, e1, e2, by rw [A2c A2j rfl]; exact e3, hk.then (Nat.le_refl _) (e5.weak hM.fr), e4, e5⟩
theorem A99 {H1 H' : AH} {n : Nat} {sv z : Value} {os ob : Option Nat} {seen : List Bool} {out l : List Nat} {t : Nat} (hk : Kept H1 H') (hM : MB H' H1.next n sv os seen out) (hl : LB H' H1.next os z l ob) (ht : t < n) (hnt : t ∉ out) (hn : l.length ≤ 1073741823) :
      ∃ p H3 a cap w' H4 ob', A4b Tryz.prog 58 sv (.int .i64 (t : Int)) = some (.pointer (some p)) ∧ H'.cell p = some (.bool false) ∧ A8e Tryz.prog 4 H' (.bool true) (.pointer (some p)) = some H3 ∧ z = .slice a l.length cap ∧ Kept H1 H3 ∧
        A5a Tryz.prog 69 1 [(0, .int .i64 (t : Int))] H3 = some (.slice (some ⟨H3.next, 0, some 0⟩) 1 1, (H3.new 1 [.int .i64 (t : Int)]).2) ∧
        A4a Tryz.prog .append [69, 69] [.slice a l.length cap, .slice (some ⟨H3.next, 0, some 0⟩) 1 1] (H3.new 1 [.int .i64 (t : Int)]).2 = some (w', H4) ∧
        Kept H1 H4 ∧ MB H4 H1.next n sv os (seen.set t true) (out ++ [t]) ∧ LB H4 H1.next os w' (l ++ [t]) ob' ∧ Chg (fun y => os = some y) H' H3 := by
  obtain ⟨p, H3, e1, e2, e3, e4, e5, e6⟩ := C00 hk hM ht hnt
  have hl3 := hl.chg hk.wf e6 fun y h => h
  obtain ⟨a, cap, w', H4, ob', k0, k1, k2, k3, k4, k5⟩ := B6h t e4 (e5.lt e4.wf) hl3 hn
  exact ⟨p, H3, a, cap, w', H4, ob', e1, e2, e3, k0, e4, k1, k2, k3, e5.chg e4.wf k5 (fun y hy h => (hl3.fr y hy).2 h), k4, e6⟩
end Go.Proofs.YtcgbiedfbacgpaaGreat
/- The reference's spread: what is reached from marked states is marked. -/
namespace Go.Proofs.YtcgbiedfbacgpaaGreat
open Go Go.Proofs Go.Proofs.Sh
def A9r (R : List (List (ByteArray × Nat))) (em : Bool) (s t : Nat) : Prop := ∃ x, A0e R x s t ∧ (em = true → x = A9a)
theorem B1w {n : Nat} {seen : List Bool} (hl : seen.length = n) : Marks n seen ((List.range n).filter fun t => decide (seen[t]? = some true)) := by
 refine ⟨hl, List.Pairwise.filter _ List.nodup_range, fun t => ?_⟩
 rw [List.mem_filter, List.mem_range, decide_eq_true_eq]
 constructor
 ·intro h; exact ⟨by rw [← hl]; exact (List.getElem?_eq_some_iff.1 h).1, h⟩
 ·exact fun h => h.2
theorem B6f {H1 H : AH} {rv mv : Value} {ot os : Option Nat} {vals : List Value} {obs : List (Option Nat)} {n : Nat} {R : List (List (ByteArray × Nat))} {seen : List Bool} {em : Bool}
  (hk : Kept H1 H) (hJ : Jag H rv ot 2 vals (A6h R) obs) (hRl : R.length = n) (hRr : ∀ r ∈ R, r.length ≤ 180000000 ∧ ∀ e ∈ r, e.2 < n) (hb : Buf H 1 mv (seen.map A0l) os) (hfr : ∀ y, os = some y → H1.next ≤ y) (hsep : ∀ y, os = some y → ¬JIn ot obs y) (hsl : seen.length = n) (hn : n ≤ 3000) :
  Sh.Call Tryz.prog (knows 7) 61 [rv, mv, .bool em] H (fun _ H' => Chg (fun y => os = some y) H H' ∧ ∃ seen' : List Bool, Buf H' 1 mv (seen'.map A0l) os ∧ seen'.length = n ∧ ∀ t : Nat, seen'[t]? = some true ↔ Clo (A9r R em) (fun s => seen[s]? = some true) t) := by
 refine A2a rfl Tryz.func61 rfl (Nat.le_of_ble_eq_true rfl) ?_
 have hres : Tryz.f61.results.toList = [] := rfl
 have hw := hk.wf
 have hM0 : MB H H1.next n mv os seen ((List.range n).filter fun t => decide (seen[t]? = some true)) := ⟨B1w hsl, hb, hfr⟩
 have hlenM : ∀ H', A4a Tryz.prog .len [58] [mv] H' = some (.int .i64 (n : Int), H') := fun H' => by
  rw [hb.toSl.len Tryz.underlying58, List.length_map, hsl]
 have hlos := hM0.lt hw
 simp only [↓Sh.dn, sx]
 refine A1d n 7 (List.range' 6 19) (fun i F H' => Kept H H' ∧ ∃ z, F.get 6 = some z ∧ ∃ ob, LB H' H.next os z ((List.range i).filter fun t => decide (seen[t]? = some true)) ob) (by simp only [sx]) ⟨Kept.refl hw, _, by simp only [sx, Nat.reduceEqDiff], none, ⟨.void none, fun y hy => by cases hy⟩⟩ ?_ ?_
 ·rintro i F H' hi hF f7 ⟨hk', z, f6, ob, hl⟩ k
  have f1 := hF 1 rfl
  simp only [sx, Nat.reduceEqDiff] at f1
  obtain ⟨b, hb1⟩ : ∃ b, seen[i]? = some b := ⟨seen[i]'(by omega), List.getElem?_eq_getElem _⟩
  obtain ⟨p, hia, hc⟩ := Sl.elem (s := 1) Tryz.underlying58 A2j (hb.toSl.grow (hk'.grow hw)) (i := i) (u := .bool b) (by rw [List.getElem?_map, hb1]; rfl)
  have hrange : (List.range (i + 1)).filter (fun t => decide (seen[t]? = some true)) = (List.range i).filter (fun t => decide (seen[t]? = some true)) ++ (if b = true then [i] else []) := by
   rw [List.range_succ, List.filter_append]
   congr 1
   cases b <;> simp [hb1]
  have hll : ((List.range i).filter fun t => decide (seen[t]? = some true)).length ≤ 1073741823 := Nat.le_trans (List.length_filter_le _ _) (by rw [List.length_range]; omega)
  simp only [↓Sh.dn, sx, Nat.reduceEqDiff, f1, f7, A1a, hi, decide_true, hlenM, hia, hc]
  cases b with
  | true =>
   obtain ⟨a, cap, w', H4, ob2, rfl, e1, e2, e3, e4⟩ := C4d i hk'.next hk'.wf (fun y hy => Nat.lt_of_lt_of_le (hlos y hy) hk'.next) hl hll
   simp only [↓Sh.dn, sx, Nat.reduceEqDiff, f6, f7, e1, e2, A3a hi (Nat.le_trans hn (by decide))]
   refine k _ _ (by repeat (first | refine Same.put ?_ rfl | exact Same.rfl' _)) (by simp only [sx]) ⟨hk'.then (Nat.le_refl _) (e4.weak fun y hy => (hl.fr y hy).1), w', by simp only [sx, Nat.reduceEqDiff], ob2, by rw [hrange]; exact e3⟩
  | false =>
   simp only [↓Sh.dn, sx, Nat.reduceEqDiff, f7, A3a hi (Nat.le_trans hn (by decide))]
   refine k _ _ (by repeat (first | refine Same.put ?_ rfl | exact Same.rfl' _)) (by simp only [sx]) ⟨hk', z, by simp only [sx, Nat.reduceEqDiff, f6], ob, by rw [hrange]; simpa using hl⟩
 ·rintro F H' hF f7 ⟨hk', z, f6, ob, hl⟩
  have f0 := hF 0 rfl
  have f1 := hF 1 rfl
  have f2 := hF 2 rfl
  simp only [sx, reduceCtorEq, Nat.reduceEqDiff] at f0 f1 f2
  simp only [↓Sh.dn, sx, Nat.reduceEqDiff, f1, f7, A1a, Nat.lt_irrefl, decide_false, hlenM]
  refine A2b (m := n + 1) (fun m F H' => ∃ i, m + i = n + 1 ∧ F.get 8 = some (.int .i64 (i : Int)) ∧ F.get 0 = some rv ∧ F.get 1 = some mv ∧ F.get 2 = some (.bool em) ∧ Chg (fun y => os = some y) H H' ∧ ∃ z, F.get 6 = some z ∧ ∃ seen' out ob, MB H' H1.next n mv os seen' out ∧ LB H' H.next os z out ob ∧ i ≤ out.length ∧ (∀ t, seen[t]? = some true → t ∈ out) ∧ (∀ t ∈ out, Clo (A9r R em) (fun s => seen[s]? = some true) t) ∧ ∀ s ∈ out.take i, ∀ t, A9r R em s t → t ∈ out) ⟨0, by omega, by simp only [sx]; rfl, by simp only [sx, reduceCtorEq, f0], by simp only [sx, Nat.reduceEqDiff, f1], by simp only [sx, Nat.reduceEqDiff, f2], hk'.chg, z, by simp only [sx, Nat.reduceEqDiff, f6], seen, _, ob, hM0.kept hw hk', hl, Nat.zero_le _, fun t ht => (hM0.ms.iff t).1 ht, fun t ht => .base ((hM0.ms.iff t).2 ht), fun s hs => by simp at hs⟩ ?_
  clear hk' hl f0 f1 f2 f6 f7 hF
  clear z ob
  clear F H'
  rintro m F H' ⟨i, hmi, f8, f0, f1, f2, hk', z, f6, seen', out, ob, hM, hl, hio, hLout, hclo, hcl⟩ k
  have hkk : ∀ {H'}, Chg (fun y => os = some y) H H' → Kept H1 H' := fun hc => hk.then (Nat.le_refl _) (hc.weak hfr)
  have hJ' : ∀ {H'}, Chg (fun y => os = some y) H H' → Jag H' rv ot 2 vals (A6h R) obs := fun hc => hJ.chg hw hc fun y hy h => hsep y h hy
  have hlen := hl.bf.toSl.len Tryz.underlying69 H'
  rw [List.length_map] at hlen
  have hout := hM.ms.le
  by_cases hi : i < out.length
  ·simp only [↓Sh.dn, sx, Nat.reduceEqDiff, f6, f8, A1a, hi, decide_true, hlen]
   have hsn : out[i] < n := hM.ms.lt (List.getElem_mem hi)
   have hget : out[i]? = some out[i] := List.getElem?_eq_getElem hi
   have hcs : Clo (A9r R em) (fun s => seen[s]? = some true) out[i] := hclo _ (List.getElem_mem hi)
   generalize out[i] = s at hsn hget hcs
   obtain ⟨r, hr⟩ : ∃ r, R[s]? = some r := ⟨R[s]'(by rw [hRl]; exact hsn), List.getElem?_eq_getElem _⟩
   have hr' : (A6h R)[s]? = some (r.map A4h) := by unfold A6h; rw [List.getElem?_map, hr]; rfl
   obtain ⟨hrl, hrt⟩ := hRr r (List.mem_of_getElem? hr)
   refine A1d r.length 9 (List.range' 31 46 ++ [6, 9, 10]) (fun q F'' H'' => Chg (fun y => os = some y) H H'' ∧ ∃ z', F''.get 6 = some z' ∧ ∃ seen' out' ob', MB H'' H1.next n mv os seen' out' ∧ LB H'' H.next os z' out' ob' ∧ out'[i]? = some s ∧ out'.take i = out.take i ∧ (∀ x ∈ out, x ∈ out') ∧ (∀ t ∈ out', Clo (A9r R em) (fun s => seen[s]? = some true) t) ∧ ∀ e ∈ r.take q, (em = true → e.1 = A9a) → e.2 ∈ out') (by simp only [sx]) ⟨hk', z, by simp only [sx, Nat.reduceEqDiff, f6], seen', out, ob, hM, hl, hget, rfl, fun x hx => hx, hclo, fun e he => by simp at he⟩ ?_ ?_
   ·rintro q F'' H'' hq hF'' f9 ⟨hk'', z', f6', seen', out', ob', hM', hl', hget', htk, hsub, hclo', hed⟩ k2
    have g0 := hF'' 0 rfl
    have g1 := hF'' 1 rfl
    have g2 := hF'' 2 rfl
    have g8 := hF'' 8 rfl
    simp only [sx, reduceCtorEq, Nat.reduceEqDiff, f0, f1, f2, f8] at g0 g1 g2 g8
    obtain ⟨ga, oa, ka, wr, hia, hc1, hs1⟩ := (hJ' hk'').read.at Tryz.underlying57 A6p hr'
    have hl1 := hs1.len Tryz.underlying97 H''
    rw [List.length_map] at hl1
    have hil : i < out'.length := (List.getElem?_eq_some_iff.1 hget').1
    have hgs : out'[i] = s := Option.some.inj ((List.getElem?_eq_getElem hil).symm.trans hget')
    obtain ⟨p1, hia1, hcc1⟩ := A03 Tryz.underlying69 A7c hl'.bf.toSl hil
    rw [hgs] at hcc1
    obtain ⟨g', o', k', hia2, hcs2, _⟩ := hs1.at Tryz.underlying97 A4s (i := q) (x := A4h r[q]) (by simp [hq]) .i64
    have hrq : r[q] ∈ r := List.getElem_mem hq
    have htake : r.take (q + 1) = r.take q ++ [r[q]] := by rw [List.take_add_one, List.getElem?_eq_getElem hq]; rfl
    generalize r[q] = e at hcs2 hrq htake
    have kn := Kept.new hk''.wf 2 (A4h e)
    have hk3 := hk''.trans (kn.chg (X := fun y => os = some y))
    have hM3 := hM'.kept hk''.wf kn
    have hl3 := hl'.kept hk''.wf kn
    simp only [↓Sh.dn, sx, reduceCtorEq, Nat.reduceEqDiff, f6', f9, g0, g1, g8, hia1, hcc1, hia, hc1, hl1, hia2, hcs2, A1a, hq, decide_true, C5b, B1r, C1g, re1]
    have hnext : ∀ {seen2 : List Bool} {out2 : List Nat} {ob2 : Option Nat} {z2 : Value} {F2 : Fr} {H2 : AH}, Same (List.range' 31 46 ++ [6, 9, 10]) F'' F2 → F2.get 6 = some z2 → F2.get 9 = some (.int .i64 ((q + 1 : Nat) : Int)) → Chg (fun y => os = some y) H H2 → MB H2 H1.next n mv os seen2 out2 → LB H2 H.next os z2 out2 ob2 → (out2 = out' ∨ out2 = out' ++ [e.2] ∧ (em = true → e.1 = A9a)) → ((em = true → e.1 = A9a) → e.2 ∈ out2) →
        wp Tryz.prog (knows 7) _ _ F2 H2 := fun {seen2 out2 ob2 z2 F2 H2} a1 a2 a3 a4 a5 a6 a7 a8 => k2 F2 H2 a1 a3 ⟨a4, z2, a2, seen2, out2, ob2, a5, a6, by
          rcases a7 with h | ⟨h, _⟩
          · rw [h]; exact hget'
          · rw [h, List.getElem?_append_left hil]; exact hget', by
          rcases a7 with h | ⟨h, _⟩
          · rw [h]; exact htk
          · rw [h, List.take_append_of_le_length (by omega)]; exact htk, fun x hx => by
          rcases a7 with h | ⟨h, _⟩
          · rw [h]; exact hsub x hx
          · rw [h]; exact List.mem_append_left _ (hsub x hx), fun t ht => by
          rcases a7 with h | ⟨h, he⟩
          · rw [h] at ht; exact hclo' t ht
          · rw [h] at ht
            rcases List.mem_append.1 ht with h2 | h2
            · exact hclo' t h2
            · rw [List.mem_singleton.1 h2]; exact .step hcs ⟨e.1, ⟨r, hr, hrq⟩, he⟩, fun x hx hxe => by
          rw [htake] at hx
          rcases List.mem_append.1 hx with h2 | h2
          · have := hed x h2 hxe
            rcases a7 with h | ⟨h, _⟩
            · rw [h]; exact this
            · rw [h]; exact List.mem_append_left _ this
          · rw [List.mem_singleton.1 h2] at hxe ⊢; exact a8 hxe⟩
    have hrl' : r.length ≤ 4611686018427387904 := Nat.le_trans hrl (by decide)
    by_cases hin : e.2 ∈ out'
    ·obtain ⟨p5, hia5, hc5⟩ := hM3.see Tryz.underlying58 A2j (hrt e hrq)
     simp only [↓Sh.dn, sx, Nat.reduceEqDiff, hia5, hc5, hin, decide_true, f9, A3a hq hrl']
     exact hnext (by repeat (first | refine Same.put ?_ rfl | exact Same.rfl' _)) (by simp only [sx, Nat.reduceEqDiff, f6']) (by simp only [sx]) hk3 hM3 hl3 (.inl rfl) fun _ => hin
    ·have hkk3 := hkk hk3
     obtain ⟨p3, H3, e1, e2, e3, e4, e5, e6⟩ := C00 hkk3 hM3 (hrt e hrq) hin
     have hout' := hM3.ms.le
     obtain ⟨a, cap, w', H4, ob2, rfl, e7, e8, e9, e10⟩ := C4d e.2 (Nat.le_trans hk3.next e6.next) e4.wf (e5.lt e4.wf) (hl3.chg hk3.wf e6 fun y h => h) (by omega)
     have hk4 : Chg (fun y => os = some y) H H4 := (hk3.trans e6).then e10 fun y hy hlt => by have := (hl3.fr y hy).1; omega
     have hM4 := e5.chg e4.wf e10 (fun y hy h => (hl3.fr y hy).2 h)
     have hre : H3.cell ⟨H''.next, 1, some 0⟩ = some (.int .i64 (e.2 : Int)) := by
      have := ((Sh.Obj.new (H := H'') 2 (A4h e)).arr.keep (e6.old H''.next (Nat.lt_succ_self _) fun hy => Nat.lt_irrefl _ (hM'.lt hk''.wf _ hy))).cell 1
      exact this
     cases em with
     | false =>
      simp only [↓Sh.dn, sx, Nat.reduceEqDiff, re1, g1, g2, e1, e2, e3, f6', hre, e7, e8, f9, A3a hq hrl']
      exact hnext (by repeat (first | refine Same.put ?_ rfl | exact Same.rfl' _)) (by simp only [sx, Nat.reduceEqDiff]) (by simp only [sx]) hk4 hM4 e9 (.inr ⟨rfl, fun h => by cases h⟩) fun _ => List.mem_append_right _ List.mem_cons_self
     | true =>
      by_cases he : e.1 = ⟨#[]⟩
      ·simp only [↓Sh.dn, sx, Nat.reduceEqDiff, re1, re0, g1, g2, he, decide_true, e1, e2, e3, f6', hre, e7, e8, f9, A3a hq hrl']
       exact hnext (by repeat (first | refine Same.put ?_ rfl | exact Same.rfl' _)) (by simp only [sx, Nat.reduceEqDiff]) (by simp only [sx]) hk4 hM4 e9 (.inr ⟨rfl, fun _ => he⟩) fun _ => List.mem_append_right _ List.mem_cons_self
      ·simp only [↓Sh.dn, sx, Nat.reduceEqDiff, re0, g2, he, decide_false, e1, e2, f9, A3a hq hrl']
       exact hnext (by repeat (first | refine Same.put ?_ rfl | exact Same.rfl' _)) (by simp only [sx, Nat.reduceEqDiff, f6']) (by simp only [sx]) hk3 hM3 hl3 (.inl rfl) fun h => absurd (h rfl) he
   ·rintro F'' H'' hF'' f9 ⟨hk'', z', f6', seen', out', ob', hM', hl', hget', htk, hsub, hclo', hed⟩
    have g0 := hF'' 0 rfl
    have g1 := hF'' 1 rfl
    have g2 := hF'' 2 rfl
    have g8 := hF'' 8 rfl
    simp only [sx, reduceCtorEq, Nat.reduceEqDiff, f0, f1, f2, f8] at g0 g1 g2 g8
    obtain ⟨ga, oa, ka, wr, hia, hc1, hs1⟩ := (hJ' hk'').read.at Tryz.underlying57 A6p hr'
    have hl1 := hs1.len Tryz.underlying97 H''
    rw [List.length_map] at hl1
    have hil : i < out'.length := (List.getElem?_eq_some_iff.1 hget').1
    have hgs : out'[i] = s := Option.some.inj ((List.getElem?_eq_getElem hil).symm.trans hget')
    obtain ⟨p1, hia1, hcc1⟩ := A03 Tryz.underlying69 A7c hl'.bf.toSl hil
    rw [hgs] at hcc1
    have hout' := hM'.ms.le
    simp only [↓Sh.dn, sx, Nat.reduceBEq, reduceCtorEq, Nat.reduceEqDiff, f6', f9, g0, g8, hia1, hcc1, hia, hc1, hl1, A1a, Nat.lt_irrefl, decide_false, A3a hil (Nat.le_trans (Nat.le_trans hout' hn) (by decide))]
    refine k (n + 1 - (i + 1)) _ _ (by omega) ⟨i + 1, by omega, by simp only [sx], by simp only [sx, reduceCtorEq, g0], by simp only [sx, Nat.reduceEqDiff, g1], by simp only [sx, Nat.reduceEqDiff, g2], hk'', z', by simp only [sx, Nat.reduceEqDiff, f6'], seen', out', ob', hM', hl', hil, fun t ht => hsub t (hLout t ht), hclo', fun x hx t hg => ?_⟩
    rw [List.take_add_one, hget'] at hx
    rcases List.mem_append.1 hx with hx | hx
    ·rw [htk] at hx
     exact hsub t (hcl x hx t hg)
    ·simp only [Option.toList, List.mem_singleton] at hx
     subst hx
     obtain ⟨y, ⟨r', hr2, hg2⟩, hye⟩ := hg
     rw [hr] at hr2
     rw [← Option.some.inj hr2] at hg2
     exact hed _ (by rw [List.take_length]; exact hg2) hye
  ·simp only [↓Sh.dn, sx, Nat.reduceEqDiff, f6, f8, A1a, hi, decide_false, hlen, hres]
   refine ⟨hk', seen', hM.bf, hM.ms.len, fun t => ?_⟩
   rw [hM.ms.iff]
   exact Clo.iff hLout hclo (fun s hs => hcl s (by rw [List.take_of_length_le (by omega)]; exact hs)) t
end Go.Proofs.YtcgbiedfbacgpaaGreat
/- The reference's Alive, kept. -/
namespace Go.Proofs.YtcgbiedfbacgpaaGreat
open Go Go.Proofs Go.Proofs.Sh
theorem refAlive {H : AH} {v ev bv : Value} {vals : List Value} {n : Nat} {E : List (List (ByteArray × Nat))} {ends : List Bool} (h : RG H v n E ends ev bv vals) (hw : Wf H) :
  Sh.Call Tryz.prog (knows 7) 31 [v] H (fun r H' => Kept H H' ∧ ∃ B : List Bool, Sl H' r 1 (B.map A0l) ∧ B.length = n ∧ ∀ t : Nat, B[t]? = some true ↔ Clo (fun s t => ∃ x, A0e E x t s) (fun s => ends[s]? = some true) t) := by
 refine A2a rfl Tryz.func31 rfl (Nat.le_of_ble_eq_true rfl) ?_
 have hres : Tryz.f31.results.toList = [.tmp 2] := rfl
 have hrb := RBox.of h hw
 have hk1 : Kept H (H.new 3 [.int .i64 0, ev, bv]).2 := Kept.new hw 3 _
 have hE := h.ed.sl.isCell
 have hB := h.en.isCell
 rw [h.eq]
 simp only [↓Sh.dn, sx, Nat.reduceEqDiff, B2u hE hB]
 generalize (H.new 3 [.int .i64 0, ev, bv]).2 = H1 at hrb hk1 ⊢
 generalize H.next = gb at hrb ⊢
 have hs1 := hrb.rg.en
 obtain ⟨v', H2, b', e1, e2, e3, e4⟩ := (Buf.void (H := H1) (s := 1) none).append hk1.wf (xs := ends.map A0l) (by intro x hx; obtain ⟨b, _, rfl⟩ := List.mem_map.1 hx; rfl)
 have happ := app_58 (base := none) (len := 0) (cap := 0) (hs1.srcKind Tryz.underlying58) hs1.newCells (by rw [List.length_map, h.ln]; have := h.n2; omega)
 rw [e1] at happ
 have hk2 : Kept H1 H2 := e3.kept fun g hg h => by cases h
 rw [List.nil_append] at e2
 have hos : ∀ y, b' = some y → H1.next ≤ y ∧ y < H2.next := by
  intro y hy
  rcases e4 with h4 | ⟨h4, h5⟩
  ·rw [h4] at hy; cases hy
  ·rw [h4] at hy; rw [← Option.some.inj hy]; exact ⟨Nat.le_refl _, h5⟩
 have hrb2 := hrb.kept hk1.wf hk2
 obtain ⟨rv, H3, hd3, hk3, R, ot, vs, obs, hJ, hin, hRl, hRr, hRg⟩ := A51 hrb2.rg hk2.wf
 have hk13 := hk2.trans hk3
 have hb3 := e2.kept hk2.wf hk3
 obtain ⟨rr, H4, hd4, hc4, seen, hb4, hsl, hiff⟩ := B6f (em := false) hk13 hJ hRl hRr hb3 (fun y hy => (hos y hy).1) (fun y hy hj => by have := hin y hj; have := (hos y hy).2; omega) h.ln h.n2
 simp only [sx, hrb.c2, happ]
 simp only [sx, hrb2.ca]
 refine ⟨_, _, hd3, ?_⟩
 refine ⟨_, _, hd4, ?_⟩
 simp only [sx, hres]
 refine ⟨hk1.trans (hk13.then (Nat.le_refl _) (hc4.weak fun y hy => (hos y hy).1)), seen, hb4.toSl, hsl, fun t => ?_⟩
 rw [hiff]
 have : A9r R false = fun s t => ∃ x, A0e E x t s := by
  funext s t
  apply propext
  unfold A9r
  simp [hRg]
 rw [this]
theorem refKeptB {H : AH} {u bv : Value} {n : Nat} {B : List Bool} {L : List Nat} (hL : Sl H u 1 (L.map natC)) (hB : Sl H bv 1 (B.map A0l)) (hBl : B.length = n) (hlt : ∀ t ∈ L, t < n) (hll : L.length ≤ 1048576) (hw : Wf H) :
  Sh.Call Tryz.prog (knows 7) 94 [u, bv] H (fun r H' => Kept H H' ∧ ∃ b, Buf H' 1 r ((L.filter fun t => decide (B[t]? = some true)).map natC) b ∧ ∀ y, b = some y → H.next ≤ y) := by
 refine A2a rfl Tryz.func94 rfl (Nat.le_of_ble_eq_true rfl) ?_
 have hres : Tryz.f94.results.toList = [.tmp 4] := rfl
 simp only [↓Sh.dn, sx]
 have hlen := fun H' => hL.len Tryz.underlying69 H'
 simp only [List.length_map] at hlen
 refine A1d L.length 6 (List.range' 5 22) (fun i F H' => Kept H H' ∧ ∃ z, F.get 5 = some z ∧ ∃ ob, LB H' H.next none z ((L.take i).filter fun t => decide (B[t]? = some true)) ob) (by simp only [sx]) ⟨Kept.refl hw, _, by simp only [sx, Nat.reduceEqDiff], none, ⟨.void none, fun y hy => by cases hy⟩⟩ ?_ ?_
 ·rintro i F H' hi hF f6 ⟨hk, z, f5, ob, hl⟩ k
  have f0 := hF 0 rfl
  have f1 := hF 1 rfl
  simp only [sx, reduceCtorEq, Nat.reduceEqDiff] at f0 f1
  have hL' := hL.grow (hk.grow hw)
  obtain ⟨p, hia, hc⟩ := A03 Tryz.underlying69 A7c hL' hi
  have htn : L[i] < n := hlt _ (List.getElem_mem hi)
  have htake : L.take (i + 1) = L.take i ++ [L[i]] := by rw [List.take_add_one, List.getElem?_eq_getElem hi]; rfl
  generalize L[i] = t at hc htn htake
  obtain ⟨b, hb⟩ : ∃ b, B[t]? = some b := ⟨B[t]'(by rw [hBl]; exact htn), List.getElem?_eq_getElem _⟩
  obtain ⟨p2, hia2, hc2⟩ := Sl.elem (s := 1) Tryz.underlying58 A2j (hB.grow (hk.grow hw)) (i := t) (u := .bool b) (by rw [List.getElem?_map, hb]; rfl)
  have hfl : (L.take (i + 1)).filter (fun t => decide (B[t]? = some true)) = (L.take i).filter (fun t => decide (B[t]? = some true)) ++ (if b = true then [t] else []) := by
   rw [htake, List.filter_append]
   congr 1
   cases b <;> simp [hb]
  have hle : ((L.take i).filter fun t => decide (B[t]? = some true)).length ≤ 1073741823 := Nat.le_trans (List.length_filter_le _ _) (by rw [List.length_take]; omega)
  simp only [↓Sh.dn, sx, reduceCtorEq, Nat.reduceEqDiff, f0, f1, f6, A1a, hi, decide_true, hlen, hia, hc, hia2, hc2]
  cases b with
  | true =>
   obtain ⟨a, cap, w', H4, ob2, rfl, e1, e2, e3, e4, e5⟩ := B6h t hk (fun y hy => by cases hy) hl hle
   simp only [↓Sh.dn, sx, reduceCtorEq, Nat.reduceEqDiff, f0, f5, f6, hia, hc, e1, e2, wrap_succ hi hll]
   exact k _ _ (by repeat (first | refine Same.put ?_ rfl | exact Same.rfl' _)) (by simp only [sx]) ⟨e3, w', by simp only [sx, Nat.reduceEqDiff], ob2, by rw [hfl]; exact e4⟩
  | false =>
   simp only [↓Sh.dn, sx, Nat.reduceEqDiff, f6, wrap_succ hi hll]
   exact k _ _ (by repeat (first | refine Same.put ?_ rfl | exact Same.rfl' _)) (by simp only [sx]) ⟨hk, z, by simp only [sx, Nat.reduceEqDiff, f5], ob, by rw [hfl]; simpa using hl⟩
 ·rintro F H' hF f6 ⟨hk, z, f5, ob, hl⟩
  have f0 := hF 0 rfl
  simp only [sx, reduceCtorEq] at f0
  rw [List.take_length] at hl
  simp only [↓Sh.dn, sx, reduceCtorEq, Nat.reduceEqDiff, f0, f5, f6, A1a, Nat.lt_irrefl, decide_false, hlen, hres]
  exact ⟨hk, ob, hl.bf, fun y hy => (hl.fr y hy).1⟩
end Go.Proofs.YtcgbiedfbacgpaaGreat
