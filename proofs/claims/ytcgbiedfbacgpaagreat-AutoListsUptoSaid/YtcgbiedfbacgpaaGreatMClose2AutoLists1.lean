/- A part of the proof: ShRun, ShDraw, ShDraw2, ShDraw3, ShDraw4, ShDraw5, ShProg, ShMono, ShWp, ShSpec, ShIn, ShTake, ShLaw, ShStep, ShData, ShNet, ShArith, ShCalm, ShOrder, ShMem, ShFree, ShEarly, ShBox, ShApp, ShBundle, ShSort, ShMid. -/
import Derived.Test.YtcgbiedfbacgpaaGreatMClose2AutoLists0
import Derived.ProofKit
set_option linter.unusedVariables false
set_option linter.unusedSimpArgs false
/- The shadow's machine and the machine: regions in their order, calls. -/
set_option linter.unusedVariables false
set_option linter.unusedSimpArgs false
namespace Go.Proofs.Sh
open Go
def C9j (nt : Nat) (o : Oper) : Bool :=
 match o.dst with
 | none => true
 | some t => Nat.blt t nt
section
variable {P : Program} {B : Nat}
def A68 (P : Program) (call : A4d) : Prop := ∀ f args H v H', call f args H = some (v, H') → ∀ B ρ w args', VRels ρ args args' → HRel B ρ H w →
 Calls P f args'.toArray w fun e w' => ∃ ρ' v', e = .returned v' ∧ VRel ρ' v v' ∧ HRel B ρ' H' w' ∧ Trans B H.next ρ w ρ' w'
theorem op_wp {ρ : Map} {w : World} {H H' : AH} {call : A4d} (hcall : A68 P call) (hH : HRel B ρ H w) {o : Oper} {a : Act} {v : Value} (h : OpOk P B ρ w call H v H' ((execOp a.eval o).run P w)) {K : Act → World → Prop} {Q : Exit → Act → World → Prop}
  (hk : ∀ ρ' v' w', VRel ρ' v v' → HRel B ρ' H' w' → Trans B H.next ρ w ρ' w' → K (a.put o.dst v') w') : o.wp P a w K Q := by
 unfold Oper.wp
 rcases h with ⟨w', ρ', h1, h2, h3⟩ | ⟨f, args, args', h1, h2, h3⟩
 ·rcases h3 with ⟨v', e, hv⟩ | ⟨e, rfl⟩
  ·rw [e]
   exact hk ρ' v' w' hv h1 h2
  ·rw [e]
   exact hk ρ' undef w' A4x h1 h2
 ·rw [h3, Oper.upon_enter]
  refine (hcall f args H v H' h1 B ρ w args' h2 hH).mono ?_
  rintro e w' ⟨ρ', v', rfl, hv, h4, h5⟩
  exact hk ρ' v' w' hv h4 h5
theorem FRel.put {ρ : Map} {F : Fr} {a : Act} (h : FRel ρ F a) {v v' : Value} (hv : VRel ρ v v') {dst : Option Tmp} (hd : ∀ t, dst = some t → t < a.tmps.size) : FRel ρ (Sh.put F dst v) (a.put dst v') := by
 cases dst with
 | none => exact h
 | some d =>
  intro t x e
  simp only [Sh.put] at e
  rw [Tr.get_set] at e
  simp only [Act.put]
  by_cases ht : t = d
  ·subst ht
   rw [if_pos rfl] at e
   injection e with e
   subst e
   exact ⟨v', by simp [hd t rfl], hv⟩
  ·rw [if_neg ht] at e
   obtain ⟨x', h1, h2⟩ := h t x e
   exact ⟨x', by rw [Array.getElem?_setIfInBounds_ne (Ne.symm ht)]; exact h1, h2⟩
theorem A2t (a : Act) (dst : Option Tmp) (v : Value) : (a.put dst v).tmps.size = a.tmps.size ∧ (a.put dst v).defers = a.defers := by
 cases dst <;> simp [Act.put]
theorem C4i {ρ : Map} {F : Fr} {a : Act} (h : FRel ρ F a) {ops : Array Oper} {o : Oper} {b : Bool} (e : A1m ops.toList F o = some b) : Region.wanted o (yielded ops a.tmps) = b := by
 unfold A1m at e
 unfold Region.wanted
 split at e
 ·rename_i hg
  injection e with e
  rw [hg]; exact e
 ·rename_i j want hg
  rw [hg]
  simp only
  unfold yielded
  have harr : ops.toList[j]? = ops[j]? := by simp
  rw [harr] at e
  split at e
  ·rename_i b' hb
   obtain ⟨t, ht, hb'⟩ := Option.bind_eq_some_iff.1 hb
   obtain ⟨x', h1, h2⟩ := h t _ hb'
   have := A0o h2
   subst this
   rw [ht]
   simp only [Option.bind_some, h1]
   injection e with e
   try subst e
   try (cases b' <;> cases want <;> rfl)
  ·rename_i y hy hb
   obtain ⟨t, ht, hb'⟩ := Option.bind_eq_some_iff.1 hb
   obtain ⟨x', h1, h2⟩ := h t _ hb'
   have htag := h2.tag
   rw [ht]
   simp only [Option.bind_some, h1]
   injection e with e
   subst e
   have : ∀ b, x' ≠ .bool b := by
    rintro b rfl
    cases y <;> simp [tag] at htag
    exact hy _ rfl
   cases x' <;> first | rfl | exact absurd rfl (this _)
  ·cases e
theorem B1g (hN : B1j P) {call : A4d} (hb : A1u P call) (hn : A7m call) (hcall : A68 P call) (all : Array Oper) (nt : Nat) (hd : ∀ o ∈ all.toList, C9j nt o = true) {Q : Exit → Act → World → Prop} {F' : Fr} {H' : AH} :
  ∀ (m i : Nat) (F : Fr) (H : AH) (ρ : Map) (a : Act) (w : World), i + m = all.size → A8o P call all.toList (all.toList.drop i) F H = some (F', H') → FRel ρ F a → a.tmps.size = nt → a.defers = [] → HRel B ρ H w →
   (∀ ρ' a' w', FRel ρ' F' a' → a'.tmps.size = nt → a'.defers = [] → HRel B ρ' H' w' → Trans B H.next ρ w ρ' w' → H.next ≤ H'.next → Q .normal a' w') → wpOps P all Q (List.range' i m) a w
 | 0, i, F, H, ρ, a, w, him, e, hF, hnt, hdf, hH, hQ => by
  rw [List.drop_of_length_le (by simp; omega)] at e
  injection e with e
  injection e with e1 e2
  subst e1 e2
  exact hQ ρ a w hF hnt hdf hH (Trans.refl _ _ _ _) (Nat.le_refl _)
 | m + 1, i, F, H, ρ, a, w, him, e, hF, hnt, hdf, hH, hQ => by
  have hi : i < all.toList.length := by simp; omega
  rw [List.drop_eq_getElem_cons hi] at e
  have ho : all[i]? = some all.toList[i] := by simp [Array.getElem?_eq_getElem (show i < all.size by omega)]
  have hmem := List.getElem_mem hi
  generalize all.toList[i] = o at e ho hmem
  have hdo : ∀ t, o.dst = some t → t < a.tmps.size := by
   intro t ht
   have := hd o hmem
   unfold C9j at this
   rw [ht] at this
   simp only [A3i, decide_eq_true_eq] at this
   rw [hnt]; exact this
  simp only [A8o] at e
  simp only [List.range'_succ, wpOps, ho]
  cases hw : A1m all.toList F o with
  | none => rw [hw] at e; cases e
  | some b =>
   rw [hw] at e
   have hwant := C4i hF hw
   rw [hwant]
   cases b with
   | false =>
    simp only [Bool.false_eq_true, if_false]
    refine B1g hN hb hn hcall all nt hd m (i + 1) _ H ρ (a.put o.dst undef) w (by omega) e (hF.put A4x hdo) (by rw [(A2t a o.dst undef).1]; exact hnt) (by rw [(A2t a o.dst undef).2]; exact hdf) hH hQ
   | true =>
    simp only [if_true]
    left
    simp only at e
    cases hop : aop P call F H o with
    | none => rw [hop] at e; cases e
    | some r =>
     obtain ⟨v, H1⟩ := r
     rw [hop] at e
     simp only at e
     have hnx := A54 hn hop
     refine op_wp hcall hH (C7s hN hb hF hH hop) (fun ρ1 v' w1 hv hH1 ht => ?_)
     refine B1g hN hb hn hcall all nt hd m (i + 1) _ H1 ρ1 (a.put o.dst v') w1 (by omega) e ((hF.mono ht.le).put hv hdo) (by rw [(A2t a o.dst v').1]; exact hnt) (by rw [(A2t a o.dst v').2]; exact hdf) hH1
      (fun ρ' a' w' f1 f2 f3 f4 f5 f6 => hQ ρ' a' w' f1 f2 f3 f4 (ht.trans f5 hnx) (Nat.le_trans hnx f6))
theorem B8e : ∀ (vs : List Value) (i : Nat) (F : Fr) (t : Nat), (B6o vs i F).get t = if i ≤ t ∧ t < i + vs.length then vs[t - i]? else F.get t
 | [], i, F, t => by simp only [B6o]; rw [if_neg (by rintro ⟨h1, h2⟩; simp only [List.length_nil] at h2; omega)]
 | v :: vs, i, F, t => by
  simp only [B6o]
  rw [B8e vs (i + 1)]
  by_cases h : i + 1 ≤ t ∧ t < i + 1 + vs.length
  ·rw [if_pos h, if_pos (by simp; omega)]
   have : t - i = (t - (i + 1)) + 1 := by omega
   rw [this, List.getElem?_cons_succ]
  ·rw [if_neg h, Tr.get_set]
   by_cases ht : t = i
   ·subst ht
    rw [if_pos rfl, if_pos (by simp)]
    simp
   ·rw [if_neg ht, if_neg (by simp; omega)]
theorem B03 {ρ : Map} {args args' : List Value} {nt : Nat} (h : VRels ρ args args') (hl : args.length ≤ nt) :
  FRel ρ (B6o args 0 .nil) { tmps := args'.toArray ++ Array.replicate (nt - args'.toArray.size) undef, defers := [] } ∧ (args'.toArray ++ Array.replicate (nt - args'.toArray.size) undef : Array Value).size = nt := by
 have hlen := h.length
 refine ⟨fun t v e => ?_, by simp; omega⟩
 rw [B8e] at e
 split at e
 ·rename_i ht
  rw [Nat.sub_zero] at e
  obtain ⟨u, h1, h2⟩ := h.get e
  have := (List.getElem?_eq_some_iff.1 h1).1
  exact ⟨u, by rw [Array.getElem?_append_left (by simpa using this)]; simpa using h1, h2⟩
 ·cases e
def C0n (a : Act) : ResultVar → Sem Value
 | .tmp t => pure (a.tmps.getD t undef)
 | .cell p t => do loadVar t (← asAddr (a.tmps.getD p undef))
theorem A47 {ρ : Map} {w : World} {F : Fr} {H : AH} {a : Act} (hF : FRel ρ F a) (hH : HRel B ρ H w) : ∀ {rs : List ResultVar} {vs : List Value}, resultsA P F H rs = some vs →
  ∃ us : List Value, (rs.mapM (C0n a)).run P w = .ok us w ∧ VRels ρ vs us
 | [], vs, e => by injection e with e; subst e; exact ⟨[], by simp, VRels.nil⟩
 | .tmp t :: rs, vs, e => by
  simp only [resultsA] at e
  obtain ⟨v, h1, e1⟩ := Option.bind_eq_some_iff.1 e
  obtain ⟨vs', h2, e2⟩ := Option.map_eq_some_iff.1 e1
  subst e2
  obtain ⟨us, g1, g2⟩ := A47 hF hH h2
  obtain ⟨v', k1, k2⟩ := hF t v h1
  have hget : a.tmps.getD t undef = v' := by simp [Array.getD_eq_getD_getElem?, k1]
  exact ⟨v' :: us, by simp only [List.mapM_cons, C0n, Sem.run_bind, Sem.run_pure, Result.andThen_ok, g1, hget], VRels.cons k2 g2⟩
 | .cell p t :: rs, vs, e => by
  simp only [resultsA] at e
  obtain ⟨q, h0, e0⟩ := Option.bind_eq_some_iff.1 e
  obtain ⟨v, h1, e1⟩ := Option.bind_eq_some_iff.1 e0
  obtain ⟨vs', h2, e2⟩ := Option.map_eq_some_iff.1 e1
  subst e2
  obtain ⟨us, g1, g2⟩ := A47 hF hH h2
  obtain ⟨q', k1, k2⟩ := hF p q h0
  have hget : a.tmps.getD p undef = q' := by simp [Array.getD_eq_getD_getElem?, k1]
  obtain ⟨v', r1, r2⟩ := B86 (P := P) hH k2 h1
  have hptr : ∃ ad, q' = .pointer (some ad) := by
   cases q with
   | pointer ad => cases ad with
    | none => cases h1
    | some ad => obtain ⟨L, k, _, _, hh⟩ := A1q k2; exact ⟨_, hh⟩
   | _ => cases h1
  obtain ⟨ad, rfl⟩ := hptr
  simp only [Instr.loadAt, Instr.sureAddr, Sem.run_bind, Sem.run_pure, Result.andThen_ok] at r1
  exact ⟨v' :: us, by
   have hA : (asAddr (.pointer (some ad))).run P w = .ok ad w := rfl
   simp only [List.mapM_cons, C0n, Sem.run_bind, Sem.run_pure, Result.andThen_ok, g1, hget, hA, r1], VRels.cons r2 g2⟩
theorem one_ok {ρ : Map} {vs us : List Value} (h : VRels ρ vs us) : VRel ρ (Sh.one vs) (if h : us.toArray.size = 1 then us.toArray[0] else .tuple us.toArray) := by
 cases vs with
 | nil =>
  unfold VRels at h
  subst h
  simp only [Sh.one]
  rw [dif_neg (by simp)]
  unfold VRel
  exact ⟨[], rfl, VRels.nil⟩
 | cons v vs =>
  cases vs with
  | nil =>
   obtain ⟨u, rfl, hu⟩ := h.one
   simpa [Sh.one] using hu
  | cons v2 vs =>
   have hl := h.length
   simp only [Sh.one]
   rw [dif_neg (by simp at hl ⊢; omega)]
   unfold VRel
   exact ⟨us, rfl, h⟩
theorem C7m {ρ : Map} {w : World} {F : Fr} {H : AH} {a : Act} {fn : Func} (hF : FRel ρ F a) (hH : HRel B ρ H w) {vs : List Value} (e : resultsA P F H fn.results.toList = some vs) : ∃ v', (results fn a.tmps).run P w = .ok v' w ∧ VRel ρ (Sh.one vs) v' := by
 obtain ⟨us, h1, h2⟩ := A47 (P := P) hF hH e
 refine ⟨_, ?_, one_ok h2⟩
 have hm : (fn.results.mapM (C0n a)).run P w = .ok us.toArray w := by
  rw [← Array.toArray_toList (xs := fn.results), List.mapM_toArray, Sem.run_map, h1]
  rfl
 have : results fn a.tmps = (do let vs ← fn.results.mapM (C0n a); pure (if h : vs.size = 1 then vs[0] else .tuple vs)) := by
  unfold results
  congr 1
  try (congr 1; funext r; cases r <;> rfl)
 rw [this]
 simp only [Sem.run_bind, hm, Result.andThen_ok, Sem.run_pure]
theorem A42 {call : A4d} (hn : A7m call) {all : List Oper} {F' : Fr} {H' : AH} : ∀ {l : List Oper} {F : Fr} {H : AH}, A8o P call all l F H = some (F', H') → H.next ≤ H'.next
 | [], F, H, e => by injection e with e; injection e with _ e; rw [e]; exact Nat.le_refl _
 | o :: l, F, H, e => by
  simp only [A8o] at e
  split at e
  ·cases e
  ·exact A42 hn e
  ·split at e
   ·cases e
   ·rename_i hop
    exact Nat.le_trans (A54 hn hop) (A42 hn e)
theorem A3q {call : A4d} (hn : A7m call) {all : List Oper} {bs : List Nat} {F' : Fr} {H' : AH} : ∀ {l : List Nat} {ps : List Pend} {F : Fr} {H : AH}, A7e P call all bs l ps F H = some (F', H') → H.next ≤ H'.next
 | [], ps, F, H, e => by injection e with e; injection e with _ e; rw [e]; exact Nat.le_refl _
 | i :: l, ps, F, H, e => by
  simp only [A7e] at e
  split at e
  ·cases e
  ·rename_i o ho
   split at e
   ·cases e
   ·exact A3q hn e
   ·split at e
    ·cases e
    ·rename_i v H1 hop
     refine Nat.le_trans (A54 hn hop) ?_
     cases hx : isEff o with
     | true =>
      rw [hx] at e
      simp only [cond_true] at e
      split at e
      ·exact A3q hn e
      ·cases e
     | false =>
      rw [hx] at e
      simp only [cond_false] at e
      cases hy : A5e o with
      | true =>
       rw [hy] at e
       simp only [cond_true] at e
       split at e
       ·exact A3q hn e
       ·cases e
      | false =>
       rw [hy] at e
       simp only [cond_false] at e
       cases hz : isRead o <;> rw [hz] at e <;> exact A3q hn e
def DrawOk (P : Program) (draws : List Oper → Bool) : Prop := ∀ (call : A4d), A1u P call → A7m call → A68 P call → ∀ (id : Nat) (all : Array Oper) (nt : Nat), draws all.toList = true → (∀ o ∈ all.toList, C9j nt o = true) →
 ∀ (B : Nat) (F F' : Fr) (H H' : AH) (ρ : Map) (a : Act) (w : World), region P call all.toList true F H = some (F', H') → FRel ρ F a → a.tmps.size = nt → a.defers = [] → HRel B ρ H w →
  (Code.region id all true).wp P (fun e a' w' => e = .normal ∧ ∃ ρ', FRel ρ' F' a' ∧ a'.tmps.size = nt ∧ a'.defers = [] ∧ HRel B ρ' H' w' ∧ Trans B H.next ρ w ρ' w') a w
def codeOk (draws : List Oper → Bool) (nt : Nat) : Code → Bool
 | .region _ ops draw => ops.toList.all (C9j nt) && (!draw || draws ops.toList)
 | .seq a b => codeOk draws nt a && codeOk draws nt b
 | .cond _ a b => codeOk draws nt a && codeOk draws nt b
 | .block _ c => codeOk draws nt c
 | .loop c => codeOk draws nt c
 | _ => true
def B5d (draws : List Oper → Bool) (nt : Nat) : Item → Bool
 | .code c => codeOk draws nt c
 | .inLoop c => codeOk draws nt c
 | _ => true
def C1n (P : Program) (draws : List Oper → Bool) : Prop := ∀ (f : Nat) fn c, P.funcs[f]? = some fn → fn.body = some c → codeOk draws fn.ntmps c = true
theorem A46 {id : Nat} : ∀ {S S' : List Item}, exitTo id S = some S' → ∀ x ∈ S', x ∈ S
 | [], S', h => by cases h
 | y :: S, S', h => by
  intro x hx
  cases y <;> simp only [exitTo] at h <;> first
   | (split at h
      · injection h with h; subst h; exact List.mem_cons_of_mem _ hx
      · exact List.mem_cons_of_mem _ (A46 h x hx))
   | exact List.mem_cons_of_mem _ (A46 h x hx)
theorem A97 {O : A4d} {go : List Item → Fr → AH → Option (Fr × AH)} {f : FuncId} {args : List Value} {H H' : AH} {v : Value} (e : enter P O go f args H = some (v, H')) :
  O f args H = some (v, H') ∨ ∃ fn c F' vs, P.funcs[f]? = some fn ∧ fn.body = some c ∧ args.length ≤ fn.ntmps ∧ go [.code c] (B6o args 0 .nil) H = some (F', H') ∧ resultsA P F' H' fn.results.toList = some vs ∧ v = Sh.one vs := by
 unfold enter at e
 split at e
 ·rename_i r hr
  left; rw [hr]; exact e
 right
 split at e
 ·rename_i fn hf
  split at e
  ·rename_i c hc
   rw [A3c, Bool.cond_decide] at e
   split at e
   ·rename_i hl
    split at e
    ·rename_i F' H1 hg
     obtain ⟨vs, h1, h2⟩ := Option.map_eq_some_iff.1 e
     simp only [Prod.mk.injEq] at h2
     obtain ⟨rfl, rfl⟩ := h2
     exact ⟨fn, c, F', vs, hf, hc, hl, hg, h1, rfl⟩
    ·cases e
   ·cases e
  ·cases e
 ·cases e
structure OrOk (P : Program) (O : A4d) : Prop where
 body : A1u P O
 next : A7m O
 ok : A68 P O
theorem OrOk.mute : OrOk P mute := ⟨fun _ _ _ _ e => (by cases e), fun _ _ _ _ _ e => (by cases e), fun _ _ _ _ _ e => (by cases e)⟩
def RunOk (P : Program) (O : A4d) (draws : List Oper → Bool) (n : Nat) : Prop := ∀ (S : List Item) (F F' : Fr) (H H' : AH), run P O n S F H = some (F', H') → H.next ≤ H'.next ∧
 ∀ (nt B : Nat) (ρ : Map) (a : Act) (w : World), (∀ x ∈ S, B5d draws nt x = true) → FRel ρ F a → a.tmps.size = nt → a.defers = [] → HRel B ρ H w →
  ∀ (b : Frame) (cs : List Frame), ∃ ρ' a' w' todo, Steps P (lone (b.at a S) cs w) (lone { b.at a' todo with mode := .returning } cs w') ∧ FRel ρ' F' a' ∧ a'.defers = [] ∧ HRel B ρ' H' w' ∧ Trans B H.next ρ w ρ' w'
theorem B8o {O : A4d} (hO : OrOk P O) {draws : List Oper → Bool} (hP : C1n P draws) {n : Nat} (h : RunOk P O draws n) : A1u P (enter P O (run P O n)) ∧ A7m (enter P O (run P O n)) ∧ A68 P (enter P O (run P O n)) := by
 refine ⟨fun f args H r e => ?_, fun f args H v H' e => ?_, fun f args H v H' e B ρ w args' hargs hH => ?_⟩
 ·obtain ⟨v, H'⟩ := r
  rcases A97 e with e | ⟨fn, c, F', vs, h1, h2, _⟩
  ·exact hO.body _ _ _ _ e
  exact ⟨fn, c, h1, h2⟩
 ·rcases A97 e with e | ⟨fn, c, F', vs, h1, h2, h3, h4, _⟩
  ·exact hO.next _ _ _ _ _ e
  exact (h _ _ _ _ _ h4).1
 ·rcases A97 e with e | ⟨fn, c, F', vs, h1, h2, h3, h4, h5, rfl⟩
  ·exact hO.ok _ _ _ _ _ e B ρ w args' hargs hH
  intro cs
  obtain ⟨hfr, hsz⟩ := B03 hargs h3
  let b : Frame := { (default : Frame) with fn := f, kind := .normal }
  have henter : Frame.enter P f args'.toArray .normal = b.at { tmps := args'.toArray ++ Array.replicate (fn.ntmps - args'.toArray.size) undef, defers := [] } [.code c] := by
   simp [Frame.enter, Frame.at, h1, h2, b]
  obtain ⟨ρ', a', w', todo, g1, g2, g3, g4, g5⟩ := (h _ _ _ _ _ h4).2 fn.ntmps B ρ _ w (by
   intro x hx
   simp only [List.mem_singleton] at hx
   subst hx
   exact hP f fn c h1 h2) hfr hsz rfl hH b cs
  rw [← henter] at g1
  obtain ⟨v', r1, r2⟩ := C7m (P := P) (fn := fn) g2 g4 h5
  exact ⟨.returned v', w', _, ⟨ρ', v', rfl, r2, g4, g5⟩, g1, rfl, rfl, g3, rfl, fn, h1, r1⟩
theorem run_ok (hN : B1j P) {O : A4d} (hO : OrOk P O) {draws : List Oper → Bool} (hD : DrawOk P draws) (hP : C1n P draws) : ∀ n, RunOk P O draws n
 | 0 => fun S F F' H H' e => by cases e
 | n + 1 => fun S F F' H H' e => by
  have ih := run_ok hN hO hD hP n
  obtain ⟨hb, hn, hcall⟩ := B8o hO hP ih
  cases S with
  | nil =>
   simp only [run, Option.some.injEq, Prod.mk.injEq] at e
   obtain ⟨rfl, rfl⟩ := e
   exact ⟨Nat.le_refl _, fun nt B ρ a w hS hF hnt hdf hH b cs => ⟨ρ, a, w, [], .one step_end, hF, hdf, hH, Trans.refl _ _ _ _⟩⟩
  | cons x S =>
   cases x with
   | inBlock id =>
    simp only [run] at e
    obtain ⟨h1, h2⟩ := ih _ _ _ _ _ e
    refine ⟨h1, fun nt B ρ a w hS hF hnt hdf hH b cs => ?_⟩
    obtain ⟨ρ', a', w', todo, g1, g2⟩ := h2 nt B ρ a w (fun y hy => hS y (List.mem_cons_of_mem _ hy)) hF hnt hdf hH b cs
    exact ⟨ρ', a', w', todo, .head step_inBlock g1, g2⟩
   | inLoop c =>
    simp only [run] at e
    obtain ⟨h1, h2⟩ := ih _ _ _ _ _ e
    refine ⟨h1, fun nt B ρ a w hS hF hnt hdf hH b cs => ?_⟩
    obtain ⟨ρ', a', w', todo, g1, g2⟩ := h2 nt B ρ a w (fun y hy => by
     rcases List.mem_cons.1 hy with rfl | hy
     ·exact hS (.inLoop c) List.mem_cons_self
     ·exact hS y hy) hF hnt hdf hH b cs
    exact ⟨ρ', a', w', todo, .head step_inLoop g1, g2⟩
   | code c =>
    cases c with
    | skip =>
     simp only [run] at e
     obtain ⟨h1, h2⟩ := ih _ _ _ _ _ e
     refine ⟨h1, fun nt B ρ a w hS hF hnt hdf hH b cs => ?_⟩
     obtain ⟨ρ', a', w', todo, g1, g2⟩ := h2 nt B ρ a w (fun y hy => hS y (List.mem_cons_of_mem _ hy)) hF hnt hdf hH b cs
     exact ⟨ρ', a', w', todo, .head step_skip g1, g2⟩
    | seq x y =>
     simp only [run] at e
     obtain ⟨h1, h2⟩ := ih _ _ _ _ _ e
     refine ⟨h1, fun nt B ρ a w hS hF hnt hdf hH b cs => ?_⟩
     have hc := hS _ List.mem_cons_self
     simp only [B5d, codeOk, Bool.and_eq_true] at hc
     obtain ⟨ρ', a', w', todo, g1, g2⟩ := h2 nt B ρ a w (fun z hz => by
      rcases List.mem_cons.1 hz with rfl | hz
      ·exact hc.1
      ·rcases List.mem_cons.1 hz with rfl | hz
       ·exact hc.2
       ·exact hS z (List.mem_cons_of_mem _ hz)) hF hnt hdf hH b cs
     exact ⟨ρ', a', w', todo, .head step_seq g1, g2⟩
    | cond q x y =>
     simp only [run] at e
     split at e
     ·rename_i hq
      obtain ⟨h1, h2⟩ := ih _ _ _ _ _ e
      refine ⟨h1, fun nt B ρ a w hS hF hnt hdf hH b cs => ?_⟩
      have hc := hS _ List.mem_cons_self
      simp only [B5d, codeOk, Bool.and_eq_true] at hc
      obtain ⟨ρ', a', w', todo, g1, g2⟩ := h2 nt B ρ a w (fun z hz => by
       rcases List.mem_cons.1 hz with rfl | hz
       ·exact hc.1
       ·exact hS z (List.mem_cons_of_mem _ hz)) hF hnt hdf hH b cs
      have hst := step_cond (P := P) (b := b) (a := a) (k := S) (cs := cs) (w := w) (x := x) (y := y) (A0o (A0f hF hq))
      simp only [if_true] at hst
      exact ⟨ρ', a', w', todo, .head hst g1, g2⟩
     ·rename_i hq
      obtain ⟨h1, h2⟩ := ih _ _ _ _ _ e
      refine ⟨h1, fun nt B ρ a w hS hF hnt hdf hH b cs => ?_⟩
      have hc := hS _ List.mem_cons_self
      simp only [B5d, codeOk, Bool.and_eq_true] at hc
      obtain ⟨ρ', a', w', todo, g1, g2⟩ := h2 nt B ρ a w (fun z hz => by
       rcases List.mem_cons.1 hz with rfl | hz
       ·exact hc.2
       ·exact hS z (List.mem_cons_of_mem _ hz)) hF hnt hdf hH b cs
      have hst := step_cond (P := P) (b := b) (a := a) (k := S) (cs := cs) (w := w) (x := x) (y := y) (A0o (A0f hF hq))
      simp only [Bool.false_eq_true, if_false] at hst
      exact ⟨ρ', a', w', todo, .head hst g1, g2⟩
     ·cases e
    | block id c =>
     simp only [run] at e
     obtain ⟨h1, h2⟩ := ih _ _ _ _ _ e
     refine ⟨h1, fun nt B ρ a w hS hF hnt hdf hH b cs => ?_⟩
     have hc := hS _ List.mem_cons_self
     simp only [B5d, codeOk] at hc
     obtain ⟨ρ', a', w', todo, g1, g2⟩ := h2 nt B ρ a w (fun z hz => by
      rcases List.mem_cons.1 hz with rfl | hz
      ·exact hc
      ·rcases List.mem_cons.1 hz with rfl | hz
       ·rfl
       ·exact hS z (List.mem_cons_of_mem _ hz)) hF hnt hdf hH b cs
     exact ⟨ρ', a', w', todo, .head step_block g1, g2⟩
    | loop c =>
     simp only [run] at e
     obtain ⟨h1, h2⟩ := ih _ _ _ _ _ e
     refine ⟨h1, fun nt B ρ a w hS hF hnt hdf hH b cs => ?_⟩
     have hc := hS _ List.mem_cons_self
     simp only [B5d, codeOk] at hc
     obtain ⟨ρ', a', w', todo, g1, g2⟩ := h2 nt B ρ a w (fun z hz => by
      rcases List.mem_cons.1 hz with rfl | hz
      ·exact hc
      ·rcases List.mem_cons.1 hz with rfl | hz
       ·exact hc
       ·exact hS z (List.mem_cons_of_mem _ hz)) hF hnt hdf hH b cs
     exact ⟨ρ', a', w', todo, .head step_loop g1, g2⟩
    | exit id =>
     simp only [run] at e
     split at e
     ·rename_i S' hS'
      obtain ⟨h1, h2⟩ := ih _ _ _ _ _ e
      refine ⟨h1, fun nt B ρ a w hS hF hnt hdf hH b cs => ?_⟩
      obtain ⟨ρ', a', w', todo, g1, g2⟩ := h2 nt B ρ a w (fun z hz => hS z (List.mem_cons_of_mem _ (A46 hS' z hz))) hF hnt hdf hH b cs
      exact ⟨ρ', a', w', todo, .head (step_exit hS') g1, g2⟩
     ·cases e
    | ret =>
     simp only [run, Option.some.injEq, Prod.mk.injEq] at e
     obtain ⟨rfl, rfl⟩ := e
     exact ⟨Nat.le_refl _, fun nt B ρ a w hS hF hnt hdf hH b cs => ⟨ρ, a, w, _, .one step_ret, hF, hdf, hH, Trans.refl _ _ _ _⟩⟩
    | region id ops draw =>
     simp only [run] at e
     split at e
     ·rename_i F1 H1 hr
      obtain ⟨h1, h2⟩ := ih _ _ _ _ _ e
      have hnx : H.next ≤ H1.next := by
       cases draw with
       | false => exact A42 hn hr
       | true => exact A3q hn hr
      refine ⟨Nat.le_trans hnx h1, fun nt B ρ a w hS hF hnt hdf hH b cs => ?_⟩
      have hc := hS _ List.mem_cons_self
      simp only [B5d, codeOk, Bool.and_eq_true, Bool.or_eq_true, Bool.not_eq_true', List.all_eq_true] at hc
      have hwp : (Code.region id ops draw).wp P (fun e a' w' => e = .normal ∧ ∃ ρ', FRel ρ' F1 a' ∧ a'.tmps.size = nt ∧ a'.defers = [] ∧ HRel B ρ' H1 w' ∧ Trans B H.next ρ w ρ' w') a w := by
       cases draw with
       | false =>
        refine wp_region ?_
        rw [List.range_eq_range']
        exact B1g hN hb hn hcall ops nt hc.1 ops.size 0 F H ρ a w (by omega) hr hF hnt hdf hH (fun ρ' a' w' f1 f2 f3 f4 f5 _ => ⟨rfl, ρ', f1, f2, f3, f4, f5⟩)
       | true =>
        exact hD _ hb hn hcall id ops nt (by rcases hc.2 with x | x; cases x; exact x) hc.1 B F F1 H H1 ρ a w hr hF hnt hdf hH
      obtain ⟨ex, a1, w1, ⟨rfl, ρ1, f1, f2, f3, f4, f5⟩, harr⟩ := hwp b S cs
      obtain ⟨ρ', a', w', todo, g1, g2, g3, g4, g5⟩ := h2 nt B ρ1 a1 w1 (fun z hz => hS z (List.mem_cons_of_mem _ hz)) f1 f2 f3 f4 b cs
      exact ⟨ρ', a', w', todo, Steps.trans harr g1, g2, g3, g4, f5.trans g5 hnx⟩
     ·cases e
    | _ => cases e
   | _ => cases e
end
end Go.Proofs.Sh
/- Regions whose order is open: what was done in one order is done in every one. -/
namespace Go.Proofs.Sh
open Go
section
variable {P : Program} {call : A4d}
theorem A94 {F G : Fr} : ∀ {l : List Operand}, (∀ x ∈ l, ev F x = ev G x) → evs F l = evs G l
 | [], _ => rfl
 | x :: l, h => by simp only [evs]; rw [h x List.mem_cons_self, A94 (fun y hy => h y (List.mem_cons_of_mem _ hy))]
theorem A76 {F G : Fr} : ∀ {l : List (Nat × Operand)}, (∀ x ∈ l.map (·.2), ev F x = ev G x) → evps F l = evps G l
 | [], _ => rfl
 | (i, x) :: l, h => by simp only [evps]; rw [h x (by simp), A76 (fun y hy => h y (by simp only [List.map_cons]; exact List.mem_cons_of_mem _ hy))]
theorem B9e {F G : Fr} {o : Option Operand} (h : ∀ x ∈ o.toList, ev F x = ev G x) : evo F o = evo G o := by
 cases o with
 | none => rfl
 | some x => simp only [evo]; rw [h x (by simp)]
theorem B30 {F G : Fr} {H : AH} {o : Oper} (h : ∀ x ∈ o.op.operands.toList, ev F x = ev G x) : aop P call F H o = aop P call G H o := by
 unfold aop
 cases hop : o.op <;> rw [hop] at h <;> simp only [Op.operands] at h ⊢ <;> try rfl
 case move x => rw [h x (by simp)]
 case assign x => rw [h x (by simp)]
 case pick c x y => rw [h c (by simp), h x (by simp), h y (by simp)]
 case box t x => rw [h x (by simp)]
 case build t ps => rw [A76 (fun x hx => h x (by simpa using hx))]
 case buildSlice t n ps => rw [A76 (fun x hx => h x (by simpa using hx))]
 case insert t m k x => rw [h m (by simp), h k (by simp), h x (by simp)]
 case load t x => rw [h x (by simp)]
 case store t x y => rw [h x (by simp), h y (by simp)]
 case nilCheck x => rw [h x (by simp)]
 case binOp op t x y yt => rw [h x (by simp), h y (by simp)]
 case unOp op t x => rw [h x (by simp)]
 case convert s d x => rw [h x (by simp)]
 case makeInterface t x => rw [h x (by simp)]
 case makeFunc fn fi cs => rw [A94 (fun x hx => h x (by simp [hx])), A94 (F := F) (G := G) (l := cs.toList) (fun x hx => h x (by simp [hx]))]
 case makeMap t r => cases r <;> rfl
 case makeSlice t l c => rw [h l (by simp), h c (by simp)]
 case slice t x lo hi mx => rw [h x (by simp), B9e (fun y hy => h y (by simp [hy])), B9e (F := F) (G := G) (o := hi) (fun y hy => h y (by simp [hy])), B9e (F := F) (G := G) (o := mx) (fun y hy => h y (by simp [hy]))]
 case fieldAddr t x f => rw [h x (by simp)]
 case field t x f => rw [h x (by simp)]
 case indexAddr t x i => rw [h x (by simp), h i (by simp)]
 case index t x i => rw [h x (by simp), h i (by simp)]
 case lookup t m k ok => rw [h m (by simp), h k (by simp)]
 case mapUpdate t m k x => rw [h m (by simp), h k (by simp), h x (by simp)]
 case typeAssert x xt t ok => rw [h x (by simp)]
 case extract t i => rw [h t (by simp)]
 case call c =>
  have ha : evs F c.args.toList = evs G c.args.toList := A94 (fun x hx => h x (by simp [Call.operands]; exact .inr (by simpa using hx)))
  rw [ha]
  cases hc : c.callee with
  | builtin b => rfl
  | value f => simp only; rw [h f (by simp [Call.operands, hc])]
  | invoke r m => simp only; rw [h r (by simp [Call.operands, hc])]
def HGrow (H H2 : AH) : Prop := ∀ g o, H.objs.get g = some o → H2.objs.get g = some o
theorem HGrow.refl (H : AH) : HGrow H H := fun _ _ h => h
theorem HGrow.trans {H1 H2 H3 : AH} (h : HGrow H1 H2) (k : HGrow H2 H3) : HGrow H1 H3 := fun g o e => k g o (h g o e)
theorem B1p {H H2 : AH} (h : HGrow H H2) {a : Addr} {r : Row} (e : H.row? a = some r) : H2.row? a = some r := by
 obtain ⟨rs, rw, k, h1, h2, h3, h4⟩ := AH.row?_some e
 unfold AH.row?
 rw [h _ _ h1, h2]
 simp only [h3, h4, cond_true]
theorem A7b {H H2 : AH} (h : HGrow H H2) {a : Addr} {v : Value} (e : H.cell a = some v) : H2.cell a = some v := by
 unfold AH.cell at e ⊢
 cases hr : H.row? a with
 | none => rw [hr] at e; cases e
 | some r => rw [hr] at e; rw [B1p h hr]; exact e
theorem A5r {H H2 : AH} (h : HGrow H H2) {a : Addr} {n : Nat} {v : List Value} (e : H.cells a n = some v) : H2.cells a n = some v := by
 unfold AH.cells at e ⊢
 cases hr : H.row? a with
 | none => rw [hr] at e; cases e
 | some r => rw [hr] at e; rw [B1p h hr]; exact e
theorem C1x {H H2 : AH} (h : HGrow H H2) {t : TypeId} {p v : Value} (e : A2f P t H p = some v) : A2f P t H2 p = some v := by
 cases p with
 | pointer a =>
  cases a with
  | none => cases e
  | some a =>
   simp only [A2f] at e ⊢
   cases hagg : A5f P t with
   | none => rw [hagg] at e; cases e
   | some q =>
    rw [hagg] at e
    cases q with
    | false => exact A7b h e
    | true =>
     obtain ⟨n, h1, e1⟩ := Option.bind_eq_some_iff.1 e
     obtain ⟨l, h2, e2⟩ := Option.map_eq_some_iff.1 e1
     simp only [h1, Option.bind_some, A5r h h2, Option.map_some, e2]
 | _ => cases e
theorem C3b {H H2 : AH} (h : HGrow H H2) {a : Addr} {s : Nat} (e : A81 H a s = true) : A81 H2 a s = true := by
 unfold A81 at e ⊢
 cases hr : H.row? a with
 | none => rw [hr] at e; cases e
 | some r => rw [hr] at e; rw [B1p h hr]; exact e
theorem A8x {H H2 : AH} (h : HGrow H H2) {m : Value} {es : List (Value × Value)} (e : entries H m = some es) : entries H2 m = some es := by
 unfold entries at e ⊢
 split at e
 ·exact e
 ·split at e
  ·rename_i hg; simp only [h _ _ hg]; exact e
  ·cases e
 ·cases e
theorem C1l {H H2 : AH} (h : HGrow H H2) {t : TypeId} {x v : Value} {lo hi mx : Option Value} (e : A2r P t H x lo hi mx = some v) : A2r P t H2 x lo hi mx = some v := by
 unfold A2r at e ⊢
 split at e
 ·exact e
 ·exact e
 ·rename_i el a len cap hu
  obtain ⟨s, h1, e1⟩ := Option.bind_eq_some_iff.1 e
  obtain ⟨l, h2, e2⟩ := Option.bind_eq_some_iff.1 e1
  obtain ⟨hh, h3, e3⟩ := Option.bind_eq_some_iff.1 e2
  simp only [h1, h2, h3, Option.bind_some]
  split at e3
  ·obtain ⟨c, e4⟩ := A3d e3
   have c' : ∀ {p q : Bool}, (p && (q || A81 H a s)) = true → (p && (q || A81 H2 a s)) = true := by
    intro p q hx
    simp only [Bool.and_eq_true, Bool.or_eq_true] at hx ⊢
    exact ⟨hx.1, hx.2.imp id (C3b h)⟩
   rw [c' c]
   exact e4
  ·obtain ⟨m, h4, e4⟩ := Option.bind_eq_some_iff.1 e3
   obtain ⟨c, e5⟩ := A3d e4
   simp only [h4, Option.bind_some]
   have c' : ∀ {p q : Bool}, (p && A81 H a s && q) = true → (p && A81 H2 a s && q) = true := by
    intro p q hx
    simp only [Bool.and_eq_true] at hx ⊢
    exact ⟨⟨hx.1.1, C3b h hx.1.2⟩, hx.2⟩
   rw [c' c]
   exact e5
 ·cases e
theorem B65 {H H2 : AH} (h : HGrow H H2) {t : TypeId} {m k v : Value} {ok : Bool} (e : A0u P t m k ok H = some v) : A0u P t m k ok H2 = some v := by
 unfold A0u at e ⊢
 split at e
 ·obtain ⟨es, h1, e1⟩ := Option.bind_eq_some_iff.1 e
  first | (simp only [A8x h h1, Option.bind_some]; exact e1) | (simp only [*, A8x h h1, Option.bind_some]; done)
 ·cases e
theorem A9b {H H2 H' : AH} {x y : Option Value} {v : Value} (hxy : ∀ z, x = some z → y = some z) (e : quiet H x = some (v, H')) : quiet H2 y = some (v, H2) ∧ H' = H := by
 obtain ⟨h1, rfl⟩ := A4e e
 exact ⟨by unfold quiet; rw [hxy _ h1]; rfl, rfl⟩
theorem A0d {H H2 H' : AH} {x v : Value} (e : some (x, H) = some (v, H')) : some (x, H2) = some (v, H2) ∧ H' = H := by
 simp only [Option.some.injEq, Prod.mk.injEq] at e
 exact ⟨by rw [e.1], e.2.symm⟩
theorem B61 {H H2 H' : AH} (h : HGrow H H2) {s d : TypeId} {x v : Value} (e : A8h P s d x H = some (v, H')) : A8h P s d x H2 = some (v, H2) ∧ H' = H := by
 unfold A8h at e ⊢
 split at e
 ·first | exact A0d e | (simp only [*]; exact A0d e)
 ·first | exact A0d e | (simp only [*]; exact A0d e)
 ·try simp only [*]
  split at e
  ·try simp only [*]
   split at e
   ·exact A0d e
   ·rw [A8a, Bool.cond_decide] at e ⊢
    split at e
    ·cases e
    ·rename_i hn
     obtain ⟨l, h1, e1⟩ := Option.bind_eq_some_iff.1 e
     obtain ⟨bs, h2, e2⟩ := Option.map_eq_some_iff.1 e1
     simp only [Prod.mk.injEq] at e2
     rw [if_neg hn, A5r h h1]
     simp [h2, e2.1, e2.2]
  ·cases e
 ·cases e
theorem B4u {H H2 H' : AH} (h : HGrow H H2) {b : Builtin} {ts : List TypeId} {args : List Value} {v : Value} (hb : b = .len ∨ b = .cap ∨ b = .min ∨ b = .max) (e : A4a P b ts args H = some (v, H')) : A4a P b ts args H2 = some (v, H2) ∧ H' = H := by
 unfold A4a at e ⊢
 split at e
 ·simp at hb
 ·split at e
  ·first | exact A0d e | (simp only [*]; exact A0d e)
  ·first | exact A0d e | (simp only [*]; exact A0d e)
  ·obtain ⟨es, h1, e1⟩ := Option.map_eq_some_iff.1 e
   simp only [Prod.mk.injEq] at e1
   refine ⟨?_, e1.2.symm⟩
   simp only [A8x h h1, Option.map_some]
   rw [e1.1]
  ·first | exact A0d e | (simp only [*]; exact A0d e)
  ·cases e
 ·obtain ⟨c, e1⟩ := A3d e
  simp only [c, cond_true]; exact A0d e1
 ·obtain ⟨c, e1⟩ := A3d e
  simp only [c, cond_true]; exact A0d e1
 ·obtain ⟨c, e1⟩ := A3d e
  simp only [c, cond_true]; exact A0d e1
 ·obtain ⟨c, e1⟩ := A3d e
  simp only [c, cond_true]; exact A0d e1
 ·simp at hb
 ·cases e
theorem A2n {F : Fr} {H H2 H' : AH} (h : HGrow H H2) {o : Oper} {v : Value} (hE : isEff o = false) (hM : A5e o = false) (e : aop P call F H o = some (v, H')) : aop P call F H2 o = some (v, H2) ∧ H' = H := by
 unfold isEff at hE
 unfold A5e at hM
 unfold aop at e ⊢
 cases hop : o.op <;> rw [hop] at e hE hM <;> simp only at e hE hM ⊢ <;> try (cases e; done)
 all_goals try (cases hE; done)
 all_goals try (cases hM; done)
 case move x => exact A9b (fun _ z => z) e
 case assign x => exact A9b (fun _ z => z) e
 case pick c x y =>
  split at e
  ·first | exact A9b (fun _ z => z) e | (simp only [*]; exact A9b (fun _ z => z) e)
  ·first | exact A9b (fun _ z => z) e | (simp only [*]; exact A9b (fun _ z => z) e)
  ·cases e
 case build t ps => obtain ⟨z, h1, e1⟩ := Option.bind_eq_some_iff.1 e; simp only [h1, Option.bind_some]; exact A9b (fun _ z => z) e1
 case load t x => obtain ⟨z, h1, e1⟩ := Option.bind_eq_some_iff.1 e; simp only [h1, Option.bind_some]; exact A9b (fun _ z => C1x h z) e1
 case nilCheck x =>
  obtain ⟨z, h1, e1⟩ := Option.bind_eq_some_iff.1 e
  simp only [h1, Option.bind_some]
  split at e1
  ·exact A0d e1
  ·exact A0d e1
  ·cases e1
 case binOp op t x y yt =>
  obtain ⟨z, h1, e1⟩ := Option.bind_eq_some_iff.1 e
  obtain ⟨z2, h2, e2⟩ := Option.bind_eq_some_iff.1 e1
  simp only [h1, h2, Option.bind_some]; exact A9b (fun _ z => z) e2
 case unOp op t x => obtain ⟨z, h1, e1⟩ := Option.bind_eq_some_iff.1 e; simp only [h1, Option.bind_some]; exact A9b (fun _ z => z) e1
 case convert s d x => obtain ⟨z, h1, e1⟩ := Option.bind_eq_some_iff.1 e; simp only [h1, Option.bind_some]; exact B61 h e1
 case makeInterface t x =>
  obtain ⟨z, h1, e1⟩ := Option.bind_eq_some_iff.1 e
  simp only [h1, Option.bind_some]
  split at e1
  ·cases e1
  ·cases e1
  ·first | exact A0d e1 | (simp only [*]; exact A0d e1)
 case makeFunc fn fi cs =>
  obtain ⟨z, h1, e1⟩ := Option.bind_eq_some_iff.1 e
  obtain ⟨z2, h2, e2⟩ := Option.bind_eq_some_iff.1 e1
  simp only [h1, h2, Option.bind_some]; exact A0d e2
 case slice t x lo hi mx =>
  obtain ⟨z, h1, e1⟩ := Option.bind_eq_some_iff.1 e
  obtain ⟨z2, h2, e2⟩ := Option.bind_eq_some_iff.1 e1
  obtain ⟨z3, h3, e3⟩ := Option.bind_eq_some_iff.1 e2
  obtain ⟨z4, h4, e4⟩ := Option.bind_eq_some_iff.1 e3
  simp only [h1, h2, h3, h4, Option.bind_some]; exact A9b (fun _ z => C1l h z) e4
 case fieldAddr t x f => obtain ⟨z, h1, e1⟩ := Option.bind_eq_some_iff.1 e; simp only [h1, Option.bind_some]; exact A9b (fun _ z => z) e1
 case field t x f => obtain ⟨z, h1, e1⟩ := Option.bind_eq_some_iff.1 e; simp only [h1, Option.bind_some]; exact A9b (fun _ z => z) e1
 case indexAddr t x i =>
  obtain ⟨z, h1, e1⟩ := Option.bind_eq_some_iff.1 e
  obtain ⟨z2, h2, e2⟩ := Option.bind_eq_some_iff.1 e1
  simp only [h1, h2, Option.bind_some]; exact A9b (fun _ z => z) e2
 case index t x i =>
  obtain ⟨z, h1, e1⟩ := Option.bind_eq_some_iff.1 e
  obtain ⟨z2, h2, e2⟩ := Option.bind_eq_some_iff.1 e1
  simp only [h1, h2, Option.bind_some]; exact A9b (fun _ z => z) e2
 case lookup t m k ok =>
  obtain ⟨z, h1, e1⟩ := Option.bind_eq_some_iff.1 e
  obtain ⟨z2, h2, e2⟩ := Option.bind_eq_some_iff.1 e1
  simp only [h1, h2, Option.bind_some]; exact A9b (fun _ z => B65 h z) e2
 case typeAssert x xt t ok =>
  obtain ⟨z, h1, e1⟩ := Option.bind_eq_some_iff.1 e
  simp only [h1, Option.bind_some]
  split at e1
  ·obtain ⟨c, e2⟩ := A3d e1
   simp only [c, cond_true]
   split at e2
   ·cases e2
   ·cases e2
   ·first | exact A0d e2 | (simp only [*]; exact A0d e2)
  ·cases e1
 case extract t i =>
  obtain ⟨z, h1, e1⟩ := Option.bind_eq_some_iff.1 e
  simp only [h1, Option.bind_some]
  split at e1
  ·exact A9b (fun _ z => z) e1
  ·cases e1
 case call c =>
  obtain ⟨args, h1, e1⟩ := Option.bind_eq_some_iff.1 e
  simp only [h1, Option.bind_some]
  split at e1
  ·rename_i b hb
   simp only [hb] at hE ⊢
   refine B4u h ?_ e1
   split at hE <;> first | (cases hE; done) | simp
  ·rename_i f hf; simp only [hf] at hE; cases hE
  ·rename_i r m hf; simp only [hf] at hE; cases hE
end
end Go.Proofs.Sh
/- Regions whose order is open: the trace of the shadow's own order. -/
namespace Go.Proofs.Sh
open Go
def maskE (bs : List Nat) : List Edge → Nat → Nat
 | [], m => m
 | e :: es, m => maskE bs es (bif Region.binds .any e then m ||| 2 ^ e.on ||| (bs[e.on]?).getD 0 else m)
def B3a (all : Array Oper) (bs : List Nat) : Bool :=
 (List.range all.size).all fun j => match all[j]?, bs[j]? with
  | some o, some b => Nat.beq b (maskE bs o.after.toList 0) && o.after.toList.all fun e => !Region.binds .any e || Nat.blt e.on j
  | _, _ => false
def B3f (all : Array Oper) (bs : List Nat) : List Nat → Bool
 | [] => true
 | i :: l => (l.all fun j => !Nat.beq i j && match all[i]?, all[j]? with
     | some x, some y => !(isEff x || !x.apart all y) || ((bs[j]?).getD 0).testBit i
     | _, _ => false) && B3f all bs l
def A6u (ops : List Oper) : Bool :=
 let all := ops.toArray
 let bs := A6j ops
 let ord := A90 ops bs
 B3a all bs && ((List.range all.size).all fun j => ord.contains j) && B3f all bs ord && Nat.ble ord.length all.size
theorem C6f (bs : List Nat) : ∀ {es : List Edge} {m i : Nat}, (maskE bs es m).testBit i = true → m.testBit i = true ∨ ∃ e ∈ es, Region.binds .any e = true ∧ (e.on = i ∨ ((bs[e.on]?).getD 0).testBit i = true)
 | [], m, i, h => .inl h
 | e :: es, m, i, h => by
  simp only [maskE] at h
  rcases C6f bs h with h1 | ⟨e', h1, h2, h3⟩
  ·cases hb : Region.binds .any e with
   | false => rw [hb] at h1; exact .inl h1
   | true =>
    rw [hb] at h1
    simp only [cond_true, Nat.testBit_or, Bool.or_eq_true] at h1
    rcases h1 with (h1 | h1) | h1
    ·exact .inl h1
    ·exact .inr ⟨e, List.mem_cons_self, hb, .inl (by simpa [Nat.testBit_two_pow] using h1)⟩
    ·exact .inr ⟨e, List.mem_cons_self, hb, .inr h1⟩
  ·exact .inr ⟨e', List.mem_cons_of_mem _ h1, h2, h3⟩
structure St where
 i : Nat
 F : Fr
 H : AH
 v : Value
 H' : AH
 on : Bool
section
variable {P : Program} {call : A4d} {all : Array Oper} {bs : List Nat}
def A6s (all : Array Oper) (i : Nat) : Option Tmp := (all[i]?).bind (·.dst)
def Linked (all : Array Oper) : List St → Fr → AH → Fr → AH → Prop
 | [], F, H, F', H' => F' = F ∧ H' = H
 | st :: tr, F, H, F', H' => st.F = F ∧ st.H = H ∧ Linked all tr (put F (A6s all st.i) st.v) st.H' F' H'
def fs (all : Array Oper) (S : Nat → Bool) : List St → Fr → Fr
 | [], F => F
 | st :: tr, F => fs all S tr (bif S st.i then put F (A6s all st.i) st.v else F)
def StOk (P : Program) (call : A4d) (all : Array Oper) (st : St) : Prop :=
 ∃ o, all[st.i]? = some o ∧ A1m all.toList st.F o = some st.on ∧ (st.on = false → st.v = undef ∧ st.H' = st.H) ∧ (st.on = true → aop P call st.F st.H o = some (st.v, st.H'))
def B53 (all : Array Oper) (st : St) : Prop := ∃ o, all[st.i]? = some o ∧ isEff o = true ∧ st.on = true
def Pend.at_ : Pend → Nat
 | .read i _ _ => i
 | .made i _ _ => i
def C1h (P : Program) (call : A4d) (all : Array Oper) (H : AH) : Pend → Prop
 | .read i F v => ∃ o H2, all[i]? = some o ∧ aop P call F H o = some (v, H2)
 | .made i g x => H.objs.get g = some x
def C7q (P : Program) (call : A4d) (all : Array Oper) (bs : List Nat) (p : Pend) (tr : List St) : Prop :=
 ∀ l1 e l2, tr = l1 ++ e :: l2 → B53 all e → (∃ s ∈ l1 ++ [e], B53 all s ∧ ((bs[s.i]?).getD 0).testBit p.at_ = true) ∨ C1h P call all e.H' p
def A2x (all : Array Oper) (st : St) : Option Pend :=
 match all[st.i]? with
 | some o => bif isEff o || !st.on then none else bif A5e o then (st.H'.objs.get st.H.next).map (Pend.made st.i st.H.next) else bif isRead o then some (.read st.i st.F st.v) else none
 | none => none
theorem objEq_eq {x y : AObj} (h : B7a x y = true) : x = y := by
 unfold B7a at h
 split at h
 ·rename_i r a q b
  simp only [Bool.and_eq_true, beq_iff_eq] at h
  obtain ⟨h1, rfl⟩ := h
  unfold rowEq at h1
  simp only [A8a, Bool.and_eq_true, decide_eq_true_eq, beq_iff_eq] at h1
  obtain ⟨⟨⟨k1, k2⟩, k3⟩, k4⟩ := h1
  have k5 := A67 k3
  obtain ⟨rp, re, rv, ro⟩ := r
  obtain ⟨qp, qe, qv, qo⟩ := q
  simp only at k1 k2 k4 k5
  subst k1 k2 k4 k5
  rfl
 ·rfl
 ·cases h
theorem A9u {H : AH} {b : Nat} : ∀ {ps ps' : List Pend}, A5h P call all.toList H b ps = some ps' → ∀ p ∈ ps, b.testBit p.at_ = true ∨ (C1h P call all H p ∧ p ∈ ps')
 | [], ps', e, p, hp => by cases hp
 | .read i F v :: ps, ps', e, p, hp => by
  simp only [A5h] at e
  cases hb : b.testBit i with
  | true =>
   rw [hb] at e
   simp only [cond_true] at e
   rcases List.mem_cons.1 hp with rfl | hp
   ·exact .inl hb
   ·exact A9u e p hp
  | false =>
   rw [hb] at e
   simp only [cond_false] at e
   split at e
   ·rename_i o ho
    split at e
    ·rename_i v' H2 hop
     obtain ⟨c, e1⟩ := A3d e
     obtain ⟨l, hl, e2⟩ := Option.map_eq_some_iff.1 e1
     subst e2
     have := C6e c
     subst this
     rcases List.mem_cons.1 hp with rfl | hp
     ·exact .inr ⟨⟨o, H2, by simpa using ho, hop⟩, List.mem_cons_self⟩
     ·rcases A9u hl p hp with x | ⟨x, y⟩
      ·exact .inl x
      ·exact .inr ⟨x, List.mem_cons_of_mem _ y⟩
    ·cases e
   ·cases e
 | .made i g x :: ps, ps', e, p, hp => by
  simp only [A5h] at e
  cases hb : b.testBit i with
  | true =>
   rw [hb] at e
   simp only [cond_true] at e
   rcases List.mem_cons.1 hp with rfl | hp
   ·exact .inl hb
   ·exact A9u e p hp
  | false =>
   rw [hb] at e
   simp only [cond_false] at e
   split at e
   ·rename_i y hy
    obtain ⟨c, e1⟩ := A3d e
    obtain ⟨l, hl, e2⟩ := Option.map_eq_some_iff.1 e1
    subst e2
    have := objEq_eq c
    subst this
    rcases List.mem_cons.1 hp with rfl | hp
    ·exact .inr ⟨hy, List.mem_cons_self⟩
    ·rcases A9u hl p hp with x | ⟨x, y⟩
     ·exact .inl x
     ·exact .inr ⟨x, List.mem_cons_of_mem _ y⟩
   ·cases e
theorem C6g {F' : Fr} {H' : AH} : ∀ {l : List Nat} {ps : List Pend} {F : Fr} {H : AH}, A7e P call all.toList bs l ps F H = some (F', H') →
  ∃ tr : List St, tr.map (·.i) = l ∧ Linked all tr F H F' H' ∧ (∀ st ∈ tr, StOk P call all st) ∧ (∀ p ∈ ps, C7q P call all bs p tr) ∧ (∀ l1 st l2, tr = l1 ++ st :: l2 → ∀ p, A2x all st = some p → C7q P call all bs p l2)
 | [], ps, F, H, e => by
  injection e with e
  injection e with e1 e2
  exact ⟨[], rfl, ⟨e1.symm, e2.symm⟩, fun st h => (by cases h), fun p _ l1 e l2 h => (by simp at h), fun l1 st l2 h => (by simp at h)⟩
 | i :: l, ps, F, H, e => by
  simp only [A7e] at e
  split at e
  ·cases e
  ·rename_i o ho
   have ho' : all[i]? = some o := by simpa using ho
   have hdst : A6s all i = o.dst := by simp [A6s, ho']
   have step : ∀ (st : St) (ps' : List Pend), st.i = i → st.F = F → st.H = H → StOk P call all st → A7e P call all.toList bs l ps' (put F o.dst st.v) st.H' = some (F', H') →
       (∀ p ∈ ps, (B53 all st → (((bs[i]?).getD 0).testBit p.at_ = true ∨ (C1h P call all st.H' p ∧ p ∈ ps'))) ∧ (¬B53 all st → p ∈ ps')) → (∀ p, A2x all st = some p → p ∈ ps') →
       ∃ tr : List St, tr.map (·.i) = i :: l ∧ Linked all tr F H F' H' ∧ (∀ st ∈ tr, StOk P call all st) ∧ (∀ p ∈ ps, C7q P call all bs p tr) ∧ (∀ l1 st l2, tr = l1 ++ st :: l2 → ∀ p, A2x all st = some p → C7q P call all bs p l2) := by
     intro st ps' hi hF hH hok hd hps hpd
     obtain ⟨tr, t1, t2, t3, t4, t5⟩ := C6g hd
     refine ⟨st :: tr, by simp [hi, t1], ⟨hF, hH, by rw [hi, hdst]; exact t2⟩, fun s hs => ?_, fun p hp l1 e' l2 htr he => ?_, fun l1 s l2 htr p hp => ?_⟩
     · rcases List.mem_cons.1 hs with rfl | hs
       · exact hok
       · exact t3 s hs
     · cases l1 with
       | nil =>
         simp only [List.nil_append, List.cons.injEq] at htr
         obtain ⟨rfl, rfl⟩ := htr
         rcases (hps p hp).1 he with x | ⟨x, _⟩
         · exact .inl ⟨st, by simp, he, by rw [hi]; exact x⟩
         · exact .inr x
       | cons s0 l1 =>
         simp only [List.cons_append, List.cons.injEq] at htr
         obtain ⟨rfl, htr⟩ := htr
         have hin : (B53 all st ∧ ((bs[i]?).getD 0).testBit p.at_ = true) ∨ p ∈ ps' := by
           by_cases hes : B53 all st
           · rcases (hps p hp).1 hes with x | ⟨_, x⟩
             · exact .inl ⟨hes, x⟩
             · exact .inr x
           · exact .inr ((hps p hp).2 hes)
         rcases hin with ⟨x1, x2⟩ | hin
         · exact .inl ⟨st, by simp, x1, by rw [hi]; exact x2⟩
         · rcases t4 p hin l1 e' l2 htr he with ⟨s, q1, q2⟩ | q
           · refine .inl ⟨s, ?_, q2⟩
             simp only [List.cons_append, List.mem_cons]
             exact .inr q1
           · exact .inr q
     · cases l1 with
       | nil =>
         simp only [List.nil_append, List.cons.injEq] at htr
         obtain ⟨rfl, rfl⟩ := htr
         exact t4 p (hpd p hp)
       | cons s0 l1 =>
         simp only [List.cons_append, List.cons.injEq] at htr
         obtain ⟨rfl, htr⟩ := htr
         exact t5 l1 s l2 htr p hp
   split at e
   ·cases e
   ·rename_i hw
    refine step ⟨i, F, H, undef, H, false⟩ ps rfl rfl rfl ⟨o, ho', hw, fun _ => ⟨rfl, rfl⟩, fun h => (by cases h)⟩ e (fun p hp => ⟨fun he => ?_, fun _ => hp⟩) (fun p hp => ?_)
    ·obtain ⟨o', _, _, h3⟩ := he; cases h3
    ·simp [A2x, ho'] at hp
   ·rename_i hw
    split at e
    ·cases e
    ·rename_i v H1 hop
     have hok : StOk P call all ⟨i, F, H, v, H1, true⟩ := ⟨o, ho', hw, fun h => (by cases h), fun _ => hop⟩
     cases hx : isEff o with
     | true =>
      rw [hx] at e
      simp only [cond_true] at e
      split at e
      ·rename_i ps' hre
       refine step ⟨i, F, H, v, H1, true⟩ ps' rfl rfl rfl hok e (fun p hp => ⟨fun _ => A9u hre p hp, fun hne => absurd ⟨o, ho', hx, rfl⟩ hne⟩) (fun p hp => ?_)
       simp [A2x, ho', hx] at hp
      ·cases e
     | false =>
      have hnE : ¬ B53 all ⟨i, F, H, v, H1, true⟩ := by
       rintro ⟨o', h1, h2, _⟩
       rw [ho'] at h1
       injection h1 with h1
       subst h1
       rw [hx] at h2; cases h2
      rw [hx] at e
      simp only [cond_false] at e
      cases hy : A5e o with
      | true =>
       rw [hy] at e
       simp only [cond_true] at e
       split at e
       ·rename_i x hxx
        refine step ⟨i, F, H, v, H1, true⟩ (.made i H.next x :: ps) rfl rfl rfl hok e (fun p hp => ⟨fun he => absurd he hnE, fun _ => List.mem_cons_of_mem _ hp⟩) (fun p hp => ?_)
        simp [A2x, ho', hx, hy, hxx] at hp
        subst hp
        exact List.mem_cons_self
       ·cases e
      | false =>
       rw [hy] at e
       simp only [cond_false] at e
       cases hz : isRead o with
       | true =>
        rw [hz] at e
        simp only [cond_true] at e
        refine step ⟨i, F, H, v, H1, true⟩ (.read i F v :: ps) rfl rfl rfl hok e (fun p hp => ⟨fun he => absurd he hnE, fun _ => List.mem_cons_of_mem _ hp⟩) (fun p hp => ?_)
        simp [A2x, ho', hx, hy, hz] at hp
        subst hp
        exact List.mem_cons_self
       | false =>
        rw [hz] at e
        simp only [cond_false] at e
        refine step ⟨i, F, H, v, H1, true⟩ ps rfl rfl rfl hok e (fun p hp => ⟨fun he => absurd he hnE, fun _ => hp⟩) (fun p hp => ?_)
        simp [A2x, ho', hx, hy, hz] at hp
end
end Go.Proofs.Sh
/- Regions whose order is open: every order does what the shadow's does. -/
namespace Go.Proofs.Sh
open Go
section
variable {P : Program} {call : A4d} {all : Array Oper} {bs : List Nat}
theorem A9k {F : Fr} {H H' : AH} {o : Oper} {v : Value} (hm : A5e o = true) (e : aop P call F H o = some (v, H')) : ∃ x, H' = (H.push x).2 := by
 have hnew : ∀ {t : TypeId} {x p : Value} {H' : AH}, anew P t H x = some (p, H') → ∃ x, H' = (H.push x).2 := by
  intro t x p H' e
  unfold anew at e
  obtain ⟨n, hsz, e⟩ := Option.bind_eq_some_iff.1 e
  obtain ⟨c, e1⟩ := A3d e
  simp only [Option.some.injEq, Prod.mk.injEq] at e1
  exact ⟨_, e1.2.symm⟩
 unfold aop at e
 unfold A5e at hm
 cases hop : o.op <;> rw [hop] at e hm <;> simp only at e hm ⊢ <;> try (cases hm; done)
 case alloc t =>
  obtain ⟨z, hz, e1⟩ := Option.bind_eq_some_iff.1 e
  exact hnew e1
 case box t x =>
  obtain ⟨z, hz, e1⟩ := Option.bind_eq_some_iff.1 e
  exact hnew e1
 case buildSlice t n ps =>
  obtain ⟨vs, hvs, e1⟩ := Option.bind_eq_some_iff.1 e
  unfold A5a at e1
  split at e1
  ·obtain ⟨s, h1, e2⟩ := Option.bind_eq_some_iff.1 e1
   obtain ⟨z, h2, e3⟩ := Option.bind_eq_some_iff.1 e2
   obtain ⟨c, e4⟩ := A3d e3
   obtain ⟨l, h3, e5⟩ := Option.map_eq_some_iff.1 e4
   simp only [Prod.mk.injEq] at e5
   exact ⟨_, e5.2.symm⟩
  ·cases e1
 case makeSlice t l c =>
  obtain ⟨p, hp, e1⟩ := Option.bind_eq_some_iff.1 e
  obtain ⟨q, hq, e2⟩ := Option.bind_eq_some_iff.1 e1
  unfold A6f at e2
  split at e2
  ·obtain ⟨s, h1, e3⟩ := Option.bind_eq_some_iff.1 e2
   obtain ⟨z, h2, e4⟩ := Option.bind_eq_some_iff.1 e3
   obtain ⟨c, e5⟩ := A3d e4
   simp only [Option.some.injEq, Prod.mk.injEq] at e5
   exact ⟨_, e5.2.symm⟩
  ·cases e2
 case makeMap t r =>
  cases r with
  | some r => cases e
  | none =>
   simp only [Option.some.injEq, Prod.mk.injEq] at e
   exact ⟨_, e.2.symm⟩
theorem pure_any {F : Fr} {H H2 H' : AH} {o : Oper} {v : Value} (hE : isEff o = false) (hM : A5e o = false) (hR : isRead o = false) (e : aop P call F H o = some (v, H')) : aop P call F H2 o = some (v, H2) := by
 unfold isEff at hE
 unfold A5e at hM
 unfold isRead at hR
 unfold aop at e ⊢
 cases hop : o.op <;> rw [hop] at e hE hM hR <;> simp only at e hE hM hR ⊢ <;> try (cases e; done)
 all_goals try (cases hE; done)
 all_goals try (cases hM; done)
 all_goals try (cases hR; done)
 case move x => exact (A9b (fun _ z => z) e).1
 case assign x => exact (A9b (fun _ z => z) e).1
 case pick c x y =>
  split at e
  ·first | exact (A9b (fun _ z => z) e).1 | (simp only [*]; exact (A9b (fun _ z => z) e).1)
  ·first | exact (A9b (fun _ z => z) e).1 | (simp only [*]; exact (A9b (fun _ z => z) e).1)
  ·cases e
 case build t ps => obtain ⟨z, h1, e1⟩ := Option.bind_eq_some_iff.1 e; simp only [h1, Option.bind_some]; exact (A9b (fun _ z => z) e1).1
 case nilCheck x =>
  obtain ⟨z, h1, e1⟩ := Option.bind_eq_some_iff.1 e
  simp only [h1, Option.bind_some]
  split at e1
  ·exact (A0d e1).1
  ·exact (A0d e1).1
  ·cases e1
 case binOp op t x y yt =>
  obtain ⟨z, h1, e1⟩ := Option.bind_eq_some_iff.1 e
  obtain ⟨z2, h2, e2⟩ := Option.bind_eq_some_iff.1 e1
  simp only [h1, h2, Option.bind_some]; exact (A9b (fun _ z => z) e2).1
 case unOp op t x => obtain ⟨z, h1, e1⟩ := Option.bind_eq_some_iff.1 e; simp only [h1, Option.bind_some]; exact (A9b (fun _ z => z) e1).1
 case makeInterface t x =>
  obtain ⟨z, h1, e1⟩ := Option.bind_eq_some_iff.1 e
  simp only [h1, Option.bind_some]
  split at e1
  ·cases e1
  ·cases e1
  ·first | exact (A0d e1).1 | (simp only [*]; exact (A0d e1).1)
 case makeFunc fn fi cs =>
  obtain ⟨z, h1, e1⟩ := Option.bind_eq_some_iff.1 e
  obtain ⟨z2, h2, e2⟩ := Option.bind_eq_some_iff.1 e1
  simp only [h1, h2, Option.bind_some]; exact (A0d e2).1
 case fieldAddr t x f => obtain ⟨z, h1, e1⟩ := Option.bind_eq_some_iff.1 e; simp only [h1, Option.bind_some]; exact (A9b (fun _ z => z) e1).1
 case field t x f => obtain ⟨z, h1, e1⟩ := Option.bind_eq_some_iff.1 e; simp only [h1, Option.bind_some]; exact (A9b (fun _ z => z) e1).1
 case indexAddr t x i =>
  obtain ⟨z, h1, e1⟩ := Option.bind_eq_some_iff.1 e
  obtain ⟨z2, h2, e2⟩ := Option.bind_eq_some_iff.1 e1
  simp only [h1, h2, Option.bind_some]; exact (A9b (fun _ z => z) e2).1
 case index t x i =>
  obtain ⟨z, h1, e1⟩ := Option.bind_eq_some_iff.1 e
  obtain ⟨z2, h2, e2⟩ := Option.bind_eq_some_iff.1 e1
  simp only [h1, h2, Option.bind_some]; exact (A9b (fun _ z => z) e2).1
 case typeAssert x xt t ok =>
  obtain ⟨z, h1, e1⟩ := Option.bind_eq_some_iff.1 e
  simp only [h1, Option.bind_some]
  split at e1
  ·obtain ⟨c, e2⟩ := A3d e1
   simp only [c, cond_true]
   split at e2
   ·cases e2
   ·cases e2
   ·first | exact (A0d e2).1 | (simp only [*]; exact (A0d e2).1)
  ·cases e1
 case extract t i =>
  obtain ⟨z, h1, e1⟩ := Option.bind_eq_some_iff.1 e
  simp only [h1, Option.bind_some]
  split at e1
  ·exact (A9b (fun _ z => z) e1).1
  ·cases e1
theorem A8q (F : Fr) (d : Option Tmp) (v : Value) (t : Nat) : (put F d v).get t = if d = some t then some v else F.get t := by
 cases d with
 | none => simp [put]
 | some d =>
  simp only [put]
  rw [Tr.get_set]
  by_cases h : t = d
  ·subst h; simp
  ·rw [if_neg h, if_neg (by intro e; injection e with e; exact h e.symm)]
theorem A7w {S S' : Nat → Bool} {t : Nat} : ∀ {l : List St} {F G : Fr}, (∀ st ∈ l, A6s all st.i = some t → S st.i = S' st.i) → F.get t = G.get t → (fs all S l F).get t = (fs all S' l G).get t
 | [], F, G, _, h => h
 | st :: l, F, G, hs, h => by
  simp only [fs]
  refine A7w (fun s hs' => hs s (List.mem_cons_of_mem _ hs')) ?_
  by_cases hd : A6s all st.i = some t
  ·rw [hs st List.mem_cons_self hd]
   cases S' st.i
   ·exact h
   ·simp only [cond_true, A8q, hd, if_true]
  ·have h0 : ∀ (b : Bool) (F : Fr), (bif b then put F (A6s all st.i) st.v else F).get t = F.get t := by
     intro b F
     cases b
     · rfl
     · simp only [cond_true, A8q, if_neg hd]
   rw [h0, h0]
   exact h
theorem A35 {S : Nat → Bool} : ∀ {l1 l2 : List St} {F : Fr}, fs all S (l1 ++ l2) F = fs all S l2 (fs all S l1 F)
 | [], l2, F => rfl
 | st :: l1, l2, F => by simp only [List.cons_append, fs]; exact A35
theorem B4q {S : Nat → Bool} : ∀ {l : List St} {F : Fr}, (∀ st ∈ l, S st.i = false) → fs all S l F = F
 | [], F, _ => rfl
 | st :: l, F, h => by
  simp only [fs]
  rw [h st List.mem_cons_self]
  exact B4q (fun s hs => h s (List.mem_cons_of_mem _ hs))
def yes : Nat → Bool := fun _ => true
theorem B0e : ∀ {l1 l2 : List St} {st : St} {F : Fr} {H : AH} {F' : Fr} {H' : AH}, Linked all (l1 ++ st :: l2) F H F' H' → st.F = fs all yes l1 F ∧ Linked all l2 (put st.F (A6s all st.i) st.v) st.H' F' H'
 | [], l2, st, F, H, F', H', h => by
  obtain ⟨h1, h2, h3⟩ := h
  exact ⟨h1, by rw [h1]; exact h3⟩
 | s :: l1, l2, st, F, H, F', H', h => by
  obtain ⟨h1, h2, h3⟩ := h
  have := B0e (l1 := l1) h3
  exact this
theorem B1l : ∀ {l : List St} {F : Fr} {H : AH} {F' : Fr} {H' : AH}, Linked all l F H F' H' → F' = fs all yes l F
 | [], F, H, F', H', h => h.1
 | s :: l, F, H, F', H', h => by
  obtain ⟨h1, h2, h3⟩ := h
  have := B1l (l := l) h3
  exact this
def Bf (bs : List Nat) (j i : Nat) : Prop := ((bs[j]?).getD 0).testBit i = true
def EffO (all : Array Oper) (i : Nat) : Prop := ∃ o, all[i]? = some o ∧ isEff o = true
def Looks (all : Array Oper) (i t : Nat) : Prop := ∃ o, all[i]? = some o ∧ t ∈ o.looksAt all
structure Ords (all : Array Oper) (bs : List Nat) (tr : List St) : Prop where
 ne : ∀ l1 st l2, tr = l1 ++ st :: l2 → ∀ s ∈ l2, st.i ≠ s.i
 eff : ∀ l1 st l2, tr = l1 ++ st :: l2 → ∀ s ∈ l2, EffO all st.i → Bf bs s.i st.i
 ww : ∀ l1 st l2, tr = l1 ++ st :: l2 → ∀ s ∈ l2, ∀ t, A6s all st.i = some t → A6s all s.i = some t → Bf bs s.i st.i
 wl : ∀ l1 st l2, tr = l1 ++ st :: l2 → ∀ s ∈ l2, ∀ t, A6s all st.i = some t → Looks all s.i t → Bf bs s.i st.i
 lw : ∀ l1 st l2, tr = l1 ++ st :: l2 → ∀ s ∈ l2, ∀ t, Looks all st.i t → A6s all s.i = some t → Bf bs s.i st.i
theorem B5k : ∀ {l : List Nat}, B3f all bs l = true → ∀ l1 i l2, l = l1 ++ i :: l2 → ∀ j ∈ l2, i ≠ j ∧ ∃ x y, all[i]? = some x ∧ all[j]? = some y ∧ ((isEff x = true ∨ x.apart all y = false) → Bf bs j i)
 | [], _, l1, i, l2, h => by simp at h
 | k :: l, e, l1, i, l2, h => by
  simp only [B3f, Bool.and_eq_true] at e
  cases l1 with
  | nil =>
   simp only [List.nil_append, List.cons.injEq] at h
   obtain ⟨rfl, rfl⟩ := h
   intro j hj
   have := List.all_eq_true.1 e.1 j hj
   simp only [Bool.and_eq_true, Bool.not_eq_true'] at this
   obtain ⟨h1, h2⟩ := this
   refine ⟨fun hh => ?_, ?_⟩
   ·subst hh
    simp [] at h1
   ·split at h2
    ·rename_i x y hx hy
     refine ⟨x, y, hx, hy, fun hh => ?_⟩
     rcases hh with hh | hh
     ·rw [hh] at h2; simpa [Bf] using h2
     ·rw [hh] at h2; simpa [Bf] using h2
    ·cases h2
  | cons k' l1 =>
   simp only [List.cons_append, List.cons.injEq] at h
   exact B5k e.2 l1 i l2 h.2
theorem B2d {x y : Oper} : (∃ d, x.dst = some d ∧ d ∈ y.looksAt all) ∨ (∃ d, x.dst = some d ∧ y.dst = some d) ∨ (∃ d, y.dst = some d ∧ d ∈ x.looksAt all) → x.apart all y = false := by
 intro h
 cases ha : x.apart all y with
 | false => rfl
 | true =>
  obtain ⟨h1, h2, h3⟩ := Oper.apart_spec ha
  rcases h with ⟨d, k1, k2⟩ | ⟨d, k1, k2⟩ | ⟨d, k1, k2⟩
  ·exact absurd k2 (h1 d k1)
  ·exact absurd k2 (h2 d k1)
  ·exact absurd k2 (h3 d k1)
theorem ords_of {tr : List St} (h : B3f all bs (tr.map (·.i)) = true) : Ords all bs tr := by
 have key : ∀ l1 st l2, tr = l1 ++ st :: l2 → ∀ s ∈ l2, st.i ≠ s.i ∧ ∃ x y, all[st.i]? = some x ∧ all[s.i]? = some y ∧ ((isEff x = true ∨ x.apart all y = false) → Bf bs s.i st.i) := by
  intro l1 st l2 e s hs
  exact B5k h (l1.map (·.i)) st.i (l2.map (·.i)) (by rw [e]; simp) s.i (List.mem_map_of_mem hs)
 refine ⟨fun l1 st l2 e s hs => (key l1 st l2 e s hs).1, fun l1 st l2 e s hs he => ?_, fun l1 st l2 e s hs t h1 h2 => ?_, fun l1 st l2 e s hs t h1 h2 => ?_, fun l1 st l2 e s hs t h1 h2 => ?_⟩ <;> obtain ⟨_, x, y, hx, hy, hb⟩ := key l1 st l2 e s hs
 ·obtain ⟨o, k1, k2⟩ := he
  rw [hx] at k1; injection k1 with k1; subst k1
  exact hb (.inl k2)
 ·simp only [A6s, hx, hy, Option.bind_some] at h1 h2
  exact hb (.inr (B2d (.inr (.inl ⟨t, h1, h2⟩))))
 ·obtain ⟨o, k1, k2⟩ := h2
  rw [hy] at k1; injection k1 with k1; subst k1
  simp only [A6s, hx, Option.bind_some] at h1
  exact hb (.inr (B2d (.inl ⟨t, h1, k2⟩)))
 ·obtain ⟨o, k1, k2⟩ := h1
  rw [hx] at k1; injection k1 with k1; subst k1
  simp only [A6s, hy, Option.bind_some] at h2
  exact hb (.inr (B2d (.inr (.inr ⟨t, h2, k2⟩))))
def Closed (bs : List Nat) (S : Nat → Bool) : Prop := ∀ j i, S j = true → Bf bs j i → S i = true
theorem A71 (h : B3a all bs = true) {j : Nat} {o : Oper} (ho : all[j]? = some o) : (∀ i, Bf bs j i → ∃ e ∈ o.after, Region.binds .any e = true ∧ (e.on = i ∨ Bf bs e.on i)) ∧ ∀ e ∈ o.after, Region.binds .any e = true → e.on < j := by
 have hj : j < all.size := (Array.getElem?_eq_some_iff.1 ho).1
 have := List.all_eq_true.1 h j (List.mem_range.2 hj)
 rw [ho] at this
 split at this
 ·rename_i o' b h1 h2
  injection h1 with h1
  subst h1
  simp only [Bool.and_eq_true, List.all_eq_true, Bool.or_eq_true, Bool.not_eq_true'] at this
  obtain ⟨k1, k2⟩ := this
  have hb := Nat.eq_of_beq_eq_true k1
  refine ⟨fun i hi => ?_, fun e he hbn => ?_⟩
  ·unfold Bf at hi
   rw [h2, Option.getD_some, hb] at hi
   rcases C6f bs hi with x | ⟨e, x1, x2, x3⟩
   ·simp at x
   ·exact ⟨e, by simpa using x1, x2, x3⟩
  ·rcases k2 e (by simpa using he) with x | x
   ·rw [hbn] at x; cases x
   ·rw [A3i] at x; simpa using x
 ·cases this
def also (S : Nat → Bool) (i : Nat) : Nat → Bool := fun j => S j || decide (j = i)
theorem A4q (S : Nat → Bool) (i : Nat) : also S i i = true := by simp [also]
theorem A2u (S : Nat → Bool) {i j : Nat} (h : j ≠ i) : also S i j = S j := by simp [also, h]
theorem A06 {S : Nat → Bool} {i j : Nat} (h : S j = true) : also S i j = true := by simp [also, h]
theorem B68 (hc : B3a all bs = true) {S : Nat → Bool} (hS : Closed bs S) {i : Nat} {o : Oper} (ho : all[i]? = some o) (hr : ∀ e ∈ o.after, Region.binds .any e = true → S e.on = true) : Closed bs (also S i) ∧ ∀ k, Bf bs i k → S k = true := by
 have hk : ∀ k, Bf bs i k → S k = true := by
  intro k hk
  obtain ⟨e, h1, h2, h3⟩ := (A71 hc ho).1 k hk
  rcases h3 with h3 | h3
  ·rw [← h3]; exact hr e h1 h2
  ·exact hS e.on k (hr e h1 h2) h3
 refine ⟨fun j k hj hb => ?_, hk⟩
 by_cases h : j = i
 ·subst h; exact A06 (hk k hb)
 ·rw [A2u S h] at hj
  exact A06 (hS j k hj hb)
theorem B95 {F G : Fr} {o : Oper} (h : ∀ t ∈ o.looksAt all, F.get t = G.get t) : A1m all.toList F o = A1m all.toList G o := by
 unfold A1m
 cases hg : o.guard with
 | none => rfl
 | some g =>
  obtain ⟨j, want⟩ := g
  simp only
  cases hd : (all.toList[j]?).bind (·.dst) with
  | none => rfl
  | some t =>
   have : F.get t = G.get t := by
    refine h t ?_
    unfold Oper.looksAt
    rw [hg]
    have hd' : (all[j]?).bind (·.dst) = some t := by simpa using hd
    simp [hd']
   simp only [Option.bind_some, this]
theorem B3g {F G : Fr} {H : AH} {o : Oper} (h : ∀ t ∈ o.looksAt all, F.get t = G.get t) : aop P call F H o = aop P call G H o := by
 refine B30 (fun x hx => ?_)
 cases x with
 | tmp t =>
  simp only [ev]
  refine h t ?_
  unfold Oper.looksAt
  simp only [List.mem_append, List.mem_filterMap]
  exact .inl ⟨.tmp t, hx, rfl⟩
 | _ => rfl
end
end Go.Proofs.Sh
/- Regions whose order is open: every order does what the shadow's does. -/
namespace Go.Proofs.Sh
open Go
section
variable {P : Program} {call : A4d} {all : Array Oper} {bs : List Nat} {B : Nat}
def Good (P : Program) (call : A4d) (all : Array Oper) (s : St) (H : AH) : Prop :=
 ∃ o, all[s.i]? = some o ∧ aop P call s.F s.H o = some (s.v, s.H') ∧ isEff o = false ∧ (A5e o = true → H.objs.get s.H.next = s.H'.objs.get s.H.next) ∧ (A5e o = false → aop P call s.F H o = some (s.v, H))
def B5s (all : Array Oper) (i : Nat) : Prop := ∃ o, all[i]? = some o ∧ A5e o = true
theorem C2y {ρ : Map} {H : AH} {w : World} (h : HRel B ρ H w) (x : AObj) : HGrow H (H.push x).2 := by
 intro g o hg
 show (H.objs.set H.next x).get g = some o
 rw [Tr.get_set, if_neg]
 ·exact hg
 ·rintro rfl
  rw [h.get_next] at hg; cases hg
theorem A2q (H : AH) (x : AObj) : (H.push x).2.objs.get H.next = some x := Tr.get_set_eq _ _ _
theorem C8f (H : AH) (x : AObj) : (H.push x).2.next = H.next + 1 := rfl
theorem B45 {F' : Fr} {H' : AH} {ρ : Map} {w : World} : ∀ {rest : List St} {F : Fr} {H : AH}, Linked all rest F H F' H' → (∀ s ∈ rest, StOk P call all s) → HRel B ρ H w →
  ∃ m1 m2 Fm Hm, rest = m1 ++ m2 ∧ Linked all m2 Fm Hm F' H' ∧ (∀ s ∈ m1, ¬EffO all s.i) ∧ (m2 = [] ∨ ∃ e l, m2 = e :: l ∧ EffO all e.i) ∧ HRel B ρ Hm w ∧ HGrow H Hm ∧ H.next ≤ Hm.next ∧
   (∀ s ∈ m1, (s.on = true → Good P call all s Hm) ∧ H.next ≤ s.H.next ∧ s.H'.next ≤ Hm.next ∧ (∀ k, ρ s.H.next k = none))
 | [], F, H, hl, hok, hH => ⟨[], [], F, H, rfl, hl, fun _ h => (by cases h), .inl rfl, hH, HGrow.refl H, Nat.le_refl _, fun _ h => (by cases h)⟩
 | s :: rest, F, H, hl, hok, hH => by
  obtain ⟨o, ho, hw, hoff, hon⟩ := hok s List.mem_cons_self
  cases hE : isEff o with
  | true => exact ⟨[], s :: rest, F, H, rfl, hl, fun _ h => (by cases h), .inr ⟨s, rest, rfl, o, ho, hE⟩, hH, HGrow.refl H, Nat.le_refl _, fun _ h => (by cases h)⟩
  | false =>
   obtain ⟨hF, hHs, hl'⟩ := hl
   have hnE : ¬EffO all s.i := by
    rintro ⟨o', k1, k2⟩
    rw [ho] at k1; injection k1 with k1; subst k1
    rw [hE] at k2; cases k2
   have hnone : ∀ k, ρ s.H.next k = none := fun k => by rw [hHs]; exact hH.none_new k
   have hstep : HRel B ρ s.H' w ∧ HGrow H s.H' ∧ H.next ≤ s.H'.next ∧ (s.on = true → ∀ Hm, HGrow s.H' Hm → Good P call all s Hm) := by
    cases hon' : s.on with
    | false =>
     obtain ⟨_, h2⟩ := hoff hon'
     rw [h2, hHs]
     exact ⟨hH, HGrow.refl H, Nat.le_refl _, fun h => by cases h⟩
    | true =>
     have hop := hon hon'
     cases hM : A5e o with
     | true =>
      obtain ⟨x, hx⟩ := A9k hM hop
      rw [hx, hHs]
      refine ⟨hH.reg x, C2y hH x, Nat.le_succ _, fun _ Hm hg => ⟨o, ho, hop, hE, fun _ => ?_, fun h => by rw [hM] at h; cases h⟩⟩
      rw [hx, hHs, A2q]
      exact hg _ _ (A2q H x)
     | false =>
      have hsame := (A2n (HGrow.refl s.H) hE hM hop).2
      rw [hsame, hHs]
      refine ⟨hH, HGrow.refl H, Nat.le_refl _, fun _ Hm hg => ⟨o, ho, hop, hE, (fun h => by rw [hM] at h; cases h), fun _ => ?_⟩⟩
      exact (A2n (by rw [hHs]; exact hg) hE hM hop).1
   obtain ⟨h1, h2, h3, h4⟩ := hstep
   obtain ⟨m1, m2, Fm, Hm, g1, g2, g3, g4, g5, g6, g7, g8⟩ := B45 hl' (fun z hz => hok z (List.mem_cons_of_mem _ hz)) h1
   refine ⟨s :: m1, m2, Fm, Hm, by rw [g1]; rfl, g2, ?_, g4, g5, h2.trans g6, Nat.le_trans h3 g7, ?_⟩
   ·intro z hz
    rcases List.mem_cons.1 hz with rfl | hz
    ·exact hnE
    ·exact g3 z hz
   ·intro z hz
    rcases List.mem_cons.1 hz with rfl | hz
    ·exact ⟨fun hh => h4 hh Hm g6, by rw [hHs]; exact Nat.le_refl _, g7, hnone⟩
    ·obtain ⟨k1, k2, k3, k4⟩ := g8 z hz
     exact ⟨k1, Nat.le_trans h3 k2, k3, k4⟩
structure Inv (P : Program) (call : A4d) (all : Array Oper) (bs : List Nat) (nt : Nat) (tr : List St) (F0 F' : Fr) (H0 H' : AH) (B : Nat) (ρ0 : Map) (w0 : World) (S : Nat → Bool) (a : Act) (w : World) : Prop where
 all : ∃ (t1 t2 : List St) (Fm : Fr) (Hc : AH) (ρ : Map), tr = t1 ++ t2 ∧ (∀ s ∈ t2, S s.i = false) ∧ (∀ s ∈ t1, EffO all s.i → S s.i = true) ∧ (t2 = [] ∨ ∃ e l, t2 = e :: l ∧ EffO all e.i) ∧
  Linked all t2 Fm Hc F' H' ∧ HRel B ρ Hc w ∧ Trans B H0.next ρ0 w0 ρ w ∧ FRel ρ (fs all S tr F0) a ∧
  (∀ s ∈ t1, H0.next ≤ s.H.next ∧ s.H'.next ≤ Hc.next ∧ (S s.i = false → s.on = true → Good P call all s Hc ∧ (B5s all s.i → ∀ k, ρ s.H.next k = none)))
 closed : Closed bs S
 size : a.tmps.size = nt
 defers : a.defers = []
structure Fix (P : Program) (call : A4d) (all : Array Oper) (bs : List Nat) (nt : Nat) (tr : List St) (F0 F' : Fr) (H0 H' : AH) : Prop where
 linked : Linked all tr F0 H0 F' H'
 ok : ∀ st ∈ tr, StOk P call all st
 pend : ∀ l1 st l2, tr = l1 ++ st :: l2 → ∀ p, A2x all st = some p → C7q P call all bs p l2
 ords : Ords all bs tr
 closed : B3a all bs = true
 full : ∀ j, j < all.size → ∃ st ∈ tr, st.i = j
 dst : ∀ o ∈ all.toList, C9j nt o = true
section
variable {nt : Nat} {tr : List St} {F0 F' : Fr} {H0 H' : AH}
theorem Fix.dstLt (X : Fix P call all bs nt tr F0 F' H0 H') {i : Nat} {o : Oper} (ho : all[i]? = some o) {t : Nat} (ht : o.dst = some t) : t < nt := by
 have hm : o ∈ all.toList := by
  have := (Array.getElem?_eq_some_iff.1 ho)
  obtain ⟨h1, h2⟩ := this
  rw [← h2]; simp
 have := X.dst o hm
 unfold C9j at this
 rw [ht] at this
 simpa [A3i] using this
theorem Fix.sees (X : Fix P call all bs nt tr F0 F' H0 H') {S : Nat → Bool} (hS : Closed bs S) {l1 l2 : List St} {st : St} (htr : tr = l1 ++ st :: l2) (hun : S st.i = false) (hbef : ∀ k, Bf bs st.i k → S k = true) {o : Oper} (ho : all[st.i]? = some o) :
  ∀ t ∈ o.looksAt all, st.F.get t = (fs all S tr F0).get t := by
 intro t ht
 have hlinked := X.linked
 rw [htr] at hlinked
 rw [(B0e hlinked).1, htr, A35]
 have h1 : (fs all S (st :: l2) (fs all S l1 F0)).get t = (fs all S l1 F0).get t := by
  have : fs all S (st :: l2) (fs all S l1 F0) = fs all S l2 (fs all S l1 F0) := by simp only [fs, hun, cond_false]
  rw [this]
  have hno : (fs all (fun _ => false) l2 (fs all S l1 F0)) = fs all S l1 F0 := B4q (fun _ _ => rfl)
  conv => rhs; rw [← hno]
  refine A7w (fun s hs hd => ?_) rfl
  cases hh : S s.i with
  | false => rfl
  | true =>
   have := hS _ _ hh (X.ords.lw l1 st l2 htr s hs t ⟨o, ho, ht⟩ hd)
   rw [hun] at this; cases this
 rw [h1]
 refine A7w (fun s hs hd => ?_) rfl
 obtain ⟨m1, m2, rfl⟩ := List.append_of_mem hs
 have : Bf bs st.i s.i := X.ords.wl m1 s (m2 ++ st :: l2) (by rw [htr]; simp) st (by simp) t hd ⟨o, ho, ht⟩
 rw [hbef _ this]
 rfl
theorem Fix.slots (X : Fix P call all bs nt tr F0 F' H0 H') {S : Nat → Bool} (hS : Closed bs S) {l1 l2 : List St} {st : St} (htr : tr = l1 ++ st :: l2) (hun : S st.i = false) (t : Nat) :
  (fs all (also S st.i) tr F0).get t = (put (fs all S tr F0) (A6s all st.i) st.v).get t := by
 have hne1 : ∀ s ∈ l1, s.i ≠ st.i := by
  intro s hs
  obtain ⟨m1, m2, rfl⟩ := List.append_of_mem hs
  exact X.ords.ne m1 s (m2 ++ st :: l2) (by rw [htr]; simp) st (by simp)
 have hne2 : ∀ s ∈ l2, s.i ≠ st.i := fun s hs h => X.ords.ne l1 st l2 htr s hs h.symm
 have e1 : fs all (also S st.i) tr F0 = fs all (also S st.i) l2 (put (fs all (also S st.i) l1 F0) (A6s all st.i) st.v) := by
  rw [htr, A35]; simp only [fs, A4q, cond_true]
 have e2 : fs all S tr F0 = fs all S l2 (fs all S l1 F0) := by rw [htr, A35]; simp only [fs, hun, cond_false]
 rw [e1, e2, A8q]
 by_cases hd : A6s all st.i = some t
 ·rw [if_pos hd]
  have hno : (fs all (fun _ => false) l2 (put (fs all (also S st.i) l1 F0) (A6s all st.i) st.v)).get t = some st.v := by
   rw [B4q (fun _ _ => rfl), A8q, if_pos hd]
  rw [← hno]
  refine A7w (fun s hs hd2 => ?_) rfl
  rw [A2u S (hne2 s hs)]
  cases hh : S s.i with
  | false => rfl
  | true =>
   have := hS _ _ hh (X.ords.ww l1 st l2 htr s hs t hd hd2)
   rw [hun] at this; cases this
 ·rw [if_neg hd]
  refine A7w (fun s hs _ => A2u S (hne2 s hs)) ?_
  rw [A8q, if_neg hd]
  exact A7w (fun s hs _ => A2u S (hne1 s hs)) rfl
theorem FRel.same {ρ : Map} {F G : Fr} {a : Act} (h : FRel ρ F a) (e : ∀ t, G.get t = F.get t) : FRel ρ G a := fun t v hv => h t v (by rw [← e]; exact hv)
theorem B16 {l : List St} {F : Fr} {H : AH} (hmono : ∀ s ∈ l, s.H.next ≤ s.H'.next) : Linked all l F H F' H' → H.next ≤ H'.next := by
 induction l generalizing F H with
 | nil => intro h; rw [h.2]; exact Nat.le_refl _
 | cons s l ih =>
  intro h
  obtain ⟨h1, h2, h3⟩ := h
  have := ih (fun z hz => hmono z (List.mem_cons_of_mem _ hz)) h3
  have h4 := hmono s List.mem_cons_self
  rw [h2] at h4
  omega
theorem B52 {l1 l2 : List St} {st : St} {F : Fr} {H : AH} (hmono : ∀ s ∈ l2, s.H.next ≤ s.H'.next) (h : Linked all (l1 ++ st :: l2) F H F' H') : ∀ s ∈ l2, st.H'.next ≤ s.H.next := by
 have h2 := (B0e h).2
 revert h2
 generalize put st.F (A6s all st.i) st.v = G
 generalize st.H' = K
 clear h
 induction l2 generalizing G K with
 | nil => intro _ s hs; cases hs
 | cons z l2 ih =>
  intro h s hs
  obtain ⟨k1, k2, k3⟩ := h
  rcases List.mem_cons.1 hs with rfl | hs
  ·rw [k2]; exact Nat.le_refl _
  ·have := ih (fun y hy => hmono y (List.mem_cons_of_mem _ hy)) _ _ k3 s hs
   have h4 := hmono z List.mem_cons_self
   rw [k2] at h4
   omega
theorem Fix.mono (X : Fix P call all bs nt tr F0 F' H0 H') (hn : A7m call) : ∀ s ∈ tr, s.H.next ≤ s.H'.next := by
 intro s hs
 obtain ⟨o, ho, hw, hoff, hon⟩ := X.ok s hs
 cases h : s.on with
 | false => rw [(hoff h).2]; exact Nat.le_refl _
 | true => exact A54 hn (hon h)
theorem Fix.differ (X : Fix P call all bs nt tr F0 F' H0 H') (hn : A7m call) {s z : St} (hs : s ∈ tr) (hz : z ∈ tr) (hne : s.i ≠ z.i) (hms : B5s all s.i) (hmz : B5s all z.i) (hos : s.on = true) (hoz : z.on = true) : s.H.next ≠ z.H.next := by
 have hnx : ∀ {s : St}, s ∈ tr → B5s all s.i → s.on = true → s.H'.next = s.H.next + 1 := by
  intro s hs hm ho
  obtain ⟨o, h1, _, _, h2⟩ := X.ok s hs
  obtain ⟨o', h3, h4⟩ := hm
  rw [h1] at h3; injection h3 with h3; subst h3
  obtain ⟨x, hx⟩ := A9k h4 (h2 ho)
  rw [hx]; rfl
 have key : ∀ {s z : St} {l1 l2 : List St}, tr = l1 ++ s :: l2 → z ∈ l2 → B5s all s.i → s.on = true → s.H.next ≠ z.H.next := by
  intro s z l1 l2 htr hz hm ho
  have hl := X.linked
  rw [htr] at hl
  have h1 := B52 (fun y hy => X.mono hn y (by rw [htr]; simp [hy])) hl z hz
  have h2 := hnx (by rw [htr]; simp) hm ho
  omega
 obtain ⟨l1, l2, htr⟩ := List.append_of_mem hs
 rw [htr] at hz
 simp only [List.mem_append, List.mem_cons] at hz
 rcases hz with hz | rfl | hz
 ·obtain ⟨m1, m2, rfl⟩ := List.append_of_mem hz
  exact (key (l1 := m1) (l2 := m2 ++ s :: l2) (by rw [htr]; simp) (by simp) hmz hoz).symm
 ·exact absurd rfl hne
 ·exact key htr hz hms hos
end
end
end Go.Proofs.Sh
/- Regions whose order is open: every order does what the shadow's does. -/
namespace Go.Proofs.Sh
open Go
section
variable {P : Program} {call : A4d} {all : Array Oper} {bs : List Nat} {B : Nat}
variable {nt : Nat} {tr : List St} {F0 F' : Fr} {H0 H' : AH} {ρ0 : Map} {w0 : World}
theorem C8c {i : Nat} {o : Oper} (ho : all[i]? = some o) : A6s all i = o.dst := by simp [A6s, ho]
theorem effO_of {i : Nat} {o : Oper} (ho : all[i]? = some o) (h : EffO all i) : isEff o = true := by
 obtain ⟨o', h1, h2⟩ := h
 rw [ho] at h1; injection h1 with h1; subst h1; exact h2
theorem C8a {i : Nat} {o : Oper} (ho : all[i]? = some o) (h : B5s all i) : A5e o = true := by
 obtain ⟨o', h1, h2⟩ := h
 rw [ho] at h1; injection h1 with h1; subst h1; exact h2
theorem A19 {st : St} {l : List St} : ∀ {t1 : List St} {F : Fr} {H : AH}, Linked all (t1 ++ st :: l) F H F' H' → Linked all t1 F H st.F st.H
 | [], F, H, h => ⟨h.1, h.2.1⟩
 | s :: t1, F, H, h => by
  obtain ⟨h1, h2, h3⟩ := h
  exact ⟨h1, h2, A19 (t1 := t1) h3⟩
theorem Fix.float (X : Fix P call all bs nt tr F0 F' H0 H') (hn : A7m call) {S : Nat → Bool} {a : Act} {w w' : World} {t1 t2 : List St} {Fm : Fr} {Hc : AH} {ρ ρ' : Map} {st : St} {v' : Value} {o : Oper}
  (hS : Closed bs S) (hS' : Closed bs (also S st.i)) (hsz : a.tmps.size = nt) (hdf : a.defers = [])
  (e1 : tr = t1 ++ t2) (e2 : ∀ s ∈ t2, S s.i = false) (e3 : ∀ s ∈ t1, EffO all s.i → S s.i = true) (e4 : t2 = [] ∨ ∃ e l, t2 = e :: l ∧ EffO all e.i)
  (e5 : Linked all t2 Fm Hc F' H') (e7 : Trans B H0.next ρ0 w0 ρ w) (e8 : FRel ρ (fs all S tr F0) a)
  (e9 : ∀ s ∈ t1, H0.next ≤ s.H.next ∧ s.H'.next ≤ Hc.next ∧ (S s.i = false → s.on = true → Good P call all s Hc ∧ (B5s all s.i → ∀ k, ρ s.H.next k = none)))
  (hst : st ∈ t1) (hun : S st.i = false) (ho : all[st.i]? = some o)
  (g1 : HRel B ρ' Hc w') {n : Nat} (g2 : Trans B n ρ w ρ' w') (g3 : H0.next ≤ n) (g4 : VRel ρ' st.v v')
  (g5 : ∀ s ∈ t1, s.i ≠ st.i → S s.i = false → s.on = true → B5s all s.i → ∀ k, ρ' s.H.next k = none) :
  Inv P call all bs nt tr F0 F' H0 H' B ρ0 w0 (also S st.i) (a.put o.dst v') w' := by
 have hin : st ∈ tr := by rw [e1]; simp [hst]
 obtain ⟨l1, l2, htr⟩ := List.append_of_mem hin
 refine ⟨⟨t1, t2, Fm, Hc, ρ', e1, fun s hs => ?_, fun s hs h => A06 (e3 s hs h), e4, e5, g1, e7.trans g2 g3, ?_, fun s hs => ?_⟩, hS', by rw [(A2t a o.dst v').1]; exact hsz, by rw [(A2t a o.dst v').2]; exact hdf⟩
 ·rw [A2u]
  ·exact e2 s hs
  ·obtain ⟨m1, m2, hm⟩ := List.append_of_mem hst
   exact (X.ords.ne m1 st (m2 ++ t2) (by rw [e1, hm]; simp) s (by simp [hs])).symm
 ·refine FRel.same ((e8.mono g2.le).put g4 (fun t ht => by rw [hsz]; exact X.dstLt ho ht)) (fun t => ?_)
  rw [X.slots hS htr hun t, C8c ho]
 ·obtain ⟨k1, k2, k3⟩ := e9 s hs
  refine ⟨k1, k2, fun hu hon => ?_⟩
  have hne : s.i ≠ st.i := by
   intro h
   rw [h, A4q] at hu; cases hu
  rw [A2u S hne] at hu
  exact ⟨(k3 hu hon).1, g5 s hs hne hu hon⟩
theorem Fix.step (X : Fix P call all bs nt tr F0 F' H0 H') (hN : B1j P) (hb : A1u P call) (hn : A7m call) (hcall : A68 P call) {S : Nat → Bool} {a : Act} {w : World} (I : Inv P call all bs nt tr F0 F' H0 H' B ρ0 w0 S a w)
  {i : Nat} {o : Oper} (ho : all[i]? = some o) (hun : S i = false) (hr : ∀ e ∈ o.after, Region.binds .any e = true → S e.on = true) {Q : Exit → Act → World → Prop} :
  wpOp P all Q i (fun a' w' => Inv P call all bs nt tr F0 F' H0 H' B ρ0 w0 (also S i) a' w') a w := by
 obtain ⟨⟨t1, t2, Fm, Hc, ρ, e1, e2, e3, e4, e5, e6, e7, e8, e9⟩, hS, hsz, hdf⟩ := I
 obtain ⟨hS', hbef⟩ := B68 X.closed hS ho hr
 obtain ⟨st, hin, rfl⟩ := X.full i (Array.getElem?_eq_some_iff.1 ho).1
 obtain ⟨l1, l2, htr⟩ := List.append_of_mem hin
 have hsees := X.sees hS htr hun hbef ho
 obtain ⟨o', ho', hw, hoff, hon⟩ := X.ok st hin
 rw [ho] at ho'; injection ho' with ho'; subst ho'
 have hw' : A1m all.toList (fs all S tr F0) o = some st.on := by rw [← B95 hsees]; exact hw
 have hwant := C4i e8 hw'
 unfold wpOp
 rw [ho]
 simp only
 rw [hwant]
 have hhead : st ∈ t2 → ∃ l, t2 = st :: l ∧ EffO all st.i := by
  intro h
  rcases e4 with rfl | ⟨e, l, rfl, he⟩
  ·cases h
  ·rcases List.mem_cons.1 h with rfl | h
   ·exact ⟨l, rfl, he⟩
   ·have := hbef _ (X.ords.eff t1 e l e1 st h he)
    rw [e2 e List.mem_cons_self] at this; cases this
 cases hE : isEff o with
 | false =>
  have hnE : ¬EffO all st.i := fun h => by rw [effO_of ho h] at hE; cases hE
  have hst : st ∈ t1 := by
   have := hin
   rw [e1, List.mem_append] at this
   rcases this with h | h
   ·exact h
   ·obtain ⟨l, _, h⟩ := hhead h
    exact absurd h hnE
  obtain ⟨k1, k2, k3⟩ := e9 st hst
  cases hon' : st.on with
  | false =>
   simp only [Bool.false_eq_true, if_false]
   obtain ⟨v1, v2⟩ := hoff hon'
   exact X.float hn hS hS' hsz hdf e1 e2 e3 e4 e5 e7 e8 e9 hst hun ho e6 (Trans.refl B H0.next ρ w) (Nat.le_refl _) (by rw [v1]; exact A4x) (fun s hs _ hu hon2 hm => ((e9 s hs).2.2 hu hon2).2 hm)
  | true =>
   simp only [if_true]
   left
   obtain ⟨⟨o2, ho2, q1, q2, q3, q4⟩, q5⟩ := k3 hun hon'
   rw [ho] at ho2; injection ho2 with ho2; subst ho2
   cases hM : A5e o with
   | true =>
    have hmo : B5s all st.i := ⟨o, ho, hM⟩
    rw [B3g hsees] at q1
    obtain ⟨w1, ρ1, v1, r1, r2, r3, r4, r5⟩ := C4p (P := P) (w := w) e8 e6 q1 hM (q3 hM) (q5 hmo)
    unfold Oper.wp
    rw [r1]
    refine X.float hn hS hS' hsz hdf e1 e2 e3 e4 e5 e7 e8 e9 hst hun ho r3 r4 k1 r2 (fun s hs hne hu hon2 hm k => ?_)
    cases hh : ρ1 s.H.next k with
    | none => rfl
    | some L =>
     rcases r5 _ _ _ hh with h | h
     ·rw [((e9 s hs).2.2 hu hon2).2 hm k] at h; cases h
     ·exact absurd h (X.differ hn (by rw [e1]; simp [hs]) hin hne hm hmo hon2 hon')
   | false =>
    have q6 := q4 hM
    rw [B3g hsees] at q6
    refine op_wp hcall e6 (C7s hN hb e8 e6 q6) (fun ρ1 v1 w1 r1 r2 r3 => ?_)
    have hlt : H0.next ≤ Hc.next := by
     have := X.mono hn st hin
     omega
    refine X.float hn hS hS' hsz hdf e1 e2 e3 e4 e5 e7 e8 e9 hst hun ho r2 r3 hlt r1 (fun s hs hne hu hon2 hm k => ?_)
    cases hh : ρ1 s.H.next k with
    | none => rfl
    | some L =>
     have hnone := ((e9 s hs).2.2 hu hon2).2 hm
     rcases r3.grows _ _ _ hh with h | h | ⟨k', L', h⟩
     ·rw [hnone k] at h; cases h
     ·obtain ⟨o3, j1, _, _, j2⟩ := X.ok s (by rw [e1]; simp [hs])
      obtain ⟨x, hx⟩ := A9k (C8a j1 hm) (j2 hon2)
      have := (e9 s hs).2.1
      rw [hx, C8f] at this
      omega
     ·rw [hnone k'] at h; cases h
 | true =>
  have hst : st ∈ t2 := by
   have := hin
   rw [e1, List.mem_append] at this
   rcases this with h | h
   ·have := e3 st h ⟨o, ho, hE⟩
    rw [hun] at this; cases this
   ·exact h
  obtain ⟨l, rfl, he⟩ := hhead hst
  obtain ⟨f1, f2, f3⟩ := e5
  have fin : ∀ (ρ1 : Map) (v1 : Value) (w1 : World), VRel ρ1 st.v v1 → HRel B ρ1 st.H' w1 → Trans B Hc.next ρ w ρ1 w1 → Hc.next ≤ st.H'.next → (∀ s ∈ t1, also S st.i s.i = false → ∀ o2, all[s.i]? = some o2 → isEff o2 = false → s.on = true → aop P call s.F s.H o2 = some (s.v, s.H') → ((A5e o2 = true → Hc.objs.get s.H.next = s.H'.objs.get s.H.next) ∧ (A5e o2 = false → aop P call s.F Hc o2 = some (s.v, Hc))) → (A5e o2 = true → st.H'.objs.get s.H.next = s.H'.objs.get s.H.next) ∧ (A5e o2 = false → aop P call s.F st.H' o2 = some (s.v, st.H'))) →
      Inv P call all bs nt tr F0 F' H0 H' B ρ0 w0 (also S st.i) (a.put o.dst v1) w1 := by
    intro ρ1 v1 w1 r1 r2 r3 hcn hgood
    obtain ⟨m1, m2, Fm', Hm, g1, g2, g3, g4, g5, g6, g7, g8⟩ := B45 (P := P) (call := call) f3 (fun s hs => X.ok s (by rw [e1]; simp [hs])) r2
    have hH0 : H0.next ≤ Hc.next := by
      have := B16 (all := all) (l := t1) (fun s hs => X.mono hn s (by rw [e1]; simp [hs])) (F := F0) (H := H0) (F' := st.F) (H' := st.H)
      refine f2 ▸ this ?_
      have hl := X.linked
      rw [e1] at hl
      exact A19 hl
    have hnel : ∀ s ∈ l, s.i ≠ st.i := fun s hs => (X.ords.ne t1 st l e1 s hs).symm
    refine ⟨⟨t1 ++ st :: m1, m2, Fm', Hm, ρ1, by rw [e1, g1]; simp, fun s hs => ?_, fun s hs h => ?_, g4, g2, g5, e7.trans r3 hH0, ?_, fun s hs => ?_⟩, hS', by rw [(A2t a o.dst v1).1]; exact hsz, by rw [(A2t a o.dst v1).2]; exact hdf⟩
    · have hsl : s ∈ l := by rw [g1]; simp [hs]
      rw [A2u S (hnel s hsl)]
      exact e2 s (List.mem_cons_of_mem _ hsl)
    · simp only [List.mem_append, List.mem_cons] at hs
      rcases hs with hs | rfl | hs
      · exact A06 (e3 s hs h)
      · exact A4q _ _
      · exact absurd h (g3 s hs)
    · refine FRel.same ((e8.mono r3.le).put r1 (fun t ht => by rw [hsz]; exact X.dstLt ho ht)) (fun t => ?_)
      rw [X.slots hS htr hun t, C8c ho]
    · simp only [List.mem_append, List.mem_cons] at hs
      rcases hs with hs | rfl | hs
      · obtain ⟨k1, k2, k3⟩ := e9 s hs
        refine ⟨k1, by omega, fun hu hon2 => ?_⟩
        have hne : s.i ≠ st.i := by
          intro h
          rw [h, A4q] at hu; cases hu
        have hu' := hu
        rw [A2u S hne] at hu
        obtain ⟨⟨o2, j1, j2, j3, j4, j5⟩, j6⟩ := k3 hu hon2
        refine ⟨⟨o2, j1, j2, j3, ?_⟩, fun hm k => ?_⟩
        · obtain ⟨y1, y2⟩ := hgood s hs hu' o2 j1 j3 hon2 j2 ⟨j4, j5⟩
          refine ⟨fun hm => ?_, fun hm => (A2n g6 j3 hm (y2 hm)).1⟩
          rw [← y1 hm]
          obtain ⟨x, hx⟩ := A9k hm j2
          have hget : s.H'.objs.get s.H.next = some x := by rw [hx]; exact A2q _ _
          rw [y1 hm, hget]
          exact g6 _ _ (by rw [y1 hm]; exact hget)
        · cases hh : ρ1 s.H.next k with
          | none => rfl
          | some L =>
            have hnone := j6 hm
            rcases r3.grows _ _ _ hh with h | h | ⟨k', L', h⟩
            · rw [hnone k] at h; cases h
            · obtain ⟨x, hx⟩ := A9k (C8a j1 hm) j2
              rw [hx, C8f] at k2
              omega
            · rw [hnone k'] at h; cases h
      · refine ⟨by rw [f2]; exact hH0, g7, fun hu => ?_⟩
        rw [A4q] at hu; cases hu
      · obtain ⟨k1, k2, k3, k4⟩ := g8 s hs
        exact ⟨by omega, k3, fun _ hon2 => ⟨k1 hon2, fun _ => k4⟩⟩
  cases hon' : st.on with
  | false =>
   simp only [Bool.false_eq_true, if_false]
   obtain ⟨v1, v2⟩ := hoff hon'
   rw [f2] at v2
   exact fin ρ undef w (by rw [v1]; exact A4x) (by rw [v2]; exact e6) (Trans.refl B Hc.next ρ w) (by rw [v2]; exact Nat.le_refl _) (fun s hs hu o2 j1 j3 hon2 j2 hg => by rw [v2]; exact hg)
  | true =>
   simp only [if_true]
   left
   have hop := hon hon'
   rw [f2, B3g hsees] at hop
   have hcn := A54 hn hop
   refine op_wp hcall e6 (C7s hN hb e8 e6 hop) (fun ρ1 v1 w1 r1 r2 r3 => ?_)
   refine fin ρ1 v1 w1 r1 r2 r3 hcn (fun s hs hu o2 j1 j3 hon2 j2 hg => ?_)
   have hpend : ∀ p, A2x all s = some p → p.at_ = s.i → C1h P call all st.H' p := by
    intro p hp hpi
    obtain ⟨n1, n2, hn12⟩ := List.append_of_mem hs
    have hre := X.pend n1 s (n2 ++ st :: l) (by rw [e1, hn12]; simp) p hp n2 st l rfl ⟨o, ho, hE, hon'⟩
    rcases hre with ⟨z, hz, hze, hzb⟩ | h
    ·rw [hpi] at hzb
     have hzS : also S st.i z.i = true := by
      simp only [List.mem_append, List.mem_singleton] at hz
      rcases hz with hz | rfl
      ·obtain ⟨oz, z1, z2, _⟩ := hze
       exact A06 (e3 z (by rw [hn12]; simp [hz]) ⟨oz, z1, z2⟩)
      ·exact A4q _ _
     have := hS' _ _ hzS hzb
     rw [hu] at this; cases this
    ·exact h
   refine ⟨fun hM => ?_, fun hM => ?_⟩
   ·obtain ⟨x, hx⟩ := A9k hM j2
    have hget : s.H'.objs.get s.H.next = some x := by rw [hx]; exact A2q _ _
    have := hpend (.made s.i s.H.next x) (by simp [A2x, j1, j3, hon2, hM, hget]) rfl
    rw [hget]
    exact this
   ·cases hR : isRead o2 with
    | true =>
     obtain ⟨o3, H3, y1, y2⟩ := hpend (.read s.i s.F s.v) (by simp [A2x, j1, j3, hon2, hM, hR]) rfl
     rw [j1] at y1; injection y1 with y1; subst y1
     exact (A2n (HGrow.refl _) j3 hM y2).1
    | false => exact pure_any j3 hM hR j2
def left (S : Nat → Bool) : List St → Nat
 | [] => 0
 | s :: l => (bif S s.i then 0 else 1) + left S l
theorem left_le {S : Nat → Bool} {i : Nat} : ∀ {l : List St}, left (also S i) l ≤ left S l
 | [] => Nat.le_refl _
 | s :: l => by
  simp only [left]
  have := left_le (S := S) (i := i) (l := l)
  have h2 : (bif also S i s.i then 0 else 1) ≤ (bif S s.i then 0 else 1 : Nat) := by
   cases h : S s.i with
   | true => rw [A06 h]; exact Nat.le_refl _
   | false => cases also S i s.i <;> simp
  omega
theorem C3z {S : Nat → Bool} {i : Nat} (hun : S i = false) : ∀ {l : List St}, (∃ s ∈ l, s.i = i) → left (also S i) l < left S l
 | [], h => by obtain ⟨s, h, _⟩ := h; cases h
 | s :: l, h => by
  simp only [left]
  by_cases hi : s.i = i
  ·rw [hi, A4q, hun]
   have := left_le (S := S) (i := i) (l := l)
   simp only [cond_true, cond_false]
   omega
  ·obtain ⟨z, hz, hzi⟩ := h
   rcases List.mem_cons.1 hz with rfl | hz
   ·exact absurd hzi hi
   ·have := C3z hun (l := l) ⟨z, hz, hzi⟩
    rw [A2u S hi]
    omega
theorem B10 {S : Nat → Bool} : ∀ {l : List St}, left S l = 0 → ∀ s ∈ l, S s.i = true
 | [], _, s, h => by cases h
 | z :: l, e, s, h => by
  simp only [left] at e
  rcases List.mem_cons.1 h with rfl | h
  ·cases hh : S s.i with
   | true => rfl
   | false => rw [hh] at e; simp at e
  ·exact B10 (by omega) s h
theorem Fix.any (X : Fix P call all bs nt tr F0 F' H0 H') (hN : B1j P) (hb : A1u P call) (hn : A7m call) (hcall : A68 P call) {Q : Exit → Act → World → Prop}
  (hQ : ∀ ρ' a' w', FRel ρ' F' a' → a'.tmps.size = nt → a'.defers = [] → HRel B ρ' H' w' → Trans B H0.next ρ0 w0 ρ' w' → Q .normal a' w') :
  ∀ (fuel : Nat) (listed : Array Bool) (S : Nat → Bool) (a : Act) (w : World), listed.size = all.size → (∀ j, j < all.size → listed.getD j true = S j ∧ listed.getD j false = S j) → left S tr ≤ fuel → Inv P call all bs nt tr F0 F' H0 H' B ρ0 w0 S a w →
   wpAny P .any all Q fuel listed a w := by
 have hend : ∀ (S : Nat → Bool) (a : Act) (w : World), (∀ s ∈ tr, S s.i = true) → Inv P call all bs nt tr F0 F' H0 H' B ρ0 w0 S a w → Q .normal a w := by
  intro S a w hall I
  obtain ⟨⟨t1, t2, Fm, Hc, ρ, e1, e2, e3, e4, e5, e6, e7, e8, e9⟩, hS, hsz, hdf⟩ := I
  have ht2 : t2 = [] := by
   cases t2 with
   | nil => rfl
   | cons s l =>
    have h1 := e2 s List.mem_cons_self
    rw [hall s (by rw [e1]; simp)] at h1; cases h1
  subst ht2
  obtain ⟨h1, h2⟩ := e5
  subst h2
  refine hQ ρ a w (FRel.same e8 (fun t => ?_)) hsz hdf e6 e7
  rw [B1l X.linked]
  exact A7w (fun s hs _ => by rw [hall s hs]; rfl) rfl
 have hnil : ∀ (listed : Array Bool) (S : Nat → Bool), (∀ j, j < all.size → listed.getD j true = S j ∧ listed.getD j false = S j) → Region.ready .any all listed = [] → ∀ j, j < all.size → S j = true := by
  intro listed S hl hr j
  induction j using Nat.strongRecOn with
  | _ j ih =>
   intro hj
   cases hh : S j with
   | true => rfl
   | false =>
    have : j ∈ Region.ready .any all listed := by
     refine mem_ready.2 ⟨by rw [(hl j hj).1]; exact hh, all[j], by simp [hj], fun e he hb => ?_⟩
     have ho : all[j]? = some all[j] := by simp [hj]
     have hlt := (A71 X.closed ho).2 e he hb
     rw [(hl e.on (by omega)).2]
     exact ih e.on hlt (by omega)
    rw [hr] at this; cases this
 have hmem : ∀ s ∈ tr, s.i < all.size := by
  intro s hs
  obtain ⟨o, ho, _⟩ := X.ok s hs
  exact (Array.getElem?_eq_some_iff.1 ho).1
 intro fuel
 induction fuel with
 | zero =>
  intro listed S a w hsz hl hleft I
  have hall := B10 (Nat.le_zero.1 hleft)
  refine ⟨?_, hend S a w hall I⟩
  cases hr : Region.ready .any all listed with
  | nil => rfl
  | cons j r =>
   have hj : j ∈ Region.ready .any all listed := by rw [hr]; exact List.mem_cons_self
   obtain ⟨h1, o, h2, _⟩ := mem_ready.1 hj
   have hlt := (Array.getElem?_eq_some_iff.1 h2).1
   obtain ⟨s, hs, rfl⟩ := X.full j hlt
   rw [(hl _ hlt).1, hall s hs] at h1; cases h1
 | succ fuel ih =>
  intro listed S a w hsz hl hleft I
  refine ⟨fun hr => ?_, fun i hi => ?_⟩
  ·exact hend S a w (fun s hs => hnil listed S hl hr s.i (hmem s hs)) I
  ·obtain ⟨h1, o, h2, h3⟩ := mem_ready.1 hi
   have hlt := (Array.getElem?_eq_some_iff.1 h2).1
   rw [(hl i hlt).1] at h1
   have hstep := X.step hN hb hn hcall I h2 h1 (fun e he hb => by
    have := h3 e he hb
    rw [← (hl e.on (by have := (A71 X.closed h2).2 e he hb; omega)).2]
    exact this) (Q := Q)
   refine wpOp_mono (fun a' w' I' => ?_) hstep
   refine ih (listed.setIfInBounds i true) (also S i) a' w' (by simp [hsz]) (fun j hj => ?_) ?_ I'
   ·by_cases h : j = i
    ·subst h
     rw [A4q]
     simp [Array.getD_eq_getD_getElem?, hsz, hj]
    ·rw [A2u S h, getD_set_ne _ (Ne.symm h), getD_set_ne _ (Ne.symm h)]
     exact hl j hj
   ·have := C3z h1 (l := tr) (X.full i hlt)
    omega
theorem B1y : ∀ (l : List St), left (fun _ => false) l = l.length
 | [] => rfl
 | s :: l => by simp only [left, B1y l, cond_false, List.length_cons]; omega
theorem draw_ok (hm : P.follows .mixedOrders = true) (hN : B1j P) : DrawOk P A6u := by
 intro call hb hn hcall id all nt hs hd B F F' H H' ρ a w e hF hsz hdf hH
 unfold region at e
 simp only [cond_true] at e
 obtain ⟨tr, t1, t2, t3, _, t5⟩ := C6g (all := all) e
 unfold A6u at hs
 simp only [Bool.and_eq_true] at hs
 obtain ⟨⟨⟨s1, s2⟩, s3⟩, s4⟩ := hs
 rw [show all.toList.toArray = all from Array.toArray_toList] at s1 s2 s3 s4
 rw [← t1] at s2 s3
 have X : Fix P call all (A6j all.toList) nt tr F F' H H' := by
  refine ⟨t2, t3, t5, ords_of s3, s1, fun j hj => ?_, hd⟩
  have := List.all_eq_true.1 s2 j (List.mem_range.2 hj)
  simpa using this
 have hlen : tr.length ≤ all.size := by
  have := Nat.le_of_ble_eq_true s4
  rwa [← t1, List.length_map] at this
 refine wp_region_any hm ?_
 have hH' : HRel B ρ H { w with drawn := w.drawn + 1 } := hH.drew _
 obtain ⟨m1, m2, Fm, Hm, g1, g2, g3, g4, g5, g6, g7, g8⟩ := B45 (P := P) (call := call) t2 t3 hH'
 refine X.any (ρ0 := ρ) (w0 := w) hN hb hn hcall (B := B) (fun ρ' a' w' k1 k2 k3 k4 k5 => ⟨rfl, ρ', k1, k2, k3, k4, k5⟩) all.size _ (fun _ => false) a _ (by simp) (fun j hj => by simp [Array.getD_eq_getD_getElem?, hj]) (by rw [B1y]; exact hlen) ?_
 refine ⟨⟨m1, m2, Fm, Hm, ρ, g1, fun _ _ => rfl, fun s hs h => absurd h (g3 s hs), g4, g2, g5, (Trans.refl B H.next ρ w).drew _, ?_, fun s hs => ?_⟩, fun j i h => (by cases h), hsz, hdf⟩
 ·rw [B4q (fun _ _ => rfl)]
  exact hF
 ·obtain ⟨k1, k2, k3, k4⟩ := g8 s hs
  exact ⟨k2, k3, fun _ hon => ⟨k1 hon, fun _ => k4⟩⟩
end
end Go.Proofs.Sh
/- What a program's text must be, as one check; the shadow's soundness. -/
namespace Go.Proofs.Sh
open Go
def noNumB (P : Program) : Bool := P.funcs.toList.all fun fn => !(fn.name == "runtime.NumGoroutine")
def fnB (fn : Func) : Bool :=
 match fn.body with
 | some c => codeOk A6u fn.ntmps c
 | none => true
def progB (P : Program) : Bool := P.funcs.toList.all fnB
theorem B69 {P : Program} (h : noNumB P = true) : B1j P := by
 intro f fn e
 have hm : fn ∈ P.funcs.toList := by
  obtain ⟨h1, h2⟩ := Array.getElem?_eq_some_iff.1 e
  rw [← h2]; simp
 have := List.all_eq_true.1 h fn hm
 simpa using this
theorem B84 {P : Program} (h : progB P = true) : C1n P A6u := by
 intro f fn c e hc
 have hm : fn ∈ P.funcs.toList := by
  obtain ⟨h1, h2⟩ := Array.getElem?_eq_some_iff.1 e
  rw [← h2]; simp
 have := List.all_eq_true.1 h fn hm
 unfold fnB at this
 rw [hc] at this
 exact this
def Fit (P : Program) : Prop := noNumB P = true ∧ progB P = true ∧ P.follows .mixedOrders = true
theorem Fit.run_ok {P : Program} (h : Fit P) {O : A4d} (hO : OrOk P O) : ∀ n, RunOk P O A6u n := Sh.run_ok (B69 h.1) hO (draw_ok h.2.2 (B69 h.1)) (B84 h.2.1)
theorem Fit.call_ok {P : Program} (h : Fit P) {O : A4d} (hO : OrOk P O) (n : Nat) : A68 P (call P O n) := (B8o hO (B84 h.2.1) (h.run_ok hO n)).2.2
theorem Fit.calls {P : Program} (h : Fit P) {n : Nat} {f : FuncId} {v : Value} {H' : AH} (e : call P mute n f [] empty = some (v, H')) (w : World) :
  Calls P f #[] w fun r w' => ∃ ρ v', r = .returned v' ∧ VRel ρ v v' ∧ HRel w.heap.size ρ H' w' ∧ Trans w.heap.size 0 (fun _ _ => none) w ρ w' := by
 have h0 : HRel w.heap.size (fun _ _ => none) empty w := by
  refine ⟨Nat.le_refl _, ?_, ?_, ?_, ?_, ?_, ?_, ?_, ?_, ?_⟩ <;> intros <;> simp_all [empty, Tr.get]
 refine (h.call_ok .mute n f [] empty v H' e w.heap.size _ w [] VRels.nil h0).mono ?_
 rintro r w' ⟨ρ, v', h1, h2, h3, h4⟩
 exact ⟨ρ, v', h1, h2, h3, h4⟩
theorem HRel.kept {B : Nat} {ρ : Map} {H : AH} {w w' : World} (h : HRel B ρ H w) (hs : w.heap.size ≤ w'.heap.size) (hk : ∀ b, b < w.heap.size → w'.heap[b]? = w.heap[b]?) : HRel B ρ H w' where
 base := Nat.le_trans h.base hs
 rows g rs rw hg k r L hr hok hL := (h.rows g rs rw hg k r L hr hok hL).mono (Map.le_refl ρ) (hk _ (h.lt _ _ _ hL).2)
 apart := h.apart
 maps g es L hg hL := (h.maps g es L hg hL).mono (Map.le_refl ρ) (hk _ (h.lt _ _ _ hL).2)
 mapsApart := h.mapsApart
 mixed := h.mixed
 lt g k L e := ⟨(h.lt g k L e).1, Nat.lt_of_lt_of_le (h.lt g k L e).2 hs⟩
 inH := h.inH
 short := h.short
 only := h.only
def knows (f : FuncId) : A4d := fun g args H => bif Nat.beq g f && args.isEmpty then some (.bool true, H) else none
theorem Fit.knows {P : Program} (h : Fit P) {n : Nat} {f : FuncId} (e : C1q (call P mute n f [] empty) = true) : OrOk P (knows f) := by
 have hk : ∀ {g args H r}, Sh.knows f g args H = some r → g = f ∧ args = [] ∧ r = (.bool true, H) := by
  intro g args H r e
  unfold Sh.knows at e
  obtain ⟨hc, e⟩ := A3d e
  simp only [Bool.and_eq_true] at hc
  injection e with e
  exact ⟨Nat.eq_of_beq_eq_true hc.1, List.isEmpty_iff.1 hc.2, e.symm⟩
 obtain ⟨H1, hcall⟩ : ∃ H1, call P mute n f [] empty = some (.bool true, H1) := by
  cases hc : call P mute n f [] empty with
  | none => rw [hc] at e; cases e
  | some r =>
   obtain ⟨v, H1⟩ := r
   rw [hc] at e
   cases v <;> simp [C1q] at e
   subst e
   exact ⟨H1, rfl⟩
 refine ⟨fun g args H r e => ?_, fun g args H v H' e => ?_, fun g args H v H' e B ρ w args' hargs hH => ?_⟩
 ·obtain ⟨rfl, rfl, rfl⟩ := hk e
  exact (B8o .mute (B84 h.2.1) (h.run_ok .mute n)).1 _ _ _ _ hcall
 ·obtain ⟨rfl, rfl, h3⟩ := hk e
  injection h3 with _ h3
  rw [h3]; exact Nat.le_refl _
 ·obtain ⟨rfl, rfl, h3⟩ := hk e
  injection h3 with h3 h4
  subst h3 h4
  unfold VRels at hargs
  subst hargs
  refine (h.calls hcall w).mono ?_
  rintro r w' ⟨ρ1, v', h1, h2, h3, h4⟩
  have hkeep : ∀ b, b < w.heap.size → w'.heap[b]? = w.heap[b]? := fun b hb => h4.keep b hb (.inl hb)
  refine ⟨ρ, v', h1, (by unfold VRel at h2 ⊢; exact h2), hH.kept h4.size hkeep, ?_⟩
  exact ⟨Map.le_refl ρ, fun _ _ _ e => .inl e, fun _ _ _ e => .inl e, h4.os, h4.tape, h4.output, h4.size, fun b hb _ => hkeep b hb⟩
end Go.Proofs.Sh
/- More fuel gives the same. -/
namespace Go.Proofs.Sh
open Go
def B5f (c c' : A4d) : Prop := ∀ f args H r, c f args H = some r → c' f args H = some r
section
variable {P : Program} {c c' : A4d}
theorem A1i (h : B5f c c') {F : Fr} {H : AH} {o : Oper} {r : Value × AH} (e : aop P c F H o = some r) : aop P c' F H o = some r := by
 unfold aop at e ⊢
 cases hop : o.op <;> rw [hop] at e <;> simp only at e ⊢ <;> try exact e
 case makeMap t r => cases r <;> exact e
 case call cl =>
  obtain ⟨args, h1, e1⟩ := Option.bind_eq_some_iff.1 e
  simp only [h1, Option.bind_some]
  cases hc : cl.callee with
  | builtin b => rw [hc] at e1; exact e1
  | value f =>
   rw [hc] at e1
   simp only at e1 ⊢
   obtain ⟨g, h2, e2⟩ := Option.bind_eq_some_iff.1 e1
   simp only [h2, Option.bind_some]
   unfold C1m at e2 ⊢
   split at e2
   ·exact h _ _ _ _ e2
   ·cases e2
  | invoke x name =>
   rw [hc] at e1
   simp only at e1 ⊢
   obtain ⟨g, h2, e2⟩ := Option.bind_eq_some_iff.1 e1
   simp only [h2, Option.bind_some]
   unfold B2e at e2 ⊢
   split at e2
   ·obtain ⟨i, h3, e3⟩ := Option.bind_eq_some_iff.1 e2
    obtain ⟨m, h4, e4⟩ := Option.bind_eq_some_iff.1 e3
    simp only [h3, h4, Option.bind_some]
    obtain ⟨hc, e5⟩ := A3d e4
    rw [hc]
    simp only [cond_true]
    split at e5
    ·first | exact h _ _ _ _ e5 | (simp only [*]; exact h _ _ _ _ e5)
    ·cases e5
    ·obtain ⟨x, hx, e6⟩ := Option.bind_eq_some_iff.1 e5
     simp only [*, Option.bind_some]
     exact h _ _ _ _ e6
    ·first | exact h _ _ _ _ e5 | (simp only [*]; exact h _ _ _ _ e5)
    ·cases e5
   ·cases e2
theorem A3v (h : B5f c c') {all : List Oper} {r : Fr × AH} : ∀ {l : List Oper} {F : Fr} {H : AH}, A8o P c all l F H = some r → A8o P c' all l F H = some r
 | [], F, H, e => e
 | o :: l, F, H, e => by
  simp only [A8o] at e ⊢
  split at e
  ·cases e
  ·rename_i hw; (try rw [hw]); exact A3v h e
  ·rename_i hw
   split at e
   ·cases e
   ·rename_i v H1 hop
    (try rw [hw])
    (try simp only)
    rw [A1i h hop]
    exact A3v h e
theorem A5n (h : B5f c c') {ops : List Oper} {H : AH} {b : Nat} : ∀ {ps r : List Pend}, A5h P c ops H b ps = some r → A5h P c' ops H b ps = some r
 | [], r, e => e
 | .read i F v :: ps, r, e => by
  simp only [A5h] at e ⊢
  cases hb : b.testBit i with
  | true => rw [hb] at e; exact A5n h e
  | false =>
   rw [hb] at e
   simp only [cond_false] at e ⊢
   split at e
   ·rename_i o ho
    split at e
    ·rename_i v' H2 hop
     obtain ⟨hv, e1⟩ := A3d e
     obtain ⟨l, h1, h2⟩ := Option.map_eq_some_iff.1 e1
     (try rw [ho])
     simp only [A1i h hop, hv, cond_true, A5n h h1, Option.map_some, h2]
    ·cases e
   ·cases e
 | .made i g x :: ps, r, e => by
  simp only [A5h] at e ⊢
  cases hb : b.testBit i with
  | true => rw [hb] at e; exact A5n h e
  | false =>
   rw [hb] at e
   simp only [cond_false] at e ⊢
   split at e
   ·rename_i y hy
    obtain ⟨hv, e1⟩ := A3d e
    obtain ⟨l, h1, h2⟩ := Option.map_eq_some_iff.1 e1
    simp only [hv, cond_true, A5n h h1, Option.map_some, h2]
   ·cases e
theorem A5d (h : B5f c c') {all : List Oper} {bs : List Nat} {r : Fr × AH} : ∀ {l : List Nat} {ps : List Pend} {F : Fr} {H : AH}, A7e P c all bs l ps F H = some r → A7e P c' all bs l ps F H = some r
 | [], ps, F, H, e => e
 | i :: l, ps, F, H, e => by
  simp only [A7e] at e ⊢
  split at e
  ·cases e
  ·rename_i o ho
   (try rw [ho])
   (try simp only)
   split at e
   ·cases e
   ·rename_i hw
    (try rw [hw])
    (try simp only)
    exact A5d h e
   ·rename_i hw
    (try rw [hw])
    (try simp only)
    split at e
    ·cases e
    ·rename_i v H1 hop
     rw [A1i h hop]
     (try simp only)
     cases hx : isEff o with
     | true =>
      rw [hx] at e
      simp only [cond_true] at e ⊢
      split at e
      ·rename_i ps' hre
       rw [A5n h hre]
       exact A5d h e
      ·cases e
     | false =>
      rw [hx] at e
      simp only [cond_false] at e ⊢
      cases hy : A5e o with
      | true =>
       rw [hy] at e
       simp only [cond_true] at e ⊢
       split at e
       ·rename_i x hxx
        (try simp only [hxx])
        exact A5d h e
       ·cases e
      | false =>
       rw [hy] at e
       simp only [cond_false] at e ⊢
       cases hz : isRead o <;> rw [hz] at e <;> exact A5d h e
theorem B5b (h : B5f c c') {ops : List Oper} {draw : Bool} {F : Fr} {H : AH} {r : Fr × AH} (e : region P c ops draw F H = some r) : region P c' ops draw F H = some r := by
 cases draw with
 | false => exact A3v h e
 | true => exact A5d h e
theorem C3i {O : A4d} {go go' : List Item → Fr → AH → Option (Fr × AH)} (h : ∀ S F H r, go S F H = some r → go' S F H = some r) : B5f (enter P O go) (enter P O go') := by
 intro f args H r e
 unfold enter at e ⊢
 split at e
 ·rename_i hr; (try rw [hr]); exact e
 ·rename_i hr
  (try rw [hr])
  (try simp only)
  split at e
  ·rename_i fn hf
   split at e
   ·rename_i b hb
    obtain ⟨hc, e1⟩ := A3d e
    rw [hc]
    simp only [cond_true]
    split at e1
    ·rename_i F' H1 hg
     rw [h _ _ _ _ hg]
     exact e1
    ·cases e1
   ·cases e
  ·cases e
theorem C3e {O : A4d} : ∀ (n : Nat) (S : List Item) (F : Fr) (H : AH) (r : Fr × AH), run P O n S F H = some r → run P O (n + 1) S F H = some r
 | 0, S, F, H, r, e => by cases e
 | n + 1, S, F, H, r, e => by
  have ih := C3e (O := O) n
  cases S with
  | nil => exact e
  | cons x S =>
   cases x with
   | inBlock id => exact ih _ _ _ _ e
   | inLoop c => exact ih _ _ _ _ e
   | code c =>
    cases c with
    | skip => exact ih _ _ _ _ e
    | seq a b => exact ih _ _ _ _ e
    | block id c => exact ih _ _ _ _ e
    | loop c => exact ih _ _ _ _ e
    | ret => exact e
    | cond x a b =>
     simp only [run] at e
     show (match ev F x with | some (.bool true) => run P O (n + 1) (.code a :: S) F H | some (.bool false) => run P O (n + 1) (.code b :: S) F H | _ => none) = _
     split at e
     ·rename_i hx; (try rw [hx]); exact ih _ _ _ _ e
     ·rename_i hx; (try rw [hx]); exact ih _ _ _ _ e
     ·cases e
    | exit id =>
     simp only [run] at e
     show (match exitTo id S with | some S' => run P O (n + 1) S' F H | none => none) = _
     split at e
     ·rename_i hx; (try rw [hx]); exact ih _ _ _ _ e
     ·cases e
    | region id ops draw =>
     simp only [run] at e
     show (match region P (enter P O (run P O (n + 1))) ops.toList draw F H with | some (F', H') => run P O (n + 1) S F' H' | none => none) = _
     split at e
     ·rename_i F1 H1 hr
      rw [B5b (C3i ih) hr]
      exact ih _ _ _ _ e
     ·cases e
    | _ => cases e
   | _ => cases e
theorem C1b {O : A4d} {n k : Nat} (h : n ≤ k) {S : List Item} {F : Fr} {H : AH} {r : Fr × AH} (e : run P O n S F H = some r) : run P O k S F H = some r := by
 induction h with
 | refl => exact e
 | step _ ih => exact C3e _ _ _ _ _ ih
theorem A6c {O : A4d} {n k : Nat} (h : n ≤ k) : B5f (call P O n) (call P O k) := C3i fun _ _ _ _ e => C1b h e
end
end Go.Proofs.Sh
/- What a run of the shadow leads to: rules. -/
namespace Go.Proofs.Sh
open Go
def wp (P : Program) (O : A4d) (S : List Item) (Q : Fr → AH → Prop) (F : Fr) (H : AH) : Prop := ∃ n F' H', run P O n S F H = some (F', H') ∧ Q F' H'
def Does (P : Program) (O : A4d) (f : FuncId) (args : List Value) (H : AH) (v : Value) (H' : AH) : Prop := ∃ n, call P O n f args H = some (v, H')
def wpo (P : Program) (O : A4d) (all ops : List Oper) (K : Fr → AH → Prop) (F : Fr) (H : AH) : Prop := ∃ n F' H', A8o P (call P O n) all ops F H = some (F', H') ∧ K F' H'
def wpd (P : Program) (O : A4d) (all : List Oper) (bs l : List Nat) (ps : List Pend) (K : Fr → AH → Prop) (F : Fr) (H : AH) : Prop := ∃ n F' H', A7e P (call P O n) all bs l ps F H = some (F', H') ∧ K F' H'
def OpTo (P : Program) (O : A4d) (F : Fr) (H : AH) (o : Oper) (v : Value) (H' : AH) : Prop := ∃ n, aop P (call P O n) F H o = some (v, H')
section
variable {P : Program} {O : A4d} {S : List Item} {Q K : Fr → AH → Prop} {F : Fr} {H : AH}
theorem A12 {S S' : List Item} {F F' : Fr} {H H' : AH} (h0 : run P O 0 S F H = none) (h : ∀ n, run P O (n + 1) S F H = run P O n S' F' H') : wp P O S Q F H ↔ wp P O S' Q F' H' := by
 constructor
 ·rintro ⟨n, F2, H2, h1, h2⟩
  cases n with
  | zero => rw [h0] at h1; cases h1
  | succ n => exact ⟨n, F2, H2, by rw [← h]; exact h1, h2⟩
 ·rintro ⟨n, F2, H2, h1, h2⟩
  exact ⟨n + 1, F2, H2, by rw [h]; exact h1, h2⟩
theorem wp_end {S : List Item} (h0 : run P O 0 S F H = none) (h : ∀ n, run P O (n + 1) S F H = some (F, H)) : wp P O S Q F H ↔ Q F H := by
 constructor
 ·rintro ⟨n, F2, H2, h1, hq⟩
  cases n with
  | zero => rw [h0] at h1; cases h1
  | succ n =>
   rw [h] at h1
   injection h1 with h1
   injection h1 with h1 h2
   subst h1 h2
   exact hq
 ·intro hq
  exact ⟨1, F, H, h 0, hq⟩
theorem wp_nil : wp P O [] Q F H ↔ Q F H := wp_end rfl fun _ => rfl
theorem wp_ret : wp P O (.code .ret :: S) Q F H ↔ Q F H := wp_end rfl fun _ => rfl
theorem wp_skip : wp P O (.code .skip :: S) Q F H ↔ wp P O S Q F H := A12 rfl fun _ => rfl
theorem wp_seq {a b : Code} : wp P O (.code (.seq a b) :: S) Q F H ↔ wp P O (.code a :: .code b :: S) Q F H := A12 rfl fun _ => rfl
theorem wp_block {id : Nat} {c : Code} : wp P O (.code (.block id c) :: S) Q F H ↔ wp P O (.code c :: .inBlock id :: S) Q F H := A12 rfl fun _ => rfl
theorem wp_inLoop {c : Code} : wp P O (.inLoop c :: S) Q F H ↔ wp P O (.code c :: .inLoop c :: S) Q F H := A12 rfl fun _ => rfl
theorem wp_loop {c : Code} : wp P O (.code (.loop c) :: S) Q F H ↔ wp P O (.inLoop c :: S) Q F H := by
 rw [A12 (S' := .code c :: .inLoop c :: S) (F' := F) (H' := H) rfl fun _ => rfl]
 exact wp_inLoop.symm
theorem A66 {id : Nat} : wp P O (.inBlock id :: S) Q F H ↔ wp P O S Q F H := A12 rfl fun _ => rfl
theorem wp_exit {id : Nat} : wp P O (.code (.exit id) :: S) Q F H ↔ ∃ S', exitTo id S = some S' ∧ wp P O S' Q F H := by
 cases h : exitTo id S with
 | none =>
  constructor
  ·rintro ⟨n, F2, H2, h1, _⟩
   cases n with
   | zero => cases h1
   | succ n =>
    have : run P O (n + 1) (.code (.exit id) :: S) F H = none := by
     show (match exitTo id S with | some S' => run P O n S' F H | none => none) = _
     rw [h]
    rw [this] at h1; cases h1
  ·rintro ⟨S', h1, _⟩; cases h1
 | some S' =>
  rw [A12 (S' := S') (F' := F) (H' := H) rfl fun n => by
   show (match exitTo id S with | some S' => run P O n S' F H | none => none) = _
   rw [h]]
  simp
theorem wp_cond {c : Operand} {a b : Code} : wp P O (.code (.cond c a b) :: S) Q F H ↔ ∃ x, ev F c = some (.bool x) ∧ (x = true → wp P O (.code a :: S) Q F H) ∧ (x = false → wp P O (.code b :: S) Q F H) := by
 have hrun : ∀ n, run P O (n + 1) (.code (.cond c a b) :: S) F H = (match ev F c with | some (.bool true) => run P O n (.code a :: S) F H | some (.bool false) => run P O n (.code b :: S) F H | _ => none) := fun n => rfl
 constructor
 ·rintro ⟨n, F2, H2, h1, hq⟩
  cases n with
  | zero => cases h1
  | succ n =>
   rw [hrun] at h1
   split at h1
   ·rename_i h; exact ⟨true, h, fun _ => ⟨n, F2, H2, h1, hq⟩, fun h => by cases h⟩
   ·rename_i h; exact ⟨false, h, (fun h => by cases h), fun _ => ⟨n, F2, H2, h1, hq⟩⟩
   ·cases h1
 ·rintro ⟨x, hx, h1, h2⟩
  cases x with
  | true =>
   obtain ⟨n, F2, H2, h3, hq⟩ := h1 rfl
   exact ⟨n + 1, F2, H2, by rw [hrun, hx]; exact h3, hq⟩
  | false =>
   obtain ⟨n, F2, H2, h3, hq⟩ := h2 rfl
   exact ⟨n + 1, F2, H2, by rw [hrun, hx]; exact h3, hq⟩
theorem B6y {id : Nat} {ops : Array Oper} {draw : Bool} : wp P O (.code (.region id ops draw) :: S) Q F H ↔ ∃ n F1 H1, region P (call P O n) ops.toList draw F H = some (F1, H1) ∧ wp P O S Q F1 H1 := by
 have hrun : ∀ n, run P O (n + 1) (.code (.region id ops draw) :: S) F H = (match region P (call P O n) ops.toList draw F H with | some (F', H') => run P O n S F' H' | none => none) := fun n => rfl
 constructor
 ·rintro ⟨n, F2, H2, h1, hq⟩
  cases n with
  | zero => cases h1
  | succ n =>
   rw [hrun] at h1
   split at h1
   ·rename_i F1 H1 h; exact ⟨n, F1, H1, h, n, F2, H2, h1, hq⟩
   ·cases h1
 ·rintro ⟨n, F1, H1, h1, k, F2, H2, h2, hq⟩
  refine ⟨n + k + 1, F2, H2, ?_, hq⟩
  rw [hrun, B5b (A6c (Nat.le_add_right n k)) h1]
  exact C1b (Nat.le_add_left k n) h2
theorem wp_region {id : Nat} {ops : Array Oper} : wp P O (.code (.region id ops false) :: S) Q F H ↔ wpo P O ops.toList ops.toList (wp P O S Q) F H := B6y
theorem B44 {id : Nat} {ops : Array Oper} : wp P O (.code (.region id ops true) :: S) Q F H ↔ wpd P O ops.toList (A6j ops.toList) (A90 ops.toList (A6j ops.toList)) [] (wp P O S Q) F H := B6y
theorem A9w {all : List Oper} : wpo P O all [] K F H ↔ K F H := by
 constructor
 ·rintro ⟨n, F2, H2, h1, hq⟩
  injection h1 with h1
  injection h1 with h1 h2
  subst h1 h2
  exact hq
 ·intro h; exact ⟨0, F, H, rfl, h⟩
theorem A2v {all ops : List Oper} {o : Oper} : wpo P O all (o :: ops) K F H ↔ ∃ b, A1m all F o = some b ∧ (b = true → ∃ v H1, OpTo P O F H o v H1 ∧ wpo P O all ops K (put F o.dst v) H1) ∧ (b = false → wpo P O all ops K (put F o.dst undef) H) := by
 constructor
 ·rintro ⟨n, F2, H2, h1, hq⟩
  simp only [A8o] at h1
  split at h1
  ·cases h1
  ·rename_i hw; exact ⟨false, hw, (fun h => by cases h), fun _ => ⟨n, F2, H2, h1, hq⟩⟩
  ·rename_i hw
   split at h1
   ·cases h1
   ·rename_i v H1 hop
    exact ⟨true, hw, fun _ => ⟨v, H1, ⟨n, hop⟩, n, F2, H2, h1, hq⟩, fun h => by cases h⟩
 ·rintro ⟨b, hw, h1, h2⟩
  cases b with
  | true =>
   obtain ⟨v, H1, ⟨n, hn⟩, k, F2, H2, h3, hq⟩ := h1 rfl
   refine ⟨n + k, F2, H2, ?_, hq⟩
   simp only [A8o, hw, A1i (A6c (Nat.le_add_right n k)) hn]
   exact A3v (A6c (Nat.le_add_left k n)) h3
  | false =>
   obtain ⟨k, F2, H2, h3, hq⟩ := h2 rfl
   refine ⟨k, F2, H2, ?_, hq⟩
   simp only [A8o, hw]
   exact h3
theorem A5p {all ops : List Oper} {o : Oper} {r : Option (Value × AH)} (hg : o.guard = none) (hr : ∀ c, aop P c F H o = r) : wpo P O all (o :: ops) K F H ↔ ∃ v H1, r = some (v, H1) ∧ wpo P O all ops K (put F o.dst v) H1 := by
 rw [A2v]
 have hw : A1m all F o = some true := by simp [A1m, hg]
 rw [hw]
 simp only [Option.some.injEq, OpTo, hr]
 constructor
 ·rintro ⟨b, rfl, h, _⟩
  obtain ⟨v, H1, ⟨_, h1⟩, h2⟩ := h rfl
  exact ⟨v, H1, h1, h2⟩
 ·rintro ⟨v, H1, h1, h2⟩
  exact ⟨true, rfl, fun _ => ⟨v, H1, ⟨0, h1⟩, h2⟩, fun h => by cases h⟩
theorem A9h {all ops : List Oper} {o : Oper} {r : Option Value} (hg : o.guard = none) (hr : ∀ c, aop P c F H o = quiet H r) : wpo P O all (o :: ops) K F H ↔ ∃ v, r = some v ∧ wpo P O all ops K (put F o.dst v) H := by
 rw [A5p hg hr]
 constructor
 ·rintro ⟨v, H1, h1, h2⟩
  obtain ⟨h3, rfl⟩ := A4e h1
  exact ⟨v, h3, h2⟩
 ·rintro ⟨v, h1, h2⟩
  exact ⟨v, H, by rw [h1]; rfl, h2⟩
section
variable {all ops : List Oper} {dst : Option Tmp} {ty : TypeId} {pos : String} {aft : Array Edge}
theorem bind_ex {α β : Type} {x : Option α} {f : α → Option β} {y : β} : x.bind f = some y ↔ ∃ a, x = some a ∧ f a = some y := Option.bind_eq_some_iff
theorem o_move {x : Operand} : wpo P O all (⟨dst, .move x, ty, pos, aft, none⟩ :: ops) K F H ↔ ∃ v, ev F x = some v ∧ wpo P O all ops K (put F dst v) H := A9h rfl fun _ => rfl
theorem C5c {x : Operand} : wpo P O all (⟨dst, .assign x, ty, pos, aft, none⟩ :: ops) K F H ↔ ∃ v, ev F x = some v ∧ wpo P O all ops K (put F dst v) H := A9h rfl fun _ => rfl
theorem o_load {t : TypeId} {x : Operand} : wpo P O all (⟨dst, .load t x, ty, pos, aft, none⟩ :: ops) K F H ↔ ∃ v, ((ev F x).bind fun a => A2f P t H a) = some v ∧ wpo P O all ops K (put F dst v) H := A9h rfl fun _ => by
 show _ = quiet H _
 unfold aop
 simp only
 simp only [quiet, Option.map_bind, Function.comp_def]
theorem C9w {op : BinOp} {t u : TypeId} {x y : Operand} : wpo P O all (⟨dst, .binOp op t x y u, ty, pos, aft, none⟩ :: ops) K F H ↔ ∃ v, ((ev F x).bind fun a => (ev F y).bind fun b => abin P t (isConst x || isConst y) op a b) = some v ∧ wpo P O all ops K (put F dst v) H := A9h rfl fun _ => by
 show _ = quiet H _
 unfold aop
 simp only
 simp only [quiet, Option.map_bind, Function.comp_def]
theorem o_unOp {op : UnOp} {t : TypeId} {x : Operand} : wpo P O all (⟨dst, .unOp op t x, ty, pos, aft, none⟩ :: ops) K F H ↔ ∃ v, ((ev F x).bind fun a => aun op a) = some v ∧ wpo P O all ops K (put F dst v) H := A9h rfl fun _ => by
 show _ = quiet H _
 unfold aop
 simp only
 simp only [quiet, Option.map_bind, Function.comp_def]
theorem C5x {t : TypeId} {ps : Array (Nat × Operand)} : wpo P O all (⟨dst, .build t ps, ty, pos, aft, none⟩ :: ops) K F H ↔ ∃ v, ((evps F ps.toList).bind fun ps => A6t P t ps) = some v ∧ wpo P O all ops K (put F dst v) H := A9h rfl fun _ => by
 show _ = quiet H _
 unfold aop
 simp only
 simp only [quiet, Option.map_bind, Function.comp_def]
theorem C7y {t : TypeId} {x : Operand} {lo hi mx : Option Operand} : wpo P O all (⟨dst, .slice t x lo hi mx, ty, pos, aft, none⟩ :: ops) K F H ↔ ∃ v, ((ev F x).bind fun x => (evo F lo).bind fun lo => (evo F hi).bind fun hi => (evo F mx).bind fun mx => A2r P t H x lo hi mx) = some v ∧ wpo P O all ops K (put F dst v) H := A9h rfl fun _ => by
 show _ = quiet H _
 unfold aop
 simp only
 simp only [quiet, Option.map_bind, Function.comp_def]
theorem B1h {t : TypeId} {x : Operand} {f : Nat} : wpo P O all (⟨dst, .fieldAddr t x f, ty, pos, aft, none⟩ :: ops) K F H ↔ ∃ v, ((ev F x).bind fun x => A5b P t f x) = some v ∧ wpo P O all ops K (put F dst v) H := A9h rfl fun _ => by
 show _ = quiet H _
 unfold aop
 simp only
 simp only [quiet, Option.map_bind, Function.comp_def]
theorem C5u {t : TypeId} {x : Operand} {f : Nat} : wpo P O all (⟨dst, .field t x f, ty, pos, aft, none⟩ :: ops) K F H ↔ ∃ v, ((ev F x).bind fun x => B89 P t f x) = some v ∧ wpo P O all ops K (put F dst v) H := A9h rfl fun _ => by
 show _ = quiet H _
 unfold aop
 simp only
 simp only [quiet, Option.map_bind, Function.comp_def]
theorem B4i {t : TypeId} {x i : Operand} : wpo P O all (⟨dst, .indexAddr t x i, ty, pos, aft, none⟩ :: ops) K F H ↔ ∃ v, ((ev F x).bind fun x => (ev F i).bind fun i => A4b P t x i) = some v ∧ wpo P O all ops K (put F dst v) H := A9h rfl fun _ => by
 show _ = quiet H _
 unfold aop
 simp only
 simp only [quiet, Option.map_bind, Function.comp_def]
theorem C9m {t : TypeId} {x i : Operand} : wpo P O all (⟨dst, .index t x i, ty, pos, aft, none⟩ :: ops) K F H ↔ ∃ v, ((ev F x).bind fun x => (ev F i).bind fun i => A88 P t x i) = some v ∧ wpo P O all ops K (put F dst v) H := A9h rfl fun _ => by
 show _ = quiet H _
 unfold aop
 simp only
 simp only [quiet, Option.map_bind, Function.comp_def]
theorem C4h {t : TypeId} {m k : Operand} {ok : Bool} : wpo P O all (⟨dst, .lookup t m k ok, ty, pos, aft, none⟩ :: ops) K F H ↔ ∃ v, ((ev F m).bind fun m => (ev F k).bind fun k => A0u P t m k ok H) = some v ∧ wpo P O all ops K (put F dst v) H := A9h rfl fun _ => by
 show _ = quiet H _
 unfold aop
 simp only
 simp only [quiet, Option.map_bind, Function.comp_def]
theorem C4z {t : TypeId} : wpo P O all (⟨dst, .alloc t, ty, pos, aft, none⟩ :: ops) K F H ↔ ∃ v H1, ((zeroAt P t).bind fun z => anew P t H z) = some (v, H1) ∧ wpo P O all ops K (put F dst v) H1 := A5p rfl fun _ => rfl
theorem o_box {t : TypeId} {x : Operand} : wpo P O all (⟨dst, .box t x, ty, pos, aft, none⟩ :: ops) K F H ↔ ∃ v H1, ((ev F x).bind fun v => anew P t H v) = some (v, H1) ∧ wpo P O all ops K (put F dst v) H1 := A5p rfl fun _ => rfl
theorem A78 {t : TypeId} {n : Nat} {ps : Array (Nat × Operand)} : wpo P O all (⟨dst, .buildSlice t n ps, ty, pos, aft, none⟩ :: ops) K F H ↔ ∃ v H1, ((evps F ps.toList).bind fun ps => A5a P t n ps H) = some (v, H1) ∧ wpo P O all ops K (put F dst v) H1 := A5p rfl fun _ => rfl
theorem C5o {t : TypeId} {a x : Operand} : wpo P O all (⟨dst, .store t a x, ty, pos, aft, none⟩ :: ops) K F H ↔ ∃ v H1, ((ev F a).bind fun a => (ev F x).bind fun v => unit (A8e P t H v a)) = some (v, H1) ∧ wpo P O all ops K (put F dst v) H1 := A5p rfl fun _ => rfl
theorem B9h {t : TypeId} {l c : Operand} : wpo P O all (⟨dst, .makeSlice t l c, ty, pos, aft, none⟩ :: ops) K F H ↔ ∃ v H1, ((ev F l).bind fun l => (ev F c).bind fun c => A6f P t l c H) = some (v, H1) ∧ wpo P O all ops K (put F dst v) H1 := A5p rfl fun _ => rfl
theorem B2g {t : TypeId} {m k x : Operand} : wpo P O all (⟨dst, .mapUpdate t m k x, ty, pos, aft, none⟩ :: ops) K F H ↔ ∃ v H1, ((ev F m).bind fun m => (ev F k).bind fun k => (ev F x).bind fun x => unit (A3k P t m k x H)) = some (v, H1) ∧ wpo P O all ops K (put F dst v) H1 := A5p rfl fun _ => rfl
theorem B39 {t : TypeId} {m k x : Operand} : wpo P O all (⟨dst, .insert t m k x, ty, pos, aft, none⟩ :: ops) K F H ↔ ∃ v H1, ((ev F m).bind fun m => (ev F k).bind fun k => (ev F x).bind fun x => unit (A3k P t m k x H)) = some (v, H1) ∧ wpo P O all ops K (put F dst v) H1 := A5p rfl fun _ => rfl
theorem B90 {s d : TypeId} {x : Operand} : wpo P O all (⟨dst, .convert s d x, ty, pos, aft, none⟩ :: ops) K F H ↔ ∃ v H1, ((ev F x).bind fun a => A8h P s d a H) = some (v, H1) ∧ wpo P O all ops K (put F dst v) H1 := A5p rfl fun _ => rfl
theorem B9s {t : TypeId} : wpo P O all (⟨dst, .makeMap t none, ty, pos, aft, none⟩ :: ops) K F H ↔ wpo P O all ops K (put F dst (.map (some H.next))) (H.push (.map [])).2 := by
 rw [A5p (r := some (.map (some H.next), (H.push (.map [])).2)) rfl fun _ => rfl]
 simp only [Option.some.injEq, Prod.mk.injEq]
 exact ⟨fun ⟨_, _, ⟨h1, h2⟩, h⟩ => h1 ▸ h2 ▸ h, fun h => ⟨_, _, ⟨rfl, rfl⟩, h⟩⟩
theorem B0m {f : Fn} {fi cs : Array Operand} : wpo P O all (⟨dst, .makeFunc f fi cs, ty, pos, aft, none⟩ :: ops) K F H ↔ ∃ a b, evs F fi.toList = some a ∧ evs F cs.toList = some b ∧ wpo P O all ops K (put F dst (.func f a.toArray b.toArray)) H := by
 rw [A5p (r := (evs F fi.toList).bind fun fi => (evs F cs.toList).bind fun cs => some (.func f fi.toArray cs.toArray, H)) rfl fun _ => rfl]
 simp only [bind_ex, Option.some.injEq, Prod.mk.injEq]
 constructor
 ·rintro ⟨v, H1, ⟨a, h1, b, h2, rfl, rfl⟩, h3⟩; exact ⟨a, b, h1, h2, h3⟩
 ·rintro ⟨a, b, h1, h2, h3⟩; exact ⟨_, H, ⟨a, h1, b, h2, rfl, rfl⟩, h3⟩
theorem B4l {x : Operand} : wpo P O all (⟨dst, .nilCheck x, ty, pos, aft, none⟩ :: ops) K F H ↔ ∃ v, ((ev F x).bind fun | .pointer (some a) => some (.pointer (some a)) | .func (.func f) fi c => some (.func (.func f) fi c) | _ => none) = some v ∧ wpo P O all ops K (put F dst v) H := A9h rfl fun _ => by
 show _ = quiet H _
 unfold aop
 simp only
 cases ev F x with
 | none => rfl
 | some v =>
  cases v with
  | pointer a => cases a <;> rfl
  | func f x y => cases f <;> rfl
  | _ => rfl
theorem B4x {t : Operand} {i : Nat} : wpo P O all (⟨dst, .extract t i, ty, pos, aft, none⟩ :: ops) K F H ↔ ∃ v, ((ev F t).bind fun | .tuple vs => vs.toList[i]? | _ => none) = some v ∧ wpo P O all ops K (put F dst v) H := A9h rfl fun _ => by
 show _ = quiet H _
 unfold aop
 simp only
 cases ev F t with
 | none => rfl
 | some v =>
  cases v <;> rfl
theorem o_pick {c x y : Operand} : wpo P O all (⟨dst, .pick c x y, ty, pos, aft, none⟩ :: ops) K F H ↔ ∃ b, ev F c = some (.bool b) ∧ ∃ v, ev F (bif b then x else y) = some v ∧ wpo P O all ops K (put F dst v) H := by
 rw [A5p (r := match ev F c with
  | some (.bool true) => quiet H (ev F x)
  | some (.bool false) => quiet H (ev F y)
  | _ => none) rfl fun _ => rfl]
 constructor
 ·rintro ⟨v, H1, h1, h2⟩
  split at h1
  ·rename_i hc; obtain ⟨h3, rfl⟩ := A4e h1; exact ⟨true, hc, v, h3, h2⟩
  ·rename_i hc; obtain ⟨h3, rfl⟩ := A4e h1; exact ⟨false, hc, v, h3, h2⟩
  ·cases h1
 ·rintro ⟨b, hc, v, h1, h2⟩
  cases b with
  | true => refine ⟨v, H, ?_, h2⟩; rw [hc]; simp only [cond_true] at h1; rw [h1]; rfl
  | false => refine ⟨v, H, ?_, h2⟩; rw [hc]; simp only [cond_false] at h1; rw [h1]; rfl
theorem B2w {b : Builtin} {xs : Array Operand} {ts : Array TypeId} : wpo P O all (⟨dst, .call { callee := .builtin b, args := xs, argTypes := ts }, ty, pos, aft, none⟩ :: ops) K F H ↔ ∃ v H1, ((evs F xs.toList).bind fun args => A4a P b ts.toList args H) = some (v, H1) ∧ wpo P O all ops K (put F dst v) H1 := A5p rfl fun _ => rfl
theorem wpo_on {all ops : List Oper} {o : Oper} (hg : o.guard = none) : wpo P O all (o :: ops) K F H ↔ ∃ v H1, OpTo P O F H o v H1 ∧ wpo P O all ops K (put F o.dst v) H1 := by
 rw [A2v]
 have hw : A1m all F o = some true := by simp [A1m, hg]
 rw [hw]
 simp only [Option.some.injEq]
 exact ⟨fun ⟨b, h1, h2, _⟩ => h2 h1.symm, fun h => ⟨true, rfl, fun _ => h, fun h => by cases h⟩⟩
theorem o_call {x : Operand} {xs : Array Operand} {ts : Array TypeId} : wpo P O all (⟨dst, .call { callee := .value x, args := xs, argTypes := ts }, ty, pos, aft, none⟩ :: ops) K F H ↔
  ∃ args, evs F xs.toList = some args ∧ ∃ f fi cs, ev F x = some (.func (.func f) fi cs) ∧ ∃ v H1, Does P O f (fi.toList ++ args ++ cs.toList) H v H1 ∧ wpo P O all ops K (put F dst v) H1 := by
 rw [wpo_on rfl]
 constructor
 ·rintro ⟨v, H1, ⟨n, hn⟩, h⟩
  obtain ⟨args, h1, h2⟩ := Option.bind_eq_some_iff.1 hn
  obtain ⟨g, h3, h4⟩ := Option.bind_eq_some_iff.1 h2
  unfold C1m at h4
  split at h4
  ·exact ⟨args, h1, _, _, _, h3, v, H1, ⟨n, h4⟩, h⟩
  ·cases h4
 ·rintro ⟨args, h1, f, fi, cs, h2, v, H1, ⟨n, hn⟩, h⟩
  refine ⟨v, H1, ⟨n, ?_⟩, h⟩
  show (evs F xs.toList).bind _ = _
  rw [h1]
  show (ev F x).bind _ = _
  rw [h2]
  exact hn
theorem B78 {op : Op} {j : Nat} {want : Bool} : wpo P O all (⟨dst, op, ty, pos, aft, some (j, want)⟩ :: ops) K F H ↔
  ∃ u, ((all[j]?).bind (·.dst)).bind F.get = some u ∧ (u = .bool want → wpo P O all (⟨dst, op, ty, pos, aft, none⟩ :: ops) K F H) ∧ (u ≠ .bool want → wpo P O all ops K (put F dst undef) H) := by
 rw [A2v, wpo_on rfl]
 simp only [A1m]
 have hop : ∀ v H1, OpTo P O F H ⟨dst, op, ty, pos, aft, some (j, want)⟩ v H1 ↔ OpTo P O F H ⟨dst, op, ty, pos, aft, none⟩ v H1 := fun v H1 => Iff.rfl
 cases ((all[j]?).bind (·.dst)).bind F.get with
 | none => simp
 | some u =>
  simp only [Option.some.injEq, exists_eq_left', hop]
  have hu : (u = .bool want ∧ (match u with | .bool b => some (b == want) | _ => some false) = some true) ∨ (u ≠ .bool want ∧ (match u with | .bool b => some (b == want) | _ => some false) = some false) := by
   cases u <;> simp <;> cases want <;> rename_i b <;> cases b <;> simp
  rcases hu with ⟨h1, h2⟩ | ⟨h1, h2⟩
  ·subst h1
   constructor
   ·rintro ⟨b, hb, h3, h4⟩
    have : b = true := by simpa using hb.symm
    exact ⟨fun _ => h3 this, fun h => absurd rfl h⟩
   ·rintro ⟨h3, _⟩
    exact ⟨true, by simp, fun _ => h3 rfl, fun h => by cases h⟩
  ·constructor
   ·rintro ⟨b, hb, h3, h4⟩
    have : b = false := by
     have h5 : (match (some u : Option Value) with | some (.bool b) => some (b == want) | some _ => some false | none => none) = some b := hb
     cases u with
     | bool c => cases c <;> cases want <;> simp_all
     | _ => simpa using h5.symm
    exact ⟨fun h => absurd h h1, fun _ => h4 this⟩
   ·rintro ⟨_, h4⟩
    refine ⟨false, ?_, (fun h => by cases h), fun _ => h4 h1⟩
    cases u <;> simp at h2 ⊢ <;> simp_all
end
end
end Go.Proofs.Sh
/- What a call of the shadow leads to, and lemmas for walking. -/
namespace Go.Proofs.Sh
open Go
section
variable {P : Program} {O : A4d}
def Call (P : Program) (O : A4d) (f : FuncId) (args : List Value) (H : AH) (Q : Value → AH → Prop) : Prop := ∃ v H', Does P O f args H v H' ∧ Q v H'
theorem A2a {f : FuncId} {args : List Value} {H : AH} {fn : Func} {c : Code} {Q : Value → AH → Prop} (hO : O f args H = none) (hf : P.funcs[f]? = some fn) (hb : fn.body = some c) (hl : args.length ≤ fn.ntmps)
  (h : wp P O [.code c] (fun F' H' => ∃ vs, resultsA P F' H' fn.results.toList = some vs ∧ Q (one vs) H') (B6o args 0 .nil) H) : Call P O f args H Q := by
 obtain ⟨n, F', H', h1, vs, h2, h3⟩ := h
 refine ⟨one vs, H', ⟨n, ?_⟩, h3⟩
 unfold call enter
 rw [hO]
 simp only [hf, hb]
 rw [Nat.ble_eq_true_of_le hl]
 simp only [cond_true, h1, h2, Option.map_some]
theorem Call.mono {f : FuncId} {args : List Value} {H : AH} {Q Q' : Value → AH → Prop} (h : Call P O f args H Q) (hq : ∀ v H', Q v H' → Q' v H') : Call P O f args H Q' := by
 obtain ⟨v, H', h1, h2⟩ := h
 exact ⟨v, H', h1, hq _ _ h2⟩
def Wf (H : AH) : Prop := ∀ g o, H.objs.get g = some o → g < H.next
theorem Wf.push {H : AH} (h : Wf H) (o : AObj) : Wf (H.push o).2 := by
 intro g x e
 show g < H.next + 1
 have e' : (H.objs.set H.next o).get g = some x := e
 rw [Tr.get_set] at e'
 split at e'
 ·omega
 ·have := h g x e'; omega
theorem Wf.grow {H : AH} (h : Wf H) (o : AObj) : HGrow H (H.push o).2 := by
 intro g x hg
 show (H.objs.set H.next o).get g = some x
 rw [Tr.get_set, if_neg]
 ·exact hg
 ·rintro rfl
  have := h _ _ hg
  omega
theorem Wf.put {H : AH} (h : Wf H) {g : Nat} (hg : g < H.next) (o : AObj) : Wf (H.put g o) := by
 intro g' x e
 rw [A3f] at e
 show g' < H.next
 split at e
 ·rename_i hh; rw [hh]; exact hg
 ·exact h g' x e
theorem A10 (F : Fr) (t : Nat) (v : Value) : (put F (some t) v).get t = some v := Tr.get_set_eq _ _ _
theorem A0z (F : Fr) {t u : Nat} (h : u ≠ t) (v : Value) : (put F (some t) v).get u = F.get u := Tr.get_set_ne _ h _
theorem C2d (F : Fr) (v : Value) : put F none v = F := rfl
theorem C1f (F : Fr) (t : Tmp) : ev F (.tmp t) = F.get t := rfl
theorem C8o (F : Fr) (f : FuncId) : ev F (.func f) = some (.func (.func f) #[] #[]) := rfl
theorem ev_int (F : Fr) (k : IntKind) (n : Int) : ev F (.const (.int k n)) = some (.int k n) := rfl
theorem C1r (F : Fr) (b : Bool) : ev F (.const (.bool b)) = some (.bool b) := rfl
theorem ev_str (F : Fr) (s : ByteArray) : ev F (.const (.string s)) = some (.string s) := rfl
theorem B2m (vs : List Value) (t : Nat) : (B6o vs 0 .nil).get t = vs[t]? := by
 rw [B8e]
 split
 ·simp
 ·rename_i h
  rw [List.getElem?_eq_none (by omega)]
  rfl
theorem A3b {t : TypeId} {H : AH} {a : Addr} (h : A5f P t = some false) : A2f P t H (.pointer (some a)) = H.cell a := by simp only [A2f, h]
theorem A0q {t : TypeId} {H : AH} {a : Addr} {n : Nat} (h : A5f P t = some true) (hs : A8b P t = some n) : A2f P t H (.pointer (some a)) = (H.cells a n).map fun l => .agg l.toArray := by simp only [A2f, h, hs, Option.bind_some]
theorem A6l {H : AH} (s : Nat) (vs : List Value) (i : Nat) : (H.new s vs).2.cell ⟨H.next, i, some 0⟩ = vs[i]? := by
 unfold AH.cell AH.row?
 show (match (match (H.objs.set H.next (.rows [{ pos := 0, esz := s, vals := vs, ok := true }] true)).get H.next, (some 0 : Option Nat) with
  | some (.rows rs _), some k => match rs[k]? with
   | some r => bif r.ok then some r else none
   | none => none
  | _, _ => none) with | some r => r.vals[i]? | none => none) = _
 rw [Tr.get_set_eq]
 rfl
end
end Go.Proofs.Sh
/- What comes in: a world's data, taken into the shadow's memory, to be read. -/
namespace Go.Proofs.Sh
open Go
def AllRo (H : AH) : Prop := ∀ g o, H.objs.get g = some o → ∃ rs, o = .rows rs false
section
variable {P : Program} {B : Nat} {ρ : Map} {H : AH} {w : World}
theorem HRel.adopt (h : HRel B ρ H w) (hro : AllRo H) {b off s : Nat} {c : Array Value} {el : TypeId} {fr : Nat × Nat} {vals : List Value} (hb : w.heap[b]? = some (.cells c el fr)) (hl : off + vals.length ≤ c.size)
  (hv : ∀ (i : Nat) (v : Value), vals[i]? = some v → isCell v = true ∧ ∃ u, c[off + i]? = some u ∧ VRel ρ v u) :
  HRel B (ρ.add H.next 0 ⟨b, off, c.size, s⟩) (H.push (.rows [{ pos := 0, esz := s, vals, ok := true }] false)).2 w := by
 have hnone := h.none_new
 have hle : ρ.le (ρ.add H.next 0 ⟨b, off, c.size, s⟩) := Map.le_add (hnone 0)
 have hget : ∀ g, (H.push (.rows [{ pos := 0, esz := s, vals, ok := true }] false)).2.objs.get g = if g = H.next then some (.rows [{ pos := 0, esz := s, vals, ok := true }] false) else H.objs.get g := fun g => Tr.get_set _ _ _ _
 have hold : ∀ {g k L}, (ρ.add H.next 0 ⟨b, off, c.size, s⟩) g k = some L → g ≠ H.next → ρ g k = some L := by
  intro g k L e hg
  rwa [Map.add_other _ _ (fun x => hg x.1)] at e
 have hnew : ∀ {k L}, (ρ.add H.next 0 ⟨b, off, c.size, s⟩) H.next k = some L → k = 0 ∧ L = ⟨b, off, c.size, s⟩ := by
  intro k L e
  by_cases hk : k = 0
  ·subst hk; rw [Map.add_same] at e; injection e with e; exact ⟨rfl, e.symm⟩
  ·rw [Map.add_other _ _ (fun x => hk x.2), hnone] at e; cases e
 have hro' : ∀ g o, (H.push (.rows [{ pos := 0, esz := s, vals, ok := true }] false)).2.objs.get g = some o → ∃ rs, o = .rows rs false := by
  intro g o e
  rw [hget] at e
  split at e
  ·injection e with e; exact ⟨_, e.symm⟩
  ·exact hro g o e
 have hlt : b < w.heap.size := (Array.getElem?_eq_some_iff.1 hb).1
 refine ⟨h.base, ?_, ?_, ?_, ?_, ?_, ?_, ?_, ?_, ?_⟩
 ·intro g rs rw hg k r L hr hok hL
  rw [hget] at hg
  split at hg
  ·rename_i hg'
   subst hg'
   injection hg with hg
   injection hg with hg1 hg2
   subst hg1 hg2
   obtain ⟨rfl, rfl⟩ := hnew hL
   simp only [List.getElem?_cons_zero, Option.some.injEq] at hr
   subst hr
   exact ⟨c, el, fr, hb, rfl, rfl, hl, fun i v hi => by obtain ⟨h1, u, h2, h3⟩ := hv i v hi; exact ⟨h1, u, h2, h3.mono hle⟩, fun x => by cases x⟩
  ·rename_i hg'
   exact (h.rows g rs rw hg k r L hr hok (hold hL hg')).mono hle rfl
 ·intro g rs rw g' rs' rw' hg hg' hrw
  obtain ⟨_, h1⟩ := hro' _ _ hg
  obtain ⟨_, h2⟩ := hro' _ _ hg'
  injection h1 with _ h1
  injection h2 with _ h2
  subst h1 h2
  rcases hrw with x | x <;> cases x
 ·intro g es L hg
  obtain ⟨_, h1⟩ := hro' _ _ hg
  cases h1
 ·intro g g' es es' L L' hg
  obtain ⟨_, h1⟩ := hro' _ _ hg
  cases h1
 ·intro g rs g' es k L L' _ hg
  obtain ⟨_, h1⟩ := hro' _ _ hg
  cases h1
 ·intro g k L e
  by_cases hg : g = H.next
  ·subst hg
   obtain ⟨_, rfl⟩ := hnew e
   exact ⟨Nat.lt_succ_self _, hlt⟩
  ·have := h.lt _ _ _ (hold e hg)
   exact ⟨Nat.lt_succ_of_lt this.1, this.2⟩
 ·intro g o e
  rw [hget] at e
  split at e
  ·rename_i hg; rw [hg]; exact Nat.lt_succ_self _
  ·exact Nat.lt_succ_of_lt (h.inH _ _ e)
 ·intro g rs rw hg k L e
  rw [hget] at hg
  split at hg
  ·rename_i hg'
   subst hg'
   injection hg with hg
   injection hg with hg1 hg2
   subst hg1
   obtain ⟨rfl, _⟩ := hnew e
   simp
  ·rename_i hg'
   exact h.short g rs rw hg k L (hold e hg')
 ·intro g es hg
  obtain ⟨_, h1⟩ := hro' _ _ hg
  cases h1
theorem AllRo.push (h : AllRo H) (rs : List Row) : AllRo (H.push (.rows rs false)).2 := by
 intro g o e
 have e' : (H.objs.set H.next (.rows rs false)).get g = some o := e
 rw [Tr.get_set] at e'
 split at e'
 ·injection e' with e'; exact ⟨_, e'.symm⟩
 ·exact h g o e'
theorem HRel.wf (h : HRel B ρ H w) : Wf H := h.inH
end
def RD {K : Type} (P : Program) (H : AH) : Nat → TypeId → List Value → DataW K → Prop
 | 0, _, _, _ => False
 | f + 1, t, cs, d => match P.underlying t with
  | some .bool => ∃ b, cs = [.bool b] ∧ d = .lit (.bool b)
  | some (.int k) => ∃ n, cs = [.int k n] ∧ d = .lit (.int k n) ∧ (Lit.int k n).wf = true
  | some .string => ∃ s, cs = [.string s] ∧ d = .lit (.string s.data.toList) ∧ s.size ≤ maxLen
  | some (.slice e) => (cs = [.slice none 0 0] ∧ d = .nil) ∨ ∃ a len cap es sp, cs = [.slice (some a) len cap] ∧ d = .slice es sp ∧ es.length = len ∧ len + sp.length = cap ∧ cap ≤ maxLen ∧ (0 < len → a.spot.isSome = true) ∧
      ∀ (i : Nat) x, es[i]? = some x → ∃ cs', H.cells (plus a (i * P.cellsOf e)) (P.cellsOf e) = some cs' ∧ RD P H f e cs' x
  | some (.struct fs) => ∃ ds, d = .agg ds ∧ cs.length = P.cellsOf t ∧ ds.length = fs.size ∧ ∀ (i : Nat) fd x, fs[i]? = some fd → ds[i]? = some x → RD P H f fd.type ((cs.drop fd.offset).take (P.cellsOf fd.type)) x
  | some (.array n e) => ∃ ds, d = .agg ds ∧ cs.length = P.cellsOf t ∧ ds.length = n ∧ ∀ (i : Nat) x, ds[i]? = some x → RD P H f e ((cs.drop (i * P.cellsOf e)).take (P.cellsOf e)) x
  | _ => False
theorem RD.grow {K : Type} {P : Program} {H H' : AH} (h : HGrow H H') : ∀ {f : Nat} {t : TypeId} {cs : List Value} {d : DataW K}, RD P H f t cs d → RD P H' f t cs d
 | 0, _, _, _, r => r
 | f + 1, t, cs, d, r => by
  unfold RD at r ⊢
  split at r
  ·exact r
  ·exact r
  ·exact r
  ·rcases r with r | ⟨a, len, cap, es, sp, h1, h2, h3, h4, h5, h6, h7⟩
   ·exact .inl r
   ·exact .inr ⟨a, len, cap, es, sp, h1, h2, h3, h4, h5, h6, fun i x hx => by obtain ⟨cs', k1, k2⟩ := h7 i x hx; exact ⟨cs', A5r h k1, RD.grow h k2⟩⟩
  ·obtain ⟨ds, h1, h2, h3, h4⟩ := r
   exact ⟨ds, h1, h2, h3, fun i fd x e1 e2 => RD.grow h (h4 i fd x e1 e2)⟩
  ·obtain ⟨ds, h1, h2, h3, h4⟩ := r
   exact ⟨ds, h1, h2, h3, fun i x e2 => RD.grow h (h4 i x e2)⟩
  ·exact r
def B2z (P : Program) : List Field → Nat → Nat → Bool
 | [], o, n => Nat.beq o n
 | f :: fs, o, n => Nat.beq f.offset o && B2z P fs (o + P.cellsOf f.type) n
def A64 (P : Program) : Nat → TypeId → Bool
 | 0, _ => false
 | f + 1, t => match P.underlying t with
  | some .bool | some (.int _) | some .string => Nat.beq (P.cellsOf t) 1
  | some (.slice e) => Nat.beq (P.cellsOf t) 1 && Nat.ble 1 (P.cellsOf e) && A64 P f e
  | some (.struct fs) => B2z P fs.toList 0 (P.cellsOf t) && fs.toList.all fun fd => A64 P f fd.type
  | _ => false
section
variable {K : Type} {enc : TypeId × Value → K} {P : Program} {w : World} {B : Nat}
theorem C9h {s : Nat} : ∀ {l : List (List Value)} {i : Nat} {x : List Value}, (∀ y ∈ l, y.length = s) → l[i]? = some x → (l.flatten.drop (i * s)).take s = x ∧ i * s + s ≤ l.flatten.length
 | [], i, x, _, h => by simp at h
 | y :: l, 0, x, hs, h => by
  simp only [List.getElem?_cons_zero, Option.some.injEq] at h
  subst h
  have := hs y List.mem_cons_self
  simp only [Nat.zero_mul, List.drop_zero, List.flatten_cons, Nat.zero_add, List.length_append]
  exact ⟨by rw [← this]; simp, by omega⟩
 | y :: l, i + 1, x, hs, h => by
  simp only [List.getElem?_cons_succ] at h
  obtain ⟨h1, h2⟩ := C9h (fun z hz => hs z (List.mem_cons_of_mem _ hz)) h
  have hy := hs y List.mem_cons_self
  have e : (i + 1) * s = y.length + i * s := by rw [hy, Nat.add_mul, Nat.one_mul, Nat.add_comm]
  simp only [List.flatten_cons, List.length_append]
  rw [e, List.drop_append, List.drop_eq_nil_of_le (by omega), List.nil_append, show y.length + i * s - y.length = i * s by omega]
  exact ⟨h1, by omega⟩
theorem B59 {s : Nat} : ∀ {l : List (List Value)}, (∀ y ∈ l, y.length = s) → l.flatten.length = l.length * s
 | [], _ => by simp
 | y :: l, h => by
  simp only [List.flatten_cons, List.length_append, List.length_cons]
  rw [h y List.mem_cons_self, B59 (fun z hz => h z (List.mem_cons_of_mem _ hz)), Nat.add_mul, Nat.one_mul, Nat.add_comm]
theorem flat_get {s : Nat} {l : List (List Value)} (hs : ∀ y ∈ l, y.length = s) {k : Nat} {v : Value} (h : l.flatten[k]? = some v) : ∃ i j x, k = i * s + j ∧ j < s ∧ l[i]? = some x ∧ x[j]? = some v := by
 induction l generalizing k with
 | nil => simp at h
 | cons y l ih =>
  have hy := hs y List.mem_cons_self
  simp only [List.flatten_cons] at h
  by_cases hk : k < y.length
  ·rw [List.getElem?_append_left hk] at h
   exact ⟨0, k, y, by simp, by omega, rfl, h⟩
  ·rw [List.getElem?_append_right (by omega)] at h
   obtain ⟨i, j, x, h1, h2, h3, h4⟩ := ih (fun z hz => hs z (List.mem_cons_of_mem _ hz)) h
   exact ⟨i + 1, j, x, by rw [Nat.add_mul, Nat.one_mul]; omega, h2, h3, h4⟩
abbrev C9y (K : Type) := TypeId × List Value × DataW K × List MemPlace
def Taken (P : Program) (w : World) (B : Nat) (K : Type) (fuel : Nat) (t : TypeId) (cs : List Value) (d : DataW K) (H : AH) (ρ : Map) : Prop :=
 ∃ H' ρ' acs, HRel B ρ' H' w ∧ AllRo H' ∧ HGrow H H' ∧ ρ.le ρ' ∧ VRels ρ' acs cs ∧ RD P H' fuel t acs d ∧ ∀ v ∈ acs, isCell v = true
theorem takeL {fuel pf : Nat} (IH : ∀ (t : TypeId) (cs : List Value) (d : DataW K) (ps : List MemPlace), DataW.trod enc P w 0 (fun _ => true) true fuel t cs = some (d, ps) → A64 P pf t = true → ∀ H ρ, HRel B ρ H w → AllRo H → Taken P w B K fuel t cs d H ρ) :
  ∀ (items : List (C9y K)), (∀ it ∈ items, DataW.trod enc P w 0 (fun _ => true) true fuel it.1 it.2.1 = some (it.2.2.1, it.2.2.2) ∧ A64 P pf it.1 = true) → ∀ H ρ, HRel B ρ H w → AllRo H →
   ∃ H' ρ' , ∃ acss : List (List Value), HRel B ρ' H' w ∧ AllRo H' ∧ HGrow H H' ∧ ρ.le ρ' ∧ acss.length = items.length ∧
    ∀ (j : Nat) it ac, items[j]? = some it → acss[j]? = some ac → VRels ρ' ac it.2.1 ∧ RD P H' fuel it.1 ac it.2.2.1 ∧ ∀ v ∈ ac, isCell v = true
 | [], _, H, ρ, hH, hro => ⟨H, ρ, [], hH, hro, HGrow.refl H, Map.le_refl ρ, rfl, fun j it ac h => by simp at h⟩
 | it :: items, h, H, ρ, hH, hro => by
  obtain ⟨h1, h2⟩ := h it List.mem_cons_self
  obtain ⟨H1, ρ1, ac, k1, k2, k3, k4, k5, k6, k7⟩ := IH _ _ _ _ h1 h2 H ρ hH hro
  obtain ⟨H2, ρ2, acss, g1, g2, g3, g4, g5, g6⟩ := takeL IH items (fun x hx => h x (List.mem_cons_of_mem _ hx)) H1 ρ1 k1 k2
  refine ⟨H2, ρ2, ac :: acss, g1, g2, k3.trans g3, Map.le_trans k4 g4, by simp [g5], fun j it' ac' e1 e2 => ?_⟩
  cases j with
  | zero =>
   simp only [List.getElem?_cons_zero, Option.some.injEq] at e1 e2
   subst e1 e2
   exact ⟨k5.mono g4, k6.grow g3, k7⟩
  | succ j =>
   simp only [List.getElem?_cons_succ] at e1 e2
   exact g6 j it' ac' e1 e2
theorem C5j {a : Addr} {v : Value} (h : w.cell? a = some v) : a.spot = none ∧ ∃ c el fr, w.heap[a.block]? = some (.cells c el fr) := by
 refine ⟨World.cell?_spot h, ?_⟩
 unfold World.cell? at h
 split at h
 ·rename_i hb
  exact ⟨_, _, _, hb⟩
 ·cases h
theorem row_new (H : AH) (rs : List Row) (b : Bool) : (H.push (.rows rs b)).2.objs.get H.next = some (.rows rs b) := Tr.get_set_eq _ _ _
theorem C7x {H : AH} {g s n : Nat} {vals : List Value} {off : Nat} (h : H.objs.get g = some (.rows [{ pos := 0, esz := s, vals, ok := true }] false)) (hn : off + n ≤ vals.length) : H.cells ⟨g, off, some 0⟩ n = some ((vals.drop off).take n) := by
 unfold AH.cells AH.row?
 rw [h]
 simp only [List.getElem?_cons_zero, cond_true, A5m, A3c]
 rw [decide_eq_true hn]
 rfl
end
end Go.Proofs.Sh
/- What comes in is taken into the shadow's memory. -/
namespace Go.Proofs.Sh
open Go
section
variable {K : Type} {enc : TypeId × Value → K} {P : Program} {w : World} {B : Nat}
theorem C5d : ∀ {fs : List Field} {o n : Nat}, B2z P fs o n = true → o ≤ n
 | [], o, n, h => by simp only [B2z, A8a, decide_eq_true_eq] at h; omega
 | f :: fs, o, n, h => by
  simp only [B2z, Bool.and_eq_true] at h
  have := C5d h.2
  omega
theorem C7g {ρ : Map} {cs : List Value} : ∀ {fs : List Field} {acss : List (List Value)} {o : Nat}, B2z P fs o cs.length = true → acss.length = fs.length →
  (∀ (j : Nat) f ac, fs[j]? = some f → acss[j]? = some ac → VRels ρ ac ((cs.drop f.offset).take (P.cellsOf f.type))) →
  VRels ρ acss.flatten (cs.drop o) ∧ ∀ (j : Nat) f ac, fs[j]? = some f → acss[j]? = some ac → o ≤ f.offset ∧ (acss.flatten.drop (f.offset - o)).take (P.cellsOf f.type) = ac
 | [], [], o, h, _, _ => by
  simp only [B2z, A8a, decide_eq_true_eq] at h
  subst h
  simp only [List.flatten_nil, List.drop_length]
  exact ⟨VRels.nil, fun j f ac e => by simp at e⟩
 | [], _ :: _, o, _, hl, _ => by simp at hl
 | _ :: _, [], o, _, hl, _ => by simp at hl
 | f :: fs, ac :: acss, o, h, hl, hr => by
  simp only [B2z, Bool.and_eq_true] at h
  obtain ⟨h1, h2⟩ := h
  have ho := Nat.eq_of_beq_eq_true h1
  have hle := C5d h2
  obtain ⟨k1, k2⟩ := C7g (ρ := ρ) h2 (by simpa using hl) (fun j f' ac' e1 e2 => hr (j + 1) f' ac' (by simpa using e1) (by simpa using e2))
  have h0 := hr 0 f ac rfl rfl
  have hlen := h0.length
  rw [ho] at h0 hlen
  have hacl : ac.length = P.cellsOf f.type := by
   rw [hlen, List.length_take, List.length_drop]
   omega
  refine ⟨?_, fun j f' ac' e1 e2 => ?_⟩
  ·have : cs.drop o = (cs.drop o).take (P.cellsOf f.type) ++ cs.drop (o + P.cellsOf f.type) := by
     rw [← List.drop_drop, List.take_append_drop]
   rw [this, List.flatten_cons]
   exact VRels.append h0 k1
  ·cases j with
   | zero =>
    simp only [List.getElem?_cons_zero, Option.some.injEq] at e1 e2
    subst e1 e2
    refine ⟨by omega, ?_⟩
    rw [ho, Nat.sub_self, List.drop_zero, List.flatten_cons, ← hacl]
    simp
   | succ j =>
    simp only [List.getElem?_cons_succ] at e1 e2
    obtain ⟨g1, g2⟩ := k2 j f' ac' e1 e2
    refine ⟨by omega, ?_⟩
    rw [List.flatten_cons, List.drop_append, List.drop_eq_nil_of_le (by omega), List.nil_append, show f'.offset - o - ac.length = f'.offset - (o + P.cellsOf f.type) by omega]
    exact g2
theorem take : ∀ (fuel pf : Nat) (t : TypeId) (cs : List Value) (d : DataW K) (ps : List MemPlace), DataW.trod enc P w 0 (fun _ => true) true fuel t cs = some (d, ps) → A64 P pf t = true →
  ∀ H ρ, HRel B ρ H w → AllRo H → Taken P w B K fuel t cs d H ρ
 | 0, pf, t, cs, d, ps, h, _, _, _, _, _ => by simp [DataW.trod] at h
 | fuel + 1, 0, t, cs, d, ps, h, hp, _, _, _, _ => by cases hp
 | fuel + 1, pf + 1, t, cs, d, ps, h, hp, H, ρ, hH, hro => by
  have IH := take fuel pf
  unfold A64 at hp
  cases hu : P.underlying t with
  | none => rw [hu] at hp; cases hp
  | some td =>
   rw [hu] at hp
   cases td with
   | bool =>
    obtain ⟨b, rfl, hx⟩ := DataW.trod_bool hu h
    injection hx with hx _
    refine ⟨H, ρ, [.bool b], hH, hro, HGrow.refl H, Map.le_refl ρ, VRels.cons (by unfold VRel; rfl) VRels.nil, ?_, fun v hv => by simp at hv; subst hv; rfl⟩
    unfold RD; rw [hu]; exact ⟨b, rfl, hx⟩
   | int k =>
    obtain ⟨n, rfl, hx, hwf⟩ := DataW.trod_int hu h
    injection hx with hx _
    refine ⟨H, ρ, [.int k n], hH, hro, HGrow.refl H, Map.le_refl ρ, VRels.cons (by unfold VRel; rfl) VRels.nil, ?_, fun v hv => by simp at hv; subst hv; rfl⟩
    unfold RD; rw [hu]; exact ⟨n, rfl, hx, hwf⟩
   | string =>
    obtain ⟨s, rfl, hx, hs⟩ := DataW.trod_string hu h
    injection hx with hx _
    refine ⟨H, ρ, [.string s], hH, hro, HGrow.refl H, Map.le_refl ρ, VRels.cons (by unfold VRel; rfl) VRels.nil, ?_, fun v hv => by simp at hv; subst hv; rfl⟩
    unfold RD; rw [hu]; exact ⟨s, rfl, hx, hs⟩
   | struct fs =>
    simp only [Bool.and_eq_true] at hp
    obtain ⟨hp1, hp2⟩ := hp
    obtain ⟨xs, n, hf, hx, hlen, hxl, hfl⟩ := DataW.trod_struct hu h
    injection hf with hf
    subst hf
    injection hx with hx _
    subst hx
    have hz : ∀ (j : Nat) (f : Field) (x : DataW K × List MemPlace), fs.toList[j]? = some f → xs[j]? = some x → ((fs.toList.zip xs).map fun (y : Field × (DataW K × List MemPlace)) => ((y.1.type, (cs.drop y.1.offset).take (P.cellsOf y.1.type), y.2) : C9y K))[j]? = some (f.type, (cs.drop f.offset).take (P.cellsOf f.type), x) := by
     intro j f x e1 e2
     rw [List.getElem?_map]
     have : (fs.toList.zip xs)[j]? = some (f, x) := by
      rw [List.getElem?_zip_eq_some]; exact ⟨e1, e2⟩
     rw [this]; rfl
    obtain ⟨H1, ρ1, acss, g1, g2, g3, g4, g5, g6⟩ := takeL (P := P) (w := w) (enc := enc) IH ((fs.toList.zip xs).map fun (y : Field × (DataW K × List MemPlace)) => ((y.1.type, (cs.drop y.1.offset).take (P.cellsOf y.1.type), y.2) : C9y K)) (by
     intro it hit
     obtain ⟨y, hy, rfl⟩ := List.mem_map.1 hit
     obtain ⟨j, hj⟩ := List.mem_iff_getElem?.1 hy
     rw [List.getElem?_zip_eq_some] at hj
     refine ⟨?_, List.all_eq_true.1 hp2 _ (List.mem_of_getElem? hj.1)⟩
     rw [hfl j y.1 (by simpa using hj.1), hj.2]) H ρ hH hro
    have hxl' : xs.length = fs.toList.length := by simpa using hxl
    have hacl : acss.length = fs.toList.length := by
     rw [g5, List.length_map, List.length_zip, hxl', Nat.min_self]
    have hget : ∀ (j : Nat) (f : Field), fs.toList[j]? = some f → ∃ x, xs[j]? = some x := by
     intro j f e
     have := (List.getElem?_eq_some_iff.1 e).1
     exact ⟨xs[j]'(by omega), List.getElem?_eq_getElem (by omega)⟩
    have hrel : ∀ (j : Nat) f ac, fs.toList[j]? = some f → acss[j]? = some ac → VRels ρ1 ac ((cs.drop f.offset).take (P.cellsOf f.type)) := by
     intro j f ac e1 e2
     obtain ⟨x, hx⟩ := hget j f e1
     exact (g6 j _ ac (hz j f x e1 hx) e2).1
    obtain ⟨t1, t2⟩ := C7g (ρ := ρ1) (cs := cs) (by rw [hlen]; exact hp1) hacl hrel
    rw [List.drop_zero] at t1
    refine ⟨H1, ρ1, acss.flatten, g1, g2, g3, g4, t1, ?_, ?_⟩
    ·unfold RD
     rw [hu]
     refine ⟨xs.map (·.1), rfl, by rw [t1.length]; exact hlen, by simpa using hxl, fun i fd x e1 e2 => ?_⟩
     have e1' : fs.toList[i]? = some fd := by simpa using e1
     rw [List.getElem?_map] at e2
     obtain ⟨y, hy, rfl⟩ := Option.map_eq_some_iff.1 e2
     have hi := (List.getElem?_eq_some_iff.1 e1').1
     have hac : acss[i]? = some (acss[i]'(by omega)) := List.getElem?_eq_getElem (by omega)
     have hseg := (t2 i fd _ e1' hac).2
     rw [Nat.sub_zero] at hseg
     rw [hseg]
     exact (g6 i _ _ (hz i fd y e1' hy) hac).2.1
    ·intro v hv
     obtain ⟨ac, hac, hv⟩ := List.mem_flatten.1 hv
     obtain ⟨j, hj⟩ := List.mem_iff_getElem?.1 hac
     have hjl := (List.getElem?_eq_some_iff.1 hj).1
     have e1 : fs.toList[j]? = some (fs.toList[j]'(by omega)) := List.getElem?_eq_getElem (by omega)
     obtain ⟨x, hx⟩ := hget j _ e1
     exact (g6 j _ ac (hz j _ x e1 hx) hj).2.2 v hv
   | slice e =>
    simp only [Bool.and_eq_true] at hp
    obtain ⟨⟨_, hs1⟩, hpe⟩ := hp
    have hs1 : 1 ≤ P.cellsOf e := Nat.le_of_ble_eq_true hs1
    rcases DataW.trod_slice hu h with ⟨rfl, hx⟩ | ⟨a, len, cap, elems, rest, n, hf, rfl, hx, hb, hl, hcap, hlen, hel, hsp, _⟩
    ·injection hx with hx _
     refine ⟨H, ρ, [.slice none 0 0], hH, hro, HGrow.refl H, Map.le_refl ρ, VRels.cons (by unfold VRel; exact ⟨rfl, rfl, rfl⟩) VRels.nil, ?_, fun v hv => by simp at hv; subst hv; rfl⟩
     unfold RD; rw [hu]; exact .inl ⟨rfl, hx⟩
    ·injection hf with hf
     subst hf
     injection hx with hx _
     subst hx
     obtain ⟨hrl, hrest⟩ := hsp rfl
     by_cases hc0 : cap = 0
     ·subst hc0
      have hl0 : len = 0 := by omega
      subst hl0
      refine ⟨H, ρ, [.slice (some ⟨0, 0, none⟩) 0 0], hH, hro, HGrow.refl H, Map.le_refl ρ, VRels.cons (by unfold VRel; exact .inr ⟨rfl, rfl, a, rfl⟩) VRels.nil, ?_, fun v hv => by simp at hv; subst hv; rfl⟩
      unfold RD; rw [hu]
      have he0 : elems = [] := List.eq_nil_of_length_eq_zero hlen
      refine .inr ⟨⟨0, 0, none⟩, 0, 0, elems.map (·.1), rest.map (·.1), rfl, rfl, by simp [hlen], by simpa using hrl, hcap, fun h => absurd h (by omega), fun i x hx => ?_⟩
      rw [he0] at hx; simp at hx
     ·
      have hread : ∀ i, i < cap → ∃ c0, w.cells? 0 (a.add (i * P.cellsOf e)) (P.cellsOf e) = some c0 := by
       intro i hi
       by_cases hil : i < len
       ·have := hel i hil
        rw [List.getElem?_eq_getElem (by omega)] at this
        obtain ⟨c0, h1, _⟩ := Option.bind_eq_some_iff.1 this
        exact ⟨c0, h1⟩
       ·have := hrest (i - len) (by omega)
        rw [List.getElem?_eq_getElem (by omega), show len + (i - len) = i by omega] at this
        obtain ⟨c0, h1, _⟩ := Option.bind_eq_some_iff.1 this
        exact ⟨c0, h1⟩
      obtain ⟨c0, hc0r⟩ := hread 0 (by omega)
      obtain ⟨_, hc0l, hc0g⟩ := World.cells?_some hc0r
      have hcell0 : w.cell? a = some (c0[0]'(by omega)) := by
       have := hc0g 0 (by omega)
       rw [Nat.zero_mul] at this
       have e0 : (a.add 0).add 0 = a := by simp [Addr.add]
       rw [e0, List.getElem?_eq_getElem (by omega)] at this
       exact this
      obtain ⟨hspot, c, el, fr, hblk⟩ := C5j hcell0
      obtain ⟨b, off, sp⟩ := a
      simp only at hspot hblk
      subst hspot
      have hcellAt : ∀ i j, i < cap → j < P.cellsOf e → ∀ ci, w.cells? 0 ((⟨b, off, none⟩ : Addr).add (i * P.cellsOf e)) (P.cellsOf e) = some ci → c[off + i * P.cellsOf e + j]? = ci[j]? := by
       intro i j hi hj ci hci
       have := (World.cells?_some hci).2.2 j hj
       rw [add_plain, add_plain, cell_of hblk] at this
       exact this
      have hroom : off + cap * P.cellsOf e ≤ c.size := by
       obtain ⟨ci, hci⟩ := hread (cap - 1) (by omega)
       have h1 := hcellAt (cap - 1) (P.cellsOf e - 1) (by omega) (by omega) ci hci
       rw [List.getElem?_eq_getElem (by rw [(World.cells?_some hci).2.1]; omega)] at h1
       have h2 := (Array.getElem?_eq_some_iff.1 h1).1
       have h3 : cap * P.cellsOf e = (cap - 1) * P.cellsOf e + P.cellsOf e := by
        conv => lhs; rw [show cap = (cap - 1) + 1 by omega]
        rw [Nat.add_mul, Nat.one_mul]
       omega
      have hz : ∀ (j : Nat) (x : DataW K × List MemPlace), elems[j]? = some x → (elems.mapIdx fun i x => ((e, (w.cells? 0 ((⟨b, off, none⟩ : Addr).add (i * P.cellsOf e)) (P.cellsOf e)).getD [], x) : C9y K))[j]? = some (e, (w.cells? 0 ((⟨b, off, none⟩ : Addr).add (j * P.cellsOf e)) (P.cellsOf e)).getD [], x) := by
       intro j x hj
       rw [List.getElem?_mapIdx, hj]; rfl
      obtain ⟨H1, ρ1, acss, g1, g2, g3, g4, g5, g6⟩ := takeL (P := P) (w := w) (enc := enc) IH (elems.mapIdx fun i x => ((e, (w.cells? 0 ((⟨b, off, none⟩ : Addr).add (i * P.cellsOf e)) (P.cellsOf e)).getD [], x) : C9y K)) (by
       intro it hit
       obtain ⟨j, hj⟩ := List.mem_iff_getElem?.1 hit
       rw [List.getElem?_mapIdx] at hj
       obtain ⟨x, hx, rfl⟩ := Option.map_eq_some_iff.1 hj
       have hjl := (List.getElem?_eq_some_iff.1 hx).1
       obtain ⟨cj, h1⟩ := hread j (by omega)
       have h2 := hel j (by omega)
       rw [h1, hx] at h2
       refine ⟨?_, hpe⟩
       simp only [h1, Option.getD_some]
       exact h2) H ρ hH hro
      have hacl : acss.length = len := by rw [g5, List.length_mapIdx, hlen]
      have hit : ∀ (j : Nat) ac, acss[j]? = some ac → ∃ x cj, elems[j]? = some x ∧ w.cells? 0 ((⟨b, off, none⟩ : Addr).add (j * P.cellsOf e)) (P.cellsOf e) = some cj ∧ VRels ρ1 ac cj ∧ RD P H1 fuel e ac x.1 ∧ ∀ v ∈ ac, isCell v = true := by
       intro j ac hac
       have hjl := (List.getElem?_eq_some_iff.1 hac).1
       have hx : elems[j]? = some (elems[j]'(by omega)) := List.getElem?_eq_getElem (by omega)
       obtain ⟨cj, h1⟩ := hread j (by omega)
       have := g6 j _ ac (hz j _ hx) hac
       simp only [h1, Option.getD_some] at this
       exact ⟨_, cj, hx, h1, this⟩
      have hsz : ∀ y ∈ acss, y.length = P.cellsOf e := by
       intro y hy
       obtain ⟨j, hj⟩ := List.mem_iff_getElem?.1 hy
       obtain ⟨x, cj, _, h1, h2, _⟩ := hit j y hj
       rw [h2.length, (World.cells?_some h1).2.1]
      have hfl : acss.flatten.length = len * P.cellsOf e := by rw [B59 hsz, hacl]
      have hmul : len * P.cellsOf e ≤ cap * P.cellsOf e := Nat.mul_le_mul_right _ hl
      have hA := g1.adopt (s := P.cellsOf e) (off := off) (vals := acss.flatten) g2 hblk (by omega) (fun k v hk => by
       obtain ⟨i, j, x, rfl, hj, hx, hxj⟩ := flat_get hsz hk
       obtain ⟨y, cj, _, h1, h2, _, h3⟩ := hit i x hx
       obtain ⟨u, hu1, hu2⟩ := h2.get hxj
       have hil := (List.getElem?_eq_some_iff.1 hx).1
       refine ⟨h3 v (List.mem_of_getElem? hxj), u, ?_, hu2⟩
       rw [← Nat.add_assoc, hcellAt i j (by omega) hj cj h1]
       exact hu1)
      have hgrow := g1.wf.grow (.rows [{ pos := 0, esz := P.cellsOf e, vals := acss.flatten, ok := true }] false)
      refine ⟨_, _, [.slice (some ⟨H1.next, 0, some 0⟩) len cap], hA, g2.push _, g3.trans hgrow, Map.le_trans g4 (Map.le_add (g1.none_new 0)), VRels.cons ?_ VRels.nil, ?_, fun v hv => by simp at hv; subst hv; rfl⟩
      ·unfold VRel
       refine .inl ⟨_, 0, off, cap, rfl, Map.add_same _ _ _ _, rfl, hl, .inl ⟨?_, rfl⟩, .inl ⟨rfl, hroom⟩⟩
       have : maxLen < big := by decide
       omega
      ·unfold RD
       rw [hu]
       refine .inr ⟨⟨H1.next, 0, some 0⟩, len, cap, elems.map (·.1), rest.map (·.1), rfl, rfl, by simpa using hlen, by simp [hrl]; omega, hcap, fun _ => rfl, fun i x hx => ?_⟩
       rw [List.getElem?_map] at hx
       obtain ⟨y, hy, rfl⟩ := Option.map_eq_some_iff.1 hx
       have hil := (List.getElem?_eq_some_iff.1 hy).1
       have hac : acss[i]? = some (acss[i]'(by omega)) := List.getElem?_eq_getElem (by omega)
       obtain ⟨s1, s2⟩ := C9h hsz hac
       refine ⟨_, C7x (off := 0 + i * P.cellsOf e) (n := P.cellsOf e) (row_new _ _ _) (by omega), ?_⟩
       rw [Nat.zero_add, s1]
       obtain ⟨x', cj, hx', _, _, h2, _⟩ := hit i _ hac
       rw [hy] at hx'
       injection hx' with hx'
       subst hx'
       exact h2.grow hgrow
   | _ => cases hp
end
end Go.Proofs.Sh
/- From a call of the shadow to what a law's row asks. -/
namespace Go.Proofs.Sh
open Go Go.RowKit Go.ChangeShapes
def RDs {K : Type} (P : Program) (H : AH) : List TypeId → List Value → List (DataW K) → Prop
 | [], [], [] => True
 | t :: ts, v :: vs, d :: ds => (∃ f, RD P H f t (A6a v) d) ∧ RDs P H ts vs ds
 | _, _, _ => False
theorem RDs.grow {K : Type} {P : Program} {H H' : AH} (h : HGrow H H') : ∀ {ts : List TypeId} {vs : List Value} {ds : List (DataW K)}, RDs P H ts vs ds → RDs P H' ts vs ds
 | [], [], [], r => r
 | t :: ts, v :: vs, d :: ds, ⟨⟨f, r⟩, rs⟩ => ⟨⟨f, r.grow h⟩, RDs.grow h rs⟩
 | [], [], _ :: _, r => r.elim
 | [], _ :: _, _, r => r.elim
 | _ :: _, [], _, r => r.elim
 | _ :: _, _ :: _, [], r => r.elim
section
variable {K : Type} {enc : TypeId × Value → K} {P : Program} {w : World} {B : Nat}
theorem value_of {ρ : Map} {acs : List Value} {v : Value} (h : VRels ρ acs v.cells.toList) (hc : ∀ x ∈ acs, isCell x = true) : ∃ av, VRel ρ av v ∧ A6a av = acs := by
 by_cases hv : ∃ cs, v = .agg cs
 ·obtain ⟨cs, rfl⟩ := hv
  refine ⟨.agg acs.toArray, ?_, rfl⟩
  unfold VRel
  exact ⟨cs.toList, by simp, h⟩
 ·have e : v.cells.toList = [v] := by cases v <;> first | rfl | exact absurd ⟨_, rfl⟩ hv
  rw [e] at h
  cases acs with
  | nil => have := h.length; simp at this
  | cons x l =>
   cases l with
   | cons y l => have := h.length; simp at this
   | nil =>
    obtain ⟨u, h1, h2⟩ := h.one
    injection h1 with h1 _
    subst h1
    refine ⟨x, h2, ?_⟩
    exact (h2.isCell (hc x List.mem_cons_self)).2.1
theorem C5s {pf : Nat} : ∀ {ts : List TypeId} {vs : List Value} {ds : List (DataW K)} {ps : List MemPlace}, DataW.TrodAll enc P w 0 (fun _ => true) true ts vs ds ps → (∀ t ∈ ts, A64 P pf t = true) → ∀ H ρ, HRel B ρ H w → AllRo H →
  ∃ H' ρ', ∃ avs : List Value, HRel B ρ' H' w ∧ AllRo H' ∧ HGrow H H' ∧ ρ.le ρ' ∧ VRels ρ' avs vs ∧ RDs P H' ts avs ds
 | [], vs, ds, ps, h, _, H, ρ, hH, hro => by
  obtain ⟨rfl, rfl, rfl⟩ := trodAll_nil h
  exact ⟨H, ρ, [], hH, hro, HGrow.refl H, Map.le_refl ρ, VRels.nil, trivial⟩
 | t :: ts, vs, ds, ps, h, hp, H, ρ, hH, hro => by
  obtain ⟨v, vs1, d, ds1, a, b, rfl, rfl, rfl, ⟨fuel, h1⟩, h2⟩ := trodAll_cons h
  obtain ⟨H1, ρ1, acs, k1, k2, k3, k4, k5, k6, k7⟩ := take (B := B) fuel pf t v.cells.toList d a h1 (hp t List.mem_cons_self) H ρ hH hro
  obtain ⟨av, k8, k9⟩ := value_of k5 k7
  obtain ⟨H2, ρ2, avs, g1, g2, g3, g4, g5, g6⟩ := C5s h2 (fun x hx => hp x (List.mem_cons_of_mem _ hx)) H1 ρ1 k1 k2
  exact ⟨H2, ρ2, av :: avs, g1, g2, k3.trans g3, Map.le_trans k4 g4, VRels.cons (k8.mono g4) g5, ⟨fuel, by rw [k9]; exact k6.grow g3⟩, g6⟩
theorem A04 (hl : laidOutB P = true) {W W' : World} (hb : Below W.heap.size W W') : ∀ {ts : List TypeId} {vs : List Value} {ds : List (DataW K)} {ps : List MemPlace}, DataW.TrodAll enc P W 0 (fun _ => true) true ts vs ds ps →
  (∀ t ∈ ts, P.readableRec t = true ∧ t < P.types.size) → (∀ x ∈ ps, x.block < W.heap.size) → DataW.TrodAll enc P W' 0 (fun b => decide (b < W.heap.size)) true ts vs ds ps
 | [], vs, ds, ps, h, _, _ => by
  obtain ⟨rfl, rfl, rfl⟩ := trodAll_nil h
  exact rfl
 | t :: ts, vs, ds, ps, h, hr, hlt => by
  obtain ⟨v, vs1, d, ds1, a, b, rfl, rfl, rfl, h1, h2⟩ := trodAll_cons h
  refine ⟨a, b, ?_, ?_, rfl⟩
  ·exact Below.trod hl (hr t List.mem_cons_self).1 (hr t List.mem_cons_self).2 h1 hb (fun x hx => hlt x (List.mem_append.2 (.inl hx)))
  ·exact A04 hl hb h2 (fun x hx => hr x (List.mem_cons_of_mem _ hx)) (fun x hx => hlt x (List.mem_append.2 (.inr hx)))
def paramsOk (P : Program) (ts : List TypeId) : Bool := ts.all fun t => A64 P 12 t && P.readableRec t && Nat.blt t P.types.size
end
end Go.Proofs.Sh
/- Lemmas for walking: addresses, reading, writing, new memory. -/
namespace Go.Proofs.Sh
open Go
section
variable {P : Program} {O : A4d} {H : AH}
theorem A1b {t f g o k n : Nat} {fs : Array Field} {fd : Field} (hu : P.underlying t = some (.struct fs)) (hf : fs.toList[f]? = some fd) (hs : A8b P fd.type = some n) (hn : Nat.ble 1 n = true) :
  A5b P t f (.pointer (some ⟨g, o, some k⟩)) = some (.pointer (some ⟨g, o + fd.offset, some k⟩)) := by
 unfold A5b fieldsOf
 simp only [hu, Option.bind_some, hf, hs, hn, Option.isSome_some, Bool.and_self, cond_true, plus]
theorem A4t {t e g o k n c i s : Nat} {j : IntKind} (hu : P.underlying t = some (.slice e)) (hs : A8b P e = some s) (h : i < n) :
  A4b P t (.slice (some ⟨g, o, some k⟩) n c) (.int j (i : Int)) = some (.pointer (some ⟨g, o + i * s, some k⟩)) := by
 show A4b P t (.slice (some ⟨g, o, some k⟩) n c) (.int j (.ofNat i)) = _
 unfold A4b
 simp only [hu, hs, Option.bind_some, A3i, h, decide_true, Option.isSome_some, Bool.and_self, cond_true, plus]
theorem A3g {t e n c : Nat} {a : Option Addr} (hu : P.underlying t = some (.slice e)) : A4a P .len [t] [.slice a n c] H = some (.int .i64 (n : Int), H) := by
 unfold A4a
 simp only [hu]
theorem C9i {t : Nat} {s : ByteArray} (hu : P.underlying t = some .string) : A4a P .len [t] [.string s] H = some (.int .i64 (s.size : Int), H) := by
 unfold A4a
 simp only [hu]
theorem A0c {v : Value} (h : isCell v = true) : A6a v = [v] := by
 cases v <;> first | rfl | cases h
theorem A2c {t : Nat} {a : Addr} {v : Value} (hs : A8b P t = some 1) (hv : isCell v = true) : A8e P t H v (.pointer (some a)) = H.write a [v] := by
 unfold A8e
 rw [hs, A0c hv]
 simp [hv, A8a]
theorem A4r {t : Nat} {v : Value} (hs : A8b P t = some 1) (hv : isCell v = true) : anew P t H v = some (.pointer (some ⟨H.next, 0, some 0⟩), (H.new 1 [v]).2) := by
 unfold anew
 rw [hs, A0c hv]
 simp [hv, A8a]
 rfl
theorem A0r {t n : Nat} {vs : List Value} (hs : A8b P t = some n) (hl : vs.length = n) (hv : vs.all isCell = true) : anew P t H (.agg vs.toArray) = some (.pointer (some ⟨H.next, 0, some 0⟩), (H.new n vs).2) := by
 unfold anew
 rw [hs]
 have e : A6a (.agg vs.toArray) = vs := rfl
 simp only [Option.bind_some, e, hv, hl, A8a, decide_true, Bool.and_self, cond_true]
 rfl
theorem A6x {t n : Nat} {a : Addr} {vs : List Value} (hs : A8b P t = some n) (hl : vs.length = n) (hv : vs.all isCell = true) : A8e P t H (.agg vs.toArray) (.pointer (some a)) = H.write a vs := by
 unfold A8e
 rw [hs]
 have e : A6a (.agg vs.toArray) = vs := rfl
 simp only [Option.bind_some, e, hv, hl, A8a, decide_true, Bool.and_self, cond_true]
def Obj (H : AH) (g s : Nat) (vals : List Value) (rw : Bool) : Prop := H.objs.get g = some (.rows [{ pos := 0, esz := s, vals, ok := true }] rw)
theorem Obj.cell {g s i : Nat} {vals : List Value} {rw : Bool} (h : Obj H g s vals rw) : H.cell ⟨g, i, some 0⟩ = vals[i]? := by
 unfold AH.cell AH.row?
 unfold Obj at h
 simp only [h, List.getElem?_cons_zero, cond_true]
theorem Obj.cells {g s i n : Nat} {vals : List Value} {rw : Bool} (h : Obj H g s vals rw) (hn : i + n ≤ vals.length) : H.cells ⟨g, i, some 0⟩ n = some ((vals.drop i).take n) := by
 unfold AH.cells AH.row?
 unfold Obj at h
 simp only [h, List.getElem?_cons_zero, cond_true, A5m, A3c, hn, decide_true]
theorem Obj.write {g s i : Nat} {vals vs : List Value} (h : Obj H g s vals true) (hn : i + vs.length ≤ vals.length) : ∃ H', H.write ⟨g, i, some 0⟩ vs = some H' ∧ Obj H' g s (setCells vals i vs) true ∧ H'.next = H.next ∧ ∀ g', g' ≠ g → H'.objs.get g' = H.objs.get g' := by
 unfold AH.write
 unfold Obj at h
 simp only [h, List.getElem?_cons_zero, A3c, hn, decide_true, Bool.and_self, cond_true]
 refine ⟨_, rfl, ?_, rfl, fun g' hg => ?_⟩
 ·unfold Obj
  rw [A3f, if_pos rfl]
  simp [A6e]
 ·rw [A3f, if_neg hg]
theorem Obj.new (s : Nat) (vals : List Value) : Obj (H.new s vals).2 H.next s vals true := Tr.get_set_eq _ _ _
theorem B92 {s g : Nat} {vals : List Value} (hg : g ≠ H.next) : (H.new s vals).2.objs.get g = H.objs.get g := Tr.get_set_ne _ hg _
theorem new_nx {s : Nat} {vals : List Value} : (H.new s vals).2.next = H.next + 1 := rfl
def Old (n : Nat) (H H' : AH) : Prop := ∀ g, g < n → H'.objs.get g = H.objs.get g
theorem Old.refl (n : Nat) (H : AH) : Old n H H := fun _ _ => rfl
theorem Old.trans {n : Nat} {H1 H2 H3 : AH} (h : Old n H1 H2) (k : Old n H2 H3) : Old n H1 H3 := fun g hg => (k g hg).trans (h g hg)
theorem Old.weak {n m : Nat} {H1 H2 : AH} (h : Old n H1 H2) (hm : m ≤ n) : Old m H1 H2 := fun g hg => h g (Nat.lt_of_lt_of_le hg hm)
theorem Old.grow {H1 H2 : AH} (h : Old H1.next H1 H2) (hw : Wf H1) : HGrow H1 H2 := fun g o hg => by rw [h g (hw g o hg)]; exact hg
theorem Old.new (s : Nat) (vals : List Value) : Old H.next H (H.new s vals).2 := fun g hg => B92 (Nat.ne_of_lt hg)
theorem Wf.new (h : Wf H) (s : Nat) (vals : List Value) : Wf (H.new s vals).2 := h.push _
structure Kept (H H' : AH) : Prop where
 old : Old H.next H H'
 next : H.next ≤ H'.next
 wf : Wf H'
theorem Kept.refl (h : Wf H) : Kept H H := ⟨Old.refl _ _, Nat.le_refl _, h⟩
theorem Kept.trans {H1 H2 H3 : AH} (h : Kept H1 H2) (k : Kept H2 H3) : Kept H1 H3 := ⟨h.old.trans (k.old.weak h.next), Nat.le_trans h.next k.next, k.wf⟩
theorem Kept.new (h : Wf H) (s : Nat) (vals : List Value) : Kept H (H.new s vals).2 := ⟨Old.new s vals, Nat.le_succ _, h.new s vals⟩
theorem Kept.grow {H1 H2 : AH} (h : Kept H1 H2) (hw : Wf H1) : HGrow H1 H2 := h.old.grow hw
theorem A2b {c : Code} {S : List Item} {Q : Fr → AH → Prop} (I : Nat → Fr → AH → Prop) {m : Nat} {F : Fr} {H : AH} (h0 : I m F H)
  (body : ∀ m F H, I m F H → (∀ m' F' H', m' < m → I m' F' H' → wp P O (.inLoop c :: S) Q F' H') → wp P O (.code c :: .inLoop c :: S) Q F H) : wp P O (.inLoop c :: S) Q F H := by
 induction m using Nat.strongRecOn generalizing F H with
 | _ m ih =>
  rw [wp_inLoop]
  exact body m F H h0 (fun m' F' H' hm hI => ih m' hm hI)
theorem A1x {c : Code} {S : List Item} {Q : Fr → AH → Prop} (n : Nat) (I : Nat → Fr → AH → Prop) {i : Nat} {F : Fr} {H : AH} (hi : i ≤ n) (h0 : I i F H)
  (body : ∀ i F H, i ≤ n → I i F H → (∀ F' H', i < n → I (i + 1) F' H' → wp P O (.inLoop c :: S) Q F' H') → wp P O (.code c :: .inLoop c :: S) Q F H) : wp P O (.inLoop c :: S) Q F H :=
 A2b (fun m F H => ∃ i, i ≤ n ∧ m = n - i ∧ I i F H) ⟨i, hi, rfl, h0⟩ fun m F H ⟨i, h1, h2, h3⟩ k => body i F H h1 h3 fun F' H' hlt h4 => k (n - (i + 1)) F' H' (by omega) ⟨i + 1, by omega, rfl, h4⟩
end
end Go.Proofs.Sh
/- Slices that are read: what they hold. -/
namespace Go.Proofs.Sh
open Go
def Sl (H : AH) (v : Value) (s : Nat) (l : List (List Value)) : Prop :=
 ∃ a cap, v = .slice a l.length cap ∧ (∀ x ∈ l, x.length = s) ∧ (a = none → l = [] ∧ cap = 0) ∧
  (l ≠ [] → ∃ g o k, a = some ⟨g, o, some k⟩ ∧ ∀ (i : Nat) x, l[i]? = some x → H.cells ⟨g, o + i * s, some k⟩ s = some x)
section
variable {P : Program} {H H' : AH} {v : Value} {s : Nat} {l : List (List Value)}
theorem Sl.grow (h : Sl H v s l) (hg : HGrow H H') : Sl H' v s l := by
 obtain ⟨a, cap, h1, h2, h3, h4⟩ := h
 refine ⟨a, cap, h1, h2, h3, fun hn => ?_⟩
 obtain ⟨g, o, k, h5, h6⟩ := h4 hn
 exact ⟨g, o, k, h5, fun i x hx => A5r hg (h6 i x hx)⟩
theorem Sl.nil (H : AH) (s : Nat) : Sl H (.slice none 0 0) s [] := ⟨none, 0, rfl, fun x h => (by cases h), fun _ => ⟨rfl, rfl⟩, fun h => absurd rfl h⟩
theorem Sl.isCell (h : Sl H v s l) : isCell v = true := by
 obtain ⟨a, cap, rfl, _⟩ := h
 rfl
theorem Sl.len {t e : Nat} (hu : P.underlying t = some (.slice e)) (h : Sl H v s l) (H' : AH) : A4a P .len [t] [v] H' = some (.int .i64 (l.length : Int), H') := by
 obtain ⟨a, cap, rfl, _⟩ := h
 exact A3g hu
theorem C4l {a : Addr} {n : Nat} {x : List Value} (h : H.cells a n = some x) : ∀ (j : Nat) u, x[j]? = some u → H.cell ⟨a.block, a.off + j, a.spot⟩ = some u := by
 intro j u hj
 unfold AH.cells at h
 unfold AH.cell
 have hrow : H.row? ⟨a.block, a.off + j, a.spot⟩ = H.row? a := rfl
 rw [hrow]
 cases hr : H.row? a with
 | none => rw [hr] at h; cases h
 | some r =>
  rw [hr] at h
  obtain ⟨h1, h2, h3⟩ := A1k h
  subst h2
  rw [List.getElem?_take] at hj
  split at hj
  ·rw [List.getElem?_drop] at hj; exact hj
  ·cases hj
theorem Sl.at {t e : Nat} (hu : P.underlying t = some (.slice e)) (hs : A8b P e = some s) (h : Sl H v s l) {i : Nat} {x : List Value} (hx : l[i]? = some x) (j : IntKind) :
  ∃ g o k, A4b P t v (.int j (i : Int)) = some (.pointer (some ⟨g, o, some k⟩)) ∧ H.cells ⟨g, o, some k⟩ s = some x ∧ ∀ (q : Nat) u, x[q]? = some u → H.cell ⟨g, o + q, some k⟩ = some u := by
 obtain ⟨a, cap, rfl, h2, h3, h4⟩ := h
 have hi := (List.getElem?_eq_some_iff.1 hx).1
 obtain ⟨g, o, k, rfl, h6⟩ := h4 (by rintro rfl; simp at hx)
 exact ⟨g, o + i * s, k, A4t hu hs hi, h6 i x hx, C4l (h6 i x hx)⟩
theorem RD.slice {K : Type} {f t e : Nat} {cs : List Value} {d : DataW K} (hu : P.underlying t = some (.slice e)) (hs : P.cellsOf e = s) (h : RD P H f t cs d) :
  ∃ l : List (List Value), ∃ ds : List (DataW K), (∃ u, cs = [u] ∧ Sl H u s l) ∧ l.length = ds.length ∧ (∀ (i : Nat) x y, l[i]? = some x → ds[i]? = some y → ∃ f', RD P H f' e x y) ∧ (d = .nil ∧ ds = [] ∨ ∃ sp, d = .slice ds sp) := by
 cases f with
 | zero => exact h.elim
 | succ f =>
  unfold RD at h
  rw [hu] at h
  rcases h with ⟨rfl, rfl⟩ | ⟨a, len, cap, es, sp, rfl, rfl, h1, h2, h3, h4, h5⟩
  ·exact ⟨[], [], ⟨_, rfl, Sl.nil H s⟩, rfl, fun i x y h => by simp at h, .inl ⟨rfl, rfl⟩⟩
  ·subst hs
   have hall : ∀ i, i < len → ∃ c x, es[i]? = some x ∧ H.cells (plus a (i * P.cellsOf e)) (P.cellsOf e) = some c ∧ RD P H f e c x := by
    intro i hi
    have hx : es[i]? = some (es[i]'(by omega)) := List.getElem?_eq_getElem (by omega)
    obtain ⟨c, k1, k2⟩ := h5 i _ hx
    exact ⟨c, _, hx, k1, k2⟩
   have hget : ∀ i, i < len → ((List.range len).map fun i => (H.cells (plus a (i * P.cellsOf e)) (P.cellsOf e)).getD [])[i]? = H.cells (plus a (i * P.cellsOf e)) (P.cellsOf e) := by
    intro i hi
    obtain ⟨c, x, _, k1, _⟩ := hall i hi
    rw [List.getElem?_map, List.getElem?_range hi, k1]
    simp [k1]
   have hlt : ∀ (i : Nat) x, ((List.range len).map fun i => (H.cells (plus a (i * P.cellsOf e)) (P.cellsOf e)).getD [])[i]? = some x → i < len := by
    intro i x hx
    have := (List.getElem?_eq_some_iff.1 hx).1
    simpa using this
   refine ⟨(List.range len).map fun i => (H.cells (plus a (i * P.cellsOf e)) (P.cellsOf e)).getD [], es, ⟨_, rfl, some a, cap, by simp, fun x hx => ?_, fun h => (by cases h), fun hn => ?_⟩, by simp [h1], fun i x y hx hy => ?_, .inr ⟨sp, rfl⟩⟩
   ·obtain ⟨i, hi, rfl⟩ := List.mem_map.1 hx
    obtain ⟨c, x, _, k1, _⟩ := hall i (by simpa using hi)
    rw [k1]
    unfold AH.cells at k1
    split at k1
    ·exact (A1k k1).2.2
    ·cases k1
   ·have hl : 0 < len := by
      cases len with
      | zero => exact absurd rfl hn
      | succ n => omega
    obtain ⟨g, o, sp'⟩ := a
    have hsp := h4 hl
    cases sp' with
    | none => cases hsp
    | some k =>
      refine ⟨g, o, k, rfl, fun i x hx => ?_⟩
      have hi := hlt i x hx
      rw [hget i hi] at hx
      exact hx
   ·have hi := hlt i x hx
    obtain ⟨c, z, k0, k1, k2⟩ := hall i hi
    rw [hget i hi, k1] at hx
    injection hx with hx
    subst hx
    rw [hy] at k0
    injection k0 with k0
    subst k0
    exact ⟨f, k2⟩
end
end Go.Proofs.Sh
/- Nets as data. -/
namespace Go.Proofs.Sh
open Go
structure ArcD where
 fr : Int
 inn : ByteArray
 out : ByteArray
 to : Int
 cost : Int
structure EndD where
 state : Int
 cost : Int
structure NetD where
 sigma : List ByteArray
 states : Int
 arcs : List ArcD
 ends : List EndD
def ArcD.cells (a : ArcD) : List Value := [.int .i64 a.fr, .string a.inn, .string a.out, .int .i64 a.to, .int .i64 a.cost]
def EndD.cells (e : EndD) : List Value := [.int .i64 e.state, .int .i64 e.cost]
def A6b (s : ByteArray) : List Value := [.string s]
structure A11 (H : AH) (v : Value) (N : NetD) where
 sg : Value
 ar : Value
 en : Value
 eq : v = .agg #[sg, .int .i64 N.states, ar, en]
 hsg : Sl H sg 1 (N.sigma.map A6b)
 har : Sl H ar 5 (N.arcs.map ArcD.cells)
 hen : Sl H en 2 (N.ends.map EndD.cells)
end Go.Proofs.Sh
/- Numbers and texts, for walking. -/
namespace Go.Proofs.Sh
open Go
section
variable {P : Program} {t : TypeId} {c : Bool} {j : IntKind} {a b : Int} {x y : ByteArray}
theorem A1f (j : IntKind) : A4n j j = true := by cases j <;> rfl
theorem b_add : abin P t c .add (.int j a) (.int j b) = some (.int j (j.wrap (a + b))) := by simp only [abin, A1f, cond_true, aint]
theorem b_sub : abin P t c .sub (.int j a) (.int j b) = some (.int j (j.wrap (a - b))) := by simp only [abin, A1f, cond_true, aint]
theorem b_mul : abin P t c .mul (.int j a) (.int j b) = some (.int j (j.wrap (a * b))) := by simp only [abin, A1f, cond_true, aint]
theorem b_lss : abin P t c .lss (.int j a) (.int j b) = some (.bool (decide (a < b))) := by
 simp only [abin, A1f, cond_true, aint, A6k]
 by_cases h : a < b
 ·simp [h]
 ·simp [h]; omega
theorem b_leq : abin P t c .leq (.int j a) (.int j b) = some (.bool (decide (a ≤ b))) := by simp only [abin, A1f, cond_true, aint, A6k]
theorem b_gtr : abin P t c .gtr (.int j a) (.int j b) = some (.bool (decide (b < a))) := by
 simp only [abin, A1f, cond_true, aint, A6k]
 by_cases h : b < a
 ·simp [h]
 ·simp [h]; omega
theorem b_geq : abin P t c .geq (.int j a) (.int j b) = some (.bool (decide (b ≤ a))) := by simp only [abin, A1f, cond_true, aint, A6k]
theorem b_eql : abin P t c .eql (.int j a) (.int j b) = some (.bool (decide (a = b))) := by simp only [abin, A1f, cond_true, aint, A1o]; rfl
theorem b_neq : abin P t c .neq (.int j a) (.int j b) = some (.bool (!decide (a = b))) := by simp only [abin, A1f, cond_true, aint, A1o]; rfl
theorem A1w : ∀ {l m : List UInt8}, A3l l m = true ↔ l = m
 | [], [] => by simp [A3l]
 | [], _ :: _ => by simp [A3l]
 | _ :: _, [] => by simp [A3l]
 | p :: l, q :: m => by
  simp only [A3l, Bool.and_eq_true, A8a, decide_eq_true_eq, A1w, List.cons.injEq]
  exact ⟨fun ⟨h1, h2⟩ => ⟨UInt8.toNat_inj.1 h1, h2⟩, fun ⟨h1, h2⟩ => ⟨by rw [h1], h2⟩⟩
theorem A2s (x y : ByteArray) : A3l x.data.toList y.data.toList = decide (x = y) := by
 by_cases h : x = y
 ·subst h; simp [A1w.2 rfl]
 ·simp only [h, decide_false]
  cases hb : A3l x.data.toList y.data.toList with
  | false => rfl
  | true =>
   have := A1w.1 hb
   exact absurd (ByteArray.ext (Array.toList_inj.1 this)) h
theorem s_eql : abin P t c .eql (.string x) (.string y) = some (.bool (decide (x = y))) := by simp only [abin, astr, A2s]
theorem s_neq : abin P t c .neq (.string x) (.string y) = some (.bool (!decide (x = y))) := by simp only [abin, astr, A2s]
def A0b (x y : ByteArray) : Bool := A0m x.data.toList y.data.toList
theorem s_lss : abin P t c .lss (.string x) (.string y) = some (.bool (A0b x y)) := by simp only [abin, astr, A0b]
theorem s_leq : abin P t c .leq (.string x) (.string y) = some (.bool (A0b x y || decide (x = y))) := by simp only [abin, astr, A0b, A2s]
theorem s_gtr : abin P t c .gtr (.string x) (.string y) = some (.bool !(A0b x y || decide (x = y))) := by simp only [abin, astr, A0b, A2s]
theorem s_geq : abin P t c .geq (.string x) (.string y) = some (.bool !A0b x y) := by simp only [abin, astr, A0b]
theorem u_not {z : Bool} : aun .not (.bool z) = some (.bool !z) := rfl
theorem wrap64 {n : Int} (h1 : -9223372036854775808 ≤ n) (h2 : n < 9223372036854775808) : IntKind.wrap .i64 n = n := by
 simp only [IntKind.wrap]
 simp [IntKind.bits, IntKind.signed]
 omega
theorem wrap_succ {i n : Nat} (h : i < n) (hn : n ≤ 1048576) : IntKind.wrap .i64 ((i : Int) + 1) = ((i + 1 : Nat) : Int) := by
 rw [wrap64 (by omega) (by omega)]; rfl
theorem A1a {i n : Nat} : decide ((i : Int) < (n : Int)) = decide (i < n) := by simp
theorem C7k {k : IntKind} : abin P t c .shr (.int j a) (.int k b) = A2l false j a b := rfl
theorem A2w {s d : TypeId} {k : IntKind} {n : Int} {y : TypeDesc} {H : AH} (h1 : P.underlying s = some y) (h2 : P.underlying d = some (.int k)) : A8h P s d (.int j n) H = some (.int k (k.wrap n), H) := by
 unfold A8h
 rw [h1, h2]
theorem B7g {i : Nat} {u : UInt8} (hu : P.underlying t = some .string) (h : x.data.toList[i]? = some u) : A88 P t (.string x) (.int j (i : Int)) = some (.int .u8 u.toNat) := by
 show A88 P t (.string x) (.int j (.ofNat i)) = _
 unfold A88
 simp only [hu, h, Option.map_some]
end
end Go.Proofs.Sh
/- Open regions without effects are done in their order. -/
namespace Go.Proofs.Sh
open Go
def calm (ops : List Oper) : Bool := ops.all fun o => !isEff o
section
variable {P : Program} {call : A4d}
theorem B5n : ∀ {ops : List Oper} {bs : List Nat} {i : Nat}, calm ops = true → A0x ops bs i 0 = true
 | [], bs, i, _ => by simp [A0x]
 | o :: ops, [], i, _ => by simp [A0x]
 | o :: ops, b :: bs, i, h => by
  simp only [calm, List.all_cons, Bool.and_eq_true, Bool.not_eq_true'] at h
  simp only [A0x, Nat.zero_and, h.1, cond_false]
  rw [B5n (ops := ops) h.2]
  rfl
theorem B51 {all : List Oper} {bs : List Nat} (hc : calm all = true) : ∀ (m i : Nat) (ps : List Pend) (F : Fr) (H : AH), i + m = all.length → A7e P call all bs (List.range' i m) ps F H = A8o P call all (all.drop i) F H
 | 0, i, ps, F, H, h => by
  rw [List.drop_of_length_le (by omega)]
  rfl
 | m + 1, i, ps, F, H, h => by
  have hi : i < all.length := by omega
  rw [List.drop_eq_getElem_cons hi, List.range'_succ]
  have ho : all[i]? = some all[i] := List.getElem?_eq_getElem hi
  have hE : isEff all[i] = false := by
   have := List.all_eq_true.1 hc _ (List.getElem_mem hi)
   simpa using this
  generalize all[i] = o at ho hE
  have ih := B51 (bs := bs) hc m (i + 1)
  simp only [A7e, A8o, ho, hE, cond_false]
  cases hw : A1m all F o with
  | none => rfl
  | some b =>
   cases b with
   | false => exact ih _ _ _ (by omega)
   | true =>
    simp only
    cases hop : aop P call F H o with
    | none => rfl
    | some r =>
     obtain ⟨v, H1⟩ := r
     simp only
     cases hM : A5e o with
     | true =>
      obtain ⟨x, hx⟩ := A9k hM hop
      have : H1.objs.get H.next = some x := by rw [hx]; exact A2q H x
      simp only [cond_true, this]
      exact ih _ _ _ (by omega)
     | false =>
      simp only [cond_false]
      cases isRead o
      ·exact ih _ _ _ (by omega)
      ·exact ih _ _ _ (by omega)
theorem B0c {ops : List Oper} {F : Fr} {H : AH} (hc : calm ops = true) : region P call ops true F H = region P call ops false F H := by
 unfold region
 simp only [cond_true, cond_false]
 have : A90 ops (A6j ops) = List.range' 0 ops.length := by
  unfold A90
  rw [B5n hc]
  simp only [cond_true]
  exact List.range_eq_range'
 rw [this, B51 hc ops.length 0 [] F H (by omega), List.drop_zero]
end
variable {P : Program} {O : A4d} {S : List Item} {Q : Fr → AH → Prop} {F : Fr} {H : AH}
theorem C8x {id : Nat} {ops : Array Oper} (hc : calm ops.toList = true) : wp P O (.code (.region id ops true) :: S) Q F H ↔ wpo P O ops.toList ops.toList (wp P O S Q) F H := by
 rw [B6y]
 constructor
 ·rintro ⟨n, F1, H1, h1, h2⟩
  rw [B0c hc] at h1
  exact ⟨n, F1, H1, h1, h2⟩
 ·rintro ⟨n, F1, H1, h1, h2⟩
  refine ⟨n, F1, H1, ?_, h2⟩
  rw [B0c hc]
  exact h1
section
variable {K : Fr → AH → Prop} {all ops : List Oper} {dst : Option Tmp} {ty : TypeId} {pos : String} {aft : Array Edge} {op : Op} {j : Nat} {want : Bool}
theorem B8s (h : ((all[j]?).bind (·.dst)).bind F.get = some (.bool want)) : wpo P O all (⟨dst, op, ty, pos, aft, some (j, want)⟩ :: ops) K F H ↔ wpo P O all (⟨dst, op, ty, pos, aft, none⟩ :: ops) K F H := by
 rw [B78, h]
 simp
theorem B3x (h : ((all[j]?).bind (·.dst)).bind F.get = some (.bool !want)) : wpo P O all (⟨dst, op, ty, pos, aft, some (j, want)⟩ :: ops) K F H ↔ wpo P O all ops K (put F dst undef) H := by
 rw [B78, h]
 cases want <;> simp
end
end Go.Proofs.Sh
/- The order of texts. -/
namespace Go.Proofs.Sh
open Go
theorem A13 : ∀ {x y z : List UInt8}, A0m x y = true → A0m y z = true → A0m x z = true
 | _, [], _, h, _ => by simp [A0m] at h
 | _, _ :: _, [], _, h => by simp [A0m] at h
 | [], _ :: _, _ :: _, _, _ => rfl
 | a :: x, b :: y, c :: z, h, k => by
  simp only [A0m, Bool.or_eq_true, Bool.and_eq_true, A8a, A3i, decide_eq_true_eq] at h k ⊢
  rcases h with h | ⟨h1, h2⟩ <;> rcases k with k | ⟨k1, k2⟩
  ·exact .inl (by omega)
  ·exact .inl (by omega)
  ·exact .inl (by omega)
  ·exact .inr ⟨by omega, A13 h2 k2⟩
theorem A50 : ∀ (x : List UInt8), A0m x x = false
 | [] => rfl
 | a :: x => by
  simp only [A0m, A50 x, A3i, Bool.and_false, Bool.or_false, decide_eq_false_iff_not]
  omega
theorem B1d : ∀ (x y : List UInt8), A0m x y = true ∨ x = y ∨ A0m y x = true
 | [], [] => .inr (.inl rfl)
 | [], _ :: _ => .inl rfl
 | _ :: _, [] => .inr (.inr rfl)
 | a :: x, b :: y => by
  simp only [A0m, Bool.or_eq_true, Bool.and_eq_true, A8a, A3i, decide_eq_true_eq, List.cons.injEq]
  rcases Nat.lt_trichotomy a.toNat b.toNat with h | h | h
  ·exact .inl (.inl h)
  ·rcases B1d x y with k | k | k
   ·exact .inl (.inr ⟨h, k⟩)
   ·exact .inr (.inl ⟨UInt8.toNat_inj.1 h, k⟩)
   ·exact .inr (.inr (.inr ⟨h.symm, k⟩))
  ·exact .inr (.inr (.inl h))
theorem A0n {x y z : ByteArray} (h : A0b x y = true) (k : A0b y z = true) : A0b x z = true := A13 h k
theorem A4j (x : ByteArray) : A0b x x = false := A50 _
theorem B7c (x y : ByteArray) : A0b x y = true ∨ x = y ∨ A0b y x = true := by
 rcases B1d x.data.toList y.data.toList with h | h | h
 ·exact .inl h
 ·exact .inr (.inl (ByteArray.ext (Array.toList_inj.1 h)))
 ·exact .inr (.inr h)
def Asc (l : List ByteArray) : Prop := ∀ (i j : Nat) x y, i < j → l[i]? = some x → l[j]? = some y → A0b x y = true
theorem B5y {l : List ByteArray} (ha : Asc l) (x : ByteArray) {k : Nat} (h1 : ∀ (i : Nat) y, i < k → l[i]? = some y → A0b y x = true) (h2 : ∀ (i : Nat) y, k ≤ i → l[i]? = some y → A0b y x = false) : l[k]? = some x ↔ x ∈ l := by
 constructor
 ·exact List.mem_of_getElem?
 ·intro h
  obtain ⟨i, hi⟩ := List.mem_iff_getElem?.1 h
  rcases Nat.lt_trichotomy i k with h3 | h3 | h3
  ·have := h1 i x h3 hi
   rw [A4j] at this; cases this
  ·rw [← h3]; exact hi
  ·have hil := (List.getElem?_eq_some_iff.1 hi).1
   have hk : l[k]? = some (l[k]'(by omega)) := List.getElem?_eq_getElem (by omega)
   have h4 := ha k i _ _ h3 hk hi
   rw [h2 k _ (Nat.le_refl k) hk] at h4; cases h4
def A7r (l : List ByteArray) (x : ByteArray) : Bool := l.any fun y => decide (y = x)
theorem A0j {l : List ByteArray} {x : ByteArray} : A7r l x = true ↔ x ∈ l := by
 simp [A7r]
end Go.Proofs.Sh
/- Loops over frames of which little changes; memory of which little changes; rows that are owned; slices that grow. -/
namespace Go.Proofs.Sh
open Go
def Same (W : List Nat) (F F' : Fr) : Prop := ∀ t, W.contains t = false → F'.get t = F.get t
theorem Same.rfl' {W : List Nat} (F : Fr) : Same W F F := fun _ _ => rfl
theorem Same.put {W : List Nat} {F F' : Fr} {t : Nat} {v : Value} (h : Same W F F') (ht : W.contains t = true) : Same W F (put F' (some t) v) := by
 intro u hu
 rw [A0z _ (by rintro rfl; rw [ht] at hu; cases hu)]
 exact h u hu
theorem Same.trans {W : List Nat} {F F1 F2 : Fr} (h : Same W F F1) (k : Same W F1 F2) : Same W F F2 := fun t ht => (k t ht).trans (h t ht)
section
variable {P : Program} {O : A4d} {H : AH}
theorem A1d {c : Code} {S : List Item} {Q : Fr → AH → Prop} {F : Fr} {H : AH} (n t : Nat) (W : List Nat) (I : Nat → Fr → AH → Prop)
  (ht : F.get t = some (.int .i64 0)) (h0 : I 0 F H)
  (step : ∀ i F' H', i < n → Same W F F' → F'.get t = some (.int .i64 (i : Int)) → I i F' H' →
   (∀ F'' H'', Same W F' F'' → F''.get t = some (.int .i64 ((i + 1 : Nat) : Int)) → I (i + 1) F'' H'' → wp P O (.inLoop c :: S) Q F'' H'') → wp P O (.code c :: .inLoop c :: S) Q F' H')
  (done : ∀ F' H', Same W F F' → F'.get t = some (.int .i64 (n : Int)) → I n F' H' → wp P O (.code c :: .inLoop c :: S) Q F' H') :
  wp P O (.inLoop c :: S) Q F H := by
 refine A1x n (fun i F' H' => Same W F F' ∧ F'.get t = some (.int .i64 (i : Int)) ∧ I i F' H') (Nat.zero_le n) ⟨Same.rfl' F, ht, h0⟩ ?_
 rintro i F' H' hi ⟨h1, h2, h3⟩ k
 by_cases hlt : i < n
 ·exact step i F' H' hlt h1 h2 h3 fun F'' H'' s1 s2 s3 => k F'' H'' hlt ⟨h1.trans s1, s2, s3⟩
 ·have : i = n := by omega
  subst this
  exact done F' H' h1 h2 h3
structure Chg (X : Nat → Prop) (H H' : AH) : Prop where
 old : ∀ g, g < H.next → ¬X g → H'.objs.get g = H.objs.get g
 next : H.next ≤ H'.next
 wf : Wf H'
def none' : Nat → Prop := fun _ => False
theorem Chg.refl {X : Nat → Prop} (h : Wf H) : Chg X H H := ⟨fun _ _ _ => rfl, Nat.le_refl _, h⟩
theorem Chg.trans {X : Nat → Prop} {H1 H2 H3 : AH} (h : Chg X H1 H2) (k : Chg X H2 H3) : Chg X H1 H3 :=
 ⟨fun g hg hx => (k.old g (Nat.lt_of_lt_of_le hg h.next) hx).trans (h.old g hg hx), Nat.le_trans h.next k.next, k.wf⟩
theorem Chg.then {X Y : Nat → Prop} {H1 H2 H3 : AH} (h : Chg X H1 H2) (k : Chg Y H2 H3) (hy : ∀ g, Y g → g < H1.next → X g) : Chg X H1 H3 :=
 ⟨fun g hg hx => (k.old g (Nat.lt_of_lt_of_le hg h.next) fun hy' => hx (hy g hy' hg)).trans (h.old g hg hx), Nat.le_trans h.next k.next, k.wf⟩
theorem Chg.weak {X Y : Nat → Prop} {H1 H2 : AH} (h : Chg X H1 H2) (hx : ∀ g, X g → Y g) : Chg Y H1 H2 := ⟨fun g hg hy => h.old g hg fun k => hy (hx g k), h.next, h.wf⟩
theorem Kept.chg {X : Nat → Prop} {H1 H2 : AH} (h : Kept H1 H2) : Chg X H1 H2 := ⟨fun g hg _ => h.old g hg, h.next, h.wf⟩
theorem Chg.kept {X : Nat → Prop} {H1 H2 : AH} (h : Chg X H1 H2) (hx : ∀ g, g < H1.next → ¬X g) : Kept H1 H2 := ⟨fun g hg => h.old g hg (hx g hg), h.next, h.wf⟩
theorem Chg.push {X : Nat → Prop} (h : Wf H) (o : AObj) : Chg X H (H.push o).2 :=
 ⟨fun g hg _ => Tr.get_set_ne _ (Nat.ne_of_lt hg) _, Nat.le_succ _, h.push o⟩
theorem Chg.put {X : Nat → Prop} (h : Wf H) {g : Nat} (hg : g < H.next) (hx : X g) (o : AObj) : Chg X H (H.put g o) :=
 ⟨fun g' _ hx' => by rw [A3f, if_neg]; rintro rfl; exact hx' hx, Nat.le_refl _, h.put hg o⟩
def Arr (H : AH) (g k : Nat) (s : Nat) (vals : List Value) : Prop :=
 ∃ rs r, H.objs.get g = some (.rows rs true) ∧ rs[k]? = some r ∧ r.ok = true ∧ r.esz = s ∧ r.vals = vals
section
variable {g k s : Nat} {vals : List Value}
theorem Obj.arr (h : Obj H g s vals true) : Arr H g 0 s vals := ⟨_, _, h, rfl, rfl, rfl, rfl⟩
theorem Arr.keep {H' : AH} (h : Arr H g k s vals) (hg : H'.objs.get g = H.objs.get g) : Arr H' g k s vals := by
 obtain ⟨rs, r, h1, h2, h3, h4, h5⟩ := h
 exact ⟨rs, r, by rw [hg, h1], h2, h3, h4, h5⟩
theorem Arr.lt (h : Arr H g k s vals) (hw : Wf H) : g < H.next := by
 obtain ⟨rs, r, h1, _⟩ := h
 exact hw _ _ h1
theorem Arr.row (h : Arr H g k s vals) (o : Nat) : ∃ r, H.row? ⟨g, o, some k⟩ = some r ∧ r.vals = vals ∧ r.esz = s := by
 obtain ⟨rs, r, h1, h2, h3, h4, h5⟩ := h
 refine ⟨r, ?_, h5, h4⟩
 unfold AH.row?
 simp only [h1, h2, h3, cond_true]
theorem Arr.cell (h : Arr H g k s vals) (i : Nat) : H.cell ⟨g, i, some k⟩ = vals[i]? := by
 obtain ⟨r, h1, h2, h3⟩ := h.row i
 unfold AH.cell
 rw [h1, ← h2]
theorem Arr.cells (h : Arr H g k s vals) {i n : Nat} (hn : i + n ≤ vals.length) : H.cells ⟨g, i, some k⟩ n = some ((vals.drop i).take n) := by
 obtain ⟨r, h1, h2, h3⟩ := h.row i
 unfold AH.cells
 rw [h1]
 simp only [A5m, h2, A3c, hn, decide_true, cond_true]
theorem Arr.esz (h : Arr H g k s vals) (i : Nat) : A81 H ⟨g, i, some k⟩ s = true := by
 obtain ⟨r, h1, h2, h3⟩ := h.row i
 unfold A81
 rw [h1]
 simp [h3]
theorem Arr.write (h : Arr H g k s vals) (hw : Wf H) {i : Nat} {vs : List Value} (hn : i + vs.length ≤ vals.length) :
  ∃ H', H.write ⟨g, i, some k⟩ vs = some H' ∧ Arr H' g k s (setCells vals i vs) ∧ H'.next = H.next ∧ Chg (fun x => x = g) H H' := by
 have hlt := h.lt hw
 obtain ⟨rs, r, h1, h2, h3, h4, h5⟩ := h
 unfold AH.write
 simp only [h1, h2, h3, h5, A3c, hn, decide_true, Bool.and_self, cond_true]
 refine ⟨_, rfl, ?_, rfl, Chg.put (X := fun x => x = g) hw hlt rfl _⟩
 refine ⟨_, { r with vals := setCells vals i vs }, by rw [A3f, if_pos rfl], ?_, h3, h4, rfl⟩
 rw [A5l, h2]
 simp [h3]
end
def flat (l : List (List Value)) : List Value := l.flatten
theorem flat_length {s : Nat} : ∀ {l : List (List Value)}, (∀ x ∈ l, x.length = s) → (flat l).length = l.length * s
 | [], _ => by simp [flat]
 | x :: l, h => by
  have h1 := h x List.mem_cons_self
  have h2 := flat_length (l := l) fun y hy => h y (List.mem_cons_of_mem _ hy)
  simp only [flat, List.flatten_cons, List.length_append, List.length_cons] at h2 ⊢
  rw [h2, h1, Nat.succ_mul]; omega
theorem B9f {s : Nat} : ∀ {l : List (List Value)} {i : Nat} {x : List Value}, (∀ x ∈ l, x.length = s) → l[i]? = some x → ((flat l).drop (i * s)).take s = x
 | [], i, x, _, h => by simp at h
 | y :: l, 0, x, h, e => by
  have h1 := h y List.mem_cons_self
  simp only [List.getElem?_cons_zero, Option.some.injEq] at e
  subst e
  simp [flat, ← h1]
 | y :: l, i + 1, x, h, e => by
  have h1 := h y List.mem_cons_self
  have h2 := B9f (l := l) (fun z hz => h z (List.mem_cons_of_mem _ hz)) (by simpa using e)
  rw [← h2]
  simp only [flat, List.flatten_cons, Nat.succ_mul]
  rw [List.drop_append, List.drop_of_length_le (by omega), List.nil_append]
  congr 2
  omega
theorem A7p (l m : List (List Value)) : flat (l ++ m) = flat l ++ flat m := by simp [flat]
theorem A5y : ∀ (vs a b : List Value), vs.length ≤ b.length → setCells (a ++ b) a.length vs = a ++ vs ++ b.drop vs.length
 | [], a, b, _ => by simp [setCells]
 | v :: vs, a, [], h => by simp at h
 | v :: vs, a, x :: b, h => by
  have e : (a ++ x :: b).set a.length v = (a ++ [v]) ++ b := by
   rw [List.set_append_right _ _ (Nat.le_refl _)]
   simp
  have ih := A5y vs (a ++ [v]) b (by simpa using h)
  simp only [List.length_append, List.length_cons, List.length_nil] at ih
  simp only [setCells, e, Nat.zero_add] at ih ⊢
  rw [ih]
  simp
inductive Buf (H : AH) (s : Nat) : Value → List (List Value) → Option Nat → Prop where
 | void (a : Option Addr) : Buf H s (.slice a 0 0) [] none
 | own (g k cap : Nat) (l : List (List Value)) (vals : List Value) (h : Arr H g k s vals) (h0 : 0 < A1p cap) (h1 : A1p cap * s = vals.length) (h2 : l.length ≤ A1p cap) (h3 : vals.take (l.length * s) = flat l) (h4 : ∀ x ∈ l, x.length = s) :
     Buf H s (.slice (some ⟨g, 0, some k⟩) l.length cap) l (some g)
section
variable {s : Nat} {v : Value} {l : List (List Value)} {b : Option Nat}
theorem Buf.keep {H' : AH} (h : Buf H s v l b) (hg : ∀ g, b = some g → H'.objs.get g = H.objs.get g) : Buf H' s v l b := by
 cases h with
 | void a => exact .void a
 | own g k cap l vals h h0 h1 h2 h3 h4 => exact .own g k cap l vals (h.keep (hg g rfl)) h0 h1 h2 h3 h4
theorem Buf.lt (h : Buf H s v l b) (hw : Wf H) : ∀ g, b = some g → g < H.next := by
 rintro g rfl
 cases h with
 | own g k cap l vals h => exact h.lt hw
theorem Buf.chg {X : Nat → Prop} {H' : AH} (h : Buf H s v l b) (hw : Wf H) (hc : Chg X H H') (hx : ∀ g, b = some g → ¬X g) : Buf H' s v l b :=
 h.keep fun g hg => hc.old g (h.lt hw g hg) (hx g hg)
theorem Buf.kept {H' : AH} (h : Buf H s v l b) (hw : Wf H) (hc : Kept H H') : Buf H' s v l b :=
 h.keep fun g hg => hc.old g (h.lt hw g hg)
theorem Buf.wide (h : Buf H s v l b) : ∀ x ∈ l, x.length = s := by
 cases h with
 | void a => intro x hx; cases hx
 | own g k cap l vals h h0 h1 h2 h3 h4 => exact h4
theorem Buf.isCell (h : Buf H s v l b) : isCell v = true := by cases h <;> rfl
theorem Buf.sl (h : Buf H s v l b) : (∃ n c, v = .slice none n c ∧ n = 0) ∧ l = [] ∨ Sl H v s l := by
 cases h with
 | void a =>
  cases a with
  | none => exact .inl ⟨⟨0, 0, rfl, rfl⟩, rfl⟩
  | some a => exact .inr ⟨some a, 0, rfl, (fun x h => by cases h), (fun h => by cases h), fun h => absurd rfl h⟩
 | own g k cap l vals h h0 h1 h2 h3 h4 =>
  refine .inr ⟨some ⟨g, 0, some k⟩, cap, rfl, h4, (fun h => by cases h), fun hn => ⟨g, 0, k, rfl, fun i x hx => ?_⟩⟩
  have hi := (List.getElem?_eq_some_iff.1 hx).1
  have hle : (i + 1) * s ≤ l.length * s := Nat.mul_le_mul_right s hi
  have hle2 : l.length * s ≤ vals.length := by rw [← h1]; exact Nat.mul_le_mul_right s h2
  rw [Nat.succ_mul] at hle
  rw [Nat.zero_add, h.cells (by omega), ← B9f h4 hx, ← h3]
  rw [List.drop_take, List.take_take, Nat.min_eq_left (by omega)]
theorem Buf.toSl (h : Buf H s v l b) : Sl H v s l := by
 rcases h.sl with ⟨⟨n, c, rfl, rfl⟩, rfl⟩ | h'
 ·cases h with
  | void a => exact Sl.nil H s
 ·exact h'
theorem A2o (n : Nat) : A1p (n + big) = n := by
 unfold A1p
 rw [Nat.ble_eq_true_of_le (by omega)]
 simp
theorem B1e {c : Nat} (h : c < big) : A1p c = c := by
 unfold A1p
 rw [A3c]
 simp [Nat.not_le.2 h]
theorem Buf.fresh {xs : List (List Value)} (hw : Wf H) (hx : ∀ x ∈ xs, x.length = s) (hn : xs ≠ []) (cap : Nat) (hc : A1p cap = xs.length) :
  Buf (H.new s (flat xs)).2 s (.slice (some ⟨H.next, 0, some 0⟩) xs.length cap) xs (some H.next) := by
 refine .own H.next 0 cap xs (flat xs) (Obj.new s (flat xs)).arr ?_ ?_ ?_ ?_ hx
 ·rw [hc]; exact List.length_pos_iff.2 hn
 ·rw [hc, flat_length hx]
 ·rw [hc]; exact Nat.le_refl _
 ·rw [← flat_length hx, List.take_length]
theorem Buf.append {a : Option Addr} {len cap : Nat} (hb : Buf H s (.slice a len cap) l b) (hw : Wf H) {xs : List (List Value)} (hx : ∀ x ∈ xs, x.length = s) :
  ∃ v' H' b', A1e s a len cap xs.length (flat xs) H = some (v', H') ∧ Buf H' s v' (l ++ xs) b' ∧ Chg (fun g => b = some g) H H' ∧ (b' = b ∨ b' = some H.next ∧ H.next < H'.next) := by
 cases xs with
 | nil =>
  refine ⟨_, H, b, rfl, by simpa using hb, Chg.refl hw, .inl rfl⟩
 | cons x xs =>
  have hne : Nat.beq (x :: xs).length 0 = false := by simp [A8a]
  have hxl := flat_length hx
  generalize hxs : x :: xs = ys at *
  have hys : ys ≠ [] := by rw [← hxs]; simp
  cases hb with
  | void a =>
   have e : A1e s a 0 0 ys.length (flat ys) H = some (.slice (some ⟨H.next, 0, some 0⟩) ys.length (ys.length + big), (H.new s (flat ys)).2) := by
    unfold A1e
    rw [hne]
    cases a <;> rfl
   refine ⟨_, _, _, e, ?_, (Kept.new hw s (flat ys)).chg, .inr ⟨rfl, Nat.lt_succ_self _⟩⟩
   exact Buf.fresh hw hx hys _ (A2o _)
  | own g k cap l vals h h0 h1 h2 h3 h4 =>
   have hc0 : Nat.beq cap 0 = false := by
    rw [A8a]
    have : cap ≠ 0 := by rintro rfl; simp [A1p, A3c, big] at h0
    simp [this]
   have hll : l.length * s ≤ vals.length := by rw [← h1]; exact Nat.mul_le_mul_right s h2
   have hcells : H.cells (⟨g, 0, some k⟩ : Addr) (l.length * s) = some (flat l) := by
    rw [h.cells (by omega), List.drop_zero, h3]
   by_cases hfit : l.length + ys.length ≤ A1p cap
   ·have hroom : l.length * s + (flat ys).length ≤ vals.length := by
      rw [hxl, ← Nat.add_mul, ← h1]; exact Nat.mul_le_mul_right s hfit
    obtain ⟨H', hw', ha', hn', hg'⟩ := h.write hw (i := l.length * s) (vs := flat ys) hroom
    have e : A1e s (some ⟨g, 0, some k⟩) l.length cap ys.length (flat ys) H = some (.slice (some ⟨g, 0, some k⟩) (l.length + ys.length) cap, H') := by
      unfold A1e
      simp only [hne, hc0, cond_false, A3c, hfit, decide_true, cond_true, plus, Nat.zero_add, hw', Option.map_some]
    refine ⟨_, H', some g, e, ?_, hg'.weak (fun x hx => by rw [hx]), .inl rfl⟩
    have e2 : vals = flat l ++ vals.drop (l.length * s) := by
      rw [← h3, List.take_append_drop]
    have e3 : setCells vals (l.length * s) (flat ys) = flat l ++ flat ys ++ (vals.drop (l.length * s)).drop (flat ys).length := by
      have := A5y (flat ys) (flat l) (vals.drop (l.length * s)) (by simp; omega)
      rw [← e2, flat_length h4] at this
      exact this
    rw [← List.length_append]
    refine .own g k cap (l ++ ys) _ ha' h0 ?_ ?_ ?_ ?_
    · rw [A7f, h1]
    · simpa using hfit
    · have hl2 : (l ++ ys).length * s = (flat l ++ flat ys).length := by
        rw [List.length_append, List.length_append, flat_length h4, hxl, Nat.add_mul]
      rw [e3, hl2, List.take_left', A7p]
      rfl
    · intro y hy
      rcases List.mem_append.1 hy with hy | hy
      · exact h4 y hy
      · exact hx y hy
   ·have hall : ∀ y ∈ l ++ ys, y.length = s := by
      intro y hy
      rcases List.mem_append.1 hy with hy | hy
      · exact h4 y hy
      · exact hx y hy
    have hapne : l ++ ys ≠ [] := by simp [hys]
    cases hex : A3x cap with
    | true =>
      have e : A1e s (some ⟨g, 0, some k⟩) l.length cap ys.length (flat ys) H = some (.slice (some ⟨H.next, 0, some 0⟩) (l.length + ys.length) (l.length + ys.length + big), (H.new s (flat l ++ flat ys)).2) := by
        unfold A1e
        simp only [hne, hc0, cond_false, A3c, hfit, decide_false, hcells, Option.bind_some, hex, cond_true]
        rfl
      refine ⟨_, _, _, e, ?_, (Kept.new hw s _).chg, .inr ⟨rfl, Nat.lt_succ_self _⟩⟩
      rw [← List.length_append, ← A7p]
      exact Buf.fresh hw hall hapne _ (by rw [A2o])
    | false =>
      have hlt := h.lt hw
      obtain ⟨rs, r, g1, g2, g3, g4, g5⟩ := h
      have e : ∃ H', A1e s (some ⟨g, 0, some k⟩) l.length cap ys.length (flat ys) H = some (.slice (some ⟨g, 0, some rs.length⟩) (l.length + ys.length) (l.length + ys.length + big), H') ∧
          H' = H.put g (.rows (A6e (r.pos + 0 + l.length * s) (r.pos + 0 + l.length * s + ys.length * s) rs.length r 0 rs ++ [{ pos := r.pos + 0, esz := s, vals := flat l ++ flat ys, ok := true }]) true) := by
        refine ⟨_, ?_, rfl⟩
        unfold A1e
        simp only [hne, hc0, cond_false, A3c, hfit, decide_false, hcells, Option.bind_some, hex, g1, g2, g4, A8a, decide_true, Bool.not_true]
      obtain ⟨H', e, e2⟩ := e
      refine ⟨_, H', some g, e, ?_, ?_, .inl rfl⟩
      · rw [← List.length_append]
        refine .own g rs.length ((l ++ ys).length + big) (l ++ ys) (flat l ++ flat ys) ?_ ?_ ?_ ?_ ?_ hall
        · have e4 := A3f H g g (.rows (A6e (r.pos + 0 + l.length * s) (r.pos + 0 + l.length * s + ys.length * s) rs.length r 0 rs ++ [{ pos := r.pos + 0, esz := s, vals := flat l ++ flat ys, ok := true }]) true)
          rw [if_pos rfl, ← e2] at e4
          refine ⟨_, { pos := r.pos + 0, esz := s, vals := flat l ++ flat ys, ok := true }, e4, ?_, rfl, rfl, rfl⟩
          rw [List.getElem?_append_right (by rw [A9d]; exact Nat.le_refl _), A9d]
          simp
        · rw [A2o, List.length_append]; have := List.length_pos_iff.2 hys; omega
        · rw [A2o, List.length_append (as := flat l), flat_length h4, hxl, List.length_append, Nat.add_mul]
        · rw [A2o]; exact Nat.le_refl _
        · rw [List.length_append, Nat.add_mul, ← flat_length (l := l) h4, ← hxl, ← List.length_append, List.take_length, A7p]
      · rw [e2]
        exact Chg.put (X := fun x => some g = some x) hw hlt rfl _
end
end
end Go.Proofs.Sh
/- Open regions whose effects wait for all that is read ahead of them are done in their order. -/
namespace Go.Proofs.Sh
open Go
def A44 : List Oper → List Nat → Nat → Nat → Bool
 | o :: os, b :: bs, i, pb => bif isEff o then Nat.beq (pb &&& b) pb && A44 os bs (i + 1) pb else A44 os bs (i + 1) (bif A5e o || isRead o then pb ||| 2 ^ i else pb)
 | _, _, _, _ => true
def C30 (ops : List Oper) : Bool :=
 let bs := A6j ops
 Nat.beq bs.length ops.length && A0x ops bs 0 0 && A44 ops bs 0 0
section
variable {P : Program} {call : A4d}
theorem A0t {all : List Oper} {H : AH} {b : Nat} : ∀ {ps : List Pend}, (∀ p ∈ ps, b.testBit p.at_ = true) → A5h P call all H b ps = some []
 | [], _ => rfl
 | .read i F v :: ps, h => by
  have h1 : b.testBit i = true := h _ List.mem_cons_self
  simp only [A5h, h1, cond_true]
  exact A0t fun p hp => h p (List.mem_cons_of_mem _ hp)
 | .made i g x :: ps, h => by
  have h1 : b.testBit i = true := h _ List.mem_cons_self
  simp only [A5h, h1, cond_true]
  exact A0t fun p hp => h p (List.mem_cons_of_mem _ hp)
theorem B4w {all : List Oper} {bs : List Nat} (hb : bs.length = all.length) : ∀ (m i pb : Nat) (ps : List Pend) (F : Fr) (H : AH), i + m = all.length → (∀ p ∈ ps, pb.testBit p.at_ = true) → A44 (all.drop i) (bs.drop i) i pb = true →
  A7e P call all bs (List.range' i m) ps F H = A8o P call all (all.drop i) F H
 | 0, i, pb, ps, F, H, h, _, _ => by
  rw [List.drop_of_length_le (by omega)]
  rfl
 | m + 1, i, pb, ps, F, H, h, hps, hf => by
  have hi : i < all.length := by omega
  have hib : i < bs.length := by omega
  rw [List.drop_eq_getElem_cons hi, List.drop_eq_getElem_cons hib] at hf
  rw [List.drop_eq_getElem_cons hi, List.range'_succ]
  have ho : all[i]? = some all[i] := List.getElem?_eq_getElem hi
  have hbi : bs[i]? = some bs[i] := List.getElem?_eq_getElem hib
  generalize all[i] = o at ho hf
  generalize bs[i] = b at hbi hf
  have ih := fun pb ps F H h1 h2 => B4w hb m (i + 1) pb ps F H (by omega) h1 h2
  simp only [A44] at hf
  simp only [A7e, A8o, ho]
  have hmono : ∀ {c : Bool}, ∀ p ∈ ps, (bif c then pb ||| 2 ^ i else pb).testBit p.at_ = true := by
   intro c p hp
   cases c with
   | false => exact hps p hp
   | true => simp only [cond_true, Nat.testBit_or, hps p hp, Bool.true_or]
  cases hE : isEff o with
  | true =>
   rw [hE] at hf
   simp only [cond_true, Bool.and_eq_true, A8a, decide_eq_true_eq] at hf
   have hall : ∀ p ∈ ps, b.testBit p.at_ = true := by
    intro p hp
    have h1 := hps p hp
    rw [← hf.1, Nat.testBit_and, Bool.and_eq_true] at h1
    exact h1.2
   cases hw : A1m all F o with
   | none => rfl
   | some w =>
    cases w with
    | false => exact ih pb ps _ _ hps hf.2
    | true =>
     simp only
     cases hop : aop P call F H o with
     | none => rfl
     | some r =>
      obtain ⟨v, H1⟩ := r
      simp only [cond_true, hbi, Option.getD_some, A0t hall]
      exact ih pb [] _ _ (fun p hp => by cases hp) hf.2
  | false =>
   rw [hE] at hf
   simp only [cond_false] at hf
   cases hw : A1m all F o with
   | none => rfl
   | some w =>
    cases w with
    | false => exact ih _ ps _ _ hmono hf
    | true =>
     simp only
     cases hop : aop P call F H o with
     | none => rfl
     | some r =>
      obtain ⟨v, H1⟩ := r
      simp only [cond_false]
      cases hM : A5e o with
      | true =>
       obtain ⟨x, hx⟩ := A9k hM hop
       have hxg : H1.objs.get H.next = some x := by rw [hx]; exact A2q H x
       simp only [cond_true, hxg]
       rw [hM] at hf
       simp only [Bool.true_or, cond_true] at hf
       refine ih _ _ _ _ (fun p hp => ?_) hf
       rcases List.mem_cons.1 hp with rfl | hp
       ·simp [Pend.at_]
       ·exact hmono (c := true) p hp
      | false =>
       simp only [cond_false]
       rw [hM] at hf
       cases hR : isRead o with
       | true =>
        rw [hR] at hf
        simp only [Bool.or_true, cond_true] at hf
        simp only [cond_true]
        refine ih _ _ _ _ (fun p hp => ?_) hf
        rcases List.mem_cons.1 hp with rfl | hp
        ·simp [Pend.at_]
        ·exact hmono (c := true) p hp
       | false =>
        rw [hR] at hf
        simp only [Bool.or_false, cond_false] at hf ⊢
        exact ih _ _ _ _ hps hf
theorem B4c {ops : List Oper} {F : Fr} {H : AH} (hc : C30 ops = true) : region P call ops true F H = region P call ops false F H := by
 simp only [C30, Bool.and_eq_true, A8a, decide_eq_true_eq] at hc
 obtain ⟨⟨h1, h2⟩, h3⟩ := hc
 unfold region
 simp only [cond_true, cond_false]
 have : A90 ops (A6j ops) = List.range' 0 ops.length := by
  unfold A90
  rw [h2]
  simp only [cond_true]
  exact List.range_eq_range'
 rw [this, B4w h1 ops.length 0 0 [] F H (by omega) (fun p hp => by cases hp) (by simpa using h3), List.drop_zero]
end
variable {P : Program} {O : A4d} {S : List Item} {Q : Fr → AH → Prop} {F : Fr} {H : AH}
theorem A7a {id : Nat} {ops : Array Oper} (hc : C30 ops.toList = true) : wp P O (.code (.region id ops true) :: S) Q F H ↔ wpo P O ops.toList ops.toList (wp P O S Q) F H := by
 rw [B6y]
 constructor
 ·rintro ⟨n, F1, H1, h1, h2⟩
  rw [B4c hc] at h1
  exact ⟨n, F1, H1, h1, h2⟩
 ·rintro ⟨n, F1, H1, h1, h2⟩
  refine ⟨n, F1, H1, ?_, h2⟩
  rw [B4c hc]
  exact h1
end Go.Proofs.Sh
/- Open regions whose effects only add to the memory, or wait for what is read ahead of them. -/
namespace Go.Proofs.Sh
open Go
def flagsOf (ops : List Oper) (bs : List Nat) : List Nat → Nat → List (Nat × Bool)
 | [], _ => []
 | i :: l, pb => match ops[i]? with
  | none => []
  | some o => bif isEff o then (i, Nat.beq (pb &&& (bs[i]?).getD 0) pb) :: flagsOf ops bs l pb
      else bif A5e o || isRead o then (i, false) :: flagsOf ops bs l (pb ||| 2 ^ i) else (i, true) :: flagsOf ops bs l pb
def order (ops : List Oper) : List (Nat × Bool) := flagsOf ops (A6j ops) (A90 ops (A6j ops)) 0
def Still (o : Oper) (F' : Fr) (H H' : AH) : Prop :=
 (isRead o = true → ∃ t, o.dst = some t ∧ ∀ v, F'.get t = some v → veq v v = true) ∧ (A5e o = true → ∀ x, H'.objs.get H.next = some x → B7a x x = true)
def wpg (P : Program) (O : A4d) (all : List Oper) : List (Nat × Bool) → (Fr → AH → Prop) → Fr → AH → Prop
 | [], K, F, H => K F H
 | (i, fl) :: l, K, F, H => match all[i]? with
  | some o => wpo P O all [o] (fun F' H' => (isEff o = true → Wf H' ∧ (fl = false → HGrow H H')) ∧ (isEff o = false → fl = false → Still o F' H H') ∧ wpg P O all l K F' H') F H
  | none => False
section
variable {P : Program}
theorem B7n {c c' : A4d} {F : Fr} {H : AH} {o : Oper} (hE : isEff o = false) : aop P c F H o = aop P c' F H o := by
 unfold isEff at hE
 unfold aop
 cases hop : o.op <;> rw [hop] at hE <;> simp only at hE ⊢ <;> try rfl
 case makeMap t r => cases r <;> rfl
 case call x =>
  cases hc : x.callee with
  | builtin b => rfl
  | value f => rw [hc] at hE; cases hE
  | invoke r m => rw [hc] at hE; cases hE
def Valid (P : Program) (all : List Oper) (H : AH) : Pend → Prop
 | .read i F v => ∃ o, all[i]? = some o ∧ isEff o = false ∧ A5e o = false ∧ (∀ c, aop P c F H o = some (v, H)) ∧ veq v v = true
 | .made i g x => H.objs.get g = some x ∧ B7a x x = true
theorem Valid.grow {all : List Oper} {H H' : AH} (hg : HGrow H H') : ∀ {p : Pend}, Valid P all H p → Valid P all H' p
 | .read i F v, ⟨o, h1, h2, h3, h4, h5⟩ => ⟨o, h1, h2, h3, fun c => (A2n hg h2 h3 (h4 c)).1, h5⟩
 | .made i g x, ⟨h1, h2⟩ => ⟨hg _ _ h1, h2⟩
theorem A0v {c : A4d} {all : List Oper} {H : AH} {b : Nat} : ∀ {ps : List Pend}, (∀ p ∈ ps, Valid P all H p) → ∃ ps', A5h P c all H b ps = some ps' ∧ ∀ p ∈ ps', p ∈ ps
 | [], _ => ⟨[], rfl, fun p h => h⟩
 | .read i F v :: ps, h => by
  obtain ⟨l, h1, h2⟩ := A0v (c := c) (b := b) (ps := ps) fun p hp => h p (List.mem_cons_of_mem _ hp)
  obtain ⟨o, k1, k2, k3, k4, k5⟩ := h _ List.mem_cons_self
  simp only [A5h, k1, k4, k5, cond_true, h1, Option.map_some]
  cases b.testBit i with
  | true => exact ⟨l, rfl, fun p hp => List.mem_cons_of_mem _ (h2 p hp)⟩
  | false =>
   refine ⟨_, rfl, fun p hp => ?_⟩
   rcases List.mem_cons.1 hp with rfl | hp
   ·exact List.mem_cons_self
   ·exact List.mem_cons_of_mem _ (h2 p hp)
 | .made i g x :: ps, h => by
  obtain ⟨l, h1, h2⟩ := A0v (c := c) (b := b) (ps := ps) fun p hp => h p (List.mem_cons_of_mem _ hp)
  obtain ⟨k1, k2⟩ := h _ List.mem_cons_self
  simp only [A5h, k1, k2, cond_true, h1, Option.map_some]
  cases b.testBit i with
  | true => exact ⟨l, rfl, fun p hp => List.mem_cons_of_mem _ (h2 p hp)⟩
  | false =>
   refine ⟨_, rfl, fun p hp => ?_⟩
   rcases List.mem_cons.1 hp with rfl | hp
   ·exact List.mem_cons_self
   ·exact List.mem_cons_of_mem _ (h2 p hp)
theorem A2k {O : A4d} {all : List Oper} {bs : List Nat} {K : Fr → AH → Prop} : ∀ (l : List Nat) (pb : Nat) (ps : List Pend) (F : Fr) (H : AH), Wf H → (∀ p ∈ ps, Valid P all H p ∧ pb.testBit p.at_ = true) → wpg P O all (flagsOf all bs l pb) K F H →
  (∀ i ∈ l, i < all.length) → wpd P O all bs l ps K F H
 | [], pb, ps, F, H, _, hps, h, _ => ⟨0, F, H, rfl, h⟩
 | i :: l, pb, ps, F, H, hwf, hps, h, hl => by
  have hi := hl i List.mem_cons_self
  have hl' : ∀ i ∈ l, i < all.length := fun j hj => hl j (List.mem_cons_of_mem _ hj)
  have ho : all[i]? = some all[i] := List.getElem?_eq_getElem hi
  generalize all[i] = o at ho
  simp only [flagsOf, ho] at h
  have go : ∀ (fl : Bool) (rest : List (Nat × Bool)), wpg P O all ((i, fl) :: rest) K F H → ∃ b, A1m all F o = some b ∧
      (b = true → ∃ v H1, OpTo P O F H o v H1 ∧ (isEff o = true → Wf H1 ∧ (fl = false → HGrow H H1)) ∧ (isEff o = false → fl = false → Still o (put F o.dst v) H H1) ∧ wpg P O all rest K (put F o.dst v) H1) ∧
      (b = false → wpg P O all rest K (put F o.dst undef) H) := by
    intro fl rest hh
    simp only [wpg, ho] at hh
    rw [A2v] at hh
    obtain ⟨b, h1, h2, h3⟩ := hh
    refine ⟨b, h1, fun hb => ?_, fun hb => ?_⟩
    · obtain ⟨v, H1, h4, h5⟩ := h2 hb
      rw [A9w] at h5
      exact ⟨v, H1, h4, h5⟩
    · have := h3 hb
      rw [A9w] at this
      exact this.2.2
  have skip : ∀ {F1 : Fr} {H1 : AH}, A1m all F o = some false → F1 = put F o.dst undef → H1 = H → wpd P O all bs l ps K F1 H1 → wpd P O all bs (i :: l) ps K F H := by
   rintro F1 H1 hw rfl rfl ⟨n, F2, H2, h1, h2⟩
   refine ⟨n, F2, H2, ?_, h2⟩
   simp only [A7e, ho, hw]
   exact h1
  have hmono : ∀ {pb' : Nat}, (∀ k, pb.testBit k = true → pb'.testBit k = true) → ∀ p ∈ ps, Valid P all H p ∧ pb'.testBit p.at_ = true := fun hp p h => ⟨(hps p h).1, hp _ (hps p h).2⟩
  have hp2 : ∀ k, pb.testBit k = true → (pb ||| 2 ^ i).testBit k = true := fun k hk => by simp [hk]
  cases hE : isEff o with
  | true =>
   rw [hE] at h
   simp only [cond_true] at h
   obtain ⟨b, hw, ht, hf⟩ := go _ _ h
   cases b with
   | false => exact skip hw rfl rfl (A2k l pb ps _ _ hwf hps (hf rfl) hl')
   | true =>
    obtain ⟨v, H1, ⟨n, hn⟩, hgr, _, hrest⟩ := ht rfl
    obtain ⟨hwf1, hgr⟩ := hgr hE
    cases hcov : Nat.beq (pb &&& (bs[i]?).getD 0) pb with
    | true =>
     have hall : ∀ p ∈ ps, ((bs[i]?).getD 0).testBit p.at_ = true := by
      intro p hp
      have h1 := (hps p hp).2
      rw [← Nat.eq_of_beq_eq_true hcov, Nat.testBit_and, Bool.and_eq_true] at h1
      exact h1.2
     obtain ⟨m, F2, H2, h1, h2⟩ := A2k l pb [] _ _ hwf1 (fun p hp => by cases hp) hrest hl'
     refine ⟨n + m, F2, H2, ?_, h2⟩
     simp only [A7e, ho, hw, A1i (A6c (Nat.le_add_right n m)) hn, hE, cond_true, A0t hall]
     exact A5d (A6c (Nat.le_add_left m n)) h1
    | false =>
     have hg := hgr hcov
     obtain ⟨ps', r1, r2⟩ := A0v (P := P) (c := call P O 0) (b := (bs[i]?).getD 0) (fun p hp => (hps p hp).1.grow hg)
     obtain ⟨m, F2, H2, h1, h2⟩ := A2k l pb ps' _ _ hwf1 (fun p hp => ⟨(hps p (r2 p hp)).1.grow hg, (hps p (r2 p hp)).2⟩) hrest hl'
     refine ⟨n + m, F2, H2, ?_, h2⟩
     simp only [A7e, ho, hw, A1i (A6c (Nat.le_add_right n m)) hn, hE, cond_true, A5n (A6c (Nat.zero_le (n + m))) r1]
     exact A5d (A6c (Nat.le_add_left m n)) h1
  | false =>
   rw [hE] at h
   simp only [cond_false] at h
   cases hM : A5e o with
   | true =>
    rw [hM] at h
    simp only [Bool.true_or, cond_true] at h
    obtain ⟨b, hw, ht, hf⟩ := go _ _ h
    cases b with
    | false => exact skip hw rfl rfl (A2k l _ ps _ _ hwf (hmono hp2) (hf rfl) hl')
    | true =>
     obtain ⟨v, H1, ⟨n, hn⟩, _, hst, hrest⟩ := ht rfl
     obtain ⟨x, hx⟩ := A9k hM hn
     have hxg : H1.objs.get H.next = some x := by rw [hx]; exact A2q H x
     have hgrow : HGrow H H1 := by rw [hx]; exact hwf.grow x
     have hwf1 : Wf H1 := by rw [hx]; exact hwf.push x
     obtain ⟨m, F2, H2, h1, h2⟩ := A2k l (pb ||| 2 ^ i) (.made i H.next x :: ps) _ _ hwf1 (fun p hp => by
      rcases List.mem_cons.1 hp with rfl | hp
      ·exact ⟨⟨hxg, (hst hE rfl).2 hM x hxg⟩, by simp [Pend.at_]⟩
      ·exact ⟨(hps p hp).1.grow hgrow, hp2 _ (hps p hp).2⟩) hrest hl'
     refine ⟨n + m, F2, H2, ?_, h2⟩
     simp only [A7e, ho, hw, A1i (A6c (Nat.le_add_right n m)) hn, hE, cond_false, hM, cond_true, hxg]
     exact A5d (A6c (Nat.le_add_left m n)) h1
   | false =>
    rw [hM] at h
    simp only [Bool.false_or] at h
    have hsame : ∀ {v : Value} {H1 : AH} {n : Nat}, aop P (call P O n) F H o = some (v, H1) → H1 = H := fun hn => (A2n (HGrow.refl H) hE hM hn).2
    cases hR : isRead o with
    | true =>
     rw [hR] at h
     simp only [cond_true] at h
     obtain ⟨b, hw, ht, hf⟩ := go _ _ h
     cases b with
     | false => exact skip hw rfl rfl (A2k l _ ps _ _ hwf (hmono hp2) (hf rfl) hl')
     | true =>
      obtain ⟨v, H1, ⟨n, hn⟩, _, hst, hrest⟩ := ht rfl
      have := hsame hn
      subst this
      cases hd : o.dst with
      | none =>
       obtain ⟨t, ht⟩ := (hst hE rfl).1 hR
       rw [hd] at ht; cases ht.1
      | some t =>
       obtain ⟨t', h5, h6⟩ := (hst hE rfl).1 hR
       rw [hd] at h5 h6
       injection h5 with h5
       subst h5
       have hveq : veq v v = true := h6 v (A10 _ _ _)
       obtain ⟨m, F2, H2, h1, h2⟩ := A2k l (pb ||| 2 ^ i) (.read i F v :: ps) _ _ hwf (fun p hp => by
        rcases List.mem_cons.1 hp with rfl | hp
        ·exact ⟨⟨o, ho, hE, hM, fun c => by rw [← hn]; exact B7n hE, hveq⟩, by simp [Pend.at_]⟩
        ·exact ⟨(hps p hp).1, hp2 _ (hps p hp).2⟩) hrest hl'
       refine ⟨n + m, F2, H2, ?_, h2⟩
       simp only [A7e, ho, hw, A1i (A6c (Nat.le_add_right n m)) hn, hE, cond_false, hM, hR, cond_true]
       exact A5d (A6c (Nat.le_add_left m n)) h1
    | false =>
     rw [hR] at h
     simp only [cond_false] at h
     obtain ⟨b, hw, ht, hf⟩ := go _ _ h
     cases b with
     | false => exact skip hw rfl rfl (A2k l _ ps _ _ hwf hps (hf rfl) hl')
     | true =>
      obtain ⟨v, H1, ⟨n, hn⟩, _, _, hrest⟩ := ht rfl
      have := hsame hn
      subst this
      obtain ⟨m, F2, H2, h1, h2⟩ := A2k l pb ps _ _ hwf hps hrest hl'
      refine ⟨n + m, F2, H2, ?_, h2⟩
      simp only [A7e, ho, hw, A1i (A6c (Nat.le_add_right n m)) hn, hE, cond_false, hM, hR]
      exact A5d (A6c (Nat.le_add_left m n)) h1
end
variable {P : Program} {O : A4d} {S : List Item} {Q : Fr → AH → Prop} {F : Fr} {H : AH}
theorem C8h {id : Nat} {ops : Array Oper} {fl : List (Nat × Bool)} (hf : order ops.toList = fl) (hb : ((A90 ops.toList (A6j ops.toList)).all fun i => Nat.blt i ops.toList.length) = true) (hw : Wf H) (h : wpg P O ops.toList fl (wp P O S Q) F H) : wp P O (.code (.region id ops true) :: S) Q F H := by
 rw [B44]
 subst hf
 refine A2k _ 0 [] F H hw (fun p hp => by cases hp) h fun i hi => ?_
 have := List.all_eq_true.1 hb i hi
 rw [A3i] at this
 simpa using this
theorem B8y {c : Operand} {a b : Code} (h : ev F c = some (.bool true)) : wp P O (.code (.cond c a b) :: S) Q F H ↔ wp P O (.code a :: S) Q F H := by
 rw [wp_cond, h]
 simp
theorem A8u {c : Operand} {a b : Code} (h : ev F c = some (.bool false)) : wp P O (.code (.cond c a b) :: S) Q F H ↔ wp P O (.code b :: S) Q F H := by
 rw [wp_cond, h]
 simp
theorem B5t {K : Fr → AH → Prop} {all ops : List Oper} {dst : Option Tmp} {ty : TypeId} {pos : String} {aft : Array Edge} {op : Op} {j : Nat} {want : Bool} (h : ((all[j]?).bind (·.dst)).bind F.get = some undef) :
  wpo P O all (⟨dst, op, ty, pos, aft, some (j, want)⟩ :: ops) K F H ↔ wpo P O all ops K (put F dst undef) H := by
 rw [B78, h]
 simp [undef]
end Go.Proofs.Sh
/- New memory that is written at once; nets in memory. -/
namespace Go.Proofs.Sh
open Go
theorem Tr.setF_setF {α : Type} (x y : α) : ∀ (f : Nat) (t : Tr α) (n : Nat), n < f → Tr.setF f (Tr.setF f t n x) n y = Tr.setF f t n y
 | 0, _, _, h => by omega
 | f + 1, t, n, h => by
  cases t with
  | nil =>
   simp only [Tr.setF]
   cases h0 : Nat.beq n 0 with
   | true => simp only [cond_true, Tr.setF, h0]
   | false =>
    have hn : n ≠ 0 := by rintro rfl; simp [] at h0
    cases h1 : Nat.beq (n % 2) 1 with
    | true => simp only [cond_true, cond_false, Tr.setF, h0, h1]; rw [Tr.setF_setF x y f .nil (n / 2) (by omega)]
    | false => simp only [cond_false, Tr.setF, h0, h1]; rw [Tr.setF_setF x y f .nil (n / 2 - 1) (by omega)]
  | node v l r =>
   simp only [Tr.setF]
   cases h0 : Nat.beq n 0 with
   | true => simp only [cond_true, Tr.setF, h0]
   | false =>
    have hn : n ≠ 0 := by rintro rfl; simp [] at h0
    cases h1 : Nat.beq (n % 2) 1 with
    | true => simp only [cond_true, cond_false, Tr.setF, h0, h1]; rw [Tr.setF_setF x y f l (n / 2) (by omega)]
    | false => simp only [cond_false, Tr.setF, h0, h1]; rw [Tr.setF_setF x y f r (n / 2 - 1) (by omega)]
theorem Tr.set_set {α : Type} (t : Tr α) (n : Nat) (x y : α) : (t.set n x).set n y = t.set n y := Tr.setF_setF x y _ t n (Nat.lt_succ_self n)
section
variable {H : AH}
theorem A09 : ∀ {zs vs : List Value}, zs.length = vs.length → setCells zs 0 vs = vs := by
 intro zs vs h
 refine List.ext_getElem? fun i => ?_
 rw [A4g vs zs 0 i (by omega)]
 by_cases hi : i < vs.length
 ·simp [hi]
 ·rw [if_neg (by omega), List.getElem?_eq_none (by omega), List.getElem?_eq_none (by omega)]
theorem A4o {s : Nat} {zs vs : List Value} (h : zs.length = vs.length) : (H.new s zs).2.write ⟨H.next, 0, some 0⟩ vs = some (H.new s vs).2 := by
 unfold AH.write
 have e : (H.new s zs).2.objs.get H.next = some (.rows [{ pos := 0, esz := s, vals := zs, ok := true }] true) := Tr.get_set_eq _ _ _
 simp only [e, List.getElem?_cons_zero, A3c, h, Nat.zero_add, Nat.le_refl, decide_true, Bool.and_self, cond_true]
 simp only [A6e, A8a, decide_true, cond_true, A09 h]
 unfold AH.put AH.new AH.push
 simp only [Tr.set_set]
theorem HGrow.new (hw : Wf H) (s : Nat) (vs : List Value) : HGrow H (H.new s vs).2 := hw.grow _
end
structure NetBox (H : AH) (g : Nat) (sg ar en : Value) (N : NetD) : Prop where
 c0 : H.cell ⟨g, 0, some 0⟩ = some sg
 c1 : H.cell ⟨g, 1, some 0⟩ = some (.int .i64 N.states)
 c2 : H.cell ⟨g, 2, some 0⟩ = some ar
 c3 : H.cell ⟨g, 3, some 0⟩ = some en
 ca : H.cells ⟨g, 0, some 0⟩ 4 = some [sg, .int .i64 N.states, ar, en]
 hsg : Sl H sg 1 (N.sigma.map A6b)
 har : Sl H ar 5 (N.arcs.map ArcD.cells)
 hen : Sl H en 2 (N.ends.map EndD.cells)
section
variable {H H' : AH} {g : Nat} {sg ar en : Value} {N : NetD}
theorem NetBox.grow (h : NetBox H g sg ar en N) (hg : HGrow H H') : NetBox H' g sg ar en N :=
 ⟨A7b hg h.c0, A7b hg h.c1, A7b hg h.c2, A7b hg h.c3, A5r hg h.ca, h.hsg.grow hg, h.har.grow hg, h.hen.grow hg⟩
theorem NetBox.kept (h : NetBox H g sg ar en N) (hw : Wf H) (hk : Kept H H') : NetBox H' g sg ar en N := h.grow (hk.grow hw)
theorem NetBox.new (h : NetBox H g sg ar en N) (hw : Wf H) (s : Nat) (vs : List Value) : NetBox (H.new s vs).2 g sg ar en N := h.grow (HGrow.new hw s vs)
def NetBox.netAt (h : NetBox H g sg ar en N) : A11 H (.agg #[sg, .int .i64 N.states, ar, en]) N := ⟨sg, ar, en, rfl, h.hsg, h.har, h.hen⟩
theorem NetBox.of (hw : Wf H) (hsg : Sl H sg 1 (N.sigma.map A6b)) (har : Sl H ar 5 (N.arcs.map ArcD.cells)) (hen : Sl H en 2 (N.ends.map EndD.cells)) :
  NetBox (H.new 4 [sg, .int .i64 N.states, ar, en]).2 H.next sg ar en N := by
 have hO := Obj.new (H := H) 4 [sg, .int .i64 N.states, ar, en]
 have hg := HGrow.new hw 4 [sg, .int .i64 N.states, ar, en]
 exact ⟨hO.cell, hO.cell, hO.cell, hO.cell, hO.cells (by simp), hsg.grow hg, har.grow hg, hen.grow hg⟩
end
structure A7l (N : NetD) : Prop where
 sg : N.sigma.length ≤ 1048576
 ar : N.arcs.length ≤ 1048576
 en : N.ends.length ≤ 1048576
 sx : ∀ x ∈ N.sigma, x.size ≤ 1048576
theorem Sl.agg {v : Value} {s : Nat} {l : List (List Value)} {H : AH} (h : Sl H v s l) : ∀ cs, v ≠ .agg cs := by
 obtain ⟨a, cap, rfl, _⟩ := h
 intro cs hc; cases hc
theorem Kept.news {H H' : AH} (h : Kept H H') (s : Nat) (vs : List Value) : Kept H (H'.new s vs).2 := h.trans (Kept.new h.wf s vs)
end Go.Proofs.Sh
/- append and clones; slices as a whole; two values that are compared again. -/
namespace Go.Proofs.Sh
open Go
section
variable {P : Program} {H : AH} {v : Value} {s : Nat} {l : List (List Value)}
theorem B42 {s : Nat} {vals : List Value} : ∀ {l : List (List Value)} {o : Nat}, l ≠ [] → (∀ (i : Nat) x, l[i]? = some x → A5m vals (o + i * s) s = some x) → A5m vals o (l.length * s) = some (flat l)
 | [], _, h, _ => absurd rfl h
 | x :: l, o, _, hx => by
  have h0 := hx 0 x rfl
  rw [Nat.zero_mul, Nat.add_zero] at h0
  obtain ⟨a1, a2, a3⟩ := A1k h0
  by_cases hl : l = []
  ·subst hl
   simp only [List.length_cons, List.length_nil, Nat.zero_add, Nat.one_mul]
   rw [h0]
   simp [flat]
  ·have ih := B42 (s := s) (vals := vals) (l := l) (o := o + s) hl fun i y hy => by
     have := hx (i + 1) y (by simpa using hy)
     rw [Nat.succ_mul] at this
     rw [← this]; congr 1; omega
   obtain ⟨b1, b2, b3⟩ := A1k ih
   unfold A5m
   have hle : o + (x :: l).length * s ≤ vals.length := by
     rw [List.length_cons, Nat.succ_mul]; omega
   rw [A3c, decide_eq_true hle]
   simp only [cond_true, Option.some.injEq]
   have : (x :: l).length * s = s + l.length * s := by rw [List.length_cons, Nat.succ_mul, Nat.add_comm]
   rw [this, List.take_add, ← a2, List.drop_drop, ← b2]
   simp [flat]
theorem Sl.cellsAll (h : Sl H v s l) (hl : l ≠ []) : ∃ g o k cap, v = .slice (some ⟨g, o, some k⟩) l.length cap ∧ H.cells ⟨g, o, some k⟩ (l.length * s) = some (flat l) := by
 obtain ⟨a, cap, rfl, h2, h3, h4⟩ := h
 obtain ⟨g, o, k, rfl, h6⟩ := h4 hl
 refine ⟨g, o, k, cap, rfl, ?_⟩
 have hrow : ∀ o', H.row? ⟨g, o', some k⟩ = H.row? ⟨g, o, some k⟩ := fun _ => rfl
 unfold AH.cells
 cases hr : H.row? ⟨g, o, some k⟩ with
 | none =>
  cases l with
  | nil => exact absurd rfl hl
  | cons x l =>
   have := h6 0 x rfl
   unfold AH.cells at this
   rw [hrow, hr] at this; cases this
 | some r =>
  simp only
  refine B42 hl fun i x hx => ?_
  have := h6 i x hx
  unfold AH.cells at this
  rw [hrow, hr] at this
  exact this
theorem Sl.newCells (h : Sl H v s l) : newCells s H v = some (l.length, flat l) := by
 by_cases hl : l = []
 ·subst hl
  obtain ⟨a, cap, rfl, _⟩ := h
  cases a <;> rfl
 ·obtain ⟨g, o, k, cap, rfl, hc⟩ := h.cellsAll hl
  unfold Sh.newCells
  have : Nat.beq l.length 0 = false := by rw [A8a]; simpa using hl
  simp only [this, cond_false, hc, Option.map_some]
theorem Sl.srcKind {t e : Nat} (hu : P.underlying t = some (.slice e)) (h : Sl H v s l) : srcKind P t v = true := by
 obtain ⟨a, cap, rfl, _⟩ := h
 unfold Sh.srcKind
 rw [hu]
theorem B4g : ∀ {l : List Value}, (∀ x ∈ l, veq x x = true) → veqs l l = true
 | [], _ => by simp [veqs]
 | x :: l, h => by
  simp only [veqs, h x List.mem_cons_self, Bool.true_and]
  exact B4g fun y hy => h y (List.mem_cons_of_mem _ hy)
theorem B6g (a : Addr) : B3l a a = true := by
 obtain ⟨b, o, s⟩ := a
 cases s <;> simp [B3l, C2t]
theorem A1y {k : IntKind} {n : Int} : veq (.int k n) (.int k n) = true := by simp [veq, A1f, A1o]
theorem B74 {x : ByteArray} : veq (.string x) (.string x) = true := by simp only [veq, A2s, decide_true]
theorem A3s {a : Option Addr} {m c : Nat} : veq (.slice a m c) (.slice a m c) = true := by cases a <;> simp [veq, B6g]
theorem veqs_nil : veqs [] [] = true := by simp [veqs]
theorem C0w {a : Value} {l : List Value} : veqs (a :: l) (a :: l) = (veq a a && veqs l l) := by simp [veqs]
theorem Sl.veq (h : Sl H v s l) : veq v v = true := by
 obtain ⟨a, cap, rfl, _⟩ := h
 exact A3s
theorem Buf.veq {b : Option Nat} (h : Buf H s v l b) : Sh.veq v v = true := by cases h <;> exact A3s
theorem C2q (F : Fr) : ev F (.const (.slice none 0 0)) = some (.slice none 0 0) := rfl
theorem C8u (F : Fr) : ev F (.const (.pointer none)) = some (.pointer none) := rfl
theorem C5y (F : Fr) : ev F (.const (.map none)) = some (.map none) := rfl
theorem A05 {t t' e : Nat} {z x : Value} {base : Option Addr} {len cap n : Nat} {new : List Value} (hu : P.underlying t = some (.slice e)) (hi : ((P.info? e).map fun i => Nat.beq i.size s && Nat.ble i.bytes 65536) = some true)
    (hz : zeroAt P e = some z) (hl : (A6a z).length = s) (h1 : 1 ≤ s) (hx : Sh.srcKind P t' x = true) (hn : Sh.newCells s H x = some (n, new)) (hb : len + n ≤ 1073741824) :
    A4a P .append [t, t'] [.slice base len cap, x] H = A1e s base len cap n new H := by
  obtain ⟨i, hi1, hi2⟩ := Option.map_eq_some_iff.1 hi
  simp only [Bool.and_eq_true, A8a, A3c, decide_eq_true_eq] at hi2
  obtain ⟨hsz, hby⟩ := hi2
  subst hsz
  unfold A4a
  simp only [hu, hi1, hz, Option.bind_some, hx, A3c, h1, A8a, hl, decide_true, Bool.and_self, cond_true, hn]
  have h2 : (len + n) * i.bytes ≤ 70368744177664 := by
    calc (len + n) * i.bytes ≤ 1073741824 * 65536 := Nat.mul_le_mul hb hby
      _ ≤ 70368744177664 := by decide
  have h3 : len + n ≤ 70368744177664 := by omega
  simp only [h2, h3, decide_true, Bool.and_self, cond_true]
theorem A8g {t e : Nat} {c : Bool} {a : Option Addr} {n m : Nat} (hu : P.underlying t = some (.slice e)) : abin P t c .eql (.slice a n m) (.slice none 0 0) = some (.bool a.isNone) := by
 unfold abin aeq B2q
 simp only [cond_true]
 unfold A3h eqT
 rw [hu]
 cases a <;> rfl
theorem A6d {t e : Nat} {c : Bool} {a : Option Addr} {n m : Nat} (hu : P.underlying t = some (.slice e)) : abin P t c .neq (.slice a n m) (.slice none 0 0) = some (.bool a.isSome) := by
 unfold abin aeq B2q
 simp only [cond_true]
 unfold A3h eqT
 rw [hu]
 cases a <;> rfl
theorem A7g {t e : Nat} {z : Value} (hu : P.underlying t = some (.slice e)) (hs : A8b P e = some s) (hz : zeroAt P e = some z) (hl : (A6a z).length = s) (h1 : 1 ≤ s) :
  A5a P t 0 [] H = some (.slice (some ⟨H.next, 0, some 0⟩) 0 0, (H.new s []).2) := by
 unfold A5a
 simp only [hu, hs, hz, Option.bind_some, A3c, h1, A8a, hl, decide_true, Bool.and_self, Nat.zero_mul, Nat.zero_le, cond_true, repl, A62, Option.map_some]
 rfl
theorem A7q {t e : Nat} {z x : Value} (hu : P.underlying t = some (.slice e)) (hs : A8b P e = some s) (hz : zeroAt P e = some z) (hl : (A6a z).length = s) (h1 : 1 ≤ s) (h2 : s ≤ 16777216) (hx : (A6a x).length = s) (hc : (A6a x).all isCell = true) :
  A5a P t 1 [(0, x)] H = some (.slice (some ⟨H.next, 0, some 0⟩) 1 1, (H.new s (A6a x)).2) := by
 unfold A5a
 have e1 : repl 1 (A6a z) = A6a z := by simp [repl]
 simp only [hu, hs, hz, Option.bind_some, A3c, h1, A8a, hl, decide_true, Bool.and_self, Nat.one_mul, h2, cond_true, e1, A62, Nat.zero_mul, Nat.zero_add, hx, hc, Nat.le_refl, Option.map_some]
 rw [A09 (by rw [hl, hx])]
 rfl
end
section
variable {P : Program} {H : AH} {K : Type} {f t : Nat} {cs : List Value} {d : DataW K}
theorem RD.str (hu : P.underlying t = some .string) (h : RD P H f t cs d) : ∃ s : ByteArray, cs = [.string s] ∧ d = .lit (.string s.data.toList) := by
 cases f with
 | zero => exact h.elim
 | succ f =>
  unfold RD at h
  rw [hu] at h
  obtain ⟨s, h1, h2, _⟩ := h
  exact ⟨s, h1, h2⟩
theorem RD.int (hu : P.underlying t = some (.int .i64)) (h : RD P H f t cs d) : ∃ n, cs = [.int .i64 n] ∧ -9223372036854775808 ≤ n ∧ n < 9223372036854775808 := by
 cases f with
 | zero => exact h.elim
 | succ f =>
  unfold RD at h
  rw [hu] at h
  obtain ⟨n, h1, h2, h3⟩ := h
  refine ⟨n, h1, ?_⟩
  simp only [Lit.wf, Bool.and_eq_true, decide_eq_true_eq, show IntKind.min .i64 = -9223372036854775808 from rfl, show IntKind.max .i64 = 9223372036854775807 from rfl] at h3
  omega
theorem RD.struct {fs : Array Field} (hu : P.underlying t = some (.struct fs)) (h : RD P H f t cs d) : ∃ f', ∃ ds, d = .agg ds ∧ cs.length = P.cellsOf t ∧ ds.length = fs.size ∧ ∀ (i : Nat) fd x, fs[i]? = some fd → ds[i]? = some x → RD P H f' fd.type ((cs.drop fd.offset).take (P.cellsOf fd.type)) x := by
 cases f with
 | zero => exact h.elim
 | succ f =>
  unfold RD at h
  rw [hu] at h
  exact ⟨f, h⟩
end
theorem RDs.cons_inv {K : Type} {P : Program} {H : AH} {t : TypeId} {ts : List TypeId} {vs : List Value} {ds : List (DataW K)} (h : RDs P H (t :: ts) vs ds) : ∃ v vs' d ds', vs = v :: vs' ∧ ds = d :: ds' ∧ (∃ f, RD P H f t (A6a v) d) ∧ RDs P H ts vs' ds' := by
 cases vs with
 | nil => exact h.elim
 | cons v vs =>
  cases ds with
  | nil => exact h.elim
  | cons d ds => exact ⟨v, vs, d, ds, rfl, rfl, h.1, h.2⟩
theorem RDs.nil_inv {K : Type} {P : Program} {H : AH} {vs : List Value} {ds : List (DataW K)} (h : RDs P H [] vs ds) : vs = [] ∧ ds = [] := by
 cases vs with
 | nil =>
  cases ds with
  | nil => exact ⟨rfl, rfl⟩
  | cons d ds => exact h.elim
 | cons v vs => exact h.elim
end Go.Proofs.Sh
/- The rules of a walk, bound together. -/
namespace Go.Proofs.Sh
open Go
theorem stepDn : type_of% (And.intro @wp_seq (And.intro @C8x (And.intro @wp_block (And.intro @wp_skip (And.intro @A66 (And.intro @wp_region (And.intro @wp_ret (And.intro @wp_nil (And.intro @B8y (And.intro @A8u (And.intro @wp_loop (And.intro @wp_exit (And.intro @A9w (And.intro @o_move (And.intro @B1h (And.intro @o_load (And.intro @B2w (And.intro @C9w (And.intro @o_unOp (And.intro @B4i (And.intro @C9m (And.intro @C5c (And.intro @o_box (And.intro @C5u (And.intro @C5o (And.intro @C4z (And.intro @C5x (And.intro @A78 (And.intro @C7y (And.intro @C4h (And.intro @B9h (And.intro @B2g (And.intro @B39 (And.intro @B90 (And.intro @B9s (And.intro @B0m (And.intro @B4l (And.intro @B4x (And.intro @o_pick (And.intro @B8s (And.intro @B3x (And.intro @B5t (@o_call))))))))))))))))))))))))))))))))))))))))))) := And.intro @wp_seq (And.intro @C8x (And.intro @wp_block (And.intro @wp_skip (And.intro @A66 (And.intro @wp_region (And.intro @wp_ret (And.intro @wp_nil (And.intro @B8y (And.intro @A8u (And.intro @wp_loop (And.intro @wp_exit (And.intro @A9w (And.intro @o_move (And.intro @B1h (And.intro @o_load (And.intro @B2w (And.intro @C9w (And.intro @o_unOp (And.intro @B4i (And.intro @C9m (And.intro @C5c (And.intro @o_box (And.intro @C5u (And.intro @C5o (And.intro @C4z (And.intro @C5x (And.intro @A78 (And.intro @C7y (And.intro @C4h (And.intro @B9h (And.intro @B2g (And.intro @B39 (And.intro @B90 (And.intro @B9s (And.intro @B0m (And.intro @B4l (And.intro @B4x (And.intro @o_pick (And.intro @B8s (And.intro @B3x (And.intro @B5t (@o_call))))))))))))))))))))))))))))))))))))))))))
theorem stepUp : type_of% (And.intro @Bool.not_false (And.intro @Bool.not_true (And.intro @Bool.not_not (And.intro @Bool.and_self (And.intro @Bool.true_and (And.intro @Bool.false_and (And.intro @Bool.and_false (And.intro @Bool.or_false (And.intro @Bool.false_or (And.intro @Bool.true_or (And.intro @Bool.or_true (And.intro @Bool.and_true (And.intro @false_implies (And.intro @and_true (And.intro @true_and (And.intro @not_true_eq_false (And.intro @not_false_eq_true (And.intro @Bool.false_eq_true (And.intro @and_assoc (And.intro @Nat.zero_add (And.intro @Nat.add_zero (And.intro @C1f (And.intro @ev_int (And.intro @C1r (And.intro @ev_str (And.intro @C8o (And.intro @C2q (And.intro @C8u (And.intro @C5y (And.intro @A10 (And.intro @A0z (And.intro @C2d (And.intro @B2m (And.intro @Value.bool.injEq (And.intro @Value.func.injEq (And.intro @Fn.func.injEq (And.intro @b_add (And.intro @b_sub (And.intro @b_mul (And.intro @b_lss (And.intro @b_leq (And.intro @b_gtr (And.intro @b_geq (And.intro @b_eql (And.intro @b_neq (And.intro @s_eql (And.intro @s_neq (And.intro @s_lss (And.intro @s_leq (And.intro @s_gtr (And.intro @s_geq (@u_not)))))))))))))))))))))))))))))))))))))))))))))))))))) := And.intro @Bool.not_false (And.intro @Bool.not_true (And.intro @Bool.not_not (And.intro @Bool.and_self (And.intro @Bool.true_and (And.intro @Bool.false_and (And.intro @Bool.and_false (And.intro @Bool.or_false (And.intro @Bool.false_or (And.intro @Bool.true_or (And.intro @Bool.or_true (And.intro @Bool.and_true (And.intro @false_implies (And.intro @and_true (And.intro @true_and (And.intro @not_true_eq_false (And.intro @not_false_eq_true (And.intro @Bool.false_eq_true (And.intro @and_assoc (And.intro @Nat.zero_add (And.intro @Nat.add_zero (And.intro @C1f (And.intro @ev_int (And.intro @C1r (And.intro @ev_str (And.intro @C8o (And.intro @C2q (And.intro @C8u (And.intro @C5y (And.intro @A10 (And.intro @A0z (And.intro @C2d (And.intro @B2m (And.intro @Value.bool.injEq (And.intro @Value.func.injEq (And.intro @Fn.func.injEq (And.intro @b_add (And.intro @b_sub (And.intro @b_mul (And.intro @b_lss (And.intro @b_leq (And.intro @b_gtr (And.intro @b_geq (And.intro @b_eql (And.intro @b_neq (And.intro @s_eql (And.intro @s_neq (And.intro @s_lss (And.intro @s_leq (And.intro @s_gtr (And.intro @s_geq (@u_not)))))))))))))))))))))))))))))))))))))))))))))))))))
theorem st : type_of% (And.intro @stepUp (And.intro @forall_const.{0} (And.intro @forall_const.{1} (And.intro @implies_true.{0} (And.intro @implies_true.{1} (And.intro @eq_self.{1} (And.intro @ne_eq.{1} (And.intro @if_true.{1} (And.intro @if_false.{1} (And.intro @beq_self_eq_true.{0} (And.intro @cond_true.{1} (And.intro @cond_false.{1} (And.intro @List.all_cons.{0} (And.intro @List.all_nil.{0} (And.intro @List.getElem?_cons_zero.{0} (And.intro @List.getElem?_cons_succ.{0} (And.intro @List.nil_append.{0} (And.intro @List.append_nil.{0} (And.intro @Option.bind_some.{0, 0} (And.intro @Option.map_some.{0, 0} (And.intro @Option.some.injEq.{0} (And.intro @exists_eq_left'.{1} (And.intro @exists_eq'.{1} (And.intro @exists_eq.{1} (And.intro @Prod.mk.injEq.{0, 0} (And.intro @exists_and_left.{1} (And.intro @calm.eq_1 (And.intro @evs.eq_1 (And.intro @evs.eq_2 (And.intro @evps.eq_1 (And.intro @evps.eq_2 (And.intro @evo.eq_1 (And.intro @evo.eq_2 (And.intro @resultsA.eq_1 (And.intro @resultsA.eq_2 (And.intro @resultsA.eq_3 (@Sh.unit.eq_1))))))))))))))))))))))))))))))))))))) := And.intro @stepUp (And.intro @forall_const.{0} (And.intro @forall_const.{1} (And.intro @implies_true.{0} (And.intro @implies_true.{1} (And.intro @eq_self.{1} (And.intro @ne_eq.{1} (And.intro @if_true.{1} (And.intro @if_false.{1} (And.intro @beq_self_eq_true.{0} (And.intro @cond_true.{1} (And.intro @cond_false.{1} (And.intro @List.all_cons.{0} (And.intro @List.all_nil.{0} (And.intro @List.getElem?_cons_zero.{0} (And.intro @List.getElem?_cons_succ.{0} (And.intro @List.nil_append.{0} (And.intro @List.append_nil.{0} (And.intro @Option.bind_some.{0, 0} (And.intro @Option.map_some.{0, 0} (And.intro @Option.some.injEq.{0} (And.intro @exists_eq_left'.{1} (And.intro @exists_eq'.{1} (And.intro @exists_eq.{1} (And.intro @Prod.mk.injEq.{0, 0} (And.intro @exists_and_left.{1} (And.intro @calm.eq_1 (And.intro @evs.eq_1 (And.intro @evs.eq_2 (And.intro @evps.eq_1 (And.intro @evps.eq_2 (And.intro @evo.eq_1 (And.intro @evo.eq_2 (And.intro @resultsA.eq_1 (And.intro @resultsA.eq_2 (And.intro @resultsA.eq_3 (@Sh.unit.eq_1))))))))))))))))))))))))))))))))))))
theorem sy : type_of% (And.intro @st (And.intro @exitTo.eq_1 (And.intro @exitTo.eq_2 (And.intro @exitTo.eq_3 (And.intro @isEff.eq_1 (And.intro @isConst.eq_1 (And.intro @isConst.eq_2 (And.intro @Sh.one.eq_1 (@Sh.one.eq_2))))))))) := And.intro @st (And.intro @exitTo.eq_1 (And.intro @exitTo.eq_2 (And.intro @exitTo.eq_3 (And.intro @isEff.eq_1 (And.intro @isConst.eq_1 (And.intro @isConst.eq_2 (And.intro @Sh.one.eq_1 (@Sh.one.eq_2))))))))
theorem dn : type_of% @stepDn := @stepDn
end Go.Proofs.Sh
/- Lists whose elements change places; rows of single cells. -/
namespace Go.Proofs.Sh
open Go
section
variable {α : Type}
structure TO (lt : α → α → Bool) : Prop where
 irrefl : ∀ x, lt x x = false
 trans : ∀ {x y z}, lt x y = true → lt y z = true → lt x z = true
 tri : ∀ x y, lt x y = true ∨ x = y ∨ lt y x = true
variable {lt : α → α → Bool}
theorem TO.le_trans (h : TO lt) {x y z : α} (h1 : lt y x = false) (h2 : lt z y = false) : lt z x = false := by
 cases hc : lt z x with
 | false => rfl
 | true =>
  rcases h.tri x y with h3 | rfl | h3
  ·rw [h.trans hc h3] at h2; cases h2
  ·rw [hc] at h2; cases h2
  ·rw [h3] at h1; cases h1
theorem TO.asymm (h : TO lt) {x y : α} (h1 : lt x y = true) : lt y x = false := by
 cases hc : lt y x with
 | false => rfl
 | true => have := h.trans h1 hc; rw [h.irrefl] at this; cases this
theorem TO.lt_le (h : TO lt) {x y z : α} (h1 : lt x y = true) (h2 : lt z y = false) : lt x z = true := by
 rcases h.tri x z with h3 | rfl | h3
 ·exact h3
 ·rw [h1] at h2; cases h2
 ·rw [h.trans h3 h1] at h2; cases h2
def A1c (x y : Int) : Bool := decide (x < y)
theorem intTO : TO A1c := ⟨fun x => by simp [A1c], fun {x y z} h1 h2 => by simp [A1c] at *; omega, fun x y => by simp [A1c]; omega⟩
theorem strTO : TO A0b := ⟨A4j, A0n, B7c⟩
def swp (l : List α) (i j : Nat) : List α := match l[i]?, l[j]? with
 | some x, some y => (l.set i y).set j x
 | _, _ => l
inductive Mix (a b : Nat) : List α → List α → Prop
 | refl (l : List α) : Mix a b l l
 | swap {l m : List α} {i j : Nat} (h : Mix a b l m) (hi : a ≤ i) (hi' : i < b) (hj : a ≤ j) (hj' : j < b) : Mix a b l (swp m i j)
theorem A4p (l : List α) (i j : Nat) : (swp l i j).length = l.length := by
 unfold swp
 split <;> simp
theorem swp_get {l : List α} {i j : Nat} (hi : i < l.length) (hj : j < l.length) (k : Nat) : (swp l i j)[k]? = if k = j then l[i]? else if k = i then l[j]? else l[k]? := by
 unfold swp
 rw [List.getElem?_eq_getElem hi, List.getElem?_eq_getElem hj]
 simp only [List.getElem?_set]
 by_cases h1 : k = j
 ·subst h1; simp [hj]
 ·rw [if_neg (by omega), if_neg h1]
  by_cases h2 : k = i
  ·subst h2; simp [hi]
  ·rw [if_neg (by omega), if_neg h2]
theorem swp_out {l : List α} {i j k : Nat} (hi : k ≠ i) (hj : k ≠ j) : (swp l i j)[k]? = l[k]? := by
 unfold swp
 split
 ·simp only [List.getElem?_set]
  rw [if_neg (by omega), if_neg (by omega)]
 ·rfl
theorem A7y (p s : List α) (x y : α) : (p ++ x :: s).set p.length y = p ++ y :: s := by
 rw [List.set_append_right _ _ (Nat.le_refl _)]; simp
theorem B0g {l : List α} {i j : Nat} (hij : i < j) (hj : j < l.length) : (swp l i j).Perm l := by
 have hi : i < l.length := by omega
 have e1 : l = l.take i ++ l[i] :: l.drop (i + 1) := by rw [List.getElem_cons_drop, List.take_append_drop]
 have hj2 : j - i - 1 < (l.drop (i + 1)).length := by simp; omega
 have e2 : l.drop (i + 1) = (l.drop (i + 1)).take (j - i - 1) ++ (l.drop (i + 1))[j - i - 1] :: (l.drop (i + 1)).drop (j - i - 1 + 1) := by rw [List.getElem_cons_drop, List.take_append_drop]
 have e3 : (l.drop (i + 1))[j - i - 1] = l[j] := by rw [List.getElem_drop]; congr 1; omega
 rw [e3] at e2
 have hp : (l.take i).length = i := by simp; omega
 have hq : ((l.drop (i + 1)).take (j - i - 1)).length = j - i - 1 := by rw [List.length_take]; omega
 have hx : l[i]? = some l[i] := List.getElem?_eq_getElem hi
 have hy : l[j]? = some l[j] := List.getElem?_eq_getElem hj
 generalize l[i] = x at *
 generalize l[j] = y at *
 generalize l.take i = p at *
 generalize (l.drop (i + 1)).take (j - i - 1) = q at *
 generalize (l.drop (i + 1)).drop (j - i - 1 + 1) = s at *
 rw [e2] at e1
 unfold swp
 rw [hx, hy]
 simp only
 have h1 : l.set i y = p ++ y :: (q ++ y :: s) := by
  rw [e1]
  have := A7y p (q ++ y :: s) x y
  rw [hp] at this; exact this
 have h2 : (l.set i y).set j x = p ++ y :: (q ++ x :: s) := by
  rw [h1]
  have hlen : (p ++ y :: q).length = j := by simp [hp, hq]; omega
  have := A7y (p ++ y :: q) s y x
  rw [hlen] at this
  simpa using this
 rw [h2, e1]
 refine List.Perm.append_left p ?_
 have a1 : (y :: (q ++ x :: s)).Perm (y :: x :: (q ++ s)) := List.Perm.cons y List.perm_middle
 have a2 : (x :: (q ++ y :: s)).Perm (x :: y :: (q ++ s)) := List.Perm.cons x List.perm_middle
 exact a1.trans ((List.Perm.swap x y _).trans a2.symm)
theorem swp_comm (l : List α) (i j : Nat) : swp l i j = swp l j i := by
 by_cases hij : i = j
 ·rw [hij]
 ·unfold swp
  cases hi : l[i]? with
  | none => cases hj : l[j]? <;> rfl
  | some x =>
   cases hj : l[j]? with
   | none => rfl
   | some y => exact List.set_comm _ _ hij
theorem swp_self (l : List α) (i : Nat) : swp l i i = l := by
 unfold swp
 cases hi : l[i]? with
 | none => rfl
 | some x =>
  have h1 : i < l.length := (List.getElem?_eq_some_iff.1 hi).1
  have h2 : x = l[i] := ((List.getElem?_eq_some_iff.1 hi).2).symm
  simp [h2]
theorem swp_perm (l : List α) (i j : Nat) : (swp l i j).Perm l := by
 by_cases hi : i < l.length
 ·by_cases hj : j < l.length
  ·rcases Nat.lt_trichotomy i j with h | h | h
   ·exact B0g h hj
   ·rw [h, swp_self];
   ·rw [swp_comm]; exact B0g h hi
  ·have : swp l i j = l := by unfold swp; rw [List.getElem?_eq_none (by omega : l.length ≤ j)]; split <;> simp_all
   rw [this]
 ·have : swp l i j = l := by unfold swp; rw [List.getElem?_eq_none (by omega : l.length ≤ i)]
  rw [this]
namespace Mix
variable {a b : Nat} {l m n : List α}
theorem length (h : Mix a b l m) : m.length = l.length := by
 induction h with
 | refl => rfl
 | swap _ _ _ _ _ ih => rw [A4p, ih]
theorem out (h : Mix a b l m) {k : Nat} (hk : k < a ∨ b ≤ k) : m[k]? = l[k]? := by
 induction h with
 | refl => rfl
 | swap _ h1 h2 h3 h4 ih => rw [swp_out (by omega) (by omega), ih]
theorem perm (h : Mix a b l m) : m.Perm l := by
 induction h with
 | refl => exact List.Perm.refl _
 | swap _ _ _ _ _ ih => exact (swp_perm _ _ _).trans ih
theorem trans (h : Mix a b l m) (k : Mix a b m n) : Mix a b l n := by
 induction k with
 | refl => exact h
 | swap _ h1 h2 h3 h4 ih => exact .swap ih h1 h2 h3 h4
theorem wide {a' b' : Nat} (h : Mix a b l m) (ha : a' ≤ a) (hb : b ≤ b') : Mix a' b' l m := by
 induction h with
 | refl => exact .refl _
 | swap _ h1 h2 h3 h4 ih => exact .swap ih (by omega) (by omega) (by omega) (by omega)
theorem all {p : α → Prop} (h : Mix a b l m) (hb : b ≤ l.length) (hp : ∀ (i : Nat) x, a ≤ i → i < b → l[i]? = some x → p x) : ∀ (i : Nat) x, a ≤ i → i < b → m[i]? = some x → p x := by
 induction h with
 | refl => exact hp
 | swap h0 h1 h2 h3 h4 ih =>
  have hl := h0.length
  intro i x hi1 hi2 hx
  rw [swp_get (by omega) (by omega)] at hx
  split at hx
  ·exact ih _ _ h1 h2 hx
  ·split at hx
   ·exact ih _ _ h3 h4 hx
   ·exact ih _ _ hi1 hi2 hx
end Mix
def Srt (lt : α → α → Bool) (a b : Nat) (l : List α) : Prop := ∀ (i j : Nat) x y, a ≤ i → i ≤ j → j < b → l[i]? = some x → l[j]? = some y → lt y x = false
theorem B2a (h : TO lt) {a b : Nat} {l : List α} (hs : ∀ (i : Nat) x y, a ≤ i → i + 1 < b → l[i]? = some x → l[i + 1]? = some y → lt y x = false) : Srt lt a b l := by
 intro i j x y hi hij hj hx hy
 obtain ⟨d, rfl⟩ : ∃ d, j = i + d := ⟨j - i, by omega⟩
 induction d generalizing y with
 | zero => rw [Nat.add_zero] at hy; rw [hx] at hy; rw [← Option.some.inj hy]; exact h.irrefl x
 | succ d ih =>
  have hl := (List.getElem?_eq_some_iff.1 hy).1
  have hz : l[i + d]? = some (l[i + d]'(by omega)) := List.getElem?_eq_getElem (by omega)
  exact h.le_trans (ih _ (by omega) (by omega) hz) (hs (i + d) _ _ (by omega) (by omega) hz hy)
end
section
variable {H : AH} {g k : Nat} {xs : List Value}
def Cells (H : AH) (g k n : Nat) (xs : List Value) : Prop := ∃ vals, Arr H g k 1 vals ∧ vals.length = n ∧ xs.length ≤ n ∧ vals.take xs.length = xs
variable {n : Nat}
theorem Cells.keep {H' : AH} (h : Cells H g k n xs) (hg : H'.objs.get g = H.objs.get g) : Cells H' g k n xs := by
 obtain ⟨vals, h1, h2⟩ := h
 exact ⟨vals, h1.keep hg, h2⟩
theorem Cells.lt (h : Cells H g k n xs) (hw : Wf H) : g < H.next := by
 obtain ⟨vals, h1, _⟩ := h
 exact h1.lt hw
theorem Cells.chg {H' : AH} {X : Nat → Prop} (h : Cells H g k n xs) (hw : Wf H) (hc : Chg X H H') (hx : ¬X g) : Cells H' g k n xs := h.keep (hc.old g (h.lt hw) hx)
theorem Cells.kept {H' : AH} (h : Cells H g k n xs) (hw : Wf H) (hc : Kept H H') : Cells H' g k n xs := h.keep (hc.old g (h.lt hw))
theorem Cells.cell (h : Cells H g k n xs) {i : Nat} {x : Value} (hx : xs[i]? = some x) : H.cell ⟨g, i, some k⟩ = some x := by
 obtain ⟨vals, h1, h0, h2, h3⟩ := h
 rw [h1.cell, ← hx, ← h3, List.getElem?_take, if_pos (List.getElem?_eq_some_iff.1 hx).1]
theorem setCells_one (l : List Value) (i : Nat) (x : Value) : setCells l i [x] = l.set i x := rfl
theorem Cells.write (h : Cells H g k n xs) (hw : Wf H) {i : Nat} (x : Value) (hi : i < xs.length) : ∃ H', H.write ⟨g, i, some k⟩ [x] = some H' ∧ Cells H' g k n (xs.set i x) ∧ Chg (fun y => y = g) H H' ∧ H'.next = H.next := by
 obtain ⟨vals, h1, h0, h2, h3⟩ := h
 obtain ⟨H', e1, e2, e3, e4⟩ := h1.write hw (i := i) (vs := [x]) (by simp; omega)
 refine ⟨H', e1, ⟨_, e2, ?_, ?_, ?_⟩, e4, e3⟩
 ·rw [setCells_one]; simpa using h0
 ·simpa using h2
 ·rw [setCells_one, List.length_set, List.take_set, h3]
theorem Cells.swap (h : Cells H g k n xs) (hw : Wf H) {i j : Nat} {x y : Value} (hx : xs[i]? = some x) (hy : xs[j]? = some y) :
  ∃ H1 H2, H.write ⟨g, i, some k⟩ [y] = some H1 ∧ H1.write ⟨g, j, some k⟩ [x] = some H2 ∧ Cells H2 g k n (swp xs i j) ∧ Chg (fun y => y = g) H H2 ∧ H2.next = H.next := by
 have hi := (List.getElem?_eq_some_iff.1 hx).1
 have hj := (List.getElem?_eq_some_iff.1 hy).1
 obtain ⟨H1, e1, e2, e3, e4⟩ := h.write hw y hi
 obtain ⟨H2, f1, f2, f3, f4⟩ := e2.write e3.wf x (i := j) (by simpa using hj)
 refine ⟨H1, H2, e1, f1, ?_, e3.trans f3, by rw [f4, e4]⟩
 unfold swp
 rw [hx, hy]
 exact f2
theorem C0s {α β : Type} (f : α → β) (l : List α) (i j : Nat) : swp (l.map f) i j = (swp l i j).map f := by
 unfold swp
 rw [List.getElem?_map, List.getElem?_map]
 cases l[i]? <;> cases l[j]? <;> simp [List.map_set]
theorem B80 {α : Type} (f : α → Value) (l : List α) : flat (l.map fun x => [f x]) = l.map f := by
 induction l with
 | nil => rfl
 | cons x l ih => simp only [flat, List.map_cons, List.flatten_cons] at ih ⊢; rw [ih]; rfl
theorem Buf.cells {α : Type} {f : α → Value} {v : Value} {l : List α} {g : Nat} (h : Buf H 1 v (l.map fun x => [f x]) (some g)) : ∃ k cap n, v = .slice (some ⟨g, 0, some k⟩) l.length cap ∧ Cells H g k n (l.map f) ∧
  ∀ (H' : AH) (l' : List α), l'.length = l.length → Cells H' g k n (l'.map f) → Buf H' 1 v (l'.map fun x => [f x]) (some g) := by
 generalize hL : (l.map fun x => [f x]) = L at h
 cases h with
 | own g k cap L vals ha h0 h1 h2 h3 h4 =>
  subst hL
  rw [B80] at h3
  simp only [List.length_map, Nat.mul_one] at h1 h2 h3 ⊢
  refine ⟨k, cap, vals.length, rfl, ⟨vals, ha, rfl, by simp; omega, by simpa using h3⟩, ?_⟩
  rintro H' l' hl ⟨vals', b1, b0, b2, b3⟩
  have := Buf.own (H := H') (s := 1) g k cap (l'.map fun x => [f x]) vals' b1 h0 (by rw [Nat.mul_one, b0, ← h1]) (by simpa [hl] using h2) (by rw [B80]; simp only [List.length_map, Nat.mul_one] at b3 ⊢; exact b3) (fun x hx => by
   obtain ⟨a, _, rfl⟩ := List.mem_map.1 hx; rfl)
  simpa [hl] using this
end
def tabOk (tab : Array UInt8) : Bool := (List.range 256).all fun y => match tab.toList[y]? with
 | some u => Nat.blt y (2 ^ u.toNat) && (Nat.beq y 0 || Nat.ble (2 ^ u.toNat) (2 * y)) && Nat.ble u.toNat 8
 | none => false
theorem B9r {P : Program} {t : TypeId} {j : IntKind} {tab : Array UInt8} {y : Nat} {K : Value → Prop} (hu : P.underlying t = some .string) (hok : tabOk tab = true) (hy : y < 256)
  (h : ∀ u : Nat, y < 2 ^ u → (y ≠ 0 → 2 ^ u ≤ 2 * y) → u ≤ 8 → K (.int .u8 (u : Int))) : ∃ v, A88 P t (.string ⟨tab⟩) (.int j (y : Int)) = some v ∧ K v := by
 have h1 := List.all_eq_true.1 hok y (List.mem_range.2 hy)
 split at h1
 ·rename_i u hget
  simp only [Bool.and_eq_true, Bool.or_eq_true, A3i, A8a, A3c, decide_eq_true_eq] at h1
  exact ⟨_, B7g hu hget, h u.toNat h1.1.1 (fun h0 => h1.1.2.resolve_left h0) h1.2⟩
 ·cases h1
theorem A8t {n : Int} (h1 : 0 ≤ n) (h2 : n < 18446744073709551616) : IntKind.wrap .u64 n = n := by
 simp only [IntKind.wrap]
 simp [IntKind.bits, IntKind.signed]
 omega
theorem C0q {n : Int} (h1 : 0 ≤ n) (h2 : n < 256) : IntKind.wrap .u8 n = n := by
 simp only [IntKind.wrap]
 simp [IntKind.bits, IntKind.signed]
 omega
theorem C2x {x c : Nat} (hc : c ≤ 64) : A2l false .u64 (x : Int) (c : Int) = some (.int .u64 ((x / 2 ^ c : Nat) : Int)) := by
 unfold A2l
 have h1 : A2y 0 (c : Int) = true := by rw [A6k]; simp
 have h2 : min (c : Int).toNat IntKind.u64.bits = c := by simp [IntKind.bits]; omega
 simp only [h1, cond_true, h2, cond_false]
 rw [Int.fdiv_eq_ediv_of_nonneg _ (Int.pow_nonneg (by decide))]
 norm_cast
theorem shl_one {c : Nat} (hc : c < 64) : A2l true .u64 1 (c : Int) = some (.int .u64 ((2 ^ c : Nat) : Int)) := by
 unfold A2l
 have h1 : A2y 0 (c : Int) = true := by rw [A6k]; simp
 have h2 : min (c : Int).toNat IntKind.u64.bits = c := by simp [IntKind.bits]; omega
 simp only [h1, cond_true, h2]
 have h3 : (2 : Nat) ^ c < 2 ^ 64 := Nat.pow_lt_pow_right (by decide) hc
 have h4 : ((1 : Int) * 2 ^ c) = ((2 ^ c : Nat) : Int) := by rw [Int.one_mul]; norm_cast
 have h5 : ((2 ^ c : Nat) : Int) < ((18446744073709551616 : Nat) : Int) := Int.ofNat_lt.2 h3
 rw [h4, A8t (Int.natCast_nonneg _) h5]
section
variable {P : Program} {t : TypeId} {c : Bool} {j k : IntKind} {a b : Int}
theorem C3u : abin P t c .shl (.int j a) (.int k b) = A2l true j a b := rfl
theorem A23 (h : b ≠ 0) : abin P t c .quo (.int j a) (.int j b) = some (.int j (j.wrap (a.tdiv b))) := by
 simp only [abin, A1f, cond_true, aint, A1o, show (b == 0) = false from by simpa using h, cond_false]
theorem C5k : abin P t c .xor (.int j a) (.int j b) = some (.int j (j.wrap ((BitVec.ofInt j.bits a) ^^^ (BitVec.ofInt j.bits b)).toNat)) := by simp only [abin, A1f, cond_true, aint]
theorem b_and : abin P t c .and (.int j a) (.int j b) = some (.int j (j.wrap ((BitVec.ofInt j.bits a) &&& (BitVec.ofInt j.bits b)).toNat)) := by simp only [abin, A1f, cond_true, aint]
end
theorem A2z {left : Bool} {k : IntKind} {a : Int} {b : Nat} : ∃ z, A2l left k a (b : Int) = some (.int k z) := by
 unfold A2l
 have h1 : A2y 0 (b : Int) = true := by rw [A6k]; simp
 simp only [h1, cond_true]
 exact ⟨_, rfl⟩
theorem and_le (z : Int) {m : Nat} (hm : m < 18446744073709551616) : ∃ q : Nat, q ≤ m ∧ IntKind.wrap .u64 ((BitVec.ofInt IntKind.u64.bits z) &&& (BitVec.ofInt IntKind.u64.bits (m : Int))).toNat = (q : Int) := by
 refine ⟨((BitVec.ofInt IntKind.u64.bits z) &&& (BitVec.ofInt IntKind.u64.bits (m : Int))).toNat, ?_, ?_⟩
 ·rw [BitVec.toNat_and]
  refine Nat.le_trans Nat.and_le_right ?_
  rw [BitVec.toNat_ofInt]
  simp [IntKind.bits]
  omega
 ·have := ((BitVec.ofInt IntKind.u64.bits z) &&& (BitVec.ofInt IntKind.u64.bits (m : Int))).isLt
  simp only [IntKind.bits] at this ⊢
  exact A8t (by omega) (by omega)
end Go.Proofs.Sh
/- A piece of code that does not return, and what comes behind it. -/
namespace Go.Proofs.Sh
open Go
def A84 : Code → Bool
 | .ret => false
 | .seq a b => A84 a && A84 b
 | .cond _ a b => A84 a && A84 b
 | .block _ c => A84 c
 | .loop c => A84 c
 | _ => true
def C3g : Item → Bool
 | .code c => A84 c
 | .inLoop c => A84 c
 | _ => true
section
variable {P : Program} {O : A4d}
theorem A82 {id : Nat} : ∀ {T S T' : List Item}, exitTo id T = some T' → exitTo id (T ++ S) = some (T' ++ S)
 | [], _, _, h => by simp [exitTo] at h
 | x :: T, S, T', h => by
  have ih := @A82 id T S
  cases x <;> simp only [List.cons_append, exitTo] at h ⊢ <;> first
   | exact ih h
   | (split at h
      · rename_i hc; rw [if_pos hc]; injection h with h; rw [h]
      · rename_i hc; rw [if_neg hc]; exact ih h)
   | (cases h)
theorem A58 {id : Nat} : ∀ {T T' : List Item}, exitTo id T = some T' → (∀ x ∈ T, C3g x = true) → ∀ x ∈ T', C3g x = true
 | [], _, h, _ => by simp [exitTo] at h
 | y :: T, T', h, hn => by
  have ih := fun h' => @A58 id T T' h' fun x hx => hn x (List.mem_cons_of_mem _ hx)
  cases y <;> simp only [exitTo] at h <;> first
   | exact ih h
   | (split at h
      · injection h with h; subst h; exact fun x hx => hn x (List.mem_cons_of_mem _ hx)
      · exact ih h)
   | (cases h)
theorem A0k {F' : Fr} {H' : AH} : ∀ (n : Nat) (T : List Item) (F : Fr) (H : AH), (∀ x ∈ T, C3g x = true) → run P O n T F H = some (F', H') → ∀ {S : List Item} {Q : Fr → AH → Prop}, wp P O S Q F' H' → wp P O (T ++ S) Q F H
 | 0, T, F, H, _, h, S, Q, k => by cases h
 | n + 1, [], F, H, _, h, S, Q, k => by
  injection h with h
  injection h with h1 h2
  subst h1 h2
  exact k
 | n + 1, .inBlock id :: T, F, H, hn, h, S, Q, k => by
  rw [List.cons_append, A66]
  exact A0k n T F H (fun x hx => hn x (List.mem_cons_of_mem _ hx)) h k
 | n + 1, .inLoop c :: T, F, H, hn, h, S, Q, k => by
  rw [List.cons_append, wp_inLoop]
  exact A0k n (.code c :: .inLoop c :: T) F H (fun x hx => by
   rcases List.mem_cons.1 hx with rfl | hx
   ·exact hn (.inLoop c) List.mem_cons_self
   ·exact hn x hx) h k
 | n + 1, .code c :: T, F, H, hn, h, S, Q, k => by
  have hT : ∀ x ∈ T, C3g x = true := fun x hx => hn x (List.mem_cons_of_mem _ hx)
  have hc : A84 c = true := hn (.code c) List.mem_cons_self
  rw [List.cons_append]
  cases c with
  | skip => rw [wp_skip]; exact A0k n T F H hT h k
  | seq a b =>
   rw [wp_seq]
   simp only [A84, Bool.and_eq_true] at hc
   exact A0k n (.code a :: .code b :: T) F H (fun x hx => by
    rcases List.mem_cons.1 hx with rfl | hx
    ·exact hc.1
    ·rcases List.mem_cons.1 hx with rfl | hx
     ·exact hc.2
     ·exact hT x hx) h k
  | cond c a b =>
   simp only [A84, Bool.and_eq_true] at hc
   have h' : (match ev F c with | some (.bool true) => run P O n (.code a :: T) F H | some (.bool false) => run P O n (.code b :: T) F H | _ => none) = some (F', H') := h
   rw [wp_cond]
   split at h'
   ·rename_i he
    refine ⟨true, he, fun _ => ?_, fun h => by cases h⟩
    exact A0k n (.code a :: T) F H (fun x hx => by
     rcases List.mem_cons.1 hx with rfl | hx
     ·exact hc.1
     ·exact hT x hx) h' k
   ·rename_i he
    refine ⟨false, he, (fun h => by cases h), fun _ => ?_⟩
    exact A0k n (.code b :: T) F H (fun x hx => by
     rcases List.mem_cons.1 hx with rfl | hx
     ·exact hc.2
     ·exact hT x hx) h' k
   ·cases h'
  | block id c =>
   rw [wp_block]
   exact A0k n (.code c :: .inBlock id :: T) F H (fun x hx => by
    rcases List.mem_cons.1 hx with rfl | hx
    ·exact hc
    ·rcases List.mem_cons.1 hx with rfl | hx
     ·rfl
     ·exact hT x hx) h k
  | loop c =>
   rw [wp_loop, wp_inLoop]
   exact A0k n (.code c :: .inLoop c :: T) F H (fun x hx => by
    rcases List.mem_cons.1 hx with rfl | hx
    ·exact hc
    ·rcases List.mem_cons.1 hx with rfl | hx
     ·exact hc
     ·exact hT x hx) h k
  | exit id =>
   have h' : (match exitTo id T with | some S' => run P O n S' F H | none => none) = some (F', H') := h
   split at h'
   ·rename_i T' he
    rw [wp_exit]
    exact ⟨T' ++ S, A82 he, A0k n T' F H (A58 he hT) h' k⟩
   ·cases h'
  | ret => cases hc
  | region id ops draw =>
   have h' : (match region P (call P O n) ops.toList draw F H with | some (F', H') => run P O n T F' H' | none => none) = some (F', H') := h
   split at h'
   ·rename_i F1 H1 he
    rw [B6y]
    exact ⟨n, F1, H1, he, A0k n T F1 H1 hT h' k⟩
   ·cases h'
  | _ => cases h
theorem B0i {c : Code} {S : List Item} {Q : Fr → AH → Prop} {F : Fr} {H : AH} (M : Fr → AH → Prop) (hc : A84 c = true) (h : wp P O [.code c] M F H) (k : ∀ F' H', M F' H' → wp P O S Q F' H') : wp P O (.code c :: S) Q F H := by
 obtain ⟨n, F', H', h1, h2⟩ := h
 exact A0k n [.code c] F H (fun x hx => by
  rcases List.mem_cons.1 hx with rfl | hx
  ·exact hc
  ·cases hx) h1 (k F' H' h2)
theorem B2j {c : Operand} {a b : Code} {S : List Item} {Q : Fr → AH → Prop} {F : Fr} {H : AH} (M : Fr → AH → Prop) (hc : A84 (.cond c a b) = true) (h : wp P O [.code (.cond c a b)] M F H) (k : ∀ F' H', M F' H' → wp P O S Q F' H') : wp P O (.code (.cond c a b) :: S) Q F H := B0i M hc h k
theorem A30 {id : Nat} {c : Code} {S : List Item} {Q : Fr → AH → Prop} {F : Fr} {H : AH} (M : Fr → AH → Prop) (hc : A84 c = true) (h : wp P O [.inLoop c, .inBlock id] M F H) (k : ∀ F' H', M F' H' → wp P O S Q F' H') : wp P O (.inLoop c :: .inBlock id :: S) Q F H := by
 obtain ⟨n, F', H', h1, h2⟩ := h
 exact A0k n [.inLoop c, .inBlock id] F H (fun x hx => by
  simp only [List.mem_cons, List.not_mem_nil, or_false] at hx
  rcases hx with rfl | rfl
  ·exact hc
  ·rfl) h1 (k F' H' h2)
end
theorem A9i {i n : Nat} : decide ((i : Int) ≤ (n : Int)) = decide (i ≤ n) := by simp
theorem wp_cut {P : Program} {O : A4d} {c : Code} {S : List Item} {Q : Fr → AH → Prop} {F : Fr} {H : AH} (N : Fr → AH → Prop) (k : ∀ F' H', N F' H' → wp P O S Q F' H') (h : (∀ F' H', N F' H' → wp P O S Q F' H') → wp P O (.code c :: S) Q F H) : wp P O (.code c :: S) Q F H := h k
section
variable {α : Type} {lt : α → α → Bool}
def P3 (lt : α → α → Bool) (a a' b' b : Nat) (l : List α) : Prop := ∀ (p q : Nat) x y, a ≤ p → p < q → q < b → ¬(a' ≤ p ∧ q < b') → l[p]? = some x → l[q]? = some y → lt y x = false
theorem P3.mix {a a' b' b : Nat} {l m : List α} (h : P3 lt a a' b' b l) (ha : a ≤ a') (hb' : b' ≤ b) (hm : Mix a' b' l m) (hl : b' ≤ l.length) : P3 lt a a' b' b m := by
 intro p q x y h1 h2 h3 h4 hx hy
 by_cases hp : a' ≤ p ∧ p < b'
 ·have hq : b' ≤ q := by omega
  rw [hm.out (.inr hq)] at hy
  exact hm.all (p := fun x => lt y x = false) hl (fun i z hi1 hi2 hz => h i q z y (by omega) (by omega) h3 (by omega) hz hy) p x hp.1 hp.2 hx
 ·rw [hm.out (by omega)] at hx
  by_cases hq : a' ≤ q ∧ q < b'
  ·exact hm.all (p := fun y => lt y x = false) hl (fun i z hi1 hi2 hz => h p i x z h1 (by omega) (by omega) (by omega) hx hz) q y hq.1 hq.2 hy
  ·rw [hm.out (by omega)] at hy
   exact h p q x y h1 h2 h3 h4 hx hy
theorem P3.srt (hT : TO lt) {a a' b' b : Nat} {l : List α} (h : P3 lt a a' b' b l) (hs : Srt lt a' b' l) : Srt lt a b l := by
 intro i j x y h1 h2 h3 hx hy
 by_cases hij : i = j
 ·subst hij; rw [hx] at hy; rw [← Option.some.inj hy]; exact hT.irrefl x
 ·by_cases hin : a' ≤ i ∧ j < b'
  ·exact hs i j x y hin.1 h2 hin.2 hx hy
  ·exact h i j x y h1 (by omega) h3 hin hx hy
theorem P3.part (hT : TO lt) {a a' b' b m : Nat} {l : List α} {y : α} (h : P3 lt a a' b' b l) (hm1 : a' ≤ m) (hm2 : m < b') (hy : l[m]? = some y)
  (hl : ∀ (q : Nat) x, a' ≤ q → q < m → l[q]? = some x → lt x y = true) (hr : ∀ (q : Nat) x, m < q → q < b' → l[q]? = some x → lt x y = false) :
  (Srt lt a' m l → P3 lt a (m + 1) b' b l) ∧ (Srt lt (m + 1) b' l → P3 lt a a' m b l) := by
 have cross : ∀ (p q : Nat) x z, a' ≤ p → p ≤ m → m ≤ q → q < b' → p < q → l[p]? = some x → l[q]? = some z → lt z x = false := by
  intro p q x z h1 h2 h3 h4 h5 hx hz
  by_cases hp : p = m
  ·subst hp
   rw [hy] at hx
   rw [← Option.some.inj hx]
   exact hr q z h5 h4 hz
  ·have hxy := hl p x h1 (by omega) hx
   by_cases hq : q = m
   ·subst hq
    rw [hy] at hz
    rw [← Option.some.inj hz]
    exact hT.asymm hxy
   ·exact hT.asymm (hT.lt_le hxy (hr q z (by omega) h4 hz))
 refine ⟨fun hs p q x z h1 h2 h3 h4 hx hz => ?_, fun hs p q x z h1 h2 h3 h4 hx hz => ?_⟩
 ·by_cases hin : a' ≤ p ∧ q < b'
  ·by_cases hq : q < m
   ·exact hs p q x z hin.1 (by omega) hq hx hz
   ·exact cross p q x z hin.1 (by omega) (by omega) hin.2 h2 hx hz
  ·exact h p q x z h1 h2 h3 hin hx hz
 ·by_cases hin : a' ≤ p ∧ q < b'
  ·by_cases hp : m < p
   ·exact hs p q x z (by omega) (by omega) hin.2 hx hz
   ·exact cross p q x z hin.1 (by omega) (by omega) hin.2 h2 hx hz
  ·exact h p q x z h1 h2 h3 hin hx hz
end
end Go.Proofs.Sh
