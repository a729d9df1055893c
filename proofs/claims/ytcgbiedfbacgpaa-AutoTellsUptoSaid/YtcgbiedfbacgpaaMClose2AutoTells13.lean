/- A part of the proof: LawKit, LawKit2, LawAutoTells. -/
import Derived.Test.YtcgbiedfbacgpaaMClose2AutoTells11
import Derived.Test.YtcgbiedfbacgpaaMClose2AutoTells12
import Derived.ProofKit
set_option linter.unusedVariables false
set_option linter.unusedSimpArgs false
/- What laws of a net and a word have alike. -/
set_option maxHeartbeats 4000000
set_option maxRecDepth 20000
set_option linter.unusedSimpArgs false
set_option linter.unusedVariables false
set_option pp.deepTerms.threshold 8
namespace Go.Proofs.Ytcgbiedfbacgpaa
open Go Go.Proofs Go.Proofs.Sh
theorem knownCall {H : AH} : Sh.Call Try.prog (knows 6) 6 [] H (fun r H' => H' = H ∧ r = .bool true) := ⟨_, _, ⟨0, rfl⟩, rfl, rfl⟩
theorem one_jag {H : AH} {u : Value} {w : List ByteArray} (hu : Sl H u 1 (w.map strCell)) (hw : Wf H) : JagR (H.new 1 [u]).2 (.slice (some ⟨H.next, 0, some 0⟩) 1 1) 1 ([w].map fun w => w.map strCell) [u] := by
  have k := Kept.new hw 1 [u]
  refine ⟨(Buf.fresh (H := H) (s := 1) (xs := [[u]]) hw (by intro x hx; rw [List.mem_singleton.1 hx]; rfl) (by simp) 1 rfl).toSl, rfl, fun i w' r h1 h2 => ?_⟩
  cases i with
  | zero =>
    simp only [List.map_cons, List.map_nil, List.getElem?_cons_zero, Option.some.injEq] at h1 h2
    subst h1 h2
    exact hu.grow (k.grow hw)
  | succ i => simp at h1
theorem sizes_el {L : List ByteArray} {m : Nat} (h : sizes L + L.length ≤ m) : L.length ≤ m ∧ ∀ x ∈ L, x.size ≤ m := ⟨by omega, fun x hx => by have := sizes_mem hx; omega⟩
end Go.Proofs.Ytcgbiedfbacgpaa
/- What comes in: a net, a number and a list of texts. -/
set_option maxHeartbeats 4000000
set_option maxRecDepth 20000
set_option linter.unusedSimpArgs false
set_option linter.unusedVariables false
set_option pp.deepTerms.threshold 8
namespace Go.Proofs.Ytcgbiedfbacgpaa
open Go Go.Proofs Go.Proofs.Sh
theorem net_int_in {H : AH} {avs : List Value} {K : Type} {ds : List (DataW K)} {ts : List Nat} (hb : Rows.uptoBulkAll ds ≤ 1048576) (hr : RDs Try.prog H (26 :: 3 :: ts) avs ds) (hfl : Flat Try.prog (26 :: 3 :: ts) avs) :
    ∃ v, ∃ n : Int, ∃ N : NetD, ∃ vs, ∃ ds' : List (DataW K), avs = v :: .int .i64 n :: vs ∧ Nonempty (NetAt H v N) ∧ NetSmall N ∧ sizes N.sigma ≤ 1048576 ∧ -9223372036854775808 ≤ n ∧ n < 9223372036854775808 ∧ RDs Try.prog H ts vs ds' ∧ Rows.uptoBulkAll ds' ≤ 1048576 := by
  obtain ⟨v, vs, d, ds, rfl, rfl, ⟨f, h1⟩, h2⟩ := hr.cons_inv
  obtain ⟨v2, vs, d2, ds, rfl, rfl, ⟨f2, h3⟩, h4⟩ := h2.cons_inv
  simp only [Rows.uptoBulkAll] at hb
  obtain ⟨N, ⟨hn⟩, hsm, hsz⟩ := net_in h1 (by omega)
  obtain ⟨n, hc, h5, h6⟩ := int_in h3
  have hv2 : v2 = .int .i64 n := by
    cases v2 with
    | agg cs =>
      have := hfl 1 _ _ rfl rfl
      unfold isAggT at this
      rw [Try.underlying3] at this
      cases this
    | _ => exact List.head_eq_of_cons_eq hc
  subst hv2
  exact ⟨v, n, N, vs, ds, rfl, ⟨hn⟩, hsm, hsz, h5, h6, h4, by omega⟩
theorem strs_last {H : AH} {vs : List Value} {K : Type} {ds : List (DataW K)} {v1 v2 : Value} {t1 t2 : Nat} (hb : Rows.uptoBulkAll ds ≤ 1048576) (hr : RDs Try.prog H [22] vs ds) (hfl : Flat Try.prog [t1, t2, 22] (v1 :: v2 :: vs)) :
    ∃ u, ∃ w : List ByteArray, vs = [u] ∧ Sl H u 1 (w.map strCell) ∧ w.length ≤ 1048576 ∧ ∀ x ∈ w, x.size ≤ 1048576 := by
  obtain ⟨v3, vs, d2, ds, rfl, rfl, ⟨f2, h3⟩, h4⟩ := hr.cons_inv
  obtain ⟨rfl, rfl⟩ := h4.nil_inv
  simp only [Rows.uptoBulkAll, Nat.add_zero] at hb
  obtain ⟨u, L, hu, hsl, hLb⟩ := strs_in h3
  obtain ⟨hl, hx⟩ := sizes_el (L := L) (m := 1048576) (by omega)
  have hv2 : v3 = u := by
    cases v3 with
    | agg cs =>
      have := hfl 2 _ _ rfl rfl
      unfold isAggT at this
      rw [Try.underlying22] at this
      cases this
    | _ => exact List.head_eq_of_cons_eq hu
  subst hv2
  exact ⟨v3, L, rfl, hsl, hl, hx⟩
end Go.Proofs.Ytcgbiedfbacgpaa
/- For every net, of any kind, every number and every list of texts: what auto.Words lists is accepted, in its order, and nothing that is accepted is missed. -/
set_option maxHeartbeats 4000000
set_option maxRecDepth 20000
set_option linter.unusedSimpArgs false
set_option linter.unusedVariables false
set_option pp.deepTerms.threshold 8
namespace Go.Proofs.Ytcgbiedfbacgpaa
open Go Go.Proofs Go.Proofs.Sh
/-! ### Plain laws -/
theorem lex_ord {u v : List ByteArray} (h : LexLt (fun a b => strLt a b = true) u v) : ordW u v = -1 ∧ ordW v u = 1 := by
  induction u generalizing v with
  | nil => cases v <;> cases h
  | cons a x ih =>
    cases v with
    | nil => cases h
    | cons b y =>
      rcases h with h | ⟨rfl, h⟩
      · have hba : ¬strLt b a = true := fun h2 => by have := strLt_trans h h2; rw [strLt_irrefl] at this; cases this
        have hne : b ≠ a := fun e => by rw [e, strLt_irrefl] at h; cases h
        exact ⟨by simp [ordW, h], by simp [ordW, hba, hne]⟩
      · have := ih h
        simp [ordW, strLt_irrefl, this]
theorem sh_cmp {u v : List ByteArray} (h : ShLt (fun a b => strLt a b = true) u v) : cmpW u v = -1 ∧ cmpW v u = 1 := by
  unfold cmpW
  rcases h with h | ⟨h, h2⟩
  · exact ⟨by rw [if_pos h], by rw [if_neg (by omega), if_pos h]⟩
  · have := lex_ord h2
    rw [if_neg (by omega), if_neg (by omega), if_neg (by omega), if_neg (by omega)]
    exact this
theorem asc_pairwise {l : List ByteArray} (h : Asc l) : l.Pairwise fun a b => strLt a b = true := by
  rw [List.pairwise_iff_getElem]
  intro i j hi hj hij
  exact h i j _ _ hij (List.getElem?_eq_getElem hi) (List.getElem?_eq_getElem hj)
theorem all_asc {N : NetD} (hok : NetOk N) : (allWords N).Pairwise (ShLt fun a b => strLt a b = true) := shlex_asc (asc_pairwise hok.asc) _ _
theorem all_mem {N : NetD} {u : List ByteArray} : u ∈ allWords N ↔ (u.length ≤ 60 ∧ ∀ x ∈ u, x ∈ N.sigma) ∧ accepts N u := shlex_mem
theorem word_ok {N : NetD} (hA : accErr N = 0) {u : List ByteArray} (h : u ∈ allWords N) : bothErr N u = 0 ∧ accB N u = true := by
  have hok := accErr_ok hA
  obtain ⟨⟨h1, h2⟩, h3⟩ := all_mem.1 h
  have hb : bothErr N u = 0 := by
    unfold bothErr
    rw [if_neg (by simpa using hA)]
    unfold wordErr
    have e1 : anyLongB u = false := by
      unfold anyLongB
      rw [List.any_eq_false]
      intro x hx
      have := hok.sym x (h2 x hx)
      unfold symOk at this
      simp only [Bool.and_eq_true, decide_eq_true_eq] at this
      simp; omega
    have e2 : u.all symOk = true := List.all_eq_true.2 fun x hx => hok.sym x (h2 x hx)
    rw [e1, e2, if_neg (by simp; omega), if_pos rfl]
  exact ⟨hb, isB_iff.2 ⟨hb, h3⟩⟩
theorem acc_all {N : NetD} {w : List ByteArray} (hE : bothErr N w = 0) (ha : accB N w = true) : w ∈ allWords N := by
  have hok := bothErr_ok hE
  have h2 := (isB_iff.1 ha).2
  have hno := word_no hE
  refine all_mem.2 ⟨⟨?_, fun x hx => ?_⟩, h2⟩
  · unfold bothErr at hE
    by_cases h : accErr N = 0
    · rw [if_neg (by simpa using h)] at hE
      unfold wordErr at hE
      split at hE
      · cases hE
      · rename_i h1
        simp only [Bool.or_eq_true, decide_eq_true_eq, not_or] at h1
        omega
    · rw [if_pos h] at hE; exact absurd hE h
  · by_cases hs : x ∈ N.sigma
    · exact hs
    · obtain ⟨_, t, h3, _⟩ := h2
      exact absurd h3 (run_out hok hx (hno x hx) hs t)
/-- What is told where nothing is wrong. -/
structure Told (N : NetD) (most : Int) (l : List (List ByteArray)) (b : Bool) : Prop where
  acc : accErr N = 0
  sub : ∀ u ∈ l, u ∈ allWords N
  ord : ∀ (i : Nat) u v, l[i]? = some u → l[i + 1]? = some v → cmpW u v = -1
  few : (l.length : Int) ≤ most
  full : b = true → (l.length : Int) = most
  rest : ∀ w ∈ allWords N, w ∉ l → b = true ∧ ∀ u, l.getLast? = some u → cmpW w u = 1
  big : l.length ≤ 200
theorem told {N : NetD} {most : Int} (he : (autoOut N most).2.2 = 0) : Told N most (autoOut N most).1 (autoOut N most).2.1 := by
  unfold autoOut at he ⊢
  by_cases hA : accErr N = 0
  case neg => rw [if_pos hA] at he; exact absurd he hA
  rw [if_neg (by simpa using hA)] at he ⊢
  by_cases hm : most < 1 ∨ 200 < most
  · rw [if_pos hm] at he; cases he
  rw [if_neg hm] at he ⊢
  obtain ⟨m, rfl⟩ : ∃ m : Nat, most = (m : Int) := ⟨most.toNat, by omega⟩
  rw [Int.toNat_natCast] at he ⊢
  have hasc := all_asc (accErr_ok hA)
  have hord : ∀ (i j : Nat) u v, i < j → (allWords N)[i]? = some u → (allWords N)[j]? = some v → cmpW u v = -1 ∧ cmpW v u = 1 := fun i j u v hij hu hv => by
    obtain ⟨h1, h2⟩ := List.getElem?_eq_some_iff.1 hu
    obtain ⟨h3, h4⟩ := List.getElem?_eq_some_iff.1 hv
    rw [← h2, ← h4]
    exact sh_cmp (List.pairwise_iff_getElem.1 hasc i j h1 h3 hij)
  unfold wordsOut at he ⊢
  by_cases h1 : m < (allWords N).length
  · rw [if_pos h1] at he ⊢
    have hl : ((allWords N).take m).length = m := by rw [List.length_take]; omega
    have hget : ∀ (i : Nat) u, ((allWords N).take m)[i]? = some u → i < m ∧ (allWords N)[i]? = some u := fun i u hu => by
      rw [List.getElem?_take] at hu
      split at hu
      · rename_i h; exact ⟨h, hu⟩
      · cases hu
    refine ⟨hA, fun u hu => List.mem_of_mem_take hu, fun i u v hu hv => (hord i (i + 1) u v (Nat.lt_succ_self i) (hget i u hu).2 (hget _ v hv).2).1, by rw [hl]; exact Int.le_refl _, fun _ => by rw [hl], fun w hw hn => ⟨rfl, fun u hu => ?_⟩, by rw [hl]; omega⟩
    rw [List.getLast?_eq_getElem?, hl] at hu
    obtain ⟨h2, h3⟩ := hget _ u hu
    obtain ⟨j, hj⟩ := List.mem_iff_getElem?.1 hw
    have hjm : m ≤ j := by
      rcases Nat.lt_or_ge j m with h4 | h4
      · exact absurd (List.mem_iff_getElem?.2 ⟨j, by rw [List.getElem?_take, if_pos h4]; exact hj⟩) hn
      · exact h4
    exact (hord (m - 1) j u w (by omega) h3 hj).2
  · rw [if_neg h1] at he ⊢
    have hsub : ∀ b, ((allWords N).length = m ∨ b = false) → Told N (m : Int) (allWords N) b := fun b hb =>
      ⟨hA, fun u hu => hu, fun i u v hu hv => (hord i (i + 1) u v (Nat.lt_succ_self i) hu hv).1, by omega, (fun h => by
        rcases hb with h2 | h2
        · omega
        · rw [h2] at h; cases h), fun w hw hn => absurd hw hn, by omega⟩
    by_cases h2 : tB (longW N) = true
    · rw [if_pos h2] at he ⊢
      by_cases h3 : (allWords N).length < m
      · rw [if_pos h3] at he; cases he
      · rw [if_neg h3]; exact hsub true (.inl (by omega))
    · rw [if_neg h2]; exact hsub false (.inr rfl)
theorem told_not {N : NetD} {most : Int} (he : (autoOut N most).2.2 ≠ 0) : (autoOut N most).1 = [] ∧ (autoOut N most).2.1 = false := by
  unfold autoOut at he ⊢
  split
  · exact ⟨rfl, rfl⟩
  · rename_i h1
    rw [if_neg h1] at he
    split
    · exact ⟨rfl, rfl⟩
    · rename_i h2
      rw [if_neg h2] at he
      unfold wordsOut at he ⊢
      split
      · rename_i h3; rw [if_pos h3] at he; exact absurd rfl he
      · rename_i h3
        rw [if_neg h3] at he
        split
        · rename_i h4
          rw [if_pos h4] at he
          split
          · exact ⟨rfl, rfl⟩
          · rename_i h5; rw [if_neg h5] at he; exact absurd rfl he
        · rename_i h4; rw [if_neg h4] at he; exact absurd rfl he
/-! ### The walk -/
theorem autoTellsLaw {H : AH} {v u : Value} {N : NetD} {w : List ByteArray} {most : Int} (h : NetAt H v N) (hsm : NetSmall N) (hsz : sizes N.sigma ≤ 1048576) (hu : Sl H u 1 (w.map strCell)) (hwl : w.length ≤ 1048576) (hwx : ∀ x ∈ w, x.size ≤ 1048576) (hw : Wf H) :
    Sh.Call Try.prog (knows 6) 3 [v, .int .i64 most, u] H (fun r _ => r = .bool true) := by
  refine call_of rfl Try.func3 rfl (Nat.le_of_ble_eq_true rfl) ?_
  have hres : Try.f3.results.toList = [.tmp 6] := rfl
  obtain ⟨sg, ar, en, rfl, hsg, har, hen⟩ := h
  have hb1 := NetBox.of (N := N) hw hsg har hen
  have hk1 : Kept H (H.new 4 [sg, .int .i64 N.states, ar, en]).2 := Kept.new hw 4 _
  simp only [↓Sh.dn, sx, Nat.reduceBEq, reduceCtorEq, Nat.reduceEqDiff, netNew hsg.isCell har.isCell hen.isCell]
  generalize H.next = gg at hb1 ⊢
  generalize (H.new 4 [sg, .int .i64 N.states, ar, en]).2 = H1 at hb1 hk1 ⊢
  simp only [↓Sh.dn, sx, Nat.reduceBEq, reduceCtorEq, Nat.reduceEqDiff, hb1.c0, hb1.c1, hb1.c2, hb1.c3, hb1.ca, netLenS hb1, netLenA hb1, netLenE hb1, Option.map_some]
  obtain ⟨r, H2, hd, hk2, rfl⟩ := isOver hb1.netAt hsm hsz hk1.wf
  refine ⟨_, _, hd, ?_⟩
  have hb2 := hb1.kept hk1.wf hk2
  have hu2 := hu.grow ((hk1.trans hk2).grow hw)
  cases ho : decide (262144 < netSize N) with
  | true =>
    obtain ⟨r, H3, hd3, rfl, rfl⟩ := knownCall (H := H2)
    simp only [↓Sh.dn, sx, Nat.reduceBEq, reduceCtorEq, Nat.reduceEqDiff]
    refine ⟨_, _, hd3, ?_⟩
    simp only [↓Sh.dn, sx, Nat.reduceBEq, reduceCtorEq, Nat.reduceEqDiff, hres]
  | false =>
    have hbs := build1_30 (H := H2) (x := u) (by rw [cell_vcells hu.isCell]; rfl) (by rw [cell_vcells hu.isCell]; simp [hu.isCell])
    rw [cell_vcells hu.isCell] at hbs
    have kn := Kept.new hk2.wf 1 [u]
    obtain ⟨r, K1, hd1, rfl, rfl⟩ := isLong (one_jag hu2 hk2.wf) (by simp) (fun w' hw' => by rw [List.mem_singleton.1 hw']; exact ⟨hwl, hwx⟩) kn.wf
    simp only [↓Sh.dn, sx, Nat.reduceBEq, reduceCtorEq, Nat.reduceEqDiff, hbs]
    refine ⟨_, _, hd1, ?_⟩
    cases hlg : decide (16384 < textN [w]) with
    | true =>
      obtain ⟨r, H3, hd3, rfl, rfl⟩ := knownCall (H := (H2.new 1 [u]).2)
      simp only [↓Sh.dn, sx, Nat.reduceBEq, reduceCtorEq, Nat.reduceEqDiff]
      refine ⟨_, _, hd3, ?_⟩
      simp only [↓Sh.dn, sx, Nat.reduceBEq, reduceCtorEq, Nat.reduceEqDiff, hres]
    | false =>
      have hb3 := hb2.kept hk2.wf kn
      have hu3 := hu2.grow (kn.grow hk2.wf)
      obtain ⟨r4, H4, hd4, hk4, lv, rfl, vs, hJ⟩ := autoWords (most := most) hb3.netAt hsm kn.wf
      have hb4 := hb3.kept kn.wf hk4
      have hu4 := hu3.grow (hk4.grow kn.wf)
      have hlv : ∀ H', abuiltin Try.prog .len [30] [lv] H' = some (.int .i64 ((autoOut N most).1.length : Int), H') := fun H' => by
        rw [hJ.sl.len Try.underlying30, List.length_map, hJ.len, List.length_map]
      simp only [↓Sh.dn, sx, Nat.reduceBEq, reduceCtorEq, Nat.reduceEqDiff, hb3.c0, hb3.c1, hb3.c2, hb3.c3, hb3.ca, netLenS hb3, netLenA hb3, netLenE hb3, Option.map_some]
      refine ⟨_, _, hd4, ?_⟩
      by_cases he : (autoOut N most).2.2 = 0
      case neg =>
        obtain ⟨e1, e2⟩ := told_not he
        rw [e1] at hlv
        obtain ⟨r8, H8, hd8, rfl, rfl⟩ := knownCall (H := H4)
        have hz : decide ((([] : List (List ByteArray)).length : Int) = 0) = true := rfl
        simp only [↓Sh.dn, sx, Nat.reduceBEq, reduceCtorEq, Nat.reduceEqDiff, he, decide_false, hlv, hz, e2]
        refine ⟨_, _, hd8, ?_⟩
        simp only [↓Sh.dn, sx, Nat.reduceBEq, reduceCtorEq, Nat.reduceEqDiff, hres]
      have hT := told he
      generalize (autoOut N most).2.1 = b at hT hd4 ⊢
      generalize (autoOut N most).1 = l at hT hlv hJ ⊢
      have hl200 := hT.big
      simp only [↓Sh.dn, sx, Nat.reduceBEq, reduceCtorEq, Nat.reduceEqDiff, he, decide_true, hlv]
      refine wp_for l.length 11 (List.range' 43 47 ++ [10, 11, 12, 13]) (fun i F H' => Kept H4 H' ∧ F.get 10 = some (.bool (tB (w ∈ l.take i)))) (by simp only [↓Sh.dn, sx, Nat.reduceBEq, reduceCtorEq, Nat.reduceEqDiff]) ⟨Kept.refl hk4.wf, by
        have : tB (w ∈ l.take 0) = false := by
          cases h0 : tB (w ∈ l.take 0) with
          | false => rfl
          | true => exact absurd (tB_iff.1 h0) (by simp)
        simp only [↓Sh.dn, sx, Nat.reduceBEq, reduceCtorEq, Nat.reduceEqDiff, this]⟩ ?_ ?_
      · rintro i F H' hi hF f11 ⟨hk, f10⟩ k
        have f2 := hF 2 rfl
        have f3 := hF 3 rfl
        have f7 := hF 7 rfl
        simp only [↓Sh.dn, sx, Nat.reduceBEq, reduceCtorEq, Nat.reduceEqDiff] at f2 f3 f7
        have hJ' := hJ.grow (hk.grow hk4.wf)
        have hb' := hb4.kept hk4.wf hk
        have hu' := hu4.grow (hk.grow hk4.wf)
        obtain ⟨gj, oj, kj, wj, j1, j2, j3⟩ := hJ'.at Try.underlying30 size_22 (i := i) (r := strRow l[i]) (by rw [List.getElem?_map, List.getElem?_eq_getElem hi]; rfl)
        have hli : l[i] ∈ l := List.getElem_mem hi
        have hall := hT.sub _ hli
        obtain ⟨hbe, hac⟩ := word_ok hT.acc hall
        have hlen60 := (all_mem.1 hall).1.1
        have hsz16 : ∀ x ∈ l[i], x.size ≤ 1048576 := fun x hx => hsm.sx x ((all_mem.1 hall).1.2 x hx)
        have hget : l[i]? = some l[i] := List.getElem?_eq_getElem hi
        have htake : l.take (i + 1) = l.take i ++ [l[i]] := by rw [List.take_add_one, hget]; rfl
        generalize l[i] = q at j3 hli hall hbe hac hlen60 hsz16 htake hget
        have j3' : Sl H' wj 1 (q.map strCell) := j3
        obtain ⟨r5, H5, hd5, hk5, rfl⟩ := autoAccepts hb'.netAt hsm j3' (by omega) hsz16 hk.wf
        rw [hac, hbe] at hd5
        have hJ5 := hJ'.grow (hk5.grow hk.wf)
        have j5 := j3'.grow (hk5.grow hk.wf)
        have j2' := cell_grow (hk5.grow hk.wf) j2
        have hu5 := hu'.grow (hk5.grow hk.wf)
        obtain ⟨r7, H7, hd7, e7, rfl⟩ := refSame j5 hu5 (by omega) hwl hk5.wf
        rw [e7] at hd7
        have fin : ∀ {F2 : Fr}, Same (List.range' 43 47 ++ [10, 11, 12, 13]) F F2 → F2.get 10 = some (.bool (tB (w ∈ l.take (i + 1)))) → F2.get 11 = some (.int .i64 ((i + 1 : Nat) : Int)) → wp Try.prog (knows 6) _ _ F2 H5 := fun {F2} a1 a2 a3 => k F2 H5 a1 a3 ⟨hk.trans hk5, a2⟩
        have hmem : tB (w ∈ l.take (i + 1)) = (tB (w ∈ l.take i) || decide (q = w)) := by
          rw [htake, Bool.eq_iff_iff]
          simp only [tB_iff, decide_eq_true_eq, List.mem_append, List.mem_singleton, Bool.or_eq_true]
          constructor
          · rintro (h1 | h1)
            · exact .inl h1
            · exact .inr h1.symm
          · rintro (h1 | h1)
            · exact .inl h1
            · exact .inr h1.symm
        have wi : IntKind.wrap .i64 ((i : Int) + 1) = ((i + 1 : Nat) : Int) := wrap_succ' hi (by omega)
        simp only [↓Sh.dn, sx, Nat.reduceBEq, reduceCtorEq, Nat.reduceEqDiff, f7, f11, hlv, nat_lt, hi, decide_true]
        refine (wp_free (by kernel_rfl)).2 ?_
        simp only [↓Sh.dn, sx, Nat.reduceBEq, reduceCtorEq, Nat.reduceEqDiff, f3, f7, f11, hb'.c0, hb'.c1, hb'.c2, hb'.c3, hb'.ca, netLenS hb', netLenA hb', netLenE hb', Option.map_some, j1, j2]
        refine ⟨_, _, hd5, ?_⟩
        simp only [↓Sh.dn, sx, Nat.reduceBEq, reduceCtorEq, Nat.reduceEqDiff]
        refine (wp_free (by kernel_rfl)).2 ?_
        by_cases hi0 : 0 < i
        · have hpos : decide ((0 : Int) < (i : Int)) = true := by simp; omega
          obtain ⟨i', rfl⟩ : ∃ i', i = i' + 1 := ⟨i - 1, by omega⟩
          have hi' : i' < l.length := by omega
          have wl : IntKind.wrap .i64 (((i' + 1 : Nat) : Int) - 1) = (i' : Int) := by rw [wrap64 (by omega) (by omega)]; omega
          obtain ⟨gp, op, kp, wp', p1, p2, p3⟩ := hJ5.at Try.underlying30 size_22 (i := i') (r := strRow l[i']) (by rw [List.getElem?_map, List.getElem?_eq_getElem hi']; rfl)
          have hgp : l[i']? = some l[i'] := List.getElem?_eq_getElem hi'
          have hlp := (all_mem.1 (hT.sub _ (List.getElem_mem hi'))).1.1
          have hcmp := hT.ord i' _ _ hgp hget
          obtain ⟨r6, H6, hd6, e6, rfl⟩ := refCompare (l := l[i']) p3 j5 (by omega) (by omega) hk5.wf
          rw [hcmp, e6] at hd6
          simp only [↓Sh.dn, sx, Nat.reduceBEq, reduceCtorEq, Nat.reduceEqDiff, eq_self, decide_true, Bool.not_true, f7, f11, hpos, wl, p1, p2, j1, j2']
          refine ⟨_, _, hd6, ?_⟩
          have hm1 : decide ((0 : Int) ≤ -1) = false := rfl
          simp only [↓Sh.dn, sx, Nat.reduceBEq, reduceCtorEq, Nat.reduceEqDiff, hm1]
          cases hfd : tB (w ∈ l.take (i' + 1)) with
          | true =>
            rw [hfd] at f10 hmem
            simp only [↓Sh.dn, sx, Nat.reduceBEq, reduceCtorEq, Nat.reduceEqDiff, f10, f7, f11, wi]
            exact fin (by repeat (first | refine Same.put ?_ rfl | exact Same.rfl' _)) (by simp only [↓Sh.dn, sx, Nat.reduceBEq, reduceCtorEq, Nat.reduceEqDiff]; rw [hmem]; rfl) (by simp only [↓Sh.dn, sx, Nat.reduceBEq, reduceCtorEq, Nat.reduceEqDiff])
          | false =>
            rw [hfd] at f10 hmem
            simp only [↓Sh.dn, sx, Nat.reduceBEq, reduceCtorEq, Nat.reduceEqDiff, f10, f2, f7, f11, j1, j2']
            refine ⟨_, _, hd7, ?_⟩
            simp only [↓Sh.dn, sx, Nat.reduceBEq, reduceCtorEq, Nat.reduceEqDiff, f11, wi]
            exact fin (by repeat (first | refine Same.put ?_ rfl | exact Same.rfl' _)) (by simp only [↓Sh.dn, sx, Nat.reduceBEq, reduceCtorEq, Nat.reduceEqDiff]; rw [hmem, Bool.false_or]) (by simp only [↓Sh.dn, sx, Nat.reduceBEq, reduceCtorEq, Nat.reduceEqDiff])
        · have hpos : decide ((0 : Int) < (i : Int)) = false := by simp; omega
          simp only [↓Sh.dn, sx, Nat.reduceBEq, reduceCtorEq, Nat.reduceEqDiff, eq_self, decide_true, Bool.not_true, f11, hpos]
          cases hfd : tB (w ∈ l.take i) with
          | true =>
            rw [hfd] at f10 hmem
            simp only [↓Sh.dn, sx, Nat.reduceBEq, reduceCtorEq, Nat.reduceEqDiff, f10, f7, f11, wi]
            exact fin (by repeat (first | refine Same.put ?_ rfl | exact Same.rfl' _)) (by simp only [↓Sh.dn, sx, Nat.reduceBEq, reduceCtorEq, Nat.reduceEqDiff]; rw [hmem]; rfl) (by simp only [↓Sh.dn, sx, Nat.reduceBEq, reduceCtorEq, Nat.reduceEqDiff])
          | false =>
            rw [hfd] at f10 hmem
            simp only [↓Sh.dn, sx, Nat.reduceBEq, reduceCtorEq, Nat.reduceEqDiff, f10, f2, f7, f11, j1, j2']
            refine ⟨_, _, hd7, ?_⟩
            simp only [↓Sh.dn, sx, Nat.reduceBEq, reduceCtorEq, Nat.reduceEqDiff, f11, wi]
            exact fin (by repeat (first | refine Same.put ?_ rfl | exact Same.rfl' _)) (by simp only [↓Sh.dn, sx, Nat.reduceBEq, reduceCtorEq, Nat.reduceEqDiff]; rw [hmem, Bool.false_or]) (by simp only [↓Sh.dn, sx, Nat.reduceBEq, reduceCtorEq, Nat.reduceEqDiff])
      · rintro F H' hF f11 ⟨hk, f10⟩
        have f1 := hF 1 rfl
        have f2 := hF 2 rfl
        have f3 := hF 3 rfl
        have f7 := hF 7 rfl
        have f8 := hF 8 rfl
        simp only [↓Sh.dn, sx, Nat.reduceBEq, reduceCtorEq, Nat.reduceEqDiff] at f1 f2 f3 f7 f8
        rw [List.take_length] at f10
        have hJ' := hJ.grow (hk.grow hk4.wf)
        have hb' := hb4.kept hk4.wf hk
        have hu' := hu4.grow (hk.grow hk4.wf)
        obtain ⟨r5, H5, hd5, hk5, rfl⟩ := autoAccepts hb'.netAt hsm hu' hwl hwx hk.wf
        obtain ⟨r8, H8, hd8, e8, rfl⟩ := knownCall (H := H5)
        rw [e8] at hd8
        have hJ5 := hJ'.grow (hk5.grow hk.wf)
        have hu5 := hu'.grow (hk5.grow hk.wf)
        have hlm : decide ((l.length : Int) ≤ most) = true := decide_eq_true hT.few
        have hbm : b = true → decide ((l.length : Int) = most) = true := fun h => decide_eq_true (hT.full h)
        simp only [↓Sh.dn, sx, Nat.reduceBEq, reduceCtorEq, Nat.reduceEqDiff, f7, f11, hlv, nat_lt, Nat.lt_irrefl, decide_false, f2, f3, hb'.c0, hb'.c1, hb'.c2, hb'.c3, hb'.ca, netLenS hb', netLenA hb', netLenE hb', Option.map_some]
        refine ⟨_, _, hd5, ?_⟩
        by_cases hE : bothErr N w = 0
        case neg =>
          cases b with
          | false =>
            simp only [↓Sh.dn, sx, Nat.reduceBEq, reduceCtorEq, Nat.reduceEqDiff, hE, decide_false, f1, f7, f8, hlv, hlm]
            refine ⟨_, _, hd8, ?_⟩
            simp only [↓Sh.dn, sx, Nat.reduceBEq, reduceCtorEq, Nat.reduceEqDiff, hres]
          | true =>
            simp only [↓Sh.dn, sx, Nat.reduceBEq, reduceCtorEq, Nat.reduceEqDiff, hE, decide_false, f1, f7, f8, hlv, hlm, hbm rfl]
            refine ⟨_, _, hd8, ?_⟩
            simp only [↓Sh.dn, sx, Nat.reduceBEq, reduceCtorEq, Nat.reduceEqDiff, hres]
        cases hac : accB N w with
        | false =>
          cases b with
          | false =>
            simp only [↓Sh.dn, sx, Nat.reduceBEq, reduceCtorEq, Nat.reduceEqDiff, hE, decide_true, f1, f7, f8, hlv, hlm]
            refine ⟨_, _, hd8, ?_⟩
            simp only [↓Sh.dn, sx, Nat.reduceBEq, reduceCtorEq, Nat.reduceEqDiff, hres]
          | true =>
            simp only [↓Sh.dn, sx, Nat.reduceBEq, reduceCtorEq, Nat.reduceEqDiff, hE, decide_true, f1, f7, f8, hlv, hlm, hbm rfl]
            refine ⟨_, _, hd8, ?_⟩
            simp only [↓Sh.dn, sx, Nat.reduceBEq, reduceCtorEq, Nat.reduceEqDiff, hres]
        | true =>
        cases hfd : tB (w ∈ l) with
        | true =>
          rw [hfd] at f10
          cases b with
          | false =>
            simp only [↓Sh.dn, sx, Nat.reduceBEq, reduceCtorEq, Nat.reduceEqDiff, hE, decide_true, f1, f7, f8, f10, hlv, hlm]
            refine ⟨_, _, hd8, ?_⟩
            simp only [↓Sh.dn, sx, Nat.reduceBEq, reduceCtorEq, Nat.reduceEqDiff, hres]
          | true =>
            simp only [↓Sh.dn, sx, Nat.reduceBEq, reduceCtorEq, Nat.reduceEqDiff, hE, decide_true, f1, f7, f8, f10, hlv, hlm, hbm rfl]
            refine ⟨_, _, hd8, ?_⟩
            simp only [↓Sh.dn, sx, Nat.reduceBEq, reduceCtorEq, Nat.reduceEqDiff, hres]
        | false =>
        rw [hfd] at f10
        have hnot : w ∉ l := fun h => by rw [tB_iff.2 h] at hfd; cases hfd
        obtain ⟨rfl, hlast⟩ := hT.rest w (acc_all hE hac) hnot
        by_cases hl0 : l = []
        · have hz : decide ((0 : Int) < (l.length : Int)) = false := by rw [hl0]; rfl
          simp only [↓Sh.dn, sx, Nat.reduceBEq, reduceCtorEq, Nat.reduceEqDiff, hE, decide_true, f1, f7, f8, f10, hlv, hlm, hz, hbm rfl]
          refine ⟨_, _, hd8, ?_⟩
          simp only [↓Sh.dn, sx, Nat.reduceBEq, reduceCtorEq, Nat.reduceEqDiff, hres]
        · have hlp := List.length_pos_iff.2 hl0
          have hz : decide ((0 : Int) < (l.length : Int)) = true := by simp; omega
          have hi' : l.length - 1 < l.length := by omega
          have wl : IntKind.wrap .i64 ((l.length : Int) - 1) = ((l.length - 1 : Nat) : Int) := by rw [wrap64 (by omega) (by omega)]; omega
          obtain ⟨gp, op, kp, wp', p1, p2, p3⟩ := hJ5.at Try.underlying30 size_22 (i := l.length - 1) (r := strRow l[l.length - 1]) (by rw [List.getElem?_map, List.getElem?_eq_getElem hi']; rfl)
          have hlp2 := (all_mem.1 (hT.sub _ (List.getElem_mem hi'))).1.1
          have hcmp := hlast l[l.length - 1] (by rw [List.getLast?_eq_getElem?, List.getElem?_eq_getElem hi'])
          obtain ⟨r6, H6, hd6, e6, rfl⟩ := refCompare (m := l[l.length - 1]) hu5 p3 hwl (by omega) hk5.wf
          rw [hcmp, e6] at hd6
          have hm1 : decide ((1 : Int) < 0) = false := rfl
          simp only [↓Sh.dn, sx, Nat.reduceBEq, reduceCtorEq, Nat.reduceEqDiff, hE, decide_true, f1, f2, f7, f8, f10, hlv, hz, wl, p1, p2]
          refine ⟨_, _, hd6, ?_⟩
          simp only [↓Sh.dn, sx, Nat.reduceBEq, reduceCtorEq, Nat.reduceEqDiff, hm1, f1, f7, f8, hlv, hlm, hbm rfl]
          refine ⟨_, _, hd8, ?_⟩
          simp only [↓Sh.dn, sx, Nat.reduceBEq, reduceCtorEq, Nat.reduceEqDiff, hres]
theorem lawMain {H : AH} {avs : List Value} {K : Type} {ds : List (DataW K)} (hb : Rows.uptoBulkAll ds ≤ 1048576) (hw : Wf H) (hr : RDs Try.prog H [26, 3, 22] avs ds) (hfl : Flat Try.prog [26, 3, 22] avs) :
    Sh.Call Try.prog (knows 6) 3 avs H (fun r _ => r = .bool true) := by
  obtain ⟨v, n, N, vs, ds', rfl, ⟨hn⟩, hsm, hsz, hn1, hn2, hr', hb'⟩ := net_int_in hb hr hfl
  obtain ⟨u, w, rfl, hsl, hl, hx⟩ := strs_last hb' hr' hfl
  exact autoTellsLaw hn hsm hsz hsl hl hx hw
end Go.Proofs.Ytcgbiedfbacgpaa
