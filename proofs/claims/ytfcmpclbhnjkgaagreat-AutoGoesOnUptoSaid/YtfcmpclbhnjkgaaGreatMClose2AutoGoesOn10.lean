/- A part of the proof: LawKit, LawAutoGoesOn. -/
import Derived.Test.YtfcmpclbhnjkgaaGreatMClose2AutoGoesOn8
import Derived.Test.YtfcmpclbhnjkgaaGreatMClose2AutoGoesOn9
import Derived.ProofKit
set_option linter.unusedVariables false
set_option linter.unusedSimpArgs false
/- What laws of a net and a word have alike. -/
set_option maxHeartbeats 4000000
set_option maxRecDepth 20000
set_option linter.unusedSimpArgs false
set_option linter.unusedVariables false
set_option pp.deepTerms.threshold 8
namespace Go.Proofs.YtfcmpclbhnjkgaaGreat
open Go Go.Proofs Go.Proofs.Sh
theorem knownCall {H : AH} : Sh.Call Tryz.prog (knows 10) 10 [] H (fun r H' => H' = H ∧ r = .bool true) := ⟨_, _, ⟨0, rfl⟩, rfl, rfl⟩
theorem boolEq {c b : Bool} : abin Tryz.prog 4 c .eql (.bool b) (.bool b) = some (.bool true) := by
  unfold abin aeq eqMay eqDepth
  simp only [eqT, Tryz.underlying4, cond_true, beq_self_eq_true, Option.map_some]
theorem one_jag {H : AH} {u : Value} {w : List ByteArray} (hu : Sl H u 1 (w.map strCell)) (hw : Wf H) : JagR (H.new 1 [u]).2 (.slice (some ⟨H.next, 0, some 0⟩) 1 1) 1 ([w].map fun w => w.map strCell) [u] := by
  have k := Kept.new hw 1 [u]
  refine ⟨(Buf.fresh (H := H) (s := 1) (xs := [[u]]) hw (by intro x hx; rw [List.mem_singleton.1 hx]; rfl) (by simp) 1 rfl).toSl, rfl, fun i w' r h1 h2 => ?_⟩
  cases i with
  | zero =>
    simp only [List.map_cons, List.map_nil, List.getElem?_cons_zero, Option.some.injEq] at h1 h2
    subst h1 h2
    exact hu.grow (k.grow hw)
  | succ i => simp at h1
theorem sizes_el {L : List ByteArray} {m : Nat} (h : sizes L + L.length ≤ m) : L.length ≤ m ∧ ∀ x ∈ L, x.size ≤ m := ⟨by omega, fun x hx => by have := sizes_mem hx; omega⟩
/-- A net and a list of texts come in. -/
theorem netStrs_in {H : AH} {avs : List Value} {K : Type} {ds : List (DataW K)} (hb : Rows.uptoBulkAll ds ≤ 1048576) (hr : RDs Tryz.prog H [26, 22] avs ds) (hfl : Flat Tryz.prog [26, 22] avs) :
    ∃ v u, ∃ N : NetD, ∃ w : List ByteArray, avs = [v, u] ∧ Nonempty (NetAt H v N) ∧ NetSmall N ∧ sizes N.sigma ≤ 1048576 ∧ Sl H u 1 (w.map strCell) ∧ w.length ≤ 1048576 ∧ ∀ x ∈ w, x.size ≤ 1048576 := by
  obtain ⟨v, vs, d, ds, rfl, rfl, ⟨f, h1⟩, h2⟩ := hr.cons_inv
  obtain ⟨v2, vs, d2, ds, rfl, rfl, ⟨f2, h3⟩, h4⟩ := h2.cons_inv
  obtain ⟨rfl, rfl⟩ := h4.nil_inv
  simp only [Rows.uptoBulkAll, Nat.add_zero] at hb
  obtain ⟨N, ⟨hn⟩, hsm, hsz⟩ := net_in h1 (by omega)
  obtain ⟨u, L, hu, hsl, hLb⟩ := strs_in h3
  obtain ⟨hl, hx⟩ := sizes_el (L := L) (m := 1048576) (by omega)
  have hv2 : v2 = u := by
    cases v2 with
    | agg cs =>
      have := hfl 1 _ _ rfl rfl
      unfold isAggT at this
      rw [Tryz.underlying22] at this
      cases this
    | _ => exact List.head_eq_of_cons_eq hu
  subst hv2
  exact ⟨v, v2, N, L, rfl, ⟨hn⟩, hsm, hsz, hsl, hl, hx⟩
end Go.Proofs.YtfcmpclbhnjkgaaGreat
/- For every net, of any kind, and every list of texts: auto.Next answers what the reference answers. -/
set_option maxHeartbeats 4000000
set_option maxRecDepth 20000
set_option linter.unusedSimpArgs false
set_option linter.unusedVariables false
set_option pp.deepTerms.threshold 8
namespace Go.Proofs.YtfcmpclbhnjkgaaGreat
open Go Go.Proofs Go.Proofs.Sh
theorem autoGoesOnLaw {H : AH} {v u : Value} {N : NetD} {w : List ByteArray} (h : NetAt H v N) (hsm : NetSmall N) (hsz : sizes N.sigma ≤ 1048576) (hu : Sl H u 1 (w.map strCell)) (hwl : w.length ≤ 1048576) (hwx : ∀ x ∈ w, x.size ≤ 1048576) (hw : Wf H) :
    Sh.Call Tryz.prog (knows 10) 7 [v, u] H (fun r _ => r = .bool true) := by
  refine call_of rfl Tryz.func7 rfl (Nat.le_of_ble_eq_true rfl) ?_
  have hres : Tryz.f7.results.toList = [.tmp 4] := rfl
  obtain ⟨sg, ar, en, rfl, hsg, har, hen⟩ := h
  have hb1 := NetBox.of (N := N) hw hsg har hen
  have hk1 : Kept H (H.new 4 [sg, .int .i64 N.states, ar, en]).2 := Kept.new hw 4 _
  simp only [↓Sh.dn, sx, Nat.reduceBEq, reduceCtorEq, Nat.reduceEqDiff, netNew hsg.isCell har.isCell hen.isCell]
  generalize H.next = gg at hb1 ⊢
  generalize (H.new 4 [sg, .int .i64 N.states, ar, en]).2 = H1 at hb1 hk1 ⊢
  simp only [↓Sh.dn, sx, Nat.reduceBEq, reduceCtorEq, Nat.reduceEqDiff, hb1.c0, hb1.c1, hb1.c2, hb1.c3, hb1.ca, netLenS hb1, netLenA hb1, netLenE hb1, Option.map_some]
  obtain ⟨r, H2, hd, hk2, rfl⟩ := isOver hb1.netAt hsm hsz hk1.wf
  refine ⟨_, _, hd, ?_⟩
  have hb2 := hb1.kept hk1.wf hk2
  have hu2 := hu.grow ((hk1.trans hk2).grow hw)
  cases ho : decide (262144 < netSize N) with
  | true =>
    obtain ⟨r, H3, hd3, rfl, rfl⟩ := knownCall (H := H2)
    simp only [↓Sh.dn, sx, Nat.reduceBEq, reduceCtorEq, Nat.reduceEqDiff]
    refine ⟨_, _, hd3, ?_⟩
    simp only [↓Sh.dn, sx, Nat.reduceBEq, reduceCtorEq, Nat.reduceEqDiff, hres]
  | false =>
    have hbs := build1_29 (H := H2) (x := u) (by rw [cell_vcells hu.isCell]; rfl) (by rw [cell_vcells hu.isCell]; simp [hu.isCell])
    rw [cell_vcells hu.isCell] at hbs
    have kn := Kept.new hk2.wf 1 [u]
    obtain ⟨r, K1, hd1, rfl, rfl⟩ := isLong (one_jag hu2 hk2.wf) (by simp) (fun w' hw' => by rw [List.mem_singleton.1 hw']; exact ⟨hwl, hwx⟩) kn.wf
    simp only [↓Sh.dn, sx, Nat.reduceBEq, reduceCtorEq, Nat.reduceEqDiff, hbs]
    refine ⟨_, _, hd1, ?_⟩
    cases hlg : decide (16384 < textN [w]) with
    | true =>
      obtain ⟨r, H3, hd3, rfl, rfl⟩ := knownCall (H := (H2.new 1 [u]).2)
      simp only [↓Sh.dn, sx, Nat.reduceBEq, reduceCtorEq, Nat.reduceEqDiff]
      refine ⟨_, _, hd3, ?_⟩
      simp only [↓Sh.dn, sx, Nat.reduceBEq, reduceCtorEq, Nat.reduceEqDiff, hres]
    | false =>
      have hb3 := hb2.kept hk2.wf kn
      have hu3 := hu2.grow (kn.grow hk2.wf)
      obtain ⟨r4, H4, hd4, hk4, l4, rfl, hl4⟩ := autoNext hb3.netAt hsm hu3 hwl hwx kn.wf
      have hb4 := hb3.kept kn.wf hk4
      have hu4 := hu3.grow (hk4.grow kn.wf)
      obtain ⟨r5, H5, hd5, hk5, l5, rfl, hl5⟩ := refNext hb4.netAt hsm hu4 hwl hwx hk4.wf
      have hnl : (nextL N w).length ≤ 1048576 := by
        unfold nextL
        split
        · exact Nat.le_trans (List.length_filter_le _ _) hsm.sg
        · exact Nat.zero_le _
      obtain ⟨r6, H6, hd6, rfl, rfl⟩ := refSame (hl4.grow (hk5.grow hk4.wf)) hl5 hnl hnl hk5.wf
      obtain ⟨r8, H8, hd8, rfl, rfl⟩ := knownCall (H := H6)
      simp only [↓Sh.dn, sx, Nat.reduceBEq, reduceCtorEq, Nat.reduceEqDiff, hb3.c0, hb3.c1, hb3.c2, hb3.c3, hb3.ca, netLenS hb3, netLenA hb3, netLenE hb3, Option.map_some]
      refine ⟨_, _, hd4, ?_⟩
      simp only [↓Sh.dn, sx, Nat.reduceBEq, reduceCtorEq, Nat.reduceEqDiff, hb4.c0, hb4.c1, hb4.c2, hb4.c3, hb4.ca, netLenS hb4, netLenA hb4, netLenE hb4, Option.map_some]
      refine ⟨_, _, hd5, ?_⟩
      simp only [↓Sh.dn, sx, Nat.reduceBEq, reduceCtorEq, Nat.reduceEqDiff]
      refine ⟨_, _, hd6, ?_⟩
      simp only [↓Sh.dn, sx, Nat.reduceBEq, reduceCtorEq, Nat.reduceEqDiff, boolEq, decide_true]
      refine ⟨_, _, hd8, ?_⟩
      simp only [↓Sh.dn, sx, Nat.reduceBEq, reduceCtorEq, Nat.reduceEqDiff, hres]
theorem lawMain {H : AH} {avs : List Value} {K : Type} {ds : List (DataW K)} (hb : Rows.uptoBulkAll ds ≤ 1048576) (hw : Wf H) (hr : RDs Tryz.prog H [26, 22] avs ds) (hfl : Flat Tryz.prog [26, 22] avs) :
    Sh.Call Tryz.prog (knows 10) 7 avs H (fun r _ => r = .bool true) := by
  obtain ⟨v, u, N, w, rfl, ⟨hn⟩, hsm, hsz, hsl, hl, hx⟩ := netStrs_in hb hr hfl
  exact autoGoesOnLaw hn hsm hsz hsl hl hx hw
end Go.Proofs.YtfcmpclbhnjkgaaGreat
