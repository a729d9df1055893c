/- A part of the proof: LawKit, LawAutoReverses. -/
import Derived.Test.YtfcmpclbhnjkgaaGreatMClose2AutoReverses10
import Derived.Test.YtfcmpclbhnjkgaaGreatMClose2AutoReverses11
import Derived.ProofKit
import Derived.Test.YtfcmpclbhnjkgaaGreatMClose2AutoReverses9
set_option linter.unusedVariables false
set_option linter.unusedSimpArgs false
/- What laws of a net and a word have alike. -/
set_option maxHeartbeats 4000000
set_option maxRecDepth 20000
set_option linter.unusedSimpArgs false
set_option linter.unusedVariables false
set_option pp.deepTerms.threshold 8
namespace Go.Proofs.YtfcmpclbhnjkgaaGreat
open Go Go.Proofs Go.Proofs.Sh
theorem knownCall {H : AH} : Sh.Call Tryz.prog (knows 10) 10 [] H (fun r H' => H' = H ∧ r = .bool true) := ⟨_, _, ⟨0, rfl⟩, rfl, rfl⟩
theorem boolEq {c b : Bool} : abin Tryz.prog 4 c .eql (.bool b) (.bool b) = some (.bool true) := by
  unfold abin aeq eqMay eqDepth
  simp only [eqT, Tryz.underlying4, cond_true, beq_self_eq_true, Option.map_some]
theorem one_jag {H : AH} {u : Value} {w : List ByteArray} (hu : Sl H u 1 (w.map strCell)) (hw : Wf H) : JagR (H.new 1 [u]).2 (.slice (some ⟨H.next, 0, some 0⟩) 1 1) 1 ([w].map fun w => w.map strCell) [u] := by
  have k := Kept.new hw 1 [u]
  refine ⟨(Buf.fresh (H := H) (s := 1) (xs := [[u]]) hw (by intro x hx; rw [List.mem_singleton.1 hx]; rfl) (by simp) 1 rfl).toSl, rfl, fun i w' r h1 h2 => ?_⟩
  cases i with
  | zero =>
    simp only [List.map_cons, List.map_nil, List.getElem?_cons_zero, Option.some.injEq] at h1 h2
    subst h1 h2
    exact hu.grow (k.grow hw)
  | succ i => simp at h1
theorem sizes_el {L : List ByteArray} {m : Nat} (h : sizes L + L.length ≤ m) : L.length ≤ m ∧ ∀ x ∈ L, x.size ≤ m := ⟨by omega, fun x hx => by have := sizes_mem hx; omega⟩
/-- A net and a list of texts come in. -/
theorem netStrs_in {H : AH} {avs : List Value} {K : Type} {ds : List (DataW K)} (hb : Rows.uptoBulkAll ds ≤ 1048576) (hr : RDs Tryz.prog H [26, 22] avs ds) (hfl : Flat Tryz.prog [26, 22] avs) :
    ∃ v u, ∃ N : NetD, ∃ w : List ByteArray, avs = [v, u] ∧ Nonempty (NetAt H v N) ∧ NetSmall N ∧ sizes N.sigma ≤ 1048576 ∧ Sl H u 1 (w.map strCell) ∧ w.length ≤ 1048576 ∧ ∀ x ∈ w, x.size ≤ 1048576 := by
  obtain ⟨v, vs, d, ds, rfl, rfl, ⟨f, h1⟩, h2⟩ := hr.cons_inv
  obtain ⟨v2, vs, d2, ds, rfl, rfl, ⟨f2, h3⟩, h4⟩ := h2.cons_inv
  obtain ⟨rfl, rfl⟩ := h4.nil_inv
  simp only [Rows.uptoBulkAll, Nat.add_zero] at hb
  obtain ⟨N, ⟨hn⟩, hsm, hsz⟩ := net_in h1 (by omega)
  obtain ⟨u, L, hu, hsl, hLb⟩ := strs_in h3
  obtain ⟨hl, hx⟩ := sizes_el (L := L) (m := 1048576) (by omega)
  have hv2 : v2 = u := by
    cases v2 with
    | agg cs =>
      have := hfl 1 _ _ rfl rfl
      unfold isAggT at this
      rw [Tryz.underlying22] at this
      cases this
    | _ => exact List.head_eq_of_cons_eq hu
  subst hv2
  exact ⟨v, v2, N, L, rfl, ⟨hn⟩, hsm, hsz, hsl, hl, hx⟩
end Go.Proofs.YtfcmpclbhnjkgaaGreat
/- For every net, of any kind, and every list of texts: auto.Reverse answers with a net that reads the words from their ends. -/
set_option maxHeartbeats 4000000
set_option maxRecDepth 20000
set_option linter.unusedSimpArgs false
set_option linter.unusedVariables false
set_option pp.deepTerms.threshold 8
namespace Go.Proofs.YtfcmpclbhnjkgaaGreat
open Go Go.Proofs Go.Proofs.Sh
theorem rev_acc {N M : NetD} (hr : RevOf N M) (ha : accErr N = 0) (h3 : N.states ≠ 3000) (h6 : N.arcs.length + N.ends.length ≤ 60000) : accErr M = 0 := by
  have hok := accErr_ok ha
  have hs1 := hok.st1
  have hs2 := hok.st2
  have hst := hr.st
  have hln := hr.len
  have hel := hr.enl
  have hsy : ∀ x, x = ⟨#[]⟩ ∨ x ∈ N.sigma → badSym M x = false := fun x hx => by
    unfold badSym
    rw [hr.sg]
    rcases hx with rfl | hx
    · simp
    · simp [strIn_iff.2 hx]
  have hl : ∀ b ∈ N.arcs, b.inn = b.out ∧ b.cost = 0 := fun b hb => by
    unfold accErr at ha
    rw [if_neg (by
      have : netErr N = 0 := by
        by_cases h : netErr N = 0
        · exact h
        · rw [if_pos h] at ha; exact absurd ha h
      simp [this])] at ha
    by_cases hu : unlike N = true
    · rw [if_pos hu] at ha; omega
    · rw [if_neg hu] at ha
      by_cases hf : NetD.free N = true
      · simp only [NetD.free, Bool.and_eq_true, List.all_eq_true, decide_eq_true_eq] at hf
        refine ⟨?_, hf.1 b hb⟩
        by_cases hx : b.inn = b.out
        · exact hx
        · exfalso
          apply hu
          unfold unlike
          exact List.any_eq_true.2 ⟨b, hb, by simp [hx]⟩
      · rw [if_neg hf] at ha; omega
  have hn : netErr M = 0 := by
    unfold netErr
    rw [if_neg, if_neg, if_neg, if_neg, if_neg]
    · intro h
      obtain ⟨e, he, hb⟩ := List.any_eq_true.1 h
      rw [(hr.fin e).1 he] at hb
      simp only [badEnd, Bool.or_eq_true, decide_eq_true_eq] at hb
      omega
    · intro h
      obtain ⟨a, h1, hb⟩ := List.any_eq_true.1 h
      simp only [badArc, Bool.or_eq_true, decide_eq_true_eq] at hb
      rcases (hr.arc a).1 h1 with ⟨b, hb1, rfl⟩ | ⟨s, ⟨e, he, hes⟩, rfl⟩
      · obtain ⟨k1, k2, k3, k4, k5, k6⟩ := hok.arc b hb1
        simp only [hsy _ k5, hsy _ k6, Bool.false_eq_true, or_false] at hb
        omega
      · obtain ⟨k1, k2⟩ := hok.fin e he
        simp only [hsy ⟨#[]⟩ (.inl rfl), Bool.false_eq_true, or_false] at hb
        omega
    · omega
    · rw [hr.sg]; simp [hok.sig]
    · simp only [tooLarge, Bool.or_eq_true, decide_eq_true_eq]; omega
  unfold accErr
  rw [if_neg (by simp [hn]), if_neg, if_pos]
  · simp only [NetD.free, Bool.and_eq_true, List.all_eq_true, decide_eq_true_eq]
    refine ⟨fun a h1 => ?_, fun e he => by rw [(hr.fin e).1 he]⟩
    rcases (hr.arc a).1 h1 with ⟨b, hb1, rfl⟩ | ⟨s, _, rfl⟩
    · exact (hl b hb1).2
    · rfl
  · intro h
    obtain ⟨a, h1, hb⟩ := List.any_eq_true.1 h
    rcases (hr.arc a).1 h1 with ⟨b, hb1, rfl⟩ | ⟨s, _, rfl⟩
    · simp [(hl b hb1).1] at hb
    · simp at hb
theorem rev_accepts {N M : NetD} (hr : RevOf N M) (hok : NetOk N) (w : List ByteArray) : accepts N w ↔ accepts M w.reverse := by
  have h1 : ∀ x s t, N.goes x s t → M.goes x (t + 1) (s + 1) := by
    rintro x s t ⟨a, ha, h1, h2, h3⟩
    exact ⟨_, (hr.arc _).2 (.inl ⟨a, ha, rfl⟩), by simp only; omega, h2, by simp only; omega⟩
  have h2 : ∀ x t u, M.goes x (t + 1) u → ∃ s, u = s + 1 ∧ N.goes x s t := by
    rintro x t u ⟨a, ha, h1, h2, h3⟩
    rcases (hr.arc a).1 ha with ⟨b, hb1, rfl⟩ | ⟨s, _, rfl⟩
    · obtain ⟨k1, _, k3, _⟩ := hok.arc b hb1
      simp only at h1 h2 h3
      exact ⟨b.fr.toNat, by omega, b, hb1, by omega, h2, by omega⟩
    · simp only at h1; omega
  have h3 : ∀ x u, M.goes x 0 u ↔ x = noText ∧ ∃ s, u = s + 1 ∧ N.isEnd s := by
    intro x u
    constructor
    · rintro ⟨a, ha, h1, h2, h3⟩
      rcases (hr.arc a).1 ha with ⟨b, hb1, rfl⟩ | ⟨s, hs, rfl⟩
      · obtain ⟨k1, _, k3, _⟩ := hok.arc b hb1
        simp only at h1; omega
      · simp only at h2 h3
        exact ⟨h2.symm, s, by omega, hs⟩
    · rintro ⟨rfl, s, rfl, hs⟩
      exact ⟨_, (hr.arc _).2 (.inr ⟨s, hs, rfl⟩), rfl, rfl, by simp only; omega⟩
  have he : ∀ t, M.isEnd t ↔ t = 1 := fun t => by
    constructor
    · rintro ⟨e, h, h'⟩
      rw [(hr.fin e).1 h] at h'
      simp only at h'; omega
    · rintro rfl
      exact ⟨_, (hr.fin _).2 rfl, rfl⟩
  have hne : (∀ x ∈ w.reverse, x ≠ noText) ↔ ∀ x ∈ w, x ≠ noText := by simp only [List.mem_reverse]
  unfold accepts
  rw [hne]
  refine and_congr_right fun hx => ?_
  have := turned_accepts h1 h2 h3 w
  constructor
  · rintro ⟨t, hr', ht⟩
    obtain ⟨s, rfl, hp⟩ := (run_path (S := fun s => s = 0) hx).1 hr'
    exact ⟨1, (run_path (S := fun s => s = 0) (hne.2 hx)).2 ⟨0, rfl, this.1 ⟨t, hp, ht⟩⟩, (he 1).2 rfl⟩
  · rintro ⟨t, hr', ht⟩
    rw [(he t).1 ht] at hr'
    obtain ⟨s, rfl, hp⟩ := (run_path (S := fun s => s = 0) (hne.2 hx)).1 hr'
    obtain ⟨t, hp, ht⟩ := this.2 hp
    exact ⟨t, (run_path (S := fun s => s = 0) hx).2 ⟨0, rfl, hp⟩, ht⟩
theorem word_rev (w : List ByteArray) : wordErr w.reverse = wordErr w := by
  unfold wordErr anyLongB
  simp only [List.length_reverse, List.any_reverse, List.all_reverse]
theorem revErr_eq (N : NetD) : refRevErr N = revErr N := by
  unfold refRevErr revErr
  by_cases h : accErr N = 0
  · have := (accErr_ok h).st2
    have e : (3000 ≤ N.states ∨ 60000 < N.arcs.length + N.ends.length) ↔ (N.states = 3000 ∨ 60000 < N.arcs.length + N.ends.length) := by omega
    simp only [h, ne_eq, not_true_eq_false, if_false, e]
  · rw [if_pos h, if_pos h]
theorem revErr_zero {N : NetD} (h : revErr N = 0) : accErr N = 0 ∧ N.states ≠ 3000 ∧ N.arcs.length + N.ends.length ≤ 60000 := by
  unfold revErr at h
  by_cases ha : accErr N = 0
  · rw [if_neg (by simp [ha])] at h
    by_cases hb : N.states = 3000 ∨ 60000 < N.arcs.length + N.ends.length
    · rw [if_pos hb] at h; omega
    · exact ⟨ha, by omega, by omega⟩
  · rw [if_pos ha] at h; exact absurd h ha
theorem bothErr_rev {N M : NetD} (h : accErr M = accErr N) (w : List ByteArray) : bothErr M w.reverse = bothErr N w := by
  unfold bothErr
  rw [h, word_rev]
theorem accB_rev {N M : NetD} (hr : RevOf N M) (hz : revErr N = 0) (w : List ByteArray) : accB M w.reverse = accB N w ∧ bothErr M w.reverse = bothErr N w := by
  obtain ⟨ha, h3, h6⟩ := revErr_zero hz
  have e := bothErr_rev ((rev_acc hr ha h3 h6).trans ha.symm) w
  refine ⟨?_, e⟩
  unfold accB
  rw [e, rev_accepts hr (accErr_ok ha) w]
theorem autoReversesLaw {H : AH} {v u : Value} {N : NetD} {w : List ByteArray} (h : NetAt H v N) (hsm : NetSmall N) (hsz : sizes N.sigma ≤ 1048576) (hu : Sl H u 1 (w.map strCell)) (hwl : w.length ≤ 1048576) (hwx : ∀ x ∈ w, x.size ≤ 1048576) (hw : Wf H) :
    Sh.Call Tryz.prog (knows 10) 5 [v, u] H (fun r _ => r = .bool true) := by
  refine call_of rfl Tryz.func5 rfl (Nat.le_of_ble_eq_true rfl) ?_
  have hres : Tryz.f5.results.toList = [.tmp 4] := rfl
  obtain ⟨sg, ar, en, rfl, hsg, har, hen⟩ := h
  have hb1 := NetBox.of (N := N) hw hsg har hen
  have hk1 : Kept H (H.new 4 [sg, .int .i64 N.states, ar, en]).2 := Kept.new hw 4 _
  simp only [↓Sh.dn, sx, Nat.reduceBEq, reduceCtorEq, Nat.reduceEqDiff, netNew hsg.isCell har.isCell hen.isCell]
  generalize H.next = gg at hb1 ⊢
  generalize (H.new 4 [sg, .int .i64 N.states, ar, en]).2 = H1 at hb1 hk1 ⊢
  simp only [↓Sh.dn, sx, Nat.reduceBEq, reduceCtorEq, Nat.reduceEqDiff, hb1.c0, hb1.c1, hb1.c2, hb1.c3, hb1.ca, netLenS hb1, netLenA hb1, netLenE hb1, Option.map_some]
  obtain ⟨r, H2, hd, hk2, rfl⟩ := isOver hb1.netAt hsm hsz hk1.wf
  refine ⟨_, _, hd, ?_⟩
  have hb2 := hb1.kept hk1.wf hk2
  have hu2 := hu.grow ((hk1.trans hk2).grow hw)
  cases ho : decide (262144 < netSize N) with
  | true =>
    obtain ⟨r, H3, hd3, rfl, rfl⟩ := knownCall (H := H2)
    simp only [↓Sh.dn, sx, Nat.reduceBEq, reduceCtorEq, Nat.reduceEqDiff]
    refine ⟨_, _, hd3, ?_⟩
    simp only [↓Sh.dn, sx, Nat.reduceBEq, reduceCtorEq, Nat.reduceEqDiff, hres]
  | false =>
    have hbs := build1_29 (H := H2) (x := u) (by rw [cell_vcells hu.isCell]; rfl) (by rw [cell_vcells hu.isCell]; simp [hu.isCell])
    rw [cell_vcells hu.isCell] at hbs
    have kn := Kept.new hk2.wf 1 [u]
    obtain ⟨r, K1, hd1, rfl, rfl⟩ := isLong (one_jag hu2 hk2.wf) (by simp) (fun w' hw' => by rw [List.mem_singleton.1 hw']; exact ⟨hwl, hwx⟩) kn.wf
    simp only [↓Sh.dn, sx, Nat.reduceBEq, reduceCtorEq, Nat.reduceEqDiff, hbs]
    refine ⟨_, _, hd1, ?_⟩
    cases hlg : decide (16384 < textN [w]) with
    | true =>
      obtain ⟨r, H3, hd3, rfl, rfl⟩ := knownCall (H := (H2.new 1 [u]).2)
      simp only [↓Sh.dn, sx, Nat.reduceBEq, reduceCtorEq, Nat.reduceEqDiff]
      refine ⟨_, _, hd3, ?_⟩
      simp only [↓Sh.dn, sx, Nat.reduceBEq, reduceCtorEq, Nat.reduceEqDiff, hres]
    | false =>
      have hb3 := hb2.kept hk2.wf kn
      have hu3 := hu2.grow (kn.grow hk2.wf)
      obtain ⟨r4, H4, hd4, hk4, mv, rfl, hme, hmo⟩ := autoReverse hb3.netAt hsm kn.wf
      have hb4 := hb3.kept kn.wf hk4
      have hu4 := hu3.grow (hk4.grow kn.wf)
      simp only [↓Sh.dn, sx, Nat.reduceBEq, reduceCtorEq, Nat.reduceEqDiff, hb3.c0, hb3.c1, hb3.c2, hb3.c3, hb3.ca, netLenS hb3, netLenA hb3, netLenE hb3, Option.map_some]
      refine ⟨_, _, hd4, ?_⟩
      -- what comes out lies in a box of its own
      have hM : ∃ M : NetD, Nonempty (NetAt H4 mv M) ∧ (revErr N = 0 → RevOf N M) ∧ (revErr N ≠ 0 → M = ⟨[], 0, [], []⟩) := by
        by_cases hz : revErr N = 0
        · obtain ⟨M, h1, h2⟩ := hmo hz
          exact ⟨M, h1, fun _ => h2, fun h => absurd hz h⟩
        · refine ⟨⟨[], 0, [], []⟩, ⟨?_⟩, fun h => absurd h hz, fun _ => rfl⟩
          rw [hme hz]
          exact ⟨_, _, _, rfl, (Buf.void (H := H4) (s := 1) none).toSl, (Buf.void (H := H4) (s := 5) none).toSl, (Buf.void (H := H4) (s := 2) none).toSl⟩
      obtain ⟨M, ⟨hMa⟩, hM1, hM2⟩ := hM
      have hMs : NetSmall M := by
        by_cases hz : revErr N = 0
        · have hr := hM1 hz
          exact ⟨by rw [hr.sg]; exact hsm.sg, by have := hr.len; have := (revErr_zero hz).2.2; omega, by have := hr.enl; omega, by rw [hr.sg]; exact hsm.sx⟩
        · rw [hM2 hz]; exact ⟨by simp, by simp, by simp, by simp⟩
      obtain ⟨sgM, arM, enM, rfl, q1, q2, q3⟩ := hMa
      have hc1 := NetBox.of (N := M) hk4.wf q1 q2 q3
      have kc := Kept.new hk4.wf 4 [sgM, .int .i64 M.states, arM, enM]
      have hb5 := hb4.kept hk4.wf kc
      have hu5 := hu4.grow (kc.grow hk4.wf)
      simp only [↓Sh.dn, sx, Nat.reduceBEq, reduceCtorEq, Nat.reduceEqDiff, netZero, netStore q1.isCell q2.isCell q3.isCell, netOver, Option.map_some]
      generalize (H4.new 4 [sgM, .int .i64 M.states, arM, enM]).2 = H5 at hc1 kc hb5 hu5 ⊢
      generalize H4.next = gm at hc1 ⊢
      obtain ⟨r6, H6, hd6, hk6, mv2, rfl, a2, m2, c2, d2, rfl, i1, i2, i3⟩ := refReverse hb5.netAt hsm kc.wf
      have hb6 := hb5.kept kc.wf hk6
      have hc6 := hc1.kept kc.wf hk6
      have hu6 := hu5.grow (hk6.grow kc.wf)
      have kd := Kept.new hk6.wf 4 [a2, .int .i64 m2, c2, d2]
      have hb7 := hb6.kept hk6.wf kd
      have hc7 := hc6.kept hk6.wf kd
      have hu7 := hu6.grow (kd.grow hk6.wf)
      simp only [↓Sh.dn, sx, Nat.reduceBEq, reduceCtorEq, Nat.reduceEqDiff, hb5.c0, hb5.c1, hb5.c2, hb5.c3, hb5.ca, netLenS hb5, netLenA hb5, netLenE hb5, Option.map_some]
      refine ⟨_, _, hd6, ?_⟩
      simp only [↓Sh.dn, sx, Nat.reduceBEq, reduceCtorEq, Nat.reduceEqDiff, netZero, netStore i1 i2 i3, netOver, Option.map_some, revErr_eq, decide_true]
      generalize (H6.new 4 [a2, .int .i64 m2, c2, d2]).2 = H7 at kd hb7 hc7 hu7 ⊢
      by_cases hz : revErr N = 0
      case neg =>
        have hM3 := hM2 hz
        subst hM3
        have bz : abuild Tryz.prog 26 [] = some (.agg #[.slice none 0 0, .int .i64 0, .slice none 0 0, .slice none 0 0]) := by
          have va : ∀ xs : Array Value, vcells (.agg xs) = xs.toList := fun _ => rfl
          refine build_struct (pl := [(0, 1), (1, 1), (2, 1), (3, 1)]) Tryz.underlying26 zero_26 (by kernel_rfl) ?_
          simp [fillA, va]
        have zn : NetAt H7 (.agg #[.slice none 0 0, .int .i64 0, .slice none 0 0, .slice none 0 0]) ⟨[], 0, [], []⟩ := ⟨_, _, _, rfl, (Buf.void (H := H7) (s := 1) none).toSl, (Buf.void (H := H7) (s := 5) none).toSl, (Buf.void (H := H7) (s := 2) none).toSl⟩
        obtain ⟨r8, H8, hd8, hk8, rfl⟩ := sameNet hc7.netAt zn hMs kd.wf
        obtain ⟨r9, H9, hd9, rfl, rfl⟩ := knownCall (H := H8)
        simp only [↓Sh.dn, sx, Nat.reduceBEq, reduceCtorEq, Nat.reduceEqDiff, hc7.c0, hc7.c1, hc7.c2, hc7.c3, hc7.ca, netLenS hc7, netLenA hc7, netLenE hc7, hz, decide_false, bz, Option.map_some]
        refine ⟨_, _, hd8, ?_⟩
        simp only [↓Sh.dn, sx, Nat.reduceBEq, reduceCtorEq, Nat.reduceEqDiff]
        refine ⟨_, _, hd9, ?_⟩
        simp only [↓Sh.dn, sx, Nat.reduceBEq, reduceCtorEq, Nat.reduceEqDiff, hres]
      have hr := hM1 hz
      obtain ⟨ha, h3, h6⟩ := revErr_zero hz
      have hok := accErr_ok ha
      have hs1 := hok.st1
      have hs2 := hok.st2
      have haM := rev_acc hr ha h3 h6
      obtain ⟨r8, H8, hd8, hk8, rfl⟩ := refValidate hc7.netAt hMs kd.wf
      have hb8 := hb7.kept kd.wf hk8
      have hc8 := hc7.kept kd.wf hk8
      have hu8 := hu7.grow (hk8.grow kd.wf)
      obtain ⟨r9, H9, hd9, rfl, rfl⟩ := refSame hc8.hsg hb8.hsg (by simpa using hMs.sg) (by simpa using hsm.sg) hk8.wf
      simp only [↓Sh.dn, sx, Nat.reduceBEq, reduceCtorEq, Nat.reduceEqDiff, hc7.c0, hc7.c1, hc7.c2, hc7.c3, hc7.ca, netLenS hc7, netLenA hc7, netLenE hc7, hz, decide_true, Option.map_some]
      refine ⟨_, _, hd8, ?_⟩
      simp only [↓Sh.dn, sx, Nat.reduceBEq, reduceCtorEq, Nat.reduceEqDiff, haM, decide_true, hb8.c0, hb8.c1, hb8.c2, hb8.c3, hb8.ca, netLenS hb8, netLenA hb8, netLenE hb8, hc8.c0, hc8.c1, hc8.c2, hc8.c3, hc8.ca, netLenS hc8, netLenA hc8, netLenE hc8]
      refine ⟨_, _, hd9, ?_⟩
      have w1 : IntKind.wrap .i64 (N.states + 1) = N.states + 1 := wrap64 (by omega) (by omega)
      have w2 : IntKind.wrap .i64 ((N.arcs.length : Int) + (N.ends.length : Int)) = ((N.arcs.length + N.ends.length : Nat) : Int) := by rw [wrap64 (by omega) (by omega)]; omega
      have d1 : decide (N.states + 1 < M.states) = false := decide_eq_false (by have := hr.st; omega)
      have d2 : decide (((N.arcs.length + N.ends.length : Nat) : Int) < (M.arcs.length : Int)) = false := decide_eq_false (by have := hr.len; omega)
      simp only [↓Sh.dn, sx, Nat.reduceBEq, reduceCtorEq, Nat.reduceEqDiff, hr.sg, decide_true, hb8.c0, hb8.c1, hb8.c2, hb8.c3, hb8.ca, netLenS hb8, netLenA hb8, netLenE hb8, hc8.c0, hc8.c1, hc8.c2, hc8.c3, hc8.ca, netLenS hc8, netLenA hc8, netLenE hc8, w1, w2, d1, d2]
      obtain ⟨r10, K10, hd10, hk10, rfl⟩ := refAccepts hb8.netAt hsm hu8 hwl hwx hk8.wf
      have hc10 := hc8.kept hk8.wf hk10
      have hu10 := hu8.grow (hk10.grow hk8.wf)
      obtain ⟨r11, K11, hd11, hk11, b11, hu11⟩ := refTurned hu10 hwl hk10.wf
      have hc11 := hc10.kept hk10.wf hk11
      obtain ⟨r12, K12, hd12, hk12, rfl⟩ := refAccepts hc11.netAt hMs hu11.toSl (by rw [List.length_reverse]; exact hwl) (fun x hx => hwx x (List.mem_reverse.1 hx)) hk11.wf
      obtain ⟨e1, e2⟩ := accB_rev hr hz w
      obtain ⟨r13, K13, hd13, rfl, rfl⟩ := knownCall (H := K12)
      try simp only [↓Sh.dn, sx, Nat.reduceBEq, reduceCtorEq, Nat.reduceEqDiff, hb8.c0, hb8.c1, hb8.c2, hb8.c3, hb8.ca, netLenS hb8, netLenA hb8, netLenE hb8, Option.map_some]
      refine ⟨_, _, hd10, ?_⟩
      try simp only [↓Sh.dn, sx, Nat.reduceBEq, reduceCtorEq, Nat.reduceEqDiff]
      refine wp_pend (fl := [(0, []), (1, []), (2, [0]), (3, []), (4, []), (5, []), (6, []), (7, []), (8, [])]) (by kernel_rfl) (by kernel_rfl) (by kernel_rfl) ?_
      simp only [↓Sh.dn, sx, Nat.reduceBEq, reduceCtorEq, Nat.reduceEqDiff, wpr, again, isMake, veq_ptr, veq_int, veq_str, veq_bool, veq_undef, veq_slice, forall_eq, forall_eq', hc10.c0, hc10.c1, hc10.c2, hc10.c3, hc10.ca, netLenS hc10, netLenA hc10, netLenE hc10, Option.map_some]
      refine ⟨_, _, hd11, ?_⟩
      simp only [↓Sh.dn, sx, Nat.reduceBEq, reduceCtorEq, Nat.reduceEqDiff, wpr, again, isMake, veq_ptr, veq_int, veq_str, veq_bool, veq_undef, veq_slice, forall_eq, forall_eq', hc11.c0, hc11.c1, hc11.c2, hc11.c3, hc11.ca, netLenS hc11, netLenA hc11, netLenE hc11, Option.map_some]
      refine ⟨veq_agg (by simp only [veqs_cons, veqs_nil, veq_int, q1.veq, q2.veq, q3.veq, Bool.and_self]), _, _, hd12, ?_⟩
      simp only [↓Sh.dn, sx, Nat.reduceBEq, reduceCtorEq, Nat.reduceEqDiff, wpr, again, isMake, veq_ptr, veq_int, veq_str, veq_bool, veq_undef, veq_slice, forall_eq, forall_eq', e1, e2, boolEq, decide_true]
      refine ⟨_, _, hd13, ?_⟩
      simp only [↓Sh.dn, sx, Nat.reduceBEq, reduceCtorEq, Nat.reduceEqDiff, hres]
theorem lawMain {H : AH} {avs : List Value} {K : Type} {ds : List (DataW K)} (hb : Rows.uptoBulkAll ds ≤ 1048576) (hw : Wf H) (hr : RDs Tryz.prog H [26, 22] avs ds) (hfl : Flat Tryz.prog [26, 22] avs) :
    Sh.Call Tryz.prog (knows 10) 5 avs H (fun r _ => r = .bool true) := by
  obtain ⟨v, u, N, w, rfl, ⟨hn⟩, hsm, hsz, hsl, hl, hx⟩ := netStrs_in hb hr hfl
  exact autoReversesLaw hn hsm hsz hsl hl hx hw
end Go.Proofs.YtfcmpclbhnjkgaaGreat
