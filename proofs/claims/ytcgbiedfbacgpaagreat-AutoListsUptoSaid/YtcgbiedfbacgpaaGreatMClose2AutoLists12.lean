/- A part of the proof: LawKit, LawKit2, LawAutoLists. -/
import Derived.Test.YtcgbiedfbacgpaaGreatMClose2AutoLists10
import Derived.Test.YtcgbiedfbacgpaaGreatMClose2AutoLists11
import Derived.ProofKit
set_option linter.unusedVariables false
set_option linter.unusedSimpArgs false
/- What laws of a net and a word have alike. -/
set_option maxHeartbeats 4000000
set_option maxRecDepth 20000
set_option linter.unusedSimpArgs false
set_option linter.unusedVariables false
namespace Go.Proofs.YtcgbiedfbacgpaaGreat
open Go Go.Proofs Go.Proofs.Sh
theorem B5z {H : AH} : Sh.Call Tryz.prog (knows 7) 7 [] H (fun r H' => H' = H ∧ r = .bool true) := ⟨_, _, ⟨0, rfl⟩, rfl, rfl⟩
theorem boolEq {c b : Bool} : abin Tryz.prog 4 c .eql (.bool b) (.bool b) = some (.bool true) := by
 unfold abin aeq B2q A3h
 simp only [eqT, Tryz.underlying4, cond_true, beq_self_eq_true, Option.map_some]
end Go.Proofs.YtcgbiedfbacgpaaGreat
/- What comes in: a net, a number and a list of texts. -/
namespace Go.Proofs.YtcgbiedfbacgpaaGreat
open Go Go.Proofs Go.Proofs.Sh
theorem C6i {H : AH} {avs : List Value} {K : Type} {ds : List (DataW K)} {ts : List Nat} (hb : Rows.uptoBulkAll ds ≤ 1048576) (hr : RDs Tryz.prog H (26 :: 3 :: ts) avs ds) (hfl : Flat Tryz.prog (26 :: 3 :: ts) avs) :
  ∃ v, ∃ n : Int, ∃ N : NetD, ∃ vs, ∃ ds' : List (DataW K), avs = v :: .int .i64 n :: vs ∧ Nonempty (A11 H v N) ∧ A7l N ∧ A8j N.sigma ≤ 1048576 ∧ -9223372036854775808 ≤ n ∧ n < 9223372036854775808 ∧ RDs Tryz.prog H ts vs ds' ∧ Rows.uptoBulkAll ds' ≤ 1048576 := by
 obtain ⟨v, vs, d, ds, rfl, rfl, ⟨f, h1⟩, h2⟩ := hr.cons_inv
 obtain ⟨v2, vs, d2, ds, rfl, rfl, ⟨f2, h3⟩, h4⟩ := h2.cons_inv
 simp only [Rows.uptoBulkAll] at hb
 obtain ⟨N, ⟨hn⟩, hsm, hsz⟩ := net_in h1 (by omega)
 obtain ⟨n, hc, h5, h6⟩ := B4e h3
 have hv2 : v2 = .int .i64 n := by
  cases v2 with
  | agg cs =>
   have := hfl 1 _ _ rfl rfl
   unfold C7a at this
   rw [Tryz.underlying3] at this
   cases this
  | _ => exact List.head_eq_of_cons_eq hc
 subst hv2
 exact ⟨v, n, N, vs, ds, rfl, ⟨hn⟩, hsm, hsz, h5, h6, h4, by omega⟩
end Go.Proofs.YtcgbiedfbacgpaaGreat
/- For every net, of any kind, and every number: auto.Words answers what the reference answers. -/
namespace Go.Proofs.YtcgbiedfbacgpaaGreat
open Go Go.Proofs Go.Proofs.Sh
theorem C4o {N : NetD} {most : Int} : (A6g N most).1.length ≤ 200 ∧ ∀ w ∈ (A6g N most).1, w.length ≤ 60 := by
 have hall : ∀ w ∈ A6o N, w.length ≤ 60 := fun w hw => (C1p.1 hw).1.1
 unfold A6g
 split
 ·exact ⟨Nat.zero_le _, fun w hw => by cases hw⟩
 ·split
  ·exact ⟨Nat.zero_le _, fun w hw => by cases hw⟩
  ·rename_i h2
   unfold A8k
   split
   ·exact ⟨by simp only [List.length_take]; omega, fun w hw => hall w (List.mem_of_mem_take hw)⟩
   ·split
    ·split
     ·exact ⟨Nat.zero_le _, fun w hw => by cases hw⟩
     ·exact ⟨by simp only; omega, hall⟩
    ·exact ⟨by simp only; omega, hall⟩
theorem B71 {H : AH} {v : Value} {N : NetD} {most : Int} (h : A11 H v N) (hsm : A7l N) (hsz : A8j N.sigma ≤ 1048576) (hw : Wf H) :
  Sh.Call Tryz.prog (knows 7) 3 [v, .int .i64 most] H (fun r _ => r = .bool true) := by
 refine A2a rfl Tryz.func3 rfl (Nat.le_of_ble_eq_true rfl) ?_
 have hres : Tryz.f3.results.toList = [.tmp 4] := rfl
 obtain ⟨sg, ar, en, rfl, hsg, har, hen⟩ := h
 have hb1 := NetBox.of (N := N) hw hsg har hen
 have hk1 : Kept H (H.new 4 [sg, .int .i64 N.states, ar, en]).2 := Kept.new hw 4 _
 simp only [↓Sh.dn, sx, Nat.reduceEqDiff, A5x hsg.isCell har.isCell hen.isCell]
 generalize H.next = gg at hb1 ⊢
 generalize (H.new 4 [sg, .int .i64 N.states, ar, en]).2 = H1 at hb1 hk1 ⊢
 simp only [sx, hb1.ca]
 obtain ⟨r, H2, hd, hk2, rfl⟩ := isOver hb1.netAt hsm hsz hk1.wf
 refine ⟨_, _, hd, ?_⟩
 have hb2 := hb1.kept hk1.wf hk2
 cases ho : decide (262144 < B6q N) with
 | true =>
  obtain ⟨r, H3, hd3, rfl, rfl⟩ := B5z (H := H2)
  simp only [↓Sh.dn, sx]
  refine ⟨_, _, hd3, ?_⟩
  simp only [sx, hres]
 | false =>
  obtain ⟨r4, H4, hd4, hk4, lv, rfl, vs, hJ⟩ := C2w (most := most) hb2.netAt hsm hk2.wf
  have hb4 := hb2.kept hk2.wf hk4
  obtain ⟨r5, H5, hd5, hk5, lw, rfl, ws, hK⟩ := refWords (most := most) hb4.netAt hsm hk4.wf
  obtain ⟨hs1, hs2⟩ := C4o (N := N) (most := most)
  obtain ⟨r6, H6, hd6, e6, rfl⟩ := B0z (hJ.grow (hk5.grow hk4.wf)) hK (by omega) (fun w hw => by have := hs2 w hw; omega) hk5.wf
  rw [e6] at hd6
  obtain ⟨r8, H8, hd8, e8, rfl⟩ := B5z (H := H5)
  rw [e8] at hd8
  simp only [↓Sh.dn, sx, Nat.reduceEqDiff, hb2.ca]
  refine ⟨_, _, hd4, ?_⟩
  simp only [sx, hb4.ca]
  refine ⟨_, _, hd5, ?_⟩
  simp only [sx]
  refine ⟨_, _, hd6, ?_⟩
  simp only [↓Sh.dn, sx, Nat.reduceEqDiff, boolEq, eq_self, decide_true]
  refine ⟨_, _, hd8, ?_⟩
  simp only [sx, hres]
theorem lawMain {H : AH} {avs : List Value} {K : Type} {ds : List (DataW K)} (hb : Rows.uptoBulkAll ds ≤ 1048576) (hw : Wf H) (hr : RDs Tryz.prog H [26, 3] avs ds) (hfl : Flat Tryz.prog [26, 3] avs) :
  Sh.Call Tryz.prog (knows 7) 3 avs H (fun r _ => r = .bool true) := by
 obtain ⟨v, n, N, vs, ds', rfl, ⟨hn⟩, hsm, hsz, hn1, hn2, hr', hb'⟩ := C6i hb hr hfl
 obtain ⟨rfl, rfl⟩ := hr'.nil_inv
 exact B71 hn hsm hsz hw
end Go.Proofs.YtcgbiedfbacgpaaGreat
