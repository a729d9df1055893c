/- A part of the proof: LawKit, LawAutoFinds. -/
import Derived.Test.YtcgbiedfbacgpaaGreatMCloseAutoFinds16
import Derived.Test.YtcgbiedfbacgpaaGreatMCloseAutoFinds17
import Derived.ProofKit
set_option linter.unusedVariables false
set_option linter.unusedSimpArgs false
/- What laws of a net and a word have alike. -/
set_option maxHeartbeats 4000000
set_option maxRecDepth 20000
set_option linter.unusedSimpArgs false
set_option linter.unusedVariables false
namespace Go.Proofs.YtcgbiedfbacgpaaGreat
open Go Go.Proofs Go.Proofs.Sh
theorem B5z {H:AH}:Sh.Call Tryz.prog (knows 7) 7 [] H (fun r H'=>H'=H∧r=.bool true):=⟨_,_,⟨0,rfl⟩,rfl,rfl⟩
theorem boolEq {c b:Bool}:abin Tryz.prog 4 c .eql (.bool b) (.bool b)=some (.bool true):=by
 unfold abin aeq B9s A7h
 simp only [eqT,Tryz.underlying4,cond_true,beq_self_eq_true,Option.map_some]
end Go.Proofs.YtcgbiedfbacgpaaGreat
/- For every net, of any kind: auto.Empty, auto.Finite and auto.First answer what the reference answers. -/
namespace Go.Proofs.YtcgbiedfbacgpaaGreat
open Go Go.Proofs Go.Proofs.Sh
theorem B21 {H:AH} {v:Value} {N:NetD} (h:A0y H v N) (hsm:A3j N) (hsz:A9k N.sigma≤1048576) (hw:Wf H):
  Sh.Call Tryz.prog (knows 7) 4 [v] H (fun r _=>r=.bool true):=by
 refine A2a rfl Tryz.func4 rfl (Nat.le_of_ble_eq_true rfl) ?_
 have hres:Tryz.f4.results.toList=[.tmp 2]:=rfl
 obtain ⟨sg,ar,en,rfl,hsg,har,hen⟩:=h
 have hb1:=NetBox.of (N:=N) hw hsg har hen
 have hk1:Kept H (H.new 4 [sg,.int .i64 N.states,ar,en]).2:=Kept.new hw 4 _
 simp only [↓Sh.dn,sx,Nat.reduceEqDiff,A9s hsg.isCell har.isCell hen.isCell]
 generalize H.next=gg at hb1 ⊢
 generalize (H.new 4 [sg,.int .i64 N.states,ar,en]).2=H1 at hb1 hk1 ⊢
 simp only [sx,hb1.ca]
 obtain ⟨r,H2,hd,hk2,rfl⟩:=isOver hb1.netAt hsm hsz hk1.wf
 refine ⟨_,_,hd,?_⟩
 have hb2:=hb1.kept hk1.wf hk2
 cases ho:decide (262144 < B6t N) with
 | true=>
  obtain ⟨r,H3,hd3,rfl,rfl⟩:=B5z (H:=H2)
  simp only [↓Sh.dn,sx]
  refine ⟨_,_,hd3,?_⟩
  simp only [sx,hres]
 | false=>
  obtain ⟨r1,K1,hd1,q1,rfl⟩:=C9v hb2.netAt hsm hk2.wf
  have hb3:=hb2.kept hk2.wf q1
  obtain ⟨r2,K2,hd2,q2,rfl⟩:=refEmpty hb3.netAt hsm q1.wf
  have hb4:=hb3.kept q1.wf q2
  obtain ⟨r3,K3,hd3,q3,rfl⟩:=C6m hb4.netAt hsm q2.wf
  have hb5:=hb4.kept q2.wf q3
  obtain ⟨r4,K4,hd4,q4,rfl⟩:=C2w hb5.netAt hsm q3.wf
  have hb6:=hb5.kept q3.wf q4
  obtain ⟨r5,K5,hd5,q5,l5,rfl,s5⟩:=C60 hb6.netAt hsm q4.wf
  have hb7:=hb6.kept q4.wf q5
  obtain ⟨r6,K6,hd6,q6,l6,rfl,s6⟩:=refFirst hb7.netAt hsm q5.wf
  have s56:=s5.grow (q6.grow q5.wf)
  have hfs:(A6f N).1.length≤1048576:=by
   unfold A6f
   split
   ·exact Nat.zero_le _
   ·split
    ·split <;> exact Nat.zero_le _
    ·rename_i w l h
     have:w∈A2n N:=by rw [h]; exact List.mem_cons_self
     have:=(B6e.1 this).1.1
     simp only; omega
  obtain ⟨r7,K7,hd7,e7,rfl⟩:=refSame s56 s6 hfs hfs q6.wf
  rw [e7,decide_eq_true rfl] at hd7
  obtain ⟨r8,K8,hd8,e8,rfl⟩:=B5z (H:=K6)
  rw [e8] at hd8
  simp only [↓Sh.dn,sx,Nat.reduceEqDiff,hb2.ca]
  refine ⟨_,_,hd1,?_⟩
  simp only [sx,hb3.ca]
  refine ⟨_,_,hd2,?_⟩
  simp only [sx,hb4.ca]
  refine ⟨_,_,hd3,?_⟩
  simp only [sx,hb5.ca]
  refine ⟨_,_,hd4,?_⟩
  simp only [sx,hb6.ca]
  refine ⟨_,_,hd5,?_⟩
  simp only [sx,hb7.ca]
  refine ⟨_,_,hd6,?_⟩
  simp only [↓Sh.dn,sx,Nat.reduceEqDiff,boolEq,eq_self,decide_true]
  refine ⟨_,_,hd7,?_⟩
  simp only [↓Sh.dn,sx,Nat.reduceEqDiff,boolEq,eq_self,decide_true]
  refine ⟨_,_,hd8,?_⟩
  simp only [sx,hres]
theorem lawMain {H:AH} {avs:List Value} {K:Type} {ds:List (DataW K)} (hb:Rows.uptoBulkAll ds≤1048576) (hw:Wf H) (hr:RDs Tryz.prog H [26] avs ds):
  Sh.Call Tryz.prog (knows 7) 4 avs H (fun r _=>r=.bool true):=by
 obtain ⟨v,vs,d,ds,rfl,rfl,⟨f,h1⟩,h2⟩:=hr.cons_inv
 obtain ⟨rfl,rfl⟩:=h2.nil_inv
 simp only [Rows.uptoBulkAll,Nat.add_zero] at hb
 obtain ⟨N,⟨hn⟩,hsm,hsz⟩:=net_in h1 hb
 exact B21 hn hsm hsz hw
end Go.Proofs.YtcgbiedfbacgpaaGreat
