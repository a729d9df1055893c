/- A part of the proof: LawNet, LawRelImages. -/
import Derived.Test.YtnoengaghabmjaaGreatMClose2RelImages18
import Derived.Test.YtnoengaghabmjaaGreatMClose2RelImages19
import Derived.ProofKit
import Derived.Test.YtnoengaghabmjaaGreatMClose2RelImages8
set_option linter.unusedVariables false
set_option linter.unusedSimpArgs false
/- What laws about a net and words have alike. -/
set_option maxHeartbeats 4000000
set_option maxRecDepth 20000
set_option linter.unusedSimpArgs false
set_option linter.unusedVariables false
namespace Go.Proofs.YtnoengaghabmjaaGreat
open Go Go.Proofs Go.Proofs.Sh
theorem A20 {H:AH}:Sh.Call Tryz.prog (knows 10) 10 [] H (fun r H'=>H'=H∧r=.bool true):=⟨_,_,⟨0,rfl⟩,rfl,rfl⟩
theorem sizes_el {L:List ByteArray} {m:Nat} (h:B3m L+L.length≤m):L.length≤m∧∀ x∈L,x.size≤m:=⟨by omega,fun x hx=>by have:=B6o hx; omega⟩
theorem one_net {H:AH} {sg ar en:Value} {N:NetD} (hsg:Sl H sg 1 (N.sigma.map A9a)) (har:Sl H ar 5 (N.arcs.map ArcD.cells)) (hen:Sl H en 2 (N.ends.map EndD.cells)) (hsm:A0f N) (hw:Wf H):
  A7a Tryz.prog 52 1 [(0,.agg #[sg,.int .i64 N.states,ar,en])] H=some (.slice (some ⟨H.next,0,some 0⟩) 1 1,(H.new 4 [sg,.int .i64 N.states,ar,en]).2)∧
  Sl (H.new 4 [sg,.int .i64 N.states,ar,en]).2 (.slice (some ⟨H.next,0,some 0⟩) 1 1) 4 [[sg,.int .i64 N.states,ar,en]]∧∀ r∈[[sg,.int .i64 N.states,ar,en]],NetRow (H.new 4 [sg,.int .i64 N.states,ar,en]).2 r:=by
 have hi:isCell (.int .i64 N.states)=true:=rfl
 have hb:=C9h (H:=H) (x:=.agg #[sg,.int .i64 N.states,ar,en]) rfl (by
  show [sg,.int .i64 N.states,ar,en].all isCell=true
  simp [hsg.isCell,har.isCell,hen.isCell,hi])
 have k:=Kept.new hw 4 [sg,.int .i64 N.states,ar,en]
 refine ⟨hb,(Buf.fresh (H:=H) (s:=4) (xs:=[[sg,.int .i64 N.states,ar,en]]) hw (by intro x hx; rw [List.mem_singleton.1 hx]; rfl) (by simp) 1 rfl).toSl,fun r hr=>?_⟩
 rw [List.mem_singleton.1 hr]
 exact ⟨N,sg,ar,en,rfl,hsg.grow (k.grow hw),har.grow (k.grow hw),hen.grow (k.grow hw),hsm⟩
theorem C2f {H:AH} {vs:List Value} {K:Type} {d:DataW K} {ts:List Nat} {j:Nat} {v:Value} {f:Nat} (hfl:Flat Tryz.prog ts vs) (ht:ts[j]?=some 22) (hv:vs[j]?=some v) (h:RD Tryz.prog H f 22 (A8a v) d) (hb:Rows.uptoBulk d≤1048576):
  ∃ w:List ByteArray,Sl H v 1 (w.map A9a)∧w.length≤1048576∧∀ x∈w,x.size≤1048576:=by
 obtain ⟨u,L,hu,hsl,hLb⟩:=C8d h
 obtain ⟨hl,hx⟩:=sizes_el (L:=L) (m:=1048576) (by omega)
 have hv2:v=u:=by
  cases v with
  | agg cs=>
   have:=hfl j _ _ ht hv
   unfold B57 at this
   rw [Tryz.underlying22] at this
   cases this
  | _=>exact List.head_eq_of_cons_eq hu
 subst hv2
 exact ⟨L,hsl,hl,hx⟩
end Go.Proofs.YtnoengaghabmjaaGreat
/- For every net, of any kind, and every two lists of texts: what rel.Image makes is an acceptor that accepts the second list just if the net holds the pair of both, or the error is the reference's. -/
namespace Go.Proofs.YtnoengaghabmjaaGreat
open Go Go.Proofs Go.Proofs.Sh
theorem B58 {H:AH} {v ux:Value} {N:NetD} {x:List ByteArray} (h:A2p H v N) (hsm:A0f N) (hx:Sl H ux 1 (x.map A9a)) (hxl:x.length≤1048576) (hxx:∀ z∈x,z.size≤1048576) (hw:Wf H):
  Sh.Call Tryz.prog (knows 10) 17 [v,ux] H (fun r H'=>Kept H H'∧r=.int .i64 (A1i N x)):=by
 refine A1b rfl Tryz.func17 rfl (Nat.le_of_ble_eq_true rfl) ?_
 have hres:Tryz.f17.results.toList=[.tmp 4]:=rfl
 obtain ⟨sg,ar,en,rfl,hsg,har,hen⟩:=h
 have hb3:=NetBox.of (N:=N) hw hsg har hen
 have k3:Kept H (H.new 4 [sg,.int .i64 N.states,ar,en]).2:=Kept.new hw 4 _
 simp only [↓Sh.dn,sx,Nat.reduceBEq,reduceCtorEq,Nat.reduceEqDiff,A1p hsg.isCell har.isCell hen.isCell]
 generalize H.next=gg at hb3 ⊢
 generalize (H.new 4 [sg,.int .i64 N.states,ar,en]).2=H3 at hb3 k3 ⊢
 obtain ⟨r4,H4,hd4,k4,rfl⟩:=B4o hb3.netAt hsm k3.wf
 simp only [↓Sh.dn,sx,Nat.reduceBEq,reduceCtorEq,Nat.reduceEqDiff,hb3.c0,hb3.c1,hb3.c2,hb3.c3,hb3.ca,A3a hb3,A2a hb3,A1a hb3,Option.map_some]
 refine ⟨_,_,hd4,?_⟩
 by_cases hE:A0j N=0
 case neg=>
  have e1:A1i N x=A0j N:=by unfold A1i; rw [if_pos hE]
  simp only [↓Sh.dn,sx,Nat.reduceBEq,reduceCtorEq,Nat.reduceEqDiff,hE,decide_false,hres,e1]
  exact k3.trans k4
 have k34:=k3.trans k4
 obtain ⟨r5,H5,hd5,k5,rfl⟩:=refWord (hx.grow (k34.grow hw)) hxl hxx k34.wf
 have k45:=k4.trans k5
 simp only [↓Sh.dn,sx,Nat.reduceBEq,reduceCtorEq,Nat.reduceEqDiff,hE,decide_true]
 refine ⟨_,_,hd5,?_⟩
 by_cases hX:A0k x=0
 case neg=>
  have e1:A1i N x=A0k x:=by unfold A1i; rw [if_neg (by simpa using hE),if_pos hX]
  simp only [↓Sh.dn,sx,Nat.reduceBEq,reduceCtorEq,Nat.reduceEqDiff,hX,decide_false,hres,e1]
  exact k3.trans k45
 have hb5:=hb3.kept k3.wf k45
 have hlenA:=fun H'=>hb5.har.len Tryz.underlying23 H'
 simp only [List.length_map] at hlenA
 have d2:decide ((400:Int) < (N.arcs.length:Int))=decide (400 < N.arcs.length):=decide_eq_decide.2 (by omega)
 have e0:A1i N x=if (decide (40 < N.states) || decide (400 < N.arcs.length))=true then 3 else 0:=by unfold A1i; rw [if_neg (by simpa using hE),if_neg (by simpa using hX)]
 cases p1:decide (40 < N.states) with
 | true=>
  rw [p1,Bool.true_or,if_pos rfl] at e0
  simp only [↓Sh.dn,sx,Nat.reduceBEq,reduceCtorEq,Nat.reduceEqDiff,hX,decide_true,hb5.c0,hb5.c1,hb5.c2,hb5.c3,hb5.ca,A3a hb5,A2a hb5,A1a hb5,p1,hres,e0]
  exact k3.trans k45
 | false=>
 cases p2:decide (400 < N.arcs.length) with
 | true=>
  rw [p1,p2,Bool.false_or,if_pos rfl] at e0
  simp only [↓Sh.dn,sx,Nat.reduceBEq,reduceCtorEq,Nat.reduceEqDiff,hX,decide_true,hb5.c0,hb5.c1,hb5.c2,hb5.c3,hb5.ca,A3a hb5,A2a hb5,A1a hb5,p1,hlenA,d2,p2,hres,e0]
  exact k3.trans k45
 | false=>
  rw [p1,p2,Bool.false_or,if_neg (by simp)] at e0
  simp only [↓Sh.dn,sx,Nat.reduceBEq,reduceCtorEq,Nat.reduceEqDiff,hX,decide_true,hb5.c0,hb5.c1,hb5.c2,hb5.c3,hb5.ca,A3a hb5,A2a hb5,A1a hb5,p1,hlenA,d2,p2,hres,e0]
  exact k3.trans k45
theorem acc_ok {M:NetD} (h:A0j M=0) (hl:∀ a∈M.arcs,a.inn=a.out):A25 M=0:=by
 obtain ⟨_,h1,h2⟩:=A4k h
 unfold A25
 have hu:B8f M=false:=by
  unfold B8f
  rw [List.any_eq_false]
  intro a ha
  simp [hl a ha]
 rw [if_neg (by simpa using h1),if_neg (by rw [hu]; simp),if_pos h2]
theorem B1p {H:AH} {v ux uy:Value} {N:NetD} {x y:List ByteArray} (h:A2p H v N) (hsm:A0f N) (hx:Sl H ux 1 (x.map A9a)) (hy:Sl H uy 1 (y.map A9a)) (hxl:x.length≤1048576) (hyl:y.length≤1048576) (hxx:∀ z∈x,z.size≤1048576) (hyy:∀ z∈y,z.size≤1048576) (hw:Wf H):
  Sh.Call Tryz.prog (knows 10) 4 [v,ux,uy] H (fun r _=>r=.bool true):=by
 refine A1b rfl Tryz.func4 rfl (Nat.le_of_ble_eq_true rfl) ?_
 have hres:Tryz.f4.results.toList=[.tmp 6]:=rfl
 obtain ⟨sg,ar,en,rfl,hsg,har,hen⟩:=h
 have hb1:=NetBox.of (N:=N) hw hsg har hen
 have hk1:Kept H (H.new 4 [sg,.int .i64 N.states,ar,en]).2:=Kept.new hw 4 _
 simp only [↓Sh.dn,sx,Nat.reduceBEq,reduceCtorEq,Nat.reduceEqDiff,A1p hsg.isCell har.isCell hen.isCell]
 generalize H.next=gg at hb1 ⊢
 generalize (H.new 4 [sg,.int .i64 N.states,ar,en]).2=H1 at hb1 hk1 ⊢
 obtain ⟨n1,n2,n3⟩:=one_net hb1.hsg hb1.har hb1.hen hsm hk1.wf
 have kn:=Kept.new hk1.wf 4 [sg,.int .i64 N.states,ar,en]
 have hb2:=hb1.kept hk1.wf kn
 have hk2:=hk1.trans kn
 obtain ⟨r,K1,hd1,rfl,b,rfl⟩:=lawOver n2 (by simp) n3
 simp only [↓Sh.dn,sx,Nat.reduceBEq,reduceCtorEq,Nat.reduceEqDiff,hb1.c0,hb1.c1,hb1.c2,hb1.c3,hb1.ca,A3a hb1,A2a hb1,A1a hb1,Option.map_some,n1]
 refine ⟨_,_,hd1,?_⟩
 generalize (H1.new 4 [sg,.int .i64 N.states,ar,en]).2=H2 at kn hb2 hk2 ⊢
 have hx2:=hx.grow (hk2.grow hw)
 have hy2:=hy.grow (hk2.grow hw)
 cases b with
 | true=>
  obtain ⟨r,H3,hd3,rfl,rfl⟩:=A20 (H:=H2)
  simp only [↓Sh.dn,sx,Nat.reduceBEq,reduceCtorEq,Nat.reduceEqDiff]
  refine ⟨_,_,hd3,?_⟩
  simp only [↓Sh.dn,sx,Nat.reduceBEq,reduceCtorEq,Nat.reduceEqDiff,hres]
 | false=>
 have hbs:=C8b (P:=Tryz.prog) (H:=H2) Tryz.underlying30 A92 B0k rfl hx2.isCell hy2.isCell
 have hJ:=two_jag hx2 hy2 hk2.wf
 have km:=Kept.new hk2.wf 1 [ux,uy]
 obtain ⟨r,K2,hd2,rfl,rfl⟩:=lawLong hJ (by simp)
 simp only [↓Sh.dn,sx,Nat.reduceBEq,reduceCtorEq,Nat.reduceEqDiff,hbs]
 refine ⟨_,_,hd2,?_⟩
 have hb3:=hb2.kept hk2.wf km
 have hk3:=hk2.trans km
 generalize (H2.new 1 [ux,uy]).2=H3 at km hb3 hk3 ⊢
 cases hlg:[x,y].any fun w=>decide (240 < w.length) with
 | true=>
  obtain ⟨r,H4,hd3,rfl,rfl⟩:=A20 (H:=H3)
  simp only [↓Sh.dn,sx,Nat.reduceBEq,reduceCtorEq,Nat.reduceEqDiff]
  refine ⟨_,_,hd3,?_⟩
  simp only [↓Sh.dn,sx,Nat.reduceBEq,reduceCtorEq,Nat.reduceEqDiff,hres]
 | false=>
 have hx4:x.length≤400∧y.length≤400:=by
  simp only [List.any_cons,List.any_nil,Bool.or_false,Bool.or_eq_false_iff,decide_eq_false_iff_not] at hlg
  omega
 obtain ⟨r4,H4,hd4,k4,mv,rfl,hbad,hok⟩:=relImage hb3.netAt hsm (hx.grow (hk3.grow hw)) hxl hxx hk3.wf
 simp only [↓Sh.dn,sx,Nat.reduceBEq,reduceCtorEq,Nat.reduceEqDiff,hb3.c0,hb3.c1,hb3.c2,hb3.c3,hb3.ca,A3a hb3,A2a hb3,A1a hb3,Option.map_some]
 refine ⟨_,_,hd4,?_⟩
 have hb4:=hb3.kept hk3.wf k4
 have hk4:=hk3.trans k4
 by_cases hE:A1i N x=0
 case neg=>
  have hz:=hbad hE
  unfold A52 at hz
  subst hz
  have k5:=Kept.new hk4.wf 4 [.slice none 0 0,.int .i64 0,.slice none 0 0,.slice none 0 0]
  have m5:=NetBox.of (N:=⟨[],0,[],[]⟩) hk4.wf (Sl.nil H4 1) (Sl.nil H4 5) (Sl.nil H4 2)
  simp only [↓Sh.dn,sx,Nat.reduceBEq,reduceCtorEq,Nat.reduceEqDiff,A4c,A86 (H:=(H4.new 4 [.slice none 0 0,.int .i64 0,.slice none 0 0,.slice none 0 0]).2) (sg:=.slice none 0 0) (ar:=.slice none 0 0) (en:=.slice none 0 0) rfl rfl rfl,A0d]
  simp only [] at m5
  have hb5:=hb4.kept hk4.wf k5
  have hk5:=hk4.trans k5
  generalize H4.next=gn at m5 ⊢
  generalize (H4.new 4 [.slice none 0 0,.int .i64 0,.slice none 0 0,.slice none 0 0]).2=H5 at m5 hb5 k5 hk5 ⊢
  obtain ⟨r6,H6,hd6,k6,rfl⟩:=B58 hb5.netAt hsm (hx.grow (hk5.grow hw)) hxl hxx hk5.wf
  simp only [↓Sh.dn,sx,Nat.reduceBEq,reduceCtorEq,Nat.reduceEqDiff,hb5.c0,hb5.c1,hb5.c2,hb5.c3,hb5.ca,A3a hb5,A2a hb5,A1a hb5,Option.map_some]
  refine ⟨_,_,hd6,?_⟩
  have m6:=m5.kept hk5.wf k6
  have hk6:=hk5.trans k6
  obtain ⟨r7,H7,hd7,k7,rfl⟩:=lawNone hk6.wf
  unfold A52 at hd7
  obtain ⟨r8,H8,hd8,rfl,rfl⟩:=A20 (H:=H7)
  simp only [↓Sh.dn,sx,Nat.reduceBEq,reduceCtorEq,Nat.reduceEqDiff,hE,decide_false,eq_self,decide_true,m6.c0,m6.c1,m6.c2,m6.c3,m6.ca,A3a m6,A2a m6,A1a m6,Option.map_some]
  refine ⟨_,_,hd7,?_⟩
  simp only [↓Sh.dn,sx,Nat.reduceBEq,reduceCtorEq,Nat.reduceEqDiff]
  refine ⟨_,_,hd8,?_⟩
  simp only [↓Sh.dn,sx,Nat.reduceBEq,reduceCtorEq,Nat.reduceEqDiff,hres]
 obtain ⟨M,hM,q1,q2,q3,q4,q5⟩:=hok hE
 obtain ⟨⟨sgM,arM,enM,rfl,z1,z2,z3⟩⟩:=hM H4 fun _ _=>rfl
 have k5:=Kept.new hk4.wf 4 [sgM,.int .i64 M.states,arM,enM]
 have m5:=NetBox.of (N:=M) hk4.wf z1 z2 z3
 simp only [↓Sh.dn,sx,Nat.reduceBEq,reduceCtorEq,Nat.reduceEqDiff,A4c,A86 z1.isCell z2.isCell z3.isCell,A0d]
 have hb5:=hb4.kept hk4.wf k5
 have hk5:=hk4.trans k5
 generalize H4.next=gn at m5 ⊢
 generalize (H4.new 4 [sgM,.int .i64 M.states,arM,enM]).2=H5 at m5 hb5 k5 hk5 ⊢
 obtain ⟨r6,H6,hd6,k6,rfl⟩:=B58 hb5.netAt hsm (hx.grow (hk5.grow hw)) hxl hxx hk5.wf
 simp only [↓Sh.dn,sx,Nat.reduceBEq,reduceCtorEq,Nat.reduceEqDiff,hb5.c0,hb5.c1,hb5.c2,hb5.c3,hb5.ca,A3a hb5,A2a hb5,A1a hb5,Option.map_some]
 refine ⟨_,_,hd6,?_⟩
 have m6:=m5.kept hk5.wf k6
 have hb6:=hb5.kept hk5.wf k6
 have hk6:=hk5.trans k6
 obtain ⟨r7,H7,hd7,k7,rfl⟩:=B0w m6.netAt q1 hk6.wf
 rw [acc_ok q2 q5] at hd7
 have m7:=m6.kept hk6.wf k7
 have hb7:=hb6.kept hk6.wf k7
 have hk7:=hk6.trans k7
 obtain ⟨okN,_,_⟩:A6q N∧_:=A4k (N:=N) (by
  unfold A1i at hE
  split at hE
  ·rename_i h1; exact absurd hE h1
  ·rename_i h1; simpa using h1)
 obtain ⟨r8,H8,hd8,k8,rfl⟩:=C6e hb7.netAt okN hsm (hx.grow (hk7.grow hw)) (hy.grow (hk7.grow hw)) hx4.1 hx4.2 hk7.wf
 have m8:=m7.kept hk7.wf k8
 have hb8:=hb7.kept hk7.wf k8
 have hk8:=hk7.trans k8
 have he:tB (A9p N x y)=tB (A9p M y y):=by rw [Bool.eq_iff_iff,C7f,C7f,q4]; exact ⟨fun h=>⟨rfl,h⟩,fun h=>h.2⟩
 obtain ⟨r9,H9,hd9,k9,rfl⟩:=lawMade m8.netAt q1 q2 q3 hb8.hsg hsm.sg (hy.grow (hk8.grow hw)) (hy.grow (hk8.grow hw)) hx4.2 hx4.2 he hk8.wf
 obtain ⟨r10,H10,hd10,rfl,rfl⟩:=A20 (H:=H9)
 have hvqN:veq (.agg #[sg,.int .i64 N.states,ar,en]) (.agg #[sg,.int .i64 N.states,ar,en])=true:=A93 (by simp only [A4s,A4x,A6d,hsg.veq,har.veq,hen.veq,Bool.and_self])
 have hvqM:veq (.agg #[sgM,.int .i64 M.states,arM,enM]) (.agg #[sgM,.int .i64 M.states,arM,enM])=true:=A93 (by simp only [A4s,A4x,A6d,z1.veq,z2.veq,z3.veq,Bool.and_self])
 have vx:=hx.veq
 have vy:=hy.veq
 have vs:=hsg.veq
 have i00:decide ((0:Int)=0)=true:=rfl
 simp only [↓Sh.dn,sx,Nat.reduceBEq,reduceCtorEq,Nat.reduceEqDiff,hE,decide_true,eq_self]
 refine A0x (fl:=[(0,true),(1,true),(2,true),(3,false),(4,true),(5,true),(6,true),(7,true),(8,false),(9,true),(10,false),(11,true),(12,true),(13,false),(14,true),(15,true),(16,false),(17,true),(18,true),(19,true),(20,true),(21,true),(22,true)]) (by kernel_rfl) (by kernel_rfl) hk6.wf ?_
 simp only [↓Sh.dn,sx,Nat.reduceBEq,reduceCtorEq,Nat.reduceEqDiff,wpg,A8u,isEff,A2c,isRead,A3g,A6d,A2g,A8d,A6c,forall_eq,forall_eq',eq_self,decide_true,i00,m6.c0,m6.c1,m6.c2,m6.c3,m6.ca,A3a m6,A2a m6,A1a m6,m7.c0,m7.c1,m7.c2,m7.c3,m7.ca,A3a m7,A2a m7,A1a m7,hb6.c0,hb6.c1,hb6.c2,hb6.c3,hb6.ca,A3a hb6,A2a hb6,A1a hb6,hb7.c0,hb7.c1,hb7.c2,hb7.c3,hb7.ca,A3a hb7,A2a hb7,A1a hb7,Option.map_some,hvqN,hvqM,vx,vy,vs]
 refine ⟨_,_,hd7,k7.wf,?_⟩
 simp only [↓Sh.dn,sx,Nat.reduceBEq,reduceCtorEq,Nat.reduceEqDiff,wpg,A8u,isEff,A2c,isRead,A3g,A6d,A2g,A8d,A6c,forall_eq,forall_eq',eq_self,decide_true,i00,m6.c0,m6.c1,m6.c2,m6.c3,m6.ca,A3a m6,A2a m6,A1a m6,m7.c0,m7.c1,m7.c2,m7.c3,m7.ca,A3a m7,A2a m7,A1a m7,hb6.c0,hb6.c1,hb6.c2,hb6.c3,hb6.ca,A3a hb6,A2a hb6,A1a hb6,hb7.c0,hb7.c1,hb7.c2,hb7.c3,hb7.ca,A3a hb7,A2a hb7,A1a hb7,Option.map_some,hvqN,hvqM,vx,vy,vs]
 refine ⟨_,_,hd8,k8.wf,k8.grow hk7.wf,?_⟩
 refine ⟨_,_,hd9,k9.wf,?_⟩
 simp only [↓Sh.dn,sx,Nat.reduceBEq,reduceCtorEq,Nat.reduceEqDiff,wpg,A8u,isEff,A2c,isRead,A3g,A6d,A2g,A8d,A6c,forall_eq,forall_eq']
 refine ⟨_,_,hd10,k9.wf,?_⟩
 simp only [↓Sh.dn,sx,Nat.reduceBEq,reduceCtorEq,Nat.reduceEqDiff,wpg,A8u,isEff,A2c,isRead,A3g,A6d,A2g,A8d,A6c,forall_eq,forall_eq',hres]
theorem lawMain {H:AH} {avs:List Value} {K:Type} {ds:List (DataW K)} (hb:Rows.uptoBulkAll ds≤1048576) (hw:Wf H) (hr:RDs Tryz.prog H [26,22,22] avs ds) (hfl:Flat Tryz.prog [26,22,22] avs):
  Sh.Call Tryz.prog (knows 10) 4 avs H (fun r _=>r=.bool true):=by
 obtain ⟨v,vs,d,ds,rfl,rfl,⟨f,h1⟩,h2⟩:=hr.cons_inv
 obtain ⟨v2,vs,d2,ds,rfl,rfl,⟨f2,h3⟩,h4⟩:=h2.cons_inv
 obtain ⟨v3,vs,d3,ds,rfl,rfl,⟨f3,h5⟩,h6⟩:=h4.cons_inv
 obtain ⟨rfl,rfl⟩:=h6.nil_inv
 simp only [Rows.uptoBulkAll,Nat.add_zero] at hb
 obtain ⟨N,⟨hn⟩,hsm,hsz⟩:=net_in h1 (by omega)
 obtain ⟨x,hx,hxl,hxx⟩:=C2f hfl (j:=1) rfl rfl h3 (by omega)
 obtain ⟨y,hy,hyl,hyy⟩:=C2f hfl (j:=2) rfl rfl h5 (by omega)
 exact B1p hn hsm hx hy hxl hyl hxx hyy hw
end Go.Proofs.YtnoengaghabmjaaGreat
