/- A part of the proof: LawJoined, TwoIn. -/
import Derived.Test.YtnoengaghabmjaaGreatDoorMClose3RelComposes10
import Derived.Test.YtnoengaghabmjaaGreatDoorMClose3RelComposes11
import Derived.ProofKit
set_option linter.unusedVariables false
set_option linter.unusedSimpArgs false
/- What laws about two nets have alike: a net is made of them that holds what it should, or the error is as told. -/
set_option maxHeartbeats 4000000
set_option maxRecDepth 20000
set_option linter.unusedSimpArgs false
set_option linter.unusedVariables false
namespace Go.Proofs.YtnoengaghabmjaaGreatDoor
open Go Go.Proofs Go.Proofs.Sh
theorem A2y {H:AH}:Sh.Call Tryz.prog (knows 8) 8 [] H (fun r H'=>H'=H∧r=.bool true):=⟨_,_,⟨0,rfl⟩,rfl,rfl⟩
def twoV (A B:NetD) (sgA arA enA sgB arB enB ux uy:Value):List Value:=[sgA,.int .i64 A.states,arA,enA,sgB,.int .i64 B.states,arB,enB,ux,uy]
structure TwoAt (H:AH) (A B:NetD) (x y:List ByteArray) (sgA arA enA sgB arB enB ux uy:Value):Prop where
 a1:Sl H sgA 1 (A.sigma.map A1b)
 a2:Sl H arA 5 (A.arcs.map ArcD.cells)
 a3:Sl H enA 2 (A.ends.map EndD.cells)
 b1:Sl H sgB 1 (B.sigma.map A1b)
 b2:Sl H arB 5 (B.arcs.map ArcD.cells)
 b3:Sl H enB 2 (B.ends.map EndD.cells)
 x:Sl H ux 1 (x.map A1b)
 y:Sl H uy 1 (y.map A1b)
section
variable {H H':AH} {A B:NetD} {x y:List ByteArray} {sgA arA enA sgB arB enB ux uy:Value}
theorem TwoAt.kept (h:TwoAt H A B x y sgA arA enA sgB arB enB ux uy) (hw:Wf H) (hk:Kept H H'):TwoAt H' A B x y sgA arA enA sgB arB enB ux uy:=
 ⟨h.a1.grow (hk.grow hw),h.a2.grow (hk.grow hw),h.a3.grow (hk.grow hw),h.b1.grow (hk.grow hw),h.b2.grow (hk.grow hw),h.b3.grow (hk.grow hw),h.x.grow (hk.grow hw),h.y.grow (hk.grow hw)⟩
structure TBox (H:AH) (g:Nat) (A B:NetD) (x y:List ByteArray) (sgA arA enA sgB arB enB ux uy:Value):Prop where
 ar:Arr H g 0 10 (twoV A B sgA arA enA sgB arB enB ux uy)
 at':TwoAt H A B x y sgA arA enA sgB arB enB ux uy
theorem TBox.kept {g:Nat} (h:TBox H g A B x y sgA arA enA sgB arB enB ux uy) (hw:Wf H) (hk:Kept H H'):TBox H' g A B x y sgA arA enA sgB arB enB ux uy:=
 ⟨h.ar.keep (hk.old g (h.ar.lt hw)),h.at'.kept hw hk⟩
theorem TBox.new (h:TwoAt H A B x y sgA arA enA sgB arB enB ux uy) (hw:Wf H):TBox (H.new 10 (twoV A B sgA arA enA sgB arB enB ux uy)).2 H.next A B x y sgA arA enA sgB arB enB ux uy:=
 ⟨(Sh.Obj.new (H:=H) 10 _).arr,h.kept hw (Kept.new hw 10 _)⟩
theorem TBox.cA {g:Nat} (h:TBox H g A B x y sgA arA enA sgB arB enB ux uy):H.cells ⟨g,0,some 0⟩ 4=some [sgA,.int .i64 A.states,arA,enA]:=h.ar.cells (i:=0) (n:=4) (by simp [twoV])
theorem TBox.cB {g:Nat} (h:TBox H g A B x y sgA arA enA sgB arB enB ux uy):H.cells ⟨g,4,some 0⟩ 4=some [sgB,.int .i64 B.states,arB,enB]:=h.ar.cells (i:=4) (n:=4) (by simp [twoV])
theorem TBox.cT {g:Nat} (h:TBox H g A B x y sgA arA enA sgB arB enB ux uy):H.cells ⟨g,0,some 0⟩ 10=some (twoV A B sgA arA enA sgB arB enB ux uy):=h.ar.cells (i:=0) (n:=10) (by simp [twoV])
theorem TBox.c0 {g:Nat} (h:TBox H g A B x y sgA arA enA sgB arB enB ux uy):H.cell ⟨g,0,some 0⟩=some sgA:=h.ar.cell 0
theorem TBox.c8 {g:Nat} (h:TBox H g A B x y sgA arA enA sgB arB enB ux uy):H.cell ⟨g,8,some 0⟩=some ux:=h.ar.cell 8
theorem TBox.c9 {g:Nat} (h:TBox H g A B x y sgA arA enA sgB arB enB ux uy):H.cell ⟨g,9,some 0⟩=some uy:=h.ar.cell 9
def TBox.nA {g:Nat} (h:TBox H g A B x y sgA arA enA sgB arB enB ux uy):A8k H (.agg #[sgA,.int .i64 A.states,arA,enA]) A:=⟨sgA,arA,enA,rfl,h.at'.a1,h.at'.a2,h.at'.a3⟩
def TBox.nB {g:Nat} (h:TBox H g A B x y sgA arA enA sgB arB enB ux uy):A8k H (.agg #[sgB,.int .i64 B.states,arB,enB]) B:=⟨sgB,arB,enB,rfl,h.at'.b1,h.at'.b2,h.at'.b3⟩
theorem C3g (h:TwoAt H A B x y sgA arA enA sgB arB enB ux uy):(twoV A B sgA arA enA sgB arB enB ux uy).all isCell=true:=by
 have hi:∀ n:Int,isCell (.int .i64 n)=true:=fun _=>rfl
 simp [twoV,h.a1.isCell,h.a2.isCell,h.a3.isCell,h.b1.isCell,h.b2.isCell,h.b3.isCell,h.x.isCell,h.y.isCell,hi]
theorem twoNew (h:TwoAt H A B x y sgA arA enA sgB arB enB ux uy):anew Tryz.prog 28 H (.agg (twoV A B sgA arA enA sgB arB enB ux uy).toArray)=some (.pointer (some ⟨H.next,0,some 0⟩),(H.new 10 (twoV A B sgA arA enA sgB arB enB ux uy)).2):=
 A4n (vs:=twoV A B sgA arA enA sgB arB enB ux uy) C8o rfl (C3g h)
theorem two_nets (hw:Wf H) (h:TwoAt H A B x y sgA arA enA sgB arB enB ux uy) (hA:A4c A) (hB:A4c B):
  ∃ H',A4a Tryz.prog 51 2 [(0,.agg #[sgA,.int .i64 A.states,arA,enA]),(1,.agg #[sgB,.int .i64 B.states,arB,enB])] H=some (.slice (some ⟨H.next,0,some 0⟩) 2 2,H')∧Kept H H'∧
   Sl H' (.slice (some ⟨H.next,0,some 0⟩) 2 2) 4 [[sgA,.int .i64 A.states,arA,enA],[sgB,.int .i64 B.states,arB,enB]]∧∀ r∈[[sgA,.int .i64 A.states,arA,enA],[sgB,.int .i64 B.states,arB,enB]],NetRow H' r:=by
 have k:=Kept.new hw 4 [sgA,.int .i64 A.states,arA,enA,sgB,.int .i64 B.states,arB,enB]
 refine ⟨(H.new 4 [sgA,.int .i64 A.states,arA,enA,sgB,.int .i64 B.states,arB,enB]).2,?_,k,(Buf.fresh (H:=H) (s:=4) (xs:=[[sgA,.int .i64 A.states,arA,enA],[sgB,.int .i64 B.states,arB,enB]]) hw (by
  intro x hx
  simp only [List.mem_cons,List.not_mem_nil,or_false] at hx
  rcases hx with rfl | rfl <;> rfl) (by simp) 2 rfl).toSl,fun r hr=>?_⟩
 ·unfold A4a
  have va:∀ xs:Array Value,A8a (.agg xs)=xs.toList:=fun _=>rfl
  have hi:∀ n:Int,isCell (.int .i64 n)=true:=fun _=>rfl
  have hn:(H.new 4 [sgA,.int .i64 A.states,arA,enA,sgB,.int .i64 B.states,arB,enB]).1=⟨H.next,0,some 0⟩:=rfl
  simp only [Tryz.underlying51,A6o,A01,Option.bind_some,va]
  simp [repl,A5r,va,h.a1.isCell,h.a2.isCell,h.a3.isCell,h.b1.isCell,h.b2.isCell,h.b3.isCell,hi,setCells,A6a,A0c,hn]
 ·simp only [List.mem_cons,List.not_mem_nil,or_false] at hr
  have h':=h.kept hw k
  rcases hr with rfl | rfl
  ·exact ⟨A,sgA,arA,enA,rfl,h'.a1,h'.a2,h'.a3,hA⟩
  ·exact ⟨B,sgB,arB,enB,rfl,h'.b1,h'.b2,h'.b3,hB⟩
end
theorem C4m {H:AH} {A B:NetD} {x y:List ByteArray} {sgA arA enA sgB arB enB ux uy:Value} {kd err:Int} {P:List ByteArray→List ByteArray→Prop}
  (hj:∀ {H:AH} {va vb:Value},A8k H va A→A8k H vb B→Wf H→Sh.Call Tryz.prog (knows 8) 11 [va,vb,.int .i64 kd] H (fun r H'=>JoinOut H H' A.sigma err P r))
  (hr:∀ {H:AH} {va vb:Value},A8k H va A→A8k H vb B→Wf H→Sh.Call Tryz.prog (knows 8) 12 [va,vb,.int .i64 kd] H (fun r H'=>Kept H H'∧r=.int .i64 err))
  (hm:err=0→∀ {H:AH} {va vb ux uy:Value},A8k H va A→A8k H vb B→Sl H ux 1 (x.map A1b)→Sl H uy 1 (y.map A1b)→x.length≤400→y.length≤400→Wf H→Sh.Call Tryz.prog (knows 8) 16 [va,vb,.int .i64 kd,ux,uy] H (fun r H'=>Kept H H'∧r=.bool (tB (P x y))))
  (h:TwoAt H A B x y sgA arA enA sgB arB enB ux uy) (hA:A4c A) (hB:A4c B) (hxl:x.length≤1048576) (hyl:y.length≤1048576) (hw:Wf H):
  Sh.Call Tryz.prog (knows 8) 7 [.agg (twoV A B sgA arA enA sgB arB enB ux uy).toArray,.int .i64 kd] H (fun r H'=>Kept H H'∧r=.bool true):=by
 refine A3b rfl Tryz.func7 rfl (Nat.le_of_ble_eq_true rfl) ?_
 have hres:Tryz.f7.results.toList=[.tmp 4]:=rfl
 have t1:=TBox.new h hw
 have k1:Kept H (H.new 10 (twoV A B sgA arA enA sgB arB enB ux uy)).2:=Kept.new hw 10 _
 simp only [↓Sh.dn,sx,Nat.reduceBEq,reduceCtorEq,Nat.reduceEqDiff,twoNew h]
 generalize H.next=g at t1 ⊢
 generalize (H.new 10 (twoV A B sgA arA enA sgB arB enB ux uy)).2=H1 at t1 k1 ⊢
 obtain ⟨H2,hb2,k2,sl2,row2⟩:=two_nets k1.wf t1.at' hA hB
 obtain ⟨r,H3,hd3,rfl,b,rfl⟩:=lawOver sl2 (by simp) row2
 have t2:=t1.kept k1.wf k2
 have k12:=k1.trans k2
 simp only [↓Sh.dn,sx,Nat.reduceBEq,reduceCtorEq,Nat.reduceEqDiff,t1.cA,t1.cB,t1.c8,t1.c9,Option.map_some,hb2]
 refine ⟨_,_,hd3,?_⟩
 generalize (Value.slice (some ⟨H1.next,0,some 0⟩) 2 2)=lv at hd3 ⊢
 cases b with
 | true=>
  obtain ⟨r,H4,hd4,rfl,rfl⟩:=A2y (H:=H3)
  simp only [↓Sh.dn,sx,Nat.reduceBEq,reduceCtorEq,Nat.reduceEqDiff]
  refine ⟨_,_,hd4,?_⟩
  simp only [↓Sh.dn,sx,Nat.reduceBEq,reduceCtorEq,Nat.reduceEqDiff,hres]
  exact k12
 | false=>
 have hbs:=C9g (P:=Tryz.prog) (H:=H3) Tryz.underlying48 A0x B8m rfl t2.at'.x.isCell t2.at'.y.isCell
 have hJ:=two_jag t2.at'.x t2.at'.y k12.wf
 have km:=Kept.new k12.wf 1 [ux,uy]
 obtain ⟨r,K2,hd2,rfl,rfl⟩:=lawLong hJ (by simp)
 simp only [↓Sh.dn,sx,Nat.reduceBEq,reduceCtorEq,Nat.reduceEqDiff,t2.cA,t2.cB,t2.c8,t2.c9,Option.map_some,hbs]
 refine ⟨_,_,hd2,?_⟩
 have t3:=t2.kept k12.wf km
 have k13:=k12.trans km
 generalize (H3.new 1 [ux,uy]).2=H4 at km t3 k13 ⊢
 cases hlg:[x,y].any fun w=>decide (240 < w.length) with
 | true=>
  obtain ⟨r,H5,hd4,rfl,rfl⟩:=A2y (H:=H4)
  simp only [↓Sh.dn,sx,Nat.reduceBEq,reduceCtorEq,Nat.reduceEqDiff]
  refine ⟨_,_,hd4,?_⟩
  simp only [↓Sh.dn,sx,Nat.reduceBEq,reduceCtorEq,Nat.reduceEqDiff,hres]
  exact k13
 | false=>
 have hx4:x.length≤400∧y.length≤400:=by
  simp only [List.any_cons,List.any_nil,Bool.or_false,Bool.or_eq_false_iff,decide_eq_false_iff_not] at hlg
  omega
 obtain ⟨r5,H5,hd5,k5,mv,rfl,hbad,hok⟩:=hj t3.nA t3.nB k13.wf
 simp only [↓Sh.dn,sx,Nat.reduceBEq,reduceCtorEq,Nat.reduceEqDiff,t3.cA,t3.cB,Option.map_some]
 refine ⟨_,_,hd5,?_⟩
 have t5:=t3.kept k13.wf k5
 have k15:=k13.trans k5
 by_cases hE:err=0
 case neg=>
  have hz:=hbad hE
  unfold A86 at hz
  subst hz
  have k6:=Kept.new k15.wf 4 [.slice none 0 0,.int .i64 0,.slice none 0 0,.slice none 0 0]
  have hb6:=NetBox.of (N:=⟨[],0,[],[]⟩) k15.wf (Sl.nil H5 1) (Sl.nil H5 5) (Sl.nil H5 2)
  simp only [↓Sh.dn,sx,Nat.reduceBEq,reduceCtorEq,Nat.reduceEqDiff,A1c,A9z (H:=(H5.new 4 [.slice none 0 0,.int .i64 0,.slice none 0 0,.slice none 0 0]).2) (sg:=.slice none 0 0) (ar:=.slice none 0 0) (en:=.slice none 0 0) rfl rfl rfl,A3c]
  simp only [] at hb6
  have t6:=t5.kept k15.wf k6
  have k16:=k15.trans k6
  generalize H5.next=gn at hb6 ⊢
  generalize (H5.new 4 [.slice none 0 0,.int .i64 0,.slice none 0 0,.slice none 0 0]).2=H6 at hb6 t6 k6 k16 ⊢
  obtain ⟨r7,H7,hd7,k7,rfl⟩:=hr t6.nA t6.nB k16.wf
  simp only [↓Sh.dn,sx,Nat.reduceBEq,reduceCtorEq,Nat.reduceEqDiff,t6.cA,t6.cB,Option.map_some]
  refine ⟨_,_,hd7,?_⟩
  have hb7:=hb6.kept k16.wf k7
  have k17:=k16.trans k7
  obtain ⟨r8,H8,hd8,k8,rfl⟩:=lawNone k17.wf
  unfold A86 at hd8
  obtain ⟨r9,H9,hd9,rfl,rfl⟩:=A2y (H:=H8)
  simp only [↓Sh.dn,sx,Nat.reduceBEq,reduceCtorEq,Nat.reduceEqDiff,hE,decide_false,eq_self,decide_true,hb7.c0,hb7.c1,hb7.c2,hb7.c3,hb7.ca,A3a hb7,A1a hb7,A2a hb7,Option.map_some]
  refine ⟨_,_,hd8,?_⟩
  simp only [↓Sh.dn,sx,Nat.reduceBEq,reduceCtorEq,Nat.reduceEqDiff]
  refine ⟨_,_,hd9,?_⟩
  simp only [↓Sh.dn,sx,Nat.reduceBEq,reduceCtorEq,Nat.reduceEqDiff,hres]
  exact k17.trans k8
 obtain ⟨M,hM,m1,m2,m3,m4⟩:=hok hE
 obtain ⟨⟨sgM,arM,enM,rfl,z1,z2,z3⟩⟩:=hM H5 fun _ _=>rfl
 have k6:=Kept.new k15.wf 4 [sgM,.int .i64 M.states,arM,enM]
 have hb6:=NetBox.of (N:=M) k15.wf z1 z2 z3
 simp only [↓Sh.dn,sx,Nat.reduceBEq,reduceCtorEq,Nat.reduceEqDiff,A1c,A9z z1.isCell z2.isCell z3.isCell,A3c]
 have t6:=t5.kept k15.wf k6
 have k16:=k15.trans k6
 generalize H5.next=gn at hb6 ⊢
 generalize (H5.new 4 [sgM,.int .i64 M.states,arM,enM]).2=H6 at hb6 t6 k6 k16 ⊢
 obtain ⟨r7,H7,hd7,k7,rfl⟩:=hr t6.nA t6.nB k16.wf
 simp only [↓Sh.dn,sx,Nat.reduceBEq,reduceCtorEq,Nat.reduceEqDiff,t6.cA,t6.cB,Option.map_some]
 refine ⟨_,_,hd7,?_⟩
 have hb7:=hb6.kept k16.wf k7
 have t7:=t6.kept k16.wf k7
 have k17:=k16.trans k7
 subst hE
 have i03:decide ((0:Int)=3)=false:=rfl
 simp only [↓Sh.dn,sx,Nat.reduceBEq,reduceCtorEq,Nat.reduceEqDiff,i03,eq_self,decide_true]
 obtain ⟨r8,H8,hd8,k8,rfl⟩:=hm rfl t7.nA t7.nB t7.at'.x t7.at'.y hx4.1 hx4.2 k17.wf
 have hb8:=hb7.kept k17.wf k8
 have t8:=t7.kept k17.wf k8
 have k18:=k17.trans k8
 have he:tB (P x y)=tB (A76 M x y):=by rw [Bool.eq_iff_iff,C8d,C8d,m4]
 obtain ⟨r9,H9,hd9,k9,rfl⟩:=lawMade hb8.netAt m1 m2 m3 t8.at'.a1 hA.sg t8.at'.x t8.at'.y hx4.1 hx4.2 he k18.wf
 have k19:=k18.trans k9
 obtain ⟨r10,H10,hd10,rfl,rfl⟩:=A2y (H:=H9)
 have hvqA:veq (.agg #[sgA,.int .i64 A.states,arA,enA]) (.agg #[sgA,.int .i64 A.states,arA,enA])=true:=A3x (by simp only [A6k,A1n,A3d,t7.at'.a1.veq,t7.at'.a2.veq,t7.at'.a3.veq,Bool.and_self])
 have hvqB:veq (.agg #[sgB,.int .i64 B.states,arB,enB]) (.agg #[sgB,.int .i64 B.states,arB,enB])=true:=A3x (by simp only [A6k,A1n,A3d,t7.at'.b1.veq,t7.at'.b2.veq,t7.at'.b3.veq,Bool.and_self])
 have hvqM:veq (.agg #[sgM,.int .i64 M.states,arM,enM]) (.agg #[sgM,.int .i64 M.states,arM,enM])=true:=A3x (by simp only [A6k,A1n,A3d,z1.veq,z2.veq,z3.veq,Bool.and_self])
 have vx:=t7.at'.x.veq
 have vy:=t7.at'.y.veq
 have vs:=t7.at'.a1.veq
 refine A8u (fl:=[(0,true),(1,true),(2,true),(3,false),(4,true),(5,true),(6,false),(7,true),(8,false),(9,true),(10,false),(11,true),(12,false),(13,true),(14,false),(15,true),(16,true),(17,false),(18,true),(19,false),(20,false),(21,true),(22,true),(23,true),(24,true),(25,true),(26,true)]) (by kernel_rfl) (by kernel_rfl) k17.wf ?_
 simp only [↓Sh.dn,sx,Nat.reduceBEq,reduceCtorEq,Nat.reduceEqDiff,wpg,A50,isEff,A2c,isRead,A7f,A3d,A8f,A9d,A6c,forall_eq,forall_eq',eq_self,decide_true,hb7.c0,hb7.c1,hb7.c2,hb7.c3,hb7.ca,A3a hb7,A1a hb7,A2a hb7,t7.cA,t7.cB,t7.c0,t7.c8,t7.c9,Option.map_some,hvqA,hvqB,hvqM,vx,vy,vs]
 refine ⟨_,_,hd8,k8.wf,k8.grow k17.wf,?_⟩
 refine ⟨_,_,hd9,k9.wf,?_⟩
 simp only [↓Sh.dn,sx,Nat.reduceBEq,reduceCtorEq,Nat.reduceEqDiff,wpg,A50,isEff,A2c,isRead,A7f,A3d,A8f,A9d,A6c,forall_eq,forall_eq']
 refine ⟨_,_,hd10,k9.wf,?_⟩
 simp only [↓Sh.dn,sx,Nat.reduceBEq,reduceCtorEq,Nat.reduceEqDiff,wpg,A50,isEff,A2c,isRead,A7f,A3d,A8f,A9d,A6c,forall_eq,forall_eq',hres]
 exact k19
end Go.Proofs.YtnoengaghabmjaaGreatDoor
/- What comes in: two nets and two lists. -/
namespace Go.Proofs.YtnoengaghabmjaaGreatDoor
open Go Go.Proofs Go.Proofs.Sh
theorem ten {c:List Value} (h:c.length=10):∃ a b x y z a' b' x' y' z',c=[a,b,x,y,z,a',b',x',y',z']:=by
 match c,h with
 | [a,b,x,y,z,a',b',x',y',z'],_=>exact ⟨a,b,x,y,z,a',b',x',y',z',rfl⟩
theorem two_in {K:Type} {H:AH} {f:Nat} {v:Value} {d:DataW K} (h:RD Tryz.prog H f 28 (A8a v) d) (hb:Rows.uptoBulk d≤1048576):
  ∃ (A B:NetD) (x y:List ByteArray) (sgA arA enA sgB arB enB ux uy:Value),v=.agg (twoV A B sgA arA enA sgB arB enB ux uy).toArray∧TwoAt H A B x y sgA arA enA sgB arB enB ux uy∧A4c A∧A4c B∧x.length≤1048576∧y.length≤1048576:=by
 obtain ⟨f',ds,rfl,h1,h2,h3⟩:=RD.struct Tryz.underlying28 h
 rw [cells_28] at h1
 obtain ⟨c0,c1,c2,c3,c4,c5,c6,c7,c8,c9,hv⟩:=ten h1
 rw [hv] at h3
 have h2':ds.length=4:=h2
 obtain ⟨d0,e0⟩:=A8j h2' (i:=0) (by omega)
 obtain ⟨d1,e1⟩:=A8j h2' (i:=1) (by omega)
 obtain ⟨d2,e2⟩:=A8j h2' (i:=2) (by omega)
 obtain ⟨d3,e3⟩:=A8j h2' (i:=3) (by omega)
 have g0:=h3 0 _ _ rfl e0
 have g1:=h3 1 _ _ rfl e1
 have g2:=h3 2 _ _ rfl e2
 have g3:=h3 3 _ _ rfl e3
 simp only [C4b,B14,List.drop_zero,List.drop_succ_cons,List.take_succ_cons,List.take_zero,List.getElem_toArray,List.getElem_cons_zero,List.getElem_cons_succ] at g0 g1 g2 g3
 have m0:=A4s (List.mem_of_getElem? e0)
 have m1:=A4s (List.mem_of_getElem? e1)
 have m2:=A4s (List.mem_of_getElem? e2)
 have m3:=A4s (List.mem_of_getElem? e3)
 simp only [Rows.uptoBulk] at hb
 obtain ⟨A,⟨nA⟩,sA,_⟩:=net_in (v:=.agg #[c0,c1,c2,c3]) g0 (by omega)
 obtain ⟨B,⟨nB⟩,sB,_⟩:=net_in (v:=.agg #[c4,c5,c6,c7]) g1 (by omega)
 obtain ⟨ux,x,qx,sx',bx⟩:=B53 g2
 obtain ⟨uy,y,qy,sy',by'⟩:=B53 g3
 simp only [List.cons.injEq,and_true] at qx qy
 subst qx qy
 obtain ⟨sgA,arA,enA,eA,a1,a2,a3⟩:=nA
 obtain ⟨sgB,arB,enB,eB,b1,b2,b3⟩:=nB
 simp only [Value.agg.injEq,Array.mk.injEq,List.cons.injEq,and_true] at eA eB
 obtain ⟨rfl,rfl,rfl,rfl⟩:=eA
 obtain ⟨rfl,rfl,rfl,rfl⟩:=eB
 exact ⟨A,B,x,y,_,_,_,_,_,_,_,_,agg_of hv,⟨a1,a2,a3,b1,b2,b3,sx',sy'⟩,sA,sB,by omega,by omega⟩
end Go.Proofs.YtnoengaghabmjaaGreatDoor
