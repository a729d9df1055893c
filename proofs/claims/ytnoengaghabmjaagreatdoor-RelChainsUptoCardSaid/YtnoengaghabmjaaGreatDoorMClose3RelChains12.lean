/- A part of the proof: LawJoined, TwoIn, JoinErr, GraphChain, RelChain, JoinChain, RefTwo, MadeChain, LawRelChains, LaidW. -/
import Derived.Test.YtnoengaghabmjaaGreatDoorMClose3RelChains10
import Derived.Test.YtnoengaghabmjaaGreatDoorMClose3RelChains11
import Derived.ProofKit
import Derived.Test.YtnoengaghabmjaaGreatDoorRows
import Derived.Test.YtnoengaghabmjaaGreatDoorProg
import Derived.Deep.DeepHandedRow
import Derived.Deep.DeepWitnessRowRef
import Derived.Lib.LaidIn
import Derived.KernelRfl
set_option linter.unusedVariables false
set_option linter.unusedSimpArgs false
/- What laws about two nets have alike: a net is made of them that holds what it should, or the error is as told. -/
set_option maxHeartbeats 4000000
set_option maxRecDepth 20000
set_option linter.unusedSimpArgs false
set_option linter.unusedVariables false
namespace Go.Proofs.YtnoengaghabmjaaGreatDoor
open Go Go.Proofs Go.Proofs.Sh
theorem A0v {H:AH}:Sh.Call Tryz.prog (knows 8) 8 [] H (fun r H'=>H'=H∧r=.bool true):=⟨_,_,⟨0,rfl⟩,rfl,rfl⟩
def twoV (A B:NetD) (sgA arA enA sgB arB enB ux uy:Value):List Value:=[sgA,.int .i64 A.states,arA,enA,sgB,.int .i64 B.states,arB,enB,ux,uy]
structure TwoAt (H:AH) (A B:NetD) (x y:List ByteArray) (sgA arA enA sgB arB enB ux uy:Value):Prop where
 a1:Sl H sgA 1 (A.sigma.map A0b)
 a2:Sl H arA 5 (A.arcs.map ArcD.cells)
 a3:Sl H enA 2 (A.ends.map EndD.cells)
 b1:Sl H sgB 1 (B.sigma.map A0b)
 b2:Sl H arB 5 (B.arcs.map ArcD.cells)
 b3:Sl H enB 2 (B.ends.map EndD.cells)
 x:Sl H ux 1 (x.map A0b)
 y:Sl H uy 1 (y.map A0b)
section
variable {H H':AH} {A B:NetD} {x y:List ByteArray} {sgA arA enA sgB arB enB ux uy:Value}
theorem TwoAt.kept (h:TwoAt H A B x y sgA arA enA sgB arB enB ux uy) (hw:Wf H) (hk:Kept H H'):TwoAt H' A B x y sgA arA enA sgB arB enB ux uy:=
 ⟨h.a1.grow (hk.grow hw),h.a2.grow (hk.grow hw),h.a3.grow (hk.grow hw),h.b1.grow (hk.grow hw),h.b2.grow (hk.grow hw),h.b3.grow (hk.grow hw),h.x.grow (hk.grow hw),h.y.grow (hk.grow hw)⟩
structure TBox (H:AH) (g:Nat) (A B:NetD) (x y:List ByteArray) (sgA arA enA sgB arB enB ux uy:Value):Prop where
 ar:Arr H g 0 10 (twoV A B sgA arA enA sgB arB enB ux uy)
 at':TwoAt H A B x y sgA arA enA sgB arB enB ux uy
theorem TBox.kept {g:Nat} (h:TBox H g A B x y sgA arA enA sgB arB enB ux uy) (hw:Wf H) (hk:Kept H H'):TBox H' g A B x y sgA arA enA sgB arB enB ux uy:=
 ⟨h.ar.keep (hk.old g (h.ar.lt hw)),h.at'.kept hw hk⟩
theorem TBox.new (h:TwoAt H A B x y sgA arA enA sgB arB enB ux uy) (hw:Wf H):TBox (H.new 10 (twoV A B sgA arA enA sgB arB enB ux uy)).2 H.next A B x y sgA arA enA sgB arB enB ux uy:=
 ⟨(Sh.Obj.new (H:=H) 10 _).arr,h.kept hw (Kept.new hw 10 _)⟩
theorem TBox.cA {g:Nat} (h:TBox H g A B x y sgA arA enA sgB arB enB ux uy):H.cells ⟨g,0,some 0⟩ 4=some [sgA,.int .i64 A.states,arA,enA]:=h.ar.cells (i:=0) (n:=4) (by simp [twoV])
theorem TBox.cB {g:Nat} (h:TBox H g A B x y sgA arA enA sgB arB enB ux uy):H.cells ⟨g,4,some 0⟩ 4=some [sgB,.int .i64 B.states,arB,enB]:=h.ar.cells (i:=4) (n:=4) (by simp [twoV])
theorem TBox.cT {g:Nat} (h:TBox H g A B x y sgA arA enA sgB arB enB ux uy):H.cells ⟨g,0,some 0⟩ 10=some (twoV A B sgA arA enA sgB arB enB ux uy):=h.ar.cells (i:=0) (n:=10) (by simp [twoV])
theorem TBox.c0 {g:Nat} (h:TBox H g A B x y sgA arA enA sgB arB enB ux uy):H.cell ⟨g,0,some 0⟩=some sgA:=h.ar.cell 0
theorem TBox.c8 {g:Nat} (h:TBox H g A B x y sgA arA enA sgB arB enB ux uy):H.cell ⟨g,8,some 0⟩=some ux:=h.ar.cell 8
theorem TBox.c9 {g:Nat} (h:TBox H g A B x y sgA arA enA sgB arB enB ux uy):H.cell ⟨g,9,some 0⟩=some uy:=h.ar.cell 9
def TBox.nA {g:Nat} (h:TBox H g A B x y sgA arA enA sgB arB enB ux uy):A6l H (.agg #[sgA,.int .i64 A.states,arA,enA]) A:=⟨sgA,arA,enA,rfl,h.at'.a1,h.at'.a2,h.at'.a3⟩
def TBox.nB {g:Nat} (h:TBox H g A B x y sgA arA enA sgB arB enB ux uy):A6l H (.agg #[sgB,.int .i64 B.states,arB,enB]) B:=⟨sgB,arB,enB,rfl,h.at'.b1,h.at'.b2,h.at'.b3⟩
theorem C2b (h:TwoAt H A B x y sgA arA enA sgB arB enB ux uy):(twoV A B sgA arA enA sgB arB enB ux uy).all isCell=true:=by
 have hi:∀ n:Int,isCell (.int .i64 n)=true:=fun _=>rfl
 simp [twoV,h.a1.isCell,h.a2.isCell,h.a3.isCell,h.b1.isCell,h.b2.isCell,h.b3.isCell,h.x.isCell,h.y.isCell,hi]
theorem twoNew (h:TwoAt H A B x y sgA arA enA sgB arB enB ux uy):anew Tryz.prog 28 H (.agg (twoV A B sgA arA enA sgB arB enB ux uy).toArray)=some (.pointer (some ⟨H.next,0,some 0⟩),(H.new 10 (twoV A B sgA arA enA sgB arB enB ux uy)).2):=
 A2p (vs:=twoV A B sgA arA enA sgB arB enB ux uy) C3c rfl (C2b h)
theorem two_nets (hw:Wf H) (h:TwoAt H A B x y sgA arA enA sgB arB enB ux uy) (hA:A2c A) (hB:A2c B):
  ∃ H',A4a Tryz.prog 51 2 [(0,.agg #[sgA,.int .i64 A.states,arA,enA]),(1,.agg #[sgB,.int .i64 B.states,arB,enB])] H=some (.slice (some ⟨H.next,0,some 0⟩) 2 2,H')∧Kept H H'∧
   Sl H' (.slice (some ⟨H.next,0,some 0⟩) 2 2) 4 [[sgA,.int .i64 A.states,arA,enA],[sgB,.int .i64 B.states,arB,enB]]∧∀ r∈[[sgA,.int .i64 A.states,arA,enA],[sgB,.int .i64 B.states,arB,enB]],NetRow H' r:=by
 have k:=Kept.new hw 4 [sgA,.int .i64 A.states,arA,enA,sgB,.int .i64 B.states,arB,enB]
 refine ⟨(H.new 4 [sgA,.int .i64 A.states,arA,enA,sgB,.int .i64 B.states,arB,enB]).2,?_,k,(Buf.fresh (H:=H) (s:=4) (xs:=[[sgA,.int .i64 A.states,arA,enA],[sgB,.int .i64 B.states,arB,enB]]) hw (by
  intro x hx
  simp only [List.mem_cons,List.not_mem_nil,or_false] at hx
  rcases hx with rfl | rfl <;> rfl) (by simp) 2 rfl).toSl,fun r hr=>?_⟩
 ·unfold A4a
  have va:∀ xs:Array Value,A7a (.agg xs)=xs.toList:=fun _=>rfl
  have hi:∀ n:Int,isCell (.int .i64 n)=true:=fun _=>rfl
  have hn:(H.new 4 [sgA,.int .i64 A.states,arA,enA,sgB,.int .i64 B.states,arB,enB]).1=⟨H.next,0,some 0⟩:=rfl
  simp only [Tryz.underlying51,A6n,A9z,Option.bind_some,va]
  simp [repl,A9r,va,h.a1.isCell,h.a2.isCell,h.a3.isCell,h.b1.isCell,h.b2.isCell,h.b3.isCell,hi,setCells,A6a,A5b,hn]
 ·simp only [List.mem_cons,List.not_mem_nil,or_false] at hr
  have h':=h.kept hw k
  rcases hr with rfl | rfl
  ·exact ⟨A,sgA,arA,enA,rfl,h'.a1,h'.a2,h'.a3,hA⟩
  ·exact ⟨B,sgB,arB,enB,rfl,h'.b1,h'.b2,h'.b3,hB⟩
end
theorem C9k {H:AH} {A B:NetD} {x y:List ByteArray} {sgA arA enA sgB arB enB ux uy:Value} {kd err:Int} {P:List ByteArray→List ByteArray→Prop}
  (hj:∀ {H:AH} {va vb:Value},A6l H va A→A6l H vb B→Wf H→Sh.Call Tryz.prog (knows 8) 11 [va,vb,.int .i64 kd] H (fun r H'=>JoinOut H H' A.sigma err P r))
  (hr:∀ {H:AH} {va vb:Value},A6l H va A→A6l H vb B→Wf H→Sh.Call Tryz.prog (knows 8) 12 [va,vb,.int .i64 kd] H (fun r H'=>Kept H H'∧r=.int .i64 err))
  (hm:err=0→∀ {H:AH} {va vb ux uy:Value},A6l H va A→A6l H vb B→Sl H ux 1 (x.map A0b)→Sl H uy 1 (y.map A0b)→x.length≤400→y.length≤400→Wf H→Sh.Call Tryz.prog (knows 8) 16 [va,vb,.int .i64 kd,ux,uy] H (fun r H'=>Kept H H'∧r=.bool (tB (P x y))))
  (h:TwoAt H A B x y sgA arA enA sgB arB enB ux uy) (hA:A2c A) (hB:A2c B) (hxl:x.length≤1048576) (hyl:y.length≤1048576) (hw:Wf H):
  Sh.Call Tryz.prog (knows 8) 7 [.agg (twoV A B sgA arA enA sgB arB enB ux uy).toArray,.int .i64 kd] H (fun r H'=>Kept H H'∧r=.bool true):=by
 refine A3b rfl Tryz.func7 rfl (Nat.le_of_ble_eq_true rfl) ?_
 have hres:Tryz.f7.results.toList=[.tmp 4]:=rfl
 have t1:=TBox.new h hw
 have k1:Kept H (H.new 10 (twoV A B sgA arA enA sgB arB enB ux uy)).2:=Kept.new hw 10 _
 simp only [↓Sh.dn,sx,Nat.reduceBEq,reduceCtorEq,Nat.reduceEqDiff,twoNew h]
 generalize H.next=g at t1 ⊢
 generalize (H.new 10 (twoV A B sgA arA enA sgB arB enB ux uy)).2=H1 at t1 k1 ⊢
 obtain ⟨H2,hb2,k2,sl2,row2⟩:=two_nets k1.wf t1.at' hA hB
 obtain ⟨r,H3,hd3,rfl,b,rfl⟩:=lawOver sl2 (by simp) row2
 have t2:=t1.kept k1.wf k2
 have k12:=k1.trans k2
 simp only [↓Sh.dn,sx,Nat.reduceBEq,reduceCtorEq,Nat.reduceEqDiff,t1.cA,t1.cB,t1.c8,t1.c9,Option.map_some,hb2]
 refine ⟨_,_,hd3,?_⟩
 generalize (Value.slice (some ⟨H1.next,0,some 0⟩) 2 2)=lv at hd3 ⊢
 cases b with
 | true=>
  obtain ⟨r,H4,hd4,rfl,rfl⟩:=A0v (H:=H3)
  simp only [↓Sh.dn,sx,Nat.reduceBEq,reduceCtorEq,Nat.reduceEqDiff]
  refine ⟨_,_,hd4,?_⟩
  simp only [↓Sh.dn,sx,Nat.reduceBEq,reduceCtorEq,Nat.reduceEqDiff,hres]
  exact k12
 | false=>
 have hbs:=C5b (P:=Tryz.prog) (H:=H3) Tryz.underlying48 A6u B5l rfl t2.at'.x.isCell t2.at'.y.isCell
 have hJ:=two_jag t2.at'.x t2.at'.y k12.wf
 have km:=Kept.new k12.wf 1 [ux,uy]
 obtain ⟨r,K2,hd2,rfl,rfl⟩:=lawLong hJ (by simp)
 simp only [↓Sh.dn,sx,Nat.reduceBEq,reduceCtorEq,Nat.reduceEqDiff,t2.cA,t2.cB,t2.c8,t2.c9,Option.map_some,hbs]
 refine ⟨_,_,hd2,?_⟩
 have t3:=t2.kept k12.wf km
 have k13:=k12.trans km
 generalize (H3.new 1 [ux,uy]).2=H4 at km t3 k13 ⊢
 cases hlg:[x,y].any fun w=>decide (240 < w.length) with
 | true=>
  obtain ⟨r,H5,hd4,rfl,rfl⟩:=A0v (H:=H4)
  simp only [↓Sh.dn,sx,Nat.reduceBEq,reduceCtorEq,Nat.reduceEqDiff]
  refine ⟨_,_,hd4,?_⟩
  simp only [↓Sh.dn,sx,Nat.reduceBEq,reduceCtorEq,Nat.reduceEqDiff,hres]
  exact k13
 | false=>
 have hx4:x.length≤400∧y.length≤400:=by
  simp only [List.any_cons,List.any_nil,Bool.or_false,Bool.or_eq_false_iff,decide_eq_false_iff_not] at hlg
  omega
 obtain ⟨r5,H5,hd5,k5,mv,rfl,hbad,hok⟩:=hj t3.nA t3.nB k13.wf
 simp only [↓Sh.dn,sx,Nat.reduceBEq,reduceCtorEq,Nat.reduceEqDiff,t3.cA,t3.cB,Option.map_some]
 refine ⟨_,_,hd5,?_⟩
 have t5:=t3.kept k13.wf k5
 have k15:=k13.trans k5
 by_cases hE:err=0
 case neg=>
  have hz:=hbad hE
  unfold A53 at hz
  subst hz
  have k6:=Kept.new k15.wf 4 [.slice none 0 0,.int .i64 0,.slice none 0 0,.slice none 0 0]
  have hb6:=NetBox.of (N:=⟨[],0,[],[]⟩) k15.wf (Sl.nil H5 1) (Sl.nil H5 5) (Sl.nil H5 2)
  simp only [↓Sh.dn,sx,Nat.reduceBEq,reduceCtorEq,Nat.reduceEqDiff,A9b,A0u (H:=(H5.new 4 [.slice none 0 0,.int .i64 0,.slice none 0 0,.slice none 0 0]).2) (sg:=.slice none 0 0) (ar:=.slice none 0 0) (en:=.slice none 0 0) rfl rfl rfl,A7c]
  simp only [] at hb6
  have t6:=t5.kept k15.wf k6
  have k16:=k15.trans k6
  generalize H5.next=gn at hb6 ⊢
  generalize (H5.new 4 [.slice none 0 0,.int .i64 0,.slice none 0 0,.slice none 0 0]).2=H6 at hb6 t6 k6 k16 ⊢
  obtain ⟨r7,H7,hd7,k7,rfl⟩:=hr t6.nA t6.nB k16.wf
  simp only [↓Sh.dn,sx,Nat.reduceBEq,reduceCtorEq,Nat.reduceEqDiff,t6.cA,t6.cB,Option.map_some]
  refine ⟨_,_,hd7,?_⟩
  have hb7:=hb6.kept k16.wf k7
  have k17:=k16.trans k7
  obtain ⟨r8,H8,hd8,k8,rfl⟩:=lawNone k17.wf
  unfold A53 at hd8
  obtain ⟨r9,H9,hd9,rfl,rfl⟩:=A0v (H:=H8)
  simp only [↓Sh.dn,sx,Nat.reduceBEq,reduceCtorEq,Nat.reduceEqDiff,hE,decide_false,eq_self,decide_true,hb7.c0,hb7.c1,hb7.c2,hb7.c3,hb7.ca,A1a hb7,A3a hb7,A2a hb7,Option.map_some]
  refine ⟨_,_,hd8,?_⟩
  simp only [↓Sh.dn,sx,Nat.reduceBEq,reduceCtorEq,Nat.reduceEqDiff]
  refine ⟨_,_,hd9,?_⟩
  simp only [↓Sh.dn,sx,Nat.reduceBEq,reduceCtorEq,Nat.reduceEqDiff,hres]
  exact k17.trans k8
 obtain ⟨M,hM,m1,m2,m3,m4⟩:=hok hE
 obtain ⟨⟨sgM,arM,enM,rfl,z1,z2,z3⟩⟩:=hM H5 fun _ _=>rfl
 have k6:=Kept.new k15.wf 4 [sgM,.int .i64 M.states,arM,enM]
 have hb6:=NetBox.of (N:=M) k15.wf z1 z2 z3
 simp only [↓Sh.dn,sx,Nat.reduceBEq,reduceCtorEq,Nat.reduceEqDiff,A9b,A0u z1.isCell z2.isCell z3.isCell,A7c]
 have t6:=t5.kept k15.wf k6
 have k16:=k15.trans k6
 generalize H5.next=gn at hb6 ⊢
 generalize (H5.new 4 [sgM,.int .i64 M.states,arM,enM]).2=H6 at hb6 t6 k6 k16 ⊢
 obtain ⟨r7,H7,hd7,k7,rfl⟩:=hr t6.nA t6.nB k16.wf
 simp only [↓Sh.dn,sx,Nat.reduceBEq,reduceCtorEq,Nat.reduceEqDiff,t6.cA,t6.cB,Option.map_some]
 refine ⟨_,_,hd7,?_⟩
 have hb7:=hb6.kept k16.wf k7
 have t7:=t6.kept k16.wf k7
 have k17:=k16.trans k7
 subst hE
 have i03:decide ((0:Int)=3)=false:=rfl
 simp only [↓Sh.dn,sx,Nat.reduceBEq,reduceCtorEq,Nat.reduceEqDiff,i03,eq_self,decide_true]
 obtain ⟨r8,H8,hd8,k8,rfl⟩:=hm rfl t7.nA t7.nB t7.at'.x t7.at'.y hx4.1 hx4.2 k17.wf
 have hb8:=hb7.kept k17.wf k8
 have t8:=t7.kept k17.wf k8
 have k18:=k17.trans k8
 have he:tB (P x y)=tB (A2y M x y):=by rw [Bool.eq_iff_iff,B65,B65,m4]
 obtain ⟨r9,H9,hd9,k9,rfl⟩:=lawMade hb8.netAt m1 m2 m3 t8.at'.a1 hA.sg t8.at'.x t8.at'.y hx4.1 hx4.2 he k18.wf
 have k19:=k18.trans k9
 obtain ⟨r10,H10,hd10,rfl,rfl⟩:=A0v (H:=H9)
 have hvqA:veq (.agg #[sgA,.int .i64 A.states,arA,enA]) (.agg #[sgA,.int .i64 A.states,arA,enA])=true:=A5v (by simp only [A3k,A1m,A6d,t7.at'.a1.veq,t7.at'.a2.veq,t7.at'.a3.veq,Bool.and_self])
 have hvqB:veq (.agg #[sgB,.int .i64 B.states,arB,enB]) (.agg #[sgB,.int .i64 B.states,arB,enB])=true:=A5v (by simp only [A3k,A1m,A6d,t7.at'.b1.veq,t7.at'.b2.veq,t7.at'.b3.veq,Bool.and_self])
 have hvqM:veq (.agg #[sgM,.int .i64 M.states,arM,enM]) (.agg #[sgM,.int .i64 M.states,arM,enM])=true:=A5v (by simp only [A3k,A1m,A6d,z1.veq,z2.veq,z3.veq,Bool.and_self])
 have vx:=t7.at'.x.veq
 have vy:=t7.at'.y.veq
 have vs:=t7.at'.a1.veq
 refine A3x (fl:=[(0,true),(1,true),(2,true),(3,false),(4,true),(5,true),(6,false),(7,true),(8,false),(9,true),(10,false),(11,true),(12,false),(13,true),(14,false),(15,true),(16,true),(17,false),(18,true),(19,false),(20,false),(21,true),(22,true),(23,true),(24,true),(25,true),(26,true)]) (by kernel_rfl) (by kernel_rfl) k17.wf ?_
 simp only [↓Sh.dn,sx,Nat.reduceBEq,reduceCtorEq,Nat.reduceEqDiff,wpg,A3z,isEff,A4c,isRead,A2h,A6d,A1h,A0f,A7d,forall_eq,forall_eq',eq_self,decide_true,hb7.c0,hb7.c1,hb7.c2,hb7.c3,hb7.ca,A1a hb7,A3a hb7,A2a hb7,t7.cA,t7.cB,t7.c0,t7.c8,t7.c9,Option.map_some,hvqA,hvqB,hvqM,vx,vy,vs]
 refine ⟨_,_,hd8,k8.wf,k8.grow k17.wf,?_⟩
 refine ⟨_,_,hd9,k9.wf,?_⟩
 simp only [↓Sh.dn,sx,Nat.reduceBEq,reduceCtorEq,Nat.reduceEqDiff,wpg,A3z,isEff,A4c,isRead,A2h,A6d,A1h,A0f,A7d,forall_eq,forall_eq']
 refine ⟨_,_,hd10,k9.wf,?_⟩
 simp only [↓Sh.dn,sx,Nat.reduceBEq,reduceCtorEq,Nat.reduceEqDiff,wpg,A3z,isEff,A4c,isRead,A2h,A6d,A1h,A0f,A7d,forall_eq,forall_eq',hres]
 exact k19
end Go.Proofs.YtnoengaghabmjaaGreatDoor
/- What comes in: two nets and two lists. -/
namespace Go.Proofs.YtnoengaghabmjaaGreatDoor
open Go Go.Proofs Go.Proofs.Sh
theorem ten {c:List Value} (h:c.length=10):∃ a b x y z a' b' x' y' z',c=[a,b,x,y,z,a',b',x',y',z']:=by
 match c,h with
 | [a,b,x,y,z,a',b',x',y',z'],_=>exact ⟨a,b,x,y,z,a',b',x',y',z',rfl⟩
theorem two_in {K:Type} {H:AH} {f:Nat} {v:Value} {d:DataW K} (h:RD Tryz.prog H f 28 (A7a v) d) (hb:Rows.uptoBulk d≤1048576):
  ∃ (A B:NetD) (x y:List ByteArray) (sgA arA enA sgB arB enB ux uy:Value),v=.agg (twoV A B sgA arA enA sgB arB enB ux uy).toArray∧TwoAt H A B x y sgA arA enA sgB arB enB ux uy∧A2c A∧A2c B∧x.length≤1048576∧y.length≤1048576:=by
 obtain ⟨f',ds,rfl,h1,h2,h3⟩:=RD.struct Tryz.underlying28 h
 rw [cells_28] at h1
 obtain ⟨c0,c1,c2,c3,c4,c5,c6,c7,c8,c9,hv⟩:=ten h1
 rw [hv] at h3
 have h2':ds.length=4:=h2
 obtain ⟨d0,e0⟩:=A8j h2' (i:=0) (by omega)
 obtain ⟨d1,e1⟩:=A8j h2' (i:=1) (by omega)
 obtain ⟨d2,e2⟩:=A8j h2' (i:=2) (by omega)
 obtain ⟨d3,e3⟩:=A8j h2' (i:=3) (by omega)
 have g0:=h3 0 _ _ rfl e0
 have g1:=h3 1 _ _ rfl e1
 have g2:=h3 2 _ _ rfl e2
 have g3:=h3 3 _ _ rfl e3
 simp only [B45,B83,List.drop_zero,List.drop_succ_cons,List.take_succ_cons,List.take_zero,List.getElem_toArray,List.getElem_cons_zero,List.getElem_cons_succ] at g0 g1 g2 g3
 have m0:=A7q (List.mem_of_getElem? e0)
 have m1:=A7q (List.mem_of_getElem? e1)
 have m2:=A7q (List.mem_of_getElem? e2)
 have m3:=A7q (List.mem_of_getElem? e3)
 simp only [Rows.uptoBulk] at hb
 obtain ⟨A,⟨nA⟩,sA,_⟩:=net_in (v:=.agg #[c0,c1,c2,c3]) g0 (by omega)
 obtain ⟨B,⟨nB⟩,sB,_⟩:=net_in (v:=.agg #[c4,c5,c6,c7]) g1 (by omega)
 obtain ⟨ux,x,qx,sx',bx⟩:=B4w g2
 obtain ⟨uy,y,qy,sy',by'⟩:=B4w g3
 simp only [List.cons.injEq,and_true] at qx qy
 subst qx qy
 obtain ⟨sgA,arA,enA,eA,a1,a2,a3⟩:=nA
 obtain ⟨sgB,arB,enB,eB,b1,b2,b3⟩:=nB
 simp only [Value.agg.injEq,Array.mk.injEq,List.cons.injEq,and_true] at eA eB
 obtain ⟨rfl,rfl,rfl,rfl⟩:=eA
 obtain ⟨rfl,rfl,rfl,rfl⟩:=eB
 exact ⟨A,B,x,y,_,_,_,_,_,_,_,_,agg_of hv,⟨a1,a2,a3,b1,b2,b3,sx',sy'⟩,sA,sB,by omega,by omega⟩
end Go.Proofs.YtnoengaghabmjaaGreatDoor
/- What the reference finds wrong with two nets. -/
namespace Go.Proofs.YtnoengaghabmjaaGreatDoor
open Go Go.Proofs Go.Proofs.Sh
theorem refJoins {H:AH} {va vb:Value} {A B:NetD} {kd:Int} (hkd:kd=1∨kd=2) (ha:A6l H va A) (hb:A6l H vb B) (hA:A2c A) (hB:A2c B) (hw:Wf H):
  Sh.Call Tryz.prog (knows 8) 12 [va,vb,.int .i64 kd] H (fun r H'=>Kept H H'∧r=.int .i64 (A4e A B)):=by
 refine A3b rfl Tryz.func12 rfl (Nat.le_of_ble_eq_true rfl) ?_
 have hres:Tryz.f12.results.toList=[.tmp 6]:=rfl
 obtain ⟨sgA,arA,enA,rfl,s1,s2,s3⟩:=ha
 obtain ⟨sgB,arB,enB,rfl,t1,t2,t3⟩:=hb
 have bA:=NetBox.of (N:=A) hw s1 s2 s3
 have k1:=Kept.new hw 4 [sgA,.int .i64 A.states,arA,enA]
 have bB:=NetBox.of (N:=B) k1.wf (t1.grow (k1.grow hw)) (t2.grow (k1.grow hw)) (t3.grow (k1.grow hw))
 have k2:=k1.news 4 [sgB,.int .i64 B.states,arB,enB]
 have bA2:=bA.new k1.wf 4 [sgB,.int .i64 B.states,arB,enB]
 simp only [↓Sh.dn,sx,Nat.reduceBEq,reduceCtorEq,Nat.reduceEqDiff,A0m s1.isCell s2.isCell s3.isCell,A0m t1.isCell t2.isCell t3.isCell]
 obtain ⟨H1,hH1⟩:∃ K,(H.new 4 [sgA,.int .i64 A.states,arA,enA]).2=K:=⟨_,rfl⟩
 simp only [hH1] at k1 bB bA k2 bA2 ⊢
 obtain ⟨H2,hH2⟩:∃ K,(H1.new 4 [sgB,.int .i64 B.states,arB,enB]).2=K:=⟨_,rfl⟩
 simp only [hH2] at bB k2 bA2 ⊢
 generalize H.next=gA at bA2 ⊢
 generalize H1.next=gB at bB ⊢
 obtain ⟨r3,H3,hd3,k3,rfl⟩:=B6b bA2.netAt hA k2.wf
 have bA3:=bA2.kept k2.wf k3
 have bB3:=bB.kept k2.wf k3
 have k23:=k2.trans k3
 obtain ⟨r4,H4,hd4,k4,rfl⟩:=B6b bB3.netAt hB k23.wf
 have bA4:=bA3.kept k23.wf k4
 have bB4:=bB3.kept k23.wf k4
 have k24:=k23.trans k4
 obtain ⟨r5,H5,hd5,rfl,rfl⟩:=C0h bA4.hsg bB4.hsg hA.sg hB.sg k24.wf
 have q0:decide (kd=0)=false:=by rcases hkd with rfl | rfl <;> rfl
 simp only [↓Sh.dn,sx,Nat.reduceBEq,reduceCtorEq,Nat.reduceEqDiff,bA2.c0,bA2.c1,bA2.c2,bA2.c3,bA2.ca,A1a bA2,A3a bA2,A2a bA2,Option.map_some]
 refine ⟨_,_,hd3,?_⟩
 by_cases hE:A0h A=0
 case neg=>
  have e1:A4e A B=A0h A:=by unfold A4e A7j; rw [if_pos hE,if_pos hE]
  simp only [↓Sh.dn,sx,Nat.reduceBEq,reduceCtorEq,Nat.reduceEqDiff,hE,decide_false,hres,e1]
  exact k23
 simp only [↓Sh.dn,sx,Nat.reduceBEq,reduceCtorEq,Nat.reduceEqDiff,hE,decide_true,bB3.c0,bB3.c1,bB3.c2,bB3.c3,bB3.ca,A1a bB3,A3a bB3,A2a bB3,Option.map_some]
 refine ⟨_,_,hd4,?_⟩
 by_cases hF:A0h B=0
 case neg=>
  have e1:A4e A B=A0h B:=by unfold A4e A7j; simp only [hE,hF,ne_eq,not_true_eq_false,not_false_eq_true,if_true,if_false]
  simp only [↓Sh.dn,sx,Nat.reduceBEq,reduceCtorEq,Nat.reduceEqDiff,hF,decide_false,hres,e1]
  exact k24
 simp only [↓Sh.dn,sx,Nat.reduceBEq,reduceCtorEq,Nat.reduceEqDiff,hF,decide_true,bA4.c0,bA4.c1,bA4.c2,bA4.c3,bA4.ca,A1a bA4,A3a bA4,A2a bA4,bB4.c0,bB4.c1,bB4.c2,bB4.c3,bB4.ca,A1a bB4,A3a bB4,A2a bB4,Option.map_some]
 refine ⟨_,_,hd5,?_⟩
 by_cases hs:A.sigma=B.sigma
 case neg=>
  have e1:A4e A B=10:=by unfold A4e A7j; simp [hE,hF,hs]
  simp only [↓Sh.dn,sx,Nat.reduceBEq,reduceCtorEq,Nat.reduceEqDiff,hs,decide_false,hres,e1]
  exact k24
 have e1:A4e A B=if B3a A B=true then 3 else 0:=by unfold A4e A7j; simp [hE,hF,hs]
 obtain ⟨okA,_,_⟩:=A9h hE
 obtain ⟨okB,_,_⟩:=A9h hF
 have a1:=okA.st1
 have a2:=okA.st2
 have a3:=okA.ar
 have a4:=okA.en
 have b1:=okB.st1
 have b2:=okB.st2
 have b3:=okB.ar
 have b4:=okB.en
 have w1:IntKind.wrap .i64 (A.states+B.states)=A.states+B.states:=wrap64 (by omega) (by omega)
 have w2:IntKind.wrap .i64 ((A.arcs.length:Int)+(B.arcs.length:Int))=(A.arcs.length:Int)+(B.arcs.length:Int):=wrap64 (by omega) (by omega)
 have w3:IntKind.wrap .i64 ((A.ends.length:Int)+(B.ends.length:Int))=(A.ends.length:Int)+(B.ends.length:Int):=wrap64 (by omega) (by omega)
 have d2:decide ((50000:Int) < (A.arcs.length:Int)+(B.arcs.length:Int))=decide (50000 < A.arcs.length+B.arcs.length):=decide_eq_decide.2 (by omega)
 have d3:decide ((50000:Int) < (A.ends.length:Int)+(B.ends.length:Int))=decide (50000 < A.ends.length+B.ends.length):=decide_eq_decide.2 (by omega)
 have i21:decide ((2:Int)=1)=false:=rfl
 unfold B3a at e1
 cases p1:decide (300 < A.states+B.states) with
 | true=>
  simp only [p1,Bool.true_or,if_true] at e1
  rcases hkd with rfl | rfl <;> simp only [↓Sh.dn,sx,Nat.reduceBEq,reduceCtorEq,Nat.reduceEqDiff,hs,decide_true,q0,bA4.c0,bA4.c1,bA4.c2,bA4.c3,bA4.ca,A1a bA4,A3a bA4,A2a bA4,bB4.c0,bB4.c1,bB4.c2,bB4.c3,bB4.ca,A1a bB4,A3a bB4,A2a bB4,Option.map_some,eq_self,decide_false,i21,w1,p1,hres,e1] <;> exact k24
 | false=>
 cases p2:decide (50000 < A.arcs.length+B.arcs.length) with
 | true=>
  simp only [p1,p2,Bool.true_or,Bool.false_or,if_true] at e1
  rcases hkd with rfl | rfl <;> simp only [↓Sh.dn,sx,Nat.reduceBEq,reduceCtorEq,Nat.reduceEqDiff,hs,decide_true,q0,bA4.c0,bA4.c1,bA4.c2,bA4.c3,bA4.ca,A1a bA4,A3a bA4,A2a bA4,bB4.c0,bB4.c1,bB4.c2,bB4.c3,bB4.ca,A1a bB4,A3a bB4,A2a bB4,Option.map_some,eq_self,decide_false,i21,w1,p1,w2,d2,p2,hres,e1] <;> exact k24
 | false=>
 cases p3:decide (50000 < A.ends.length+B.ends.length) with
 | true=>
  simp only [p1,p2,p3,Bool.true_or,Bool.false_or,if_true] at e1
  rcases hkd with rfl | rfl <;> simp only [↓Sh.dn,sx,Nat.reduceBEq,reduceCtorEq,Nat.reduceEqDiff,hs,decide_true,q0,bA4.c0,bA4.c1,bA4.c2,bA4.c3,bA4.ca,A1a bA4,A3a bA4,A2a bA4,bB4.c0,bB4.c1,bB4.c2,bB4.c3,bB4.ca,A1a bB4,A3a bB4,A2a bB4,Option.map_some,eq_self,decide_false,i21,w1,p1,w2,d2,p2,w3,d3,p3,hres,e1] <;> exact k24
 | false=>
  simp only [p1,p2,p3,Bool.false_or,Bool.false_eq_true,if_false] at e1
  rcases hkd with rfl | rfl <;> simp only [↓Sh.dn,sx,Nat.reduceBEq,reduceCtorEq,Nat.reduceEqDiff,hs,decide_true,q0,bA4.c0,bA4.c1,bA4.c2,bA4.c3,bA4.ca,A1a bA4,A3a bA4,A2a bA4,bB4.c0,bB4.c1,bB4.c2,bB4.c3,bB4.ca,A1a bB4,A3a bB4,A2a bB4,Option.map_some,eq_self,decide_false,i21,w1,p1,w2,d2,p2,w3,d3,p3,hres,e1] <;> exact k24
end Go.Proofs.YtnoengaghabmjaaGreatDoor
/- graph.Chain: the second graph behind the first. -/
namespace Go.Proofs.YtnoengaghabmjaaGreatDoor
open Go Go.Proofs Go.Proofs.Sh
theorem grPutEnd {H:AH} {X:Nat→Prop} {g:Nat} {sigma:List ByteArray} {rows:List (List (List Value))} {ends costs:List Int} {s:Nat} {x:Int}
  (h:GrX H X g sigma rows ends costs) (hs:s < ends.length) (hw:Wf H):
  ∃ ev p H',H.cell ⟨g,2,some 0⟩=some ev∧A8c Tryz.prog 86 ev (.int .i64 (s:Int))=some (.pointer (some p))∧A1i Tryz.prog 3 H (.int .i64 x) (.pointer (some p))=some H'∧Chg X H H'∧GrX H' X g sigma rows (ends.set s x) costs:=by
 obtain ⟨sv,av,ev,cv,os,ot,oe,oc,vals,obs,h,ho⟩:=h
 obtain ⟨pe,H2,ia,e1,b1,c1,n1⟩:=Buf.set (P:=Tryz.prog) h.en hw (i:=s) (x:=[.int .i64 x]) (by simpa using hs) rfl
 refine ⟨ev,pe,H2,h.arr.cell 2,ia Tryz.underlying86 A1f (j:=.i64),by rw [A8h A1f rfl]; exact e1,c1.weak fun y hy=>ho y (.inr (.inr (.inr (.inl hy)))),sv,av,ev,cv,os,ot,oe,oc,vals,obs,
  { h with arr:=h.arr.keep (c1.old g (h.arr.lt hw) ?_),sg:=h.sg.chg hw c1 ?_,jag:=h.jag.chg hw c1 ?_,en:=by rw [List.map_set]; exact b1,co:=h.co.chg hw c1 ?_ },ho⟩
 ·exact h.ge
 ·intro y hy hy2
  exact h.se y hy hy2
 ·intro y hy hy2
  exact h.je y hy2 hy
 ·intro y hy hy2
  exact h.ec y hy2 hy
def chE (E1 E2:List (List GE)) (ends1 costs1:List Int):Nat→List (List GE)
 | 0=>A8b 0 E1++A8b E1.length E2
 | i+1=>if 0 < ends1.getD i 0 then (chE E1 E2 ends1 costs1 i).set i ((chE E1 E2 ends1 costs1 i).getD i []++[(E1.length,-1,-1,costs1.getD i 0)]) else chE E1 E2 ends1 costs1 i
def A2l (ends1 ends2:List Int):Nat→List Int
 | 0=>ends1++ends2
 | i+1=>if 0 < ends1.getD i 0 then (A2l ends1 ends2 i).set i 0 else A2l ends1 ends2 i
section
variable {E1 E2:List (List GE)} {ends1 ends2 costs1:List Int}
theorem A15:∀ i,(chE E1 E2 ends1 costs1 i).length=E1.length+E2.length
 | 0=>by simp [chE,A8b]
 | i+1=>by
  unfold chE
  split
  ·rw [List.length_set]; exact A15 i
  ·exact A15 i
theorem A1x:∀ i,(A2l ends1 ends2 i).length=ends1.length+ends2.length
 | 0=>by simp [A2l]
 | i+1=>by
  unfold A2l
  split
  ·rw [List.length_set]; exact A1x i
  ·exact A1x i
theorem B74:∀ i s,i≤s→(chE E1 E2 ends1 costs1 i)[s]?=(chE E1 E2 ends1 costs1 0)[s]?
 | 0,_,_=>rfl
 | i+1,s,h=>by
  rw [← B74 i s (by omega)]
  conv=>lhs; unfold chE
  split
  ·rw [List.getElem?_set,if_neg (by omega)]
  ·rfl
theorem B3d:∀ i s,(A2l ends1 ends2 i).getD s 0=if s < i∧0 < ends1.getD s 0 then 0 else (ends1++ends2).getD s 0
 | 0,s=>by simp [A2l]
 | i+1,s=>by
  have ih:=B3d i s
  unfold A2l
  by_cases hi:0 < ends1.getD i 0
  ·rw [if_pos hi]
   by_cases hs:i=s
   ·subst hs
    rw [if_pos ⟨Nat.lt_succ_self i,hi⟩,List.getD_eq_getElem?_getD,List.getElem?_set,if_pos rfl]
    split <;> rfl
   ·rw [List.getD_eq_getElem?_getD,List.getElem?_set,if_neg hs,← List.getD_eq_getElem?_getD,ih]
    have:(s < i∧0 < ends1.getD s 0)↔(s < i+1∧0 < ends1.getD s 0):=⟨fun h=>⟨by omega,h.2⟩,fun h=>⟨by omega,h.2⟩⟩
    simp only [this]
  ·rw [if_neg hi,ih]
   have:(s < i∧0 < ends1.getD s 0)↔(s < i+1∧0 < ends1.getD s 0):=⟨fun h=>⟨by omega,h.2⟩,fun h=>⟨by
    rcases Nat.lt_or_ge s i with h1 | h1
    ·exact h1
    ·have:s=i:=by omega
     subst this
     exact absurd h.2 hi,h.2⟩⟩
   simp only [this]
theorem chE_rows {i:Nat} (hi:i≤E1.length) {s:Nat} {a b:Option Nat} {t:Nat}:A1p (chE E1 E2 ends1 costs1 i) s a b t↔A1p (chE E1 E2 ends1 costs1 0) s a b t∨(s < i∧0 < ends1.getD s 0∧t=E1.length∧a=none∧b=none):=by
 induction i with
 | zero=>simp
 | succ i ih=>
  have ih:=ih (by omega)
  have l1:labN (-1)=none:=rfl
  conv=>lhs; unfold chE
  by_cases h:0 < ends1.getD i 0
  ·rw [if_pos h]
   have hg:(chE E1 E2 ends1 costs1 i)[i]?=some ((chE E1 E2 ends1 costs1 i).getD i []):=by
    have:i < (chE E1 E2 ends1 costs1 i).length:=by rw [A15]; omega
    rw [List.getD_eq_getElem?_getD,List.getElem?_eq_getElem this]; rfl
   rw [C7i hg,ih,l1]
   constructor
   ·rintro ((h1 | h1) | ⟨rfl,h2,h3,h4⟩)
    ·exact .inl h1
    ·exact .inr ⟨by omega,h1.2⟩
    ·exact .inr ⟨Nat.lt_succ_self _,h,h2,h3,h4⟩
   ·rintro (h1 | ⟨h1,h2,h3,h4,h5⟩)
    ·exact .inl (.inl h1)
    ·rcases Nat.lt_or_ge s i with h6 | h6
     ·exact .inl (.inr ⟨h6,h2,h3,h4,h5⟩)
     ·exact .inr ⟨by omega,h3,h4,h5⟩
  ·rw [if_neg h,ih]
   constructor
   ·rintro (h1 | h1)
    ·exact .inl h1
    ·exact .inr ⟨by omega,h1.2⟩
   ·rintro (h1 | ⟨h1,h2,h3⟩)
    ·exact .inl h1
    ·rcases Nat.lt_or_ge s i with h6 | h6
     ·exact .inr ⟨h6,h2,h3⟩
     ·have:s=i:=by omega
      subst this
      exact absurd h2 h
theorem chain_of {n:Nat} (hl:E1.length=n) (hl1:ends1.length=n) (hn:0 < n) (hto:∀ r∈E1,∀ e∈r,e.1 < n):
  ChainOf n (A1p E1) (A1p E2) (A1p (chE E1 E2 ends1 costs1 n)) (endP ends1) (endP ends2) (endP (A2l ends1 ends2 n)):=by
 have hg:∀ {s:Nat},0 < ends1.getD s 0→s < n:=fun {s} h=>by
  rcases Nat.lt_or_ge s n with h2 | h2
  ·exact h2
  ·rw [List.getD_eq_getElem?_getD,List.getElem?_eq_none (by omega)] at h
   exact absurd h (Int.lt_irrefl 0)
 refine ⟨fun s a b t=>?_,fun t=>?_,?_,fun t h=>hg h,hn⟩
 ·rw [chE_rows (by omega)]
  have e0:chE E1 E2 ends1 costs1 0=A8b 0 E1++A8b E1.length E2:=rfl
  rw [e0,C7d,A78]
  have e1:(A8b 0 E1).length=n:=by simp [A8b,hl]
  rw [e1]
  simp only [A78,hl]
  constructor
  ·rintro ((⟨t',h1,h2⟩ | ⟨s',h1,t',h2,h3⟩) | ⟨h1,h2,h3,h4,h5⟩)
   ·rw [Nat.zero_add] at h1; subst h1; exact .inl h2
   ·exact .inr (.inl ⟨s',t',h1,h2,h3⟩)
   ·exact .inr (.inr ⟨h2,h3,h4,h5⟩)
  ·rintro (h | ⟨s',t',h1,h2,h3⟩ | ⟨h1,h2,h3,h4⟩)
   ·exact .inl (.inl ⟨t,(Nat.zero_add t).symm,h⟩)
   ·exact .inl (.inr ⟨s',h1,t',h2,h3⟩)
   ·exact .inr ⟨hg h1,h1,h2,h3,h4⟩
 ·unfold endP
  rw [B3d]
  by_cases ht:t < n
  ·have e:(ends1++ends2).getD t 0=ends1.getD t 0:=by rw [List.getD_eq_getElem?_getD,List.getElem?_append_left (by omega),← List.getD_eq_getElem?_getD]
   rw [e]
   constructor
   ·intro h
    by_cases h2:0 < ends1.getD t 0
    ·rw [if_pos ⟨ht,h2⟩] at h; exact absurd h (Int.lt_irrefl 0)
    ·rw [if_neg fun h3=>h2 h3.2] at h; exact absurd h h2
   ·rintro ⟨t',h1,_⟩
    omega
  ·rw [if_neg fun h=>ht h.1,List.getD_eq_getElem?_getD,List.getElem?_append_right (by omega),← List.getD_eq_getElem?_getD,hl1]
   constructor
   ·intro h; exact ⟨t - n,by omega,h⟩
   ·rintro ⟨t',h1,h2⟩
    have:t'=t - n:=by omega
    subst this; exact h2
 ·rintro s a b t ⟨r,hr,e,he,rfl,_⟩
  have:=(List.getElem?_eq_some_iff.1 hr).1
  exact ⟨by omega,hto r (List.mem_of_getElem? hr) e he⟩
end
theorem C8a {H:AH} {Y1 Y2:Nat→Prop} {g1 g2 n1 n2:Nat} {sigma sigma2:List ByteArray} {E1 E2:List (List GE)} {ends1 ends2 costs1 costs2:List Int} (h1:GrX H Y1 g1 sigma (A3g E1) ends1 costs1) (h2:GrX H Y2 g2 sigma2 (A3g E2) ends2 costs2)
  (hl1:E1.length=n1) (he1:ends1.length=n1) (hc1:costs1.length=n1) (hp1:1≤n1) (hq1:n1≤3000) (hl2:E2.length=n2) (he2:ends2.length=n2) (hc2:costs2.length=n2) (hp2:1≤n2) (hq2:n2≤3000) (hsl:sigma.length≤1048576)
  (ht1:∀ r∈E1,r.length≤60000∧∀ e∈r,e.1 < n1) (ht2:∀ r∈E2,r.length≤60000∧∀ e∈r,e.1 < n2) (hw:Wf H):
  Sh.Call Tryz.prog (knows 8) 36 [.pointer (some ⟨g1,0,some 0⟩),.pointer (some ⟨g2,0,some 0⟩)] H (fun r H'=>Kept H H'∧∃ g,∃ X:Nat→Prop,r=.pointer (some ⟨g,0,some 0⟩)∧GrX H' X g sigma (A3g (chE E1 E2 ends1 costs1 n1)) (A2l ends1 ends2 n1) (costs1++costs2)):=by
 refine A3b rfl Tryz.func36 rfl (Nat.le_of_ble_eq_true rfl) ?_
 have hres:Tryz.f36.results.toList=[.tmp 4]:=rfl
 obtain ⟨sv,av,ev,cv,vals,hR⟩:=h1.read
 have hc0:H.cell ⟨g1,0,some 0⟩=some sv:=hR.arr.cell 0
 obtain ⟨r3,H3,hd3,hk3,g,rfl,hG3⟩:=B78 (n:=0) hR.sg hsl (by decide) hw
 have hX3:=hG3.own hk3.wf
 have hz:GrX H3 (fun y=>H.next≤y∧y < H3.next) g sigma (A3g []) [] []:=hX3
 have hd3':Does Tryz.prog (knows 8) 65 [sv,.int .i64 0] H (.pointer (some ⟨g,0,some 0⟩)) H3:=hd3
 have h1n:=grNow h1 hw
 have h2n:=grNow h2 hw
 obtain ⟨r4,H4,hd4,rfl,hc4,hX4⟩:=grAdd hz (h1n.kept hw hk3) (fun y hy=>⟨fun hx=>by have:=hy.2; omega,by have:=hk3.next; have:=hy.2; omega⟩) rfl rfl hl1 he1 hc1 hp1 hq1 (by simp [A3g]) (fun r hr=>⟨by have:=(ht1 r hr).1; omega,(ht1 r hr).2⟩) hk3.wf
 have hk4:Kept H H4:=hk3.then (Nat.le_refl _) (hc4.weak fun y hy=>by
  rcases hy with h | h
  ·exact h.1
  ·have:=hk3.next; omega)
 have hX4':GrX H4 (fun y=>H.next≤y) g sigma (A3g (A8b 0 E1)) ends1 costs1:=hX4.mono fun y hy=>by
  rcases hy with h | h
  ·exact h.1
  ·have:=hk3.next; omega
 have hl0:(A3g (A8b 0 E1)).length=n1:=by simp [A3g,A8b,hl1]
 obtain ⟨r5,H5,hd5,rfl,hc5,hX5⟩:=grAdd hX4' (h2n.kept hw hk4) (fun y hy=>⟨fun hx=>by have:=hy.2; omega,by have:=hk4.next; have:=hy.2; omega⟩) (by rw [hl0,he1]) (by rw [hl0,hc1]) hl2 he2 hc2 hp2 hq2 (by omega) (fun r hr=>⟨by have:=(ht2 r hr).1; omega,(ht2 r hr).2⟩) hk4.wf
 have hk5:Kept H H5:=hk4.then (Nat.le_refl _) (hc5.weak fun y hy=>by
  rcases hy with h | h
  ·exact h
  ·have:=hk4.next; omega)
 rw [hl0] at hd5 hX5
 have happ:A3g (A8b 0 E1)++A3g (A8b n1 E2)=A3g (chE E1 E2 ends1 costs1 0):=by unfold A3g chE; rw [List.map_append,hl1]
 rw [happ] at hX5
 have hX5':GrX H5 (fun y=>H.next≤y) g sigma (A3g (chE E1 E2 ends1 costs1 0)) (A2l ends1 ends2 0) (costs1++costs2):=hX5.mono fun y hy=>by
  rcases hy with h | h
  ·exact h
  ·have:=hk4.next; omega
 have hc2':∀ {H':AH},Kept H H'→H'.cell ⟨g1,2,some 0⟩=some ev:=fun hk=>A5j (hk.grow hw) (hR.arr.cell 2)
 have hc3':∀ {H':AH},Kept H H'→H'.cell ⟨g1,3,some 0⟩=some cv:=fun hk=>A5j (hk.grow hw) (hR.arr.cell 3)
 have hlen:∀ H',A8a Tryz.prog .len [86] [ev] H'=some (.int .i64 (n1:Int),H'):=fun H'=>by
  rw [hR.en.len Tryz.underlying86 H',List.length_map,he1]
 simp only [↓Sh.dn,sx,Nat.reduceBEq,reduceCtorEq,Nat.reduceEqDiff,hc0]
 refine ⟨_,_,hd3',?_⟩
 refine ⟨_,_,hd4,?_⟩
 refine ⟨_,_,hd5,?_⟩
 simp only [↓Sh.dn,sx,Nat.reduceBEq,reduceCtorEq,Nat.reduceEqDiff,hc2' hk5,hlen]
 refine A8i n1 25 (List.range' 25 25++[7,8]) (fun i F H'=>Kept H H'∧∃ X:Nat→Prop,(∀ y,X y→H.next≤y)∧GrX H' X g sigma (A3g (chE E1 E2 ends1 costs1 i)) (A2l ends1 ends2 i) (costs1++costs2)) (by simp only [↓Sh.dn,sx,Nat.reduceBEq,reduceCtorEq,Nat.reduceEqDiff]) ⟨hk5,_,fun y hy=>hy,hX5'⟩ ?_ ?_
 ·rintro i F H' hi hF f25 ⟨hk,X,hXb,hX⟩ k
  have f0:=hF 0 rfl
  have f5:=hF 5 rfl
  have f6:=hF 6 rfl
  have f23:=hF 23 rfl
  have f24:=hF 24 rfl
  simp only [↓Sh.dn,sx,Nat.reduceBEq,reduceCtorEq,Nat.reduceEqDiff] at f0 f5 f6 f23 f24
  have hie:i < ends1.length:=by omega
  have hic:i < costs1.length:=by omega
  have ge:ends1.getD i 0=ends1[i]:=by rw [List.getD_eq_getElem?_getD,List.getElem?_eq_getElem hie]; rfl
  have gc:costs1.getD i 0=costs1[i]:=by rw [List.getD_eq_getElem?_getD,List.getElem?_eq_getElem hic]; rfl
  obtain ⟨p1,i1,e1⟩:=Sl.elem (s:=1) Tryz.underlying86 A1f (hR.en.grow (hk.grow hw)) (i:=i) (u:=.int .i64 ends1[i]) (by rw [List.getElem?_map,List.getElem?_eq_getElem hie]; rfl)
  by_cases hpos:0 < ends1[i]
  ·have hs1:i < (A2l ends1 ends2 i).length:=by rw [A1x]; omega
   obtain ⟨ev6,p6,H6,c6,ia6,st6,chg6,hX6⟩:=grPutEnd (x:=0) hX hs1 hk.wf
   have hk6:Kept H H6:=hk.then (Nat.le_refl _) (chg6.weak hXb)
   obtain ⟨p7,i7,e7⟩:=Sl.elem (s:=1) Tryz.underlying86 A1f (hR.co.grow (hk6.grow hw)) (i:=i) (u:=.int .i64 costs1[i]) (by rw [List.getElem?_map,List.getElem?_eq_getElem hic]; rfl)
   have hlr:i < (chE E1 E2 ends1 costs1 i).length:=by rw [A15]; omega
   have hrow0:(chE E1 E2 ends1 costs1 i)[i]?=some ((chE E1 E2 ends1 costs1 i).getD i []):=by rw [List.getD_eq_getElem?_getD,List.getElem?_eq_getElem hlr]; rfl
   have hrl:((chE E1 E2 ends1 costs1 i).getD i []).length≤60000:=by
    rw [List.getD_eq_getElem?_getD,B74 i i (Nat.le_refl i)]
    have hi1:i < (A8b 0 E1).length:=by simp [A8b,hl1,hi]
    show (((A8b 0 E1++A8b E1.length E2)[i]?).getD []).length≤60000
    rw [List.getElem?_append_left hi1]
    unfold A8b
    rw [List.getElem?_map,List.getElem?_eq_getElem (by omega)]
    show (List.map _ _).length≤60000
    rw [List.length_map]
    exact (ht1 _ (List.getElem_mem _)).1
   have hrow:(A3g (chE E1 E2 ends1 costs1 i))[i]?=some (((chE E1 E2 ends1 costs1 i).getD i []).map A6k):=by unfold A3g; rw [List.getElem?_map,hrow0]; rfl
   obtain ⟨r8,H8,hd8,hc8,hX8⟩:=grArcX (s:=i) (x0:=(n1:Int)) (x1:=-1) (x2:=-1) (x3:=costs1[i]) hX6 hrow (by rw [List.length_map]; omega) chg6.wf
   have hset:(A3g (chE E1 E2 ends1 costs1 i)).set i (((chE E1 E2 ends1 costs1 i).getD i []).map A6k++[[Value.int .i64 (n1:Int),Value.int .i64 (-1),Value.int .i64 (-1),Value.int .i64 costs1[i]]])=A3g (chE E1 E2 ends1 costs1 (i+1)):=by
    conv=>rhs; unfold chE
    rw [if_pos (by rw [ge]; exact hpos),hl1,gc]
    unfold A3g
    rw [List.map_set,List.map_append (l₁:=(chE E1 E2 ends1 costs1 i).getD i [])]
    rfl
   have hse:(A2l ends1 ends2 i).set i 0=A2l ends1 ends2 (i+1):=by
    conv=>rhs; unfold A2l
    rw [if_pos (by rw [ge]; exact hpos)]
   rw [hset,hse] at hX8
   have hn6:=hk6.next
   have hXb':∀ y,(X y∨H6.next≤y)→H.next≤y:=fun y hy=>by
    rcases hy with h | h
    ·exact hXb y h
    ·omega
   have hk8:Kept H H8:=hk6.then (Nat.le_refl _) (hc8.weak hXb)
   simp only [↓Sh.dn,sx,Nat.reduceBEq,reduceCtorEq,Nat.reduceEqDiff,f0,f5,f6,f23,f24,f25,A1b,hi,decide_true,i1,e1,hpos,c6,ia6,st6,hc3' hk6,i7,e7]
   refine ⟨_,_,hd8,?_⟩
   simp only [↓Sh.dn,sx,Nat.reduceBEq,reduceCtorEq,Nat.reduceEqDiff,f25,A2e hi (by omega)]
   exact k _ _ (by repeat (first | refine Same.put ?_ rfl | exact Same.rfl' _)) (by simp only [↓Sh.dn,sx,Nat.reduceBEq,reduceCtorEq,Nat.reduceEqDiff]) ⟨hk8,_,hXb',hX8⟩
  ·have hE : chE E1 E2 ends1 costs1 (i + 1) = chE E1 E2 ends1 costs1 i := by
     conv => lhs; unfold chE
     rw [if_neg (by rw [ge]; exact hpos)]
   have hse : A2l ends1 ends2 (i + 1) = A2l ends1 ends2 i := by
     conv => lhs; unfold A2l
     rw [if_neg (by rw [ge]; exact hpos)]
   simp only [↓Sh.dn, sx, Nat.reduceBEq, reduceCtorEq, Nat.reduceEqDiff, f0, f5, f6, f23, f24, f25, A1b, hi, decide_true, i1, e1, hpos, decide_false, A2e hi (by omega)]
   exact k _ _ (by repeat (first | refine Same.put ?_ rfl | exact Same.rfl' _)) (by simp only [↓Sh.dn, sx, Nat.reduceBEq, reduceCtorEq, Nat.reduceEqDiff]) ⟨hk, X, hXb, by rw [hE, hse]; exact hX⟩
 ·rintro F H' hF f25 ⟨hk,X,hXb,hX⟩
  have f5:=hF 5 rfl
  have f24:=hF 24 rfl
  simp only [↓Sh.dn,sx,Nat.reduceBEq,reduceCtorEq,Nat.reduceEqDiff] at f5 f24
  simp only [↓Sh.dn,sx,Nat.reduceBEq,reduceCtorEq,Nat.reduceEqDiff,f5,f24,f25,A1b,Nat.lt_irrefl,decide_false,hres]
  exact ⟨hk,g,rfl,X,hX⟩
end Go.Proofs.YtnoengaghabmjaaGreatDoor
/- rel.Chain: the pairs of the first with those of the second behind them. -/
namespace Go.Proofs.YtnoengaghabmjaaGreatDoor
open Go Go.Proofs Go.Proofs.Sh
theorem A06 (e0:GE):∀ {L:List (List GE)} {i:Nat} {r0:List GE},L[i]?=some r0→((L.set i (r0++[e0])).map List.length).sum=(L.map List.length).sum+1
 | [],_,_,h=>by simp at h
 | q :: L,0,r0,h=>by
  have:=Option.some.inj h
  subst this
  simp; omega
 | q :: L,i+1,r0,h=>by
  have ih:=A06 e0 (L:=L) (i:=i) (r0:=r0) (by simpa using h)
  simp only [List.set_cons_succ,List.map_cons,List.sum_cons,ih]; omega
theorem chE_ok {sigma:List ByteArray} {E1 E2:List (List GE)} {ends1 costs1:List Int} {n1 n2 k1 k2:Nat} (hl1:E1.length=n1) (hn:0 < n2)
  (h1:∀ r∈E1,∀ e∈r,e.1 < n1∧e.2.1 < (sigma.length:Int)∧e.2.2.1 < (sigma.length:Int)∧e.2.2.2=0) (h2:∀ r∈E2,∀ e∈r,e.1 < n2∧e.2.1 < (sigma.length:Int)∧e.2.2.1 < (sigma.length:Int)∧e.2.2.2=0)
  (hz:∀ c∈costs1,c=0) (hs1:(E1.map List.length).sum=k1) (hs2:(E2.map List.length).sum=k2):
  ∀ i,i≤n1→(∀ r∈chE E1 E2 ends1 costs1 i,∀ e∈r,e.1 < n1+n2∧e.2.1 < (sigma.length:Int)∧e.2.2.1 < (sigma.length:Int)∧e.2.2.2=0)∧((chE E1 E2 ends1 costs1 i).map List.length).sum≤k1+k2+i
 | 0,_=>by
  refine ⟨fun r hr e he=>?_,?_⟩
  ·have hr':r∈A8b 0 E1++A8b E1.length E2:=hr
   rcases List.mem_append.1 hr' with h | h
   ·obtain ⟨r0,hr0,rfl⟩:=List.mem_map.1 h
    obtain ⟨e0,he0,rfl⟩:=List.mem_map.1 he
    have:=h1 r0 hr0 e0 he0
    unfold A8u
    exact ⟨by simp only; omega,this.2⟩
   ·obtain ⟨r0,hr0,rfl⟩:=List.mem_map.1 h
    obtain ⟨e0,he0,rfl⟩:=List.mem_map.1 he
    have:=h2 r0 hr0 e0 he0
    unfold A8u
    exact ⟨by simp only; omega,this.2⟩
  ·have hsh : ∀ (k : Nat) (E : List (List GE)), ((A8b k E).map List.length).sum = (E.map List.length).sum := fun k E => by
     unfold A8b
     rw [List.map_map]
     congr 1
     exact List.map_congr_left fun r _ => by simp
   show ((A8b 0 E1 ++ A8b E1.length E2).map List.length).sum ≤ _
   rw [List.map_append, List.sum_append, hsh, hsh, hs1, hs2]; omega
 | i+1,hi=>by
  obtain ⟨q1,q2⟩:=chE_ok (ends1:=ends1) hl1 hn h1 h2 hz hs1 hs2 i (by omega)
  by_cases h:0 < ends1.getD i 0
  ·have e : chE E1 E2 ends1 costs1 (i + 1) = (chE E1 E2 ends1 costs1 i).set i ((chE E1 E2 ends1 costs1 i).getD i [] ++ [(E1.length, -1, -1, costs1.getD i 0)]) := by
     conv => lhs; unfold chE
     rw [if_pos h]
   have hlr : i < (chE E1 E2 ends1 costs1 i).length := by rw [A15]; omega
   have hrow : (chE E1 E2 ends1 costs1 i)[i]? = some ((chE E1 E2 ends1 costs1 i).getD i []) := by rw [List.getD_eq_getElem?_getD, List.getElem?_eq_getElem hlr]; rfl
   have hneg : ((-1 : Int)) < (sigma.length : Int) := by omega
   rw [e, A06 _ hrow]
   refine ⟨fun r hr e he => ?_, by omega⟩
   rcases List.mem_or_eq_of_mem_set hr with h3 | h3
   · exact q1 r h3 e he
   · rw [h3] at he
     rcases List.mem_append.1 he with h4 | h4
     · exact q1 _ (List.mem_of_getElem? hrow) e h4
     · rw [List.mem_singleton.1 h4]
       exact ⟨by simp only; omega, hneg, hneg, B6n hz i⟩
  ·have e : chE E1 E2 ends1 costs1 (i + 1) = chE E1 E2 ends1 costs1 i := by
     conv => lhs; unfold chE
     rw [if_neg h]
   rw [e]
   exact ⟨q1, by omega⟩
def A65 (A B:NetD) (x y:List ByteArray):Prop:=∃ x1 x2 y1 y2,x=x1++x2∧y=y1++y2∧A2y A x1 y1∧A2y B x2 y2
theorem C7b {A B M:NetD} (hA:A0h A=0) (hB:A0h B=0) (hs:A.sigma=B.sigma) {n n1:Nat} {costs:List Int} (hn:A.states.toNat=n1)
  (hM:C1c A.sigma (chE (A2j A) (A2j B) (A5h A A.ends) (A9g A A.ends) n1) (A2l (A5h A A.ends) (A5h B B.ends) n1) costs n M) (hR:B0g A.sigma (chE (A2j A) (A2j B) (A5h A A.ends) (A9g A A.ends) n1) (A2l (A5h A A.ends) (A5h B B.ends) n1) costs n) (x y:List ByteArray):A2y M x y↔A65 A B x y:=by
 obtain ⟨okA,_,_⟩:=A9h hA
 obtain ⟨okB,_,_⟩:=A9h hB
 have h1:=okA.st1
 subst hn
 have ho:=chain_of (E1:=A2j A) (E2:=A2j B) (ends1:=A5h A A.ends) (ends2:=A5h B B.ends) (costs1:=A9g A A.ends) (n:=A.states.toNat) (A6p A) (A2s A) (by omega) (fun r hr e he=>(A10 hA r hr e he).1)
 rw [C0b hM hR okA.sig,ho.rel]
 unfold A65
 constructor
 ·rintro ⟨⟨h1,h2⟩,u1,u2,v1,v2,e1,e2,h3,h4⟩
  obtain ⟨x1,x2,rfl,rfl,rfl⟩:=List.map_eq_append_iff.1 e1
  obtain ⟨y1,y2,rfl,rfl,rfl⟩:=List.map_eq_append_iff.1 e2
  refine ⟨x1,x2,y1,y2,rfl,rfl,(A3w okA x1 y1).2 ⟨⟨fun z hz=>h1 z (List.mem_append_left _ hz),fun z hz=>h2 z (List.mem_append_left _ hz)⟩,h3⟩,(A3w okB x2 y2).2 ⟨?_,?_⟩⟩
  ·rw [← hs]
   exact ⟨fun z hz=>h1 z (List.mem_append_right _ hz),fun z hz=>h2 z (List.mem_append_right _ hz)⟩
  ·rw [← hs]; exact h4
 ·rintro ⟨x1,x2,y1,y2,rfl,rfl,h3,h4⟩
  obtain ⟨⟨a1,a2⟩,a3⟩:=(A3w okA x1 y1).1 h3
  obtain ⟨⟨b1,b2⟩,b3⟩:=(A3w okB x2 y2).1 h4
  rw [← hs] at b1 b2 b3
  refine ⟨⟨fun z hz=>?_,fun z hz=>?_⟩,_,_,_,_,List.map_append,List.map_append,a3,b3⟩
  ·rcases List.mem_append.1 hz with h | h
   ·exact a1 z h
   ·exact b1 z h
  ·rcases List.mem_append.1 hz with h | h
   ·exact a2 z h
   ·exact b2 z h
theorem relChain {H:AH} {va vb:Value} {A B:NetD} (ha:A6l H va A) (hb:A6l H vb B) (hA:A2c A) (hB:A2c B) (hw:Wf H):
  Sh.Call Tryz.prog (knows 8) 21 [va,vb] H (fun r H'=>JoinOut H H' A.sigma (A4e A B) (fun x y=>A65 A B x y) r):=by
 refine A3b rfl Tryz.func21 rfl (Nat.le_of_ble_eq_true rfl) ?_
 have hres:Tryz.f21.results.toList=[.cell 4 26,.tmp 5]:=rfl
 obtain ⟨sgA,arA,enA,rfl,s1,s2,s3⟩:=ha
 obtain ⟨sgB,arB,enB,rfl,t1,t2,t3⟩:=hb
 have bA:=NetBox.of (N:=A) hw s1 s2 s3
 have k1:=Kept.new hw 4 [sgA,.int .i64 A.states,arA,enA]
 have bB:=NetBox.of (N:=B) k1.wf (t1.grow (k1.grow hw)) (t2.grow (k1.grow hw)) (t3.grow (k1.grow hw))
 have k2:=k1.news 4 [sgB,.int .i64 B.states,arB,enB]
 have bA2:=bA.new k1.wf 4 [sgB,.int .i64 B.states,arB,enB]
 simp only [↓Sh.dn,sx,Nat.reduceBEq,reduceCtorEq,Nat.reduceEqDiff,A0m s1.isCell s2.isCell s3.isCell,A0m t1.isCell t2.isCell t3.isCell,A9b]
 obtain ⟨H1,hH1⟩:∃ K,(H.new 4 [sgA,.int .i64 A.states,arA,enA]).2=K:=⟨_,rfl⟩
 simp only [hH1] at k1 bB bA k2 bA2 ⊢
 obtain ⟨H2,hH2⟩:∃ K,(H1.new 4 [sgB,.int .i64 B.states,arB,enB]).2=K:=⟨_,rfl⟩
 simp only [hH2] at bB k2 bA2 ⊢
 generalize H.next=gA at bA2 ⊢
 generalize H1.next=gB at bB ⊢
 have sl:Slot (H2.new 4 [.slice none 0 0,.int .i64 0,.slice none 0 0,.slice none 0 0]).2 H2.next:=Slot.new
 have k3:=k2.news 4 [.slice none 0 0,.int .i64 0,.slice none 0 0,.slice none 0 0]
 have bA3:=bA2.new k2.wf 4 [.slice none 0 0,.int .i64 0,.slice none 0 0,.slice none 0 0]
 have bB3:=bB.new k2.wf 4 [.slice none 0 0,.int .i64 0,.slice none 0 0,.slice none 0 0]
 have gol:H.next≤H2.next:=k2.next
 generalize H2.next=go at sl gol ⊢
 generalize (H2.new 4 [.slice none 0 0,.int .i64 0,.slice none 0 0,.slice none 0 0]).2=H3 at sl k3 bA3 bB3 ⊢
 clear bA bA2 bB k1 k2 hH1 hH2 H1 H2 s1 s2 s3 t1 t2 t3
 obtain ⟨H4,hb4,k4,tn4,n4⟩:=B05 k3.wf bA3.hsg bA3.har bA3.hen bB3.hsg bB3.har bB3.hen
 obtain ⟨r5,H5,hd5,k5,rfl⟩:=B49 tn4 hA hB k4.wf
 simp only [↓Sh.dn,sx,Nat.reduceBEq,reduceCtorEq,Nat.reduceEqDiff,bA3.c0,bA3.c1,bA3.c2,bA3.c3,bA3.ca,A1a bA3,A3a bA3,A2a bA3,bB3.c0,bB3.c1,bB3.c2,bB3.c3,bB3.ca,A1a bB3,A3a bB3,A2a bB3,Option.map_some,hb4]
 refine ⟨_,_,hd5,?_⟩
 have k35:=k4.trans k5
 have bA5:=bA3.kept k3.wf k35
 have bB5:=bB3.kept k3.wf k35
 by_cases hE:A7j A B=0
 case neg=>
  have e1:A4e A B=A7j A B:=by unfold A4e; rw [if_pos hE]
  obtain ⟨Hz,sz,cz,zz,_⟩:=sl.put k35 (a:=.slice none 0 0) (b:=.int .i64 0) (c:=.slice none 0 0) (d:=.slice none 0 0) rfl rfl rfl rfl
  simp only [↓Sh.dn,sx,Nat.reduceBEq,reduceCtorEq,Nat.reduceEqDiff,hE,decide_false,netZ,sz,hres,cz,Option.map_some,e1]
  exact JoinOut.bad ((k3.trans k35).then gol (zz.weak fun y hy=>by omega)) hE
 obtain ⟨hrA,hrB,hsg⟩:=A19 hE
 obtain ⟨okA,_,_⟩:=A9h hrA
 obtain ⟨okB,_,_⟩:=A9h hrB
 obtain ⟨H6,hb6,k6,tn6,n6⟩:=B05 k5.wf bA5.hsg bA5.har bA5.hen bB5.hsg bB5.har bB5.hen
 obtain ⟨r7,H7,hd7,k7,rfl⟩:=relGreat tn6 okA okB k6.wf
 simp only [↓Sh.dn,sx,Nat.reduceBEq,reduceCtorEq,Nat.reduceEqDiff,hE,decide_true,bA5.c0,bA5.c1,bA5.c2,bA5.c3,bA5.ca,A1a bA5,A3a bA5,A2a bA5,bB5.c0,bB5.c1,bB5.c2,bB5.c3,bB5.ca,A1a bB5,A3a bB5,A2a bB5,Option.map_some,hb6]
 refine ⟨_,_,hd7,?_⟩
 have k37:=(k35.trans k6).trans k7
 have bA7:=bA3.kept k3.wf k37
 have bB7:=bB3.kept k3.wf k37
 cases hg:B3a A B with
 | true=>
  have e1:A4e A B=3:=by unfold A4e; rw [if_neg (by simpa using hE),if_pos hg]
  obtain ⟨Hz,sz,cz,zz,_⟩:=sl.put k37 (a:=.slice none 0 0) (b:=.int .i64 0) (c:=.slice none 0 0) (d:=.slice none 0 0) rfl rfl rfl rfl
  simp only [↓Sh.dn,sx,Nat.reduceBEq,reduceCtorEq,Nat.reduceEqDiff,netZ,sz,hres,cz,Option.map_some,e1]
  exact JoinOut.bad ((k3.trans k37).then gol (zz.weak fun y hy=>by omega)) (by decide)
 | false=>
 have e1:A4e A B=0:=by unfold A4e; rw [if_neg (by simpa using hE),if_neg (by rw [hg]; simp)]
 simp only [↓Sh.dn,sx,Nat.reduceBEq,reduceCtorEq,Nat.reduceEqDiff]
 obtain ⟨r8,H8,hd8,k8,g1,rfl,base1,hbase1,hG1⟩:=C8l bA7.netAt okA hA k37.wf
 have bB8:=bB7.kept k37.wf k8
 obtain ⟨r9,H9,hd9,k9,g2,rfl,base2,hbase2,hG2⟩:=C8l bB8.netAt okB hB k8.wf
 rw [← A25 okA] at hG1
 rw [← A25 okB] at hG2
 have hX1:=(hG1.own k8.wf).kept k8.wf k9
 have hX2:=hG2.own k9.wf
 have a1:=okA.st1
 have a2:=okA.st2
 have b1:=okB.st1
 have b2:=okB.st2
 have n1:H8.next≤H9.next:=k9.next
 obtain ⟨r11,H11,hd11,k11,g,X,rfl,hX⟩:=C8a (n1:=A.states.toNat) (n2:=B.states.toNat) hX1 hX2 (A6p A) (A2s A) (A2t A) (by omega) (by omega) (A6p B) (A2s B) (A2t B) (by omega) (by omega) hA.sg (B7f hrA) (B7f hrB) k9.wf
 simp only [B3a,Bool.or_eq_false_iff,decide_eq_false_iff_not,Int.not_lt,Nat.not_lt] at hg
 have hEB:∀ r∈A2j B,∀ e∈r,e.1 < B.states.toNat∧e.2.1 < (A.sigma.length:Int)∧e.2.2.1 < (A.sigma.length:Int)∧e.2.2.2=0:=by rw [hsg]; exact A10 hrB
 obtain ⟨o3,o4⟩:=chE_ok (sigma:=A.sigma) (ends1:=A5h A A.ends) (E1:=A2j A) (E2:=A2j B) (costs1:=A9g A A.ends) (n1:=A.states.toNat) (n2:=B.states.toNat) (A6p A) (by omega) (A10 hrA) hEB (A24 hrA) (B3g hrA) (B3g hrB) A.states.toNat (Nat.le_refl _)
 have hRO:B0g A.sigma (chE (A2j A) (A2j B) (A5h A A.ends) (A9g A A.ends) A.states.toNat) (A2l (A5h A A.ends) (A5h B B.ends) A.states.toNat) (A9g A A.ends++A9g B B.ends) (A.states.toNat+B.states.toNat):=
  ⟨by rw [A15,A6p,A6p],by rw [A1x,A2s,A2s],by rw [List.length_append,A2t,A2t],by omega,by omega,o3,by omega,B6n fun c hc=>by
   rcases List.mem_append.1 hc with h | h
   ·exact A24 hrA c h
   ·exact A24 hrB c h⟩
 obtain ⟨r12,H12,hd12,k12,M,hM,m1,m2,m3,m4,m5,m6⟩:=graphNet hX hRO.le hRO.ln hRO.lc hRO.n1 hRO.n2 hA.sg (fun r hr e he=>⟨(hRO.to r hr e he).1,(hRO.to r hr e he).2.1,(hRO.to r hr e he).2.2.1⟩) (by have:=hRO.sum; omega) k11.wf
 have hNO:C1c A.sigma (chE (A2j A) (A2j B) (A5h A A.ends) (A9g A A.ends) A.states.toNat) (A2l (A5h A A.ends) (A5h B B.ends) A.states.toNat) (A9g A A.ends++A9g B B.ends) (A.states.toNat+B.states.toNat) M:=⟨m1,m2,m3,m4,m5,m6⟩
 have k812:=((k8.trans k9).trans k11).trans k12
 have k312:=k37.trans k812
 obtain ⟨⟨sgM,arM,enM,rfl,z1,z2,z3⟩⟩:=hM H12 fun y _=>rfl
 obtain ⟨H13,s13,c13,z13,x13⟩:=sl.put k312 z1.isCell (show isCell (.int .i64 M.states)=true from rfl) z2.isCell z3.isCell
 have hvqA:veq (.agg #[sgA,.int .i64 A.states,arA,enA]) (.agg #[sgA,.int .i64 A.states,arA,enA])=true:=A5v (by simp only [A3k,A1m,A6d,bA3.hsg.veq,bA3.har.veq,bA3.hen.veq,Bool.and_self])
 have hvqB:veq (.agg #[sgB,.int .i64 B.states,arB,enB]) (.agg #[sgB,.int .i64 B.states,arB,enB])=true:=A5v (by simp only [A3k,A1m,A6d,bB3.hsg.veq,bB3.har.veq,bB3.hen.veq,Bool.and_self])
 refine A3x (fl:=[(0,false),(2,false),(1,false),(3,true),(4,true),(5,true),(6,true),(7,true)]) (by kernel_rfl) (by kernel_rfl) k37.wf ?_
 simp only [↓Sh.dn,sx,Nat.reduceBEq,reduceCtorEq,Nat.reduceEqDiff,wpg,A3z,isEff,A4c,isRead,A2h,A6d,A1h,A0f,A7d,forall_eq,forall_eq',bA7.c0,bA7.c1,bA7.c2,bA7.c3,bA7.ca,A1a bA7,A3a bA7,A2a bA7,bB7.c0,bB7.c1,bB7.c2,bB7.c3,bB7.ca,A1a bB7,A3a bB7,A2a bB7,bB8.c0,bB8.c1,bB8.c2,bB8.c3,bB8.ca,A1a bB8,A3a bB8,A2a bB8,Option.map_some,hvqA,hvqB]
 refine ⟨_,_,hd8,k8.wf,k8.grow k37.wf,?_⟩
 refine ⟨_,_,hd9,k9.wf,?_⟩
 refine ⟨_,_,hd11,k11.wf,?_⟩
 refine ⟨_,_,hd12,k12.wf,?_⟩
 simp only [↓Sh.dn,sx,Nat.reduceBEq,reduceCtorEq,Nat.reduceEqDiff,wpg,A3z,isEff,A4c,isRead,A2h,A6d,A1h,A0f,A7d,forall_eq,forall_eq',s13,hres,c13,Option.map_some,z13.wf,e1]
 refine ⟨(k3.trans k312).then gol (z13.weak fun y hy=>by omega),_,rfl,fun h=>absurd rfl h,fun _=>⟨M,fun H14 h14=>hM H14 fun y hy=>(h14 y (by have:=sl.lt; have:=(k37.trans ((k8.trans k9).trans k11)).next; omega)).trans ?_,B0w hNO hRO hA.sg hA.sx,B6k hNO hRO okA.sig,m1,C7b hrA hrB hsg rfl hNO hRO⟩⟩
 have hgl:=sl.lt
 have hn:=(k37.trans ((k8.trans k9).trans k11)).next
 by_cases hyl:y < H12.next
 ·exact z13.old y hyl (by omega)
 ·have q1:=A17 k12.wf (y:=y) (by omega)
  have q2:=A17 z13.wf (y:=y) (by omega)
  rw [q1,q2]
end Go.Proofs.YtnoengaghabmjaaGreatDoor
/- The law's join of kind Chain. -/
namespace Go.Proofs.YtnoengaghabmjaaGreatDoor
open Go Go.Proofs Go.Proofs.Sh
theorem C7h {H:AH} {va vb:Value} {A B:NetD} (ha:A6l H va A) (hb:A6l H vb B) (hA:A2c A) (hB:A2c B) (hw:Wf H):
  Sh.Call Tryz.prog (knows 8) 11 [va,vb,.int .i64 2] H (fun r H'=>JoinOut H H' A.sigma (A4e A B) (fun x y=>A65 A B x y) r):=by
 refine A3b rfl Tryz.func11 rfl (Nat.le_of_ble_eq_true rfl) ?_
 have hres:Tryz.f11.results.toList=[.cell 6 26,.tmp 7]:=rfl
 obtain ⟨sgA,arA,enA,rfl,s1,s2,s3⟩:=ha
 obtain ⟨sgB,arB,enB,rfl,t1,t2,t3⟩:=hb
 have bA:=NetBox.of (N:=A) hw s1 s2 s3
 have k1:=Kept.new hw 4 [sgA,.int .i64 A.states,arA,enA]
 have bB:=NetBox.of (N:=B) k1.wf (t1.grow (k1.grow hw)) (t2.grow (k1.grow hw)) (t3.grow (k1.grow hw))
 have k2:=k1.news 4 [sgB,.int .i64 B.states,arB,enB]
 have bA2:=bA.new k1.wf 4 [sgB,.int .i64 B.states,arB,enB]
 simp only [↓Sh.dn,sx,Nat.reduceBEq,reduceCtorEq,Nat.reduceEqDiff,A0m s1.isCell s2.isCell s3.isCell,A0m t1.isCell t2.isCell t3.isCell,A9b]
 obtain ⟨H1,hH1⟩:∃ K,(H.new 4 [sgA,.int .i64 A.states,arA,enA]).2=K:=⟨_,rfl⟩
 simp only [hH1] at k1 bB bA k2 bA2 ⊢
 obtain ⟨H2,hH2⟩:∃ K,(H1.new 4 [sgB,.int .i64 B.states,arB,enB]).2=K:=⟨_,rfl⟩
 simp only [hH2] at bB k2 bA2 ⊢
 generalize H.next=gA at bA2 ⊢
 generalize H1.next=gB at bB ⊢
 have sl:Slot (H2.new 4 [.slice none 0 0,.int .i64 0,.slice none 0 0,.slice none 0 0]).2 H2.next:=Slot.new
 have k3:=k2.news 4 [.slice none 0 0,.int .i64 0,.slice none 0 0,.slice none 0 0]
 have bA3:=bA2.new k2.wf 4 [.slice none 0 0,.int .i64 0,.slice none 0 0,.slice none 0 0]
 have bB3:=bB.new k2.wf 4 [.slice none 0 0,.int .i64 0,.slice none 0 0,.slice none 0 0]
 have gol:H.next≤H2.next:=k2.next
 generalize H2.next=go at sl gol ⊢
 generalize (H2.new 4 [.slice none 0 0,.int .i64 0,.slice none 0 0,.slice none 0 0]).2=H3 at sl k3 bA3 bB3 ⊢
 clear bA bA2 bB k1 k2 hH1 hH2 H1 H2 s1 s2 s3 t1 t2 t3
 obtain ⟨r4,H4,hd4,k4,mv,rfl,hbad,hok⟩:=relChain bA3.netAt bB3.netAt hA hB k3.wf
 have i20:decide ((2:Int)=0)=false:=rfl
 have i21:decide ((2:Int)=1)=false:=rfl
 have i22:decide ((2:Int)=2)=true:=rfl
 simp only [↓Sh.dn,sx,Nat.reduceBEq,reduceCtorEq,Nat.reduceEqDiff,i20,i21,i22,bA3.c0,bA3.c1,bA3.c2,bA3.c3,bA3.ca,A1a bA3,A3a bA3,A2a bA3,bB3.c0,bB3.c1,bB3.c2,bB3.c3,bB3.ca,A1a bB3,A3a bB3,A2a bB3,Option.map_some,eq_self,decide_true,decide_false]
 refine ⟨_,_,hd4,?_⟩
 have hgl:=sl.lt
 by_cases hE:A4e A B=0
 case neg=>
  have hz:=hbad hE
  unfold A53 at hz
  subst hz
  obtain ⟨Hz,sz,cz,zz,_⟩:=sl.put k4 (a:=.slice none 0 0) (b:=.int .i64 0) (c:=.slice none 0 0) (d:=.slice none 0 0) rfl rfl rfl rfl
  simp only [↓Sh.dn,sx,Nat.reduceBEq,reduceCtorEq,Nat.reduceEqDiff,sz,hres,cz,Option.map_some]
  exact JoinOut.bad ((k3.trans k4).then gol (zz.weak fun y hy=>by omega)) hE
 obtain ⟨M,hM,m1,m2,m3,m4⟩:=hok hE
 obtain ⟨⟨sgM,arM,enM,rfl,z1,z2,z3⟩⟩:=hM H4 fun _ _=>rfl
 obtain ⟨H5,s5,c5,z5,x5⟩:=sl.put k4 z1.isCell (show isCell (.int .i64 M.states)=true from rfl) z2.isCell z3.isCell
 simp only [↓Sh.dn,sx,Nat.reduceBEq,reduceCtorEq,Nat.reduceEqDiff,s5,hres,c5,Option.map_some]
 refine ⟨(k3.trans k4).then gol (z5.weak fun y hy=>by omega),_,rfl,fun h=>absurd hE h,fun _=>⟨M,fun H6 h6=>hM H6 fun y hy=>(h6 y (by have:=k3.next; omega)).trans ?_,m1,m2,m3,m4⟩⟩
 by_cases hyl:y < H4.next
 ·exact z5.old y hyl (by omega)
 ·have q1:=A17 k4.wf (y:=y) (by omega)
  have q2:=A17 z5.wf (y:=y) (by omega)
  rw [q1,q2]
end Go.Proofs.YtnoengaghabmjaaGreatDoor
/- The reference's Two: a pair that is parted into one of each. -/
namespace Go.Proofs.YtnoengaghabmjaaGreatDoor
open Go Go.Proofs Go.Proofs.Sh
theorem C9a {α:Type} {A B:Arcs Nat α} {FA FB:Nat→Prop} {x y:List α} {O:List (Nat×Nat)} (hO:∀ p,p∈O↔∃ s,FA s∧Cl (A12 A x y) (fun q=>q.1=0∧q.2∈[(0,0)]) (s,p)):
  (∃ s,FB s∧Cl (A12 B x y) (fun q=>q.1=0∧q.2∈O) (s,x.length,y.length))↔∃ x1 x2 y1 y2,x=x1++x2∧y=y1++y2∧RelP A FA x1 y1∧RelP B FB x2 y2:=by
 constructor
 ·rintro ⟨s,hs,h⟩
  obtain ⟨⟨q0,qi,qj⟩,u,v,⟨rfl,hq⟩,h1,h2,h3,_,_⟩:=B4i h
  obtain ⟨t,ht,h4⟩:=(hO _).1 hq
  obtain ⟨⟨p0,pp⟩,u',v',⟨rfl,hp⟩,h5,h6,h7,_,_⟩:=B4i h4
  rw [List.mem_singleton] at hp
  simp only at hp
  subst hp
  simp only [List.drop_zero,List.drop_length,List.append_nil] at h2 h3 h6 h7
  exact ⟨u',u,v',v,by rw [← h2]; exact h6,by rw [← h3]; exact h7,⟨t,ht,h5⟩,⟨s,hs,h1⟩⟩
 ·rintro ⟨x1,x2,y1,y2,rfl,rfl,⟨t,ht,h1⟩,⟨s,hs,h2⟩⟩
  have c1:=B2k h1 (x:=x1++x2) (y:=y1++y2) (x':=x2) (y':=y2) (i:=0) (j:=0) (by simp) (by simp)
  have c2:=B2k h2 (x:=x1++x2) (y:=y1++y2) (x':=[]) (y':=[]) (i:=x1.length) (j:=y1.length) (by simp) (by simp)
  rw [Nat.zero_add,Nat.zero_add] at c1
  have m:(x1.length,y1.length)∈O:=(hO _).2 ⟨t,ht,c1.trans (.base ⟨rfl,List.mem_singleton.2 rfl⟩)⟩
  refine ⟨s,hs,?_⟩
  rw [List.length_append,List.length_append]
  exact c2.trans (.base ⟨rfl,m⟩)
theorem refTwo {H:AH} {va vb ux uy:Value} {A B:NetD} {x y:List ByteArray} (ha:A6l H va A) (hb:A6l H vb B) (hA:A2c A) (hB:A2c B) (okA:A8n A) (okB:A8n B) (hx:Sl H ux 1 (x.map A0b)) (hy:Sl H uy 1 (y.map A0b)) (hxl:x.length≤400) (hyl:y.length≤400) (hw:Wf H):
  Sh.Call Tryz.prog (knows 8) 31 [va,vb,ux,uy] H (fun r H'=>Kept H H'∧r=.bool (tB (A65 A B x y))):=by
 refine A3b rfl Tryz.func31 rfl (Nat.le_of_ble_eq_true rfl) ?_
 have hres:Tryz.f31.results.toList=[.tmp 8]:=rfl
 obtain ⟨sgA,arA,enA,rfl,s1,s2,s3⟩:=ha
 obtain ⟨sgB,arB,enB,rfl,t1,t2,t3⟩:=hb
 have bA:=NetBox.of (N:=A) hw s1 s2 s3
 have k1:=Kept.new hw 4 [sgA,.int .i64 A.states,arA,enA]
 have bB:=NetBox.of (N:=B) k1.wf (t1.grow (k1.grow hw)) (t2.grow (k1.grow hw)) (t3.grow (k1.grow hw))
 have k2:=k1.news 4 [sgB,.int .i64 B.states,arB,enB]
 have bA2:=bA.new k1.wf 4 [sgB,.int .i64 B.states,arB,enB]
 simp only [↓Sh.dn,sx,Nat.reduceBEq,reduceCtorEq,Nat.reduceEqDiff,A0m s1.isCell s2.isCell s3.isCell,A0m t1.isCell t2.isCell t3.isCell]
 obtain ⟨H1,hH1⟩:∃ K,(H.new 4 [sgA,.int .i64 A.states,arA,enA]).2=K:=⟨_,rfl⟩
 simp only [hH1] at k1 bB bA k2 bA2 ⊢
 obtain ⟨H2,hH2⟩:∃ K,(H1.new 4 [sgB,.int .i64 B.states,arB,enB]).2=K:=⟨_,rfl⟩
 simp only [hH2] at bB k2 bA2 ⊢
 generalize H.next=gA at bA2 ⊢
 generalize H1.next=gB at bB ⊢
 have kn:=Kept.new k2.wf 2 (A9f (0,0))
 have hl:Sl (H2.new 2 (A9f (0,0))).2 (.slice (some ⟨H2.next,0,some 0⟩) 1 1) 2 ([(0,0)].map A9f):=(Buf.fresh (H:=H2) (s:=2) (xs:=[A9f (0,0)]) k2.wf (by intro x hx; rw [List.mem_singleton.1 hx]; rfl) (by simp) 1 rfl).toSl
 have bA3:=bA2.kept k2.wf kn
 have bB3:=bB.kept k2.wf kn
 have k3:=k2.trans kn
 obtain ⟨r4,H4,hd4,k4,O,oo,hO,hnd,hiff⟩:=B5k bA3.netAt okA hA (hx.grow (k3.grow hw)) (hy.grow (k3.grow hw)) hxl hyl hl (by simp) (by simp) k3.wf
 have hbd:=B0j okA (L:=[(0,0)]) (by simp) hiff
 have hOl:=A8z hnd hbd hxl hyl
 have bB4:=bB3.kept k3.wf k4
 have k34:=k3.trans k4
 obtain ⟨r5,H5,hd5,k5,O2,oo2,hO2,hnd2,hiff2⟩:=B5k bB4.netAt okB hB (hx.grow (k34.grow hw)) (hy.grow (k34.grow hw)) hxl hyl hO.toSl hbd (by omega) k34.wf
 have hbd2:=B0j okB hbd hiff2
 have hOl2:=A8z hnd2 hbd2 hxl hyl
 have k35:=k34.trans k5
 obtain ⟨r6,H6,hd6,k6,rfl⟩:=refHas (p:=(x.length,y.length)) hO2.toSl (by omega) k35.wf
 have hlx:=fun H'=>hx.len Tryz.underlying22 H'
 have hly:=fun H'=>hy.len Tryz.underlying22 H'
 simp only [List.length_map] at hlx hly
 have hvqA:veq (.agg #[sgA,.int .i64 A.states,arA,enA]) (.agg #[sgA,.int .i64 A.states,arA,enA])=true:=A5v (by simp only [A3k,A1m,A6d,bA3.hsg.veq,bA3.har.veq,bA3.hen.veq,Bool.and_self])
 have hvqB:veq (.agg #[sgB,.int .i64 B.states,arB,enB]) (.agg #[sgB,.int .i64 B.states,arB,enB])=true:=A5v (by simp only [A3k,A1m,A6d,bB3.hsg.veq,bB3.har.veq,bB3.hen.veq,Bool.and_self])
 refine A3x (fl:=[(0,false),(1,true),(2,true),(3,false),(4,true),(5,true),(6,true),(7,false),(10,true),(11,false),(12,true),(13,false),(14,true),(8,false),(9,false),(15,true),(16,true)]) (by kernel_rfl) (by kernel_rfl) k2.wf ?_
 simp only [↓Sh.dn,sx,Nat.reduceBEq,reduceCtorEq,Nat.reduceEqDiff,wpg,A3z,isEff,A4c,isRead,A2h,A6d,A1h,A0f,A7d,forall_eq,forall_eq',bA2.c0,bA2.c1,bA2.c2,bA2.c3,bA2.ca,A1a bA2,A3a bA2,A2a bA2,bB.c0,bB.c1,bB.c2,bB.c3,bB.ca,A1a bB,A3a bB,A2a bB,bA3.c0,bA3.c1,bA3.c2,bA3.c3,bA3.ca,A1a bA3,A3a bA3,A2a bA3,bB3.c0,bB3.c1,bB3.c2,bB3.c3,bB3.ca,A1a bB3,A3a bB3,A2a bB3,Option.map_some,hvqA,hvqB,hx.veq,hy.veq,B62,B9v,hlx,hly,B3l]
 have ma:∀ x,(H2.new 2 (A9f (0,0))).2.objs.get H2.next=some x→A02 x x=true:=by
  intro x hx
  have:=Sh.Obj.new (H:=H2) 2 (A9f (0,0))
  unfold Sh.Obj at this
  rw [this] at hx
  injection hx with hx
  subst hx
  rfl
 refine ⟨ma,?_⟩
 refine ⟨_,_,hd4,k4.wf,k4.grow k3.wf,?_⟩
 refine ⟨_,_,hd5,k5.wf,k5.grow k4.wf,?_⟩
 refine ⟨_,_,hd6,k6.wf,?_⟩
 simp only [↓Sh.dn,sx,Nat.reduceBEq,reduceCtorEq,Nat.reduceEqDiff,wpg,A3z,isEff,A4c,isRead,A2h,A6d,A1h,A0f,A7d,forall_eq,forall_eq',hres]
 refine ⟨k35.trans k6,?_⟩
 have:decide ((x.length,y.length)∈O2)=tB (A65 A B x y):=by
  rw [Bool.eq_iff_iff,decide_eq_true_iff,B65,hiff2,C9a hiff]
  rfl
 rw [this]
end Go.Proofs.YtnoengaghabmjaaGreatDoor
/- The reference's Made of kind Chain. -/
namespace Go.Proofs.YtnoengaghabmjaaGreatDoor
open Go Go.Proofs Go.Proofs.Sh
theorem refMade2 {H:AH} {va vb ux uy:Value} {A B:NetD} {x y:List ByteArray} (ha:A6l H va A) (hb:A6l H vb B) (hA:A2c A) (hB:A2c B) (okA:A8n A) (okB:A8n B) (hx:Sl H ux 1 (x.map A0b)) (hy:Sl H uy 1 (y.map A0b)) (hxl:x.length≤400) (hyl:y.length≤400) (hw:Wf H):
  Sh.Call Tryz.prog (knows 8) 16 [va,vb,.int .i64 2,ux,uy] H (fun r H'=>Kept H H'∧r=.bool (tB (A65 A B x y))):=by
 refine A3b rfl Tryz.func16 rfl (Nat.le_of_ble_eq_true rfl) ?_
 have hres:Tryz.f16.results.toList=[.tmp 10]:=rfl
 obtain ⟨sgA,arA,enA,rfl,s1,s2,s3⟩:=ha
 obtain ⟨sgB,arB,enB,rfl,t1,t2,t3⟩:=hb
 have bA:=NetBox.of (N:=A) hw s1 s2 s3
 have k1:=Kept.new hw 4 [sgA,.int .i64 A.states,arA,enA]
 have bB:=NetBox.of (N:=B) k1.wf (t1.grow (k1.grow hw)) (t2.grow (k1.grow hw)) (t3.grow (k1.grow hw))
 have k2:=k1.news 4 [sgB,.int .i64 B.states,arB,enB]
 have bA2:=bA.new k1.wf 4 [sgB,.int .i64 B.states,arB,enB]
 simp only [↓Sh.dn,sx,Nat.reduceBEq,reduceCtorEq,Nat.reduceEqDiff,A0m s1.isCell s2.isCell s3.isCell,A0m t1.isCell t2.isCell t3.isCell]
 obtain ⟨H1,hH1⟩:∃ K,(H.new 4 [sgA,.int .i64 A.states,arA,enA]).2=K:=⟨_,rfl⟩
 simp only [hH1] at k1 bB bA k2 bA2 ⊢
 obtain ⟨H2,hH2⟩:∃ K,(H1.new 4 [sgB,.int .i64 B.states,arB,enB]).2=K:=⟨_,rfl⟩
 simp only [hH2] at bB k2 bA2 ⊢
 generalize H.next=gA at bA2 ⊢
 generalize H1.next=gB at bB ⊢
 obtain ⟨r3,H3,hd3,k3,rfl⟩:=refTwo bA2.netAt bB.netAt hA hB okA okB (hx.grow (k2.grow hw)) (hy.grow (k2.grow hw)) hxl hyl k2.wf
 have i20:decide ((2:Int)=0)=false:=rfl
 have i21:decide ((2:Int)=1)=false:=rfl
 have i22:decide ((2:Int)=2)=true:=rfl
 simp only [↓Sh.dn,sx,Nat.reduceBEq,reduceCtorEq,Nat.reduceEqDiff,bA2.c0,bA2.c1,bA2.c2,bA2.c3,bA2.ca,A1a bA2,A3a bA2,A2a bA2,bB.c0,bB.c1,bB.c2,bB.c3,bB.ca,A1a bB,A3a bB,A2a bB,Option.map_some,i20,i21,i22,eq_self,decide_true,decide_false]
 refine ⟨_,_,hd3,?_⟩
 simp only [↓Sh.dn,sx,Nat.reduceBEq,reduceCtorEq,Nat.reduceEqDiff,hres]
 exact k2.trans k3
end Go.Proofs.YtnoengaghabmjaaGreatDoor
/- For every two nets, of any kind, and every two lists of texts: what rel.Chain makes holds the pair of both lists just if they are parted into a pair of the first net and one of the second, or the error is the reference's. -/
namespace Go.Proofs.YtnoengaghabmjaaGreatDoor
open Go Go.Proofs Go.Proofs.Sh
theorem A45 {A B:NetD} (h:A4e A B=0):A8n A∧A8n B:=by
 unfold A4e at h
 split at h
 ·rename_i h1; exact absurd h h1
 ·rename_i h1
  obtain ⟨h2,h3,_⟩:=A19 (A:=A) (B:=B) (by simpa using h1)
  exact ⟨(A9h h2).1,(A9h h3).1⟩
theorem B8m {H:AH} {A B:NetD} {x y:List ByteArray} {sgA arA enA sgB arB enB ux uy:Value} (h:TwoAt H A B x y sgA arA enA sgB arB enB ux uy) (hA:A2c A) (hB:A2c B) (hxl:x.length≤1048576) (hyl:y.length≤1048576) (hw:Wf H):
  Sh.Call Tryz.prog (knows 8) 5 [.agg (twoV A B sgA arA enA sgB arB enB ux uy).toArray] H (fun r _=>r=.bool true):=by
 refine A3b rfl Tryz.func5 rfl (Nat.le_of_ble_eq_true rfl) ?_
 have hres:Tryz.f5.results.toList=[.tmp 2]:=rfl
 have t1:=TBox.new h hw
 have k1:Kept H (H.new 10 (twoV A B sgA arA enA sgB arB enB ux uy)).2:=Kept.new hw 10 _
 simp only [↓Sh.dn,sx,Nat.reduceBEq,reduceCtorEq,Nat.reduceEqDiff,twoNew h]
 generalize H.next=g at t1 ⊢
 generalize (H.new 10 (twoV A B sgA arA enA sgB arB enB ux uy)).2=H1 at t1 k1 ⊢
 obtain ⟨r2,H2,hd2,k2,rfl⟩:=C9k (kd:=2) (err:=A4e A B) (P:=fun x y=>A65 A B x y) (fun ha hb hw=>C7h ha hb hA hB hw) (fun ha hb hw=>refJoins (.inr rfl) ha hb hA hB hw)
  (fun hE {_ _ _ _ _} ha hb hx hy h1 h2 hw=>refMade2 ha hb hA hB (A45 hE).1 (A45 hE).2 hx hy h1 h2 hw) t1.at' hA hB hxl hyl k1.wf
 obtain ⟨r3,H3,hd3,rfl,rfl⟩:=A0v (H:=H2)
 simp only [↓Sh.dn,sx,Nat.reduceBEq,reduceCtorEq,Nat.reduceEqDiff,t1.cT,Option.map_some]
 refine ⟨_,_,hd2,?_⟩
 simp only [↓Sh.dn,sx,Nat.reduceBEq,reduceCtorEq,Nat.reduceEqDiff]
 refine ⟨_,_,hd3,?_⟩
 simp only [↓Sh.dn,sx,Nat.reduceBEq,reduceCtorEq,Nat.reduceEqDiff,hres]
theorem lawMain {H:AH} {avs:List Value} {K:Type} {ds:List (DataW K)} (hb:Rows.uptoBulkAll ds≤1048576) (hw:Wf H) (hr:RDs Tryz.prog H [28] avs ds) (hfl:Flat Tryz.prog [28] avs):
  Sh.Call Tryz.prog (knows 8) 5 avs H (fun r _=>r=.bool true):=by
 obtain ⟨v,vs,d,ds,rfl,rfl,⟨f,h1⟩,h2⟩:=hr.cons_inv
 obtain ⟨rfl,rfl⟩:=h2.nil_inv
 simp only [Rows.uptoBulkAll,Nat.add_zero] at hb
 obtain ⟨A,B,x,y,_,_,_,_,_,_,_,_,rfl,h,hA,hB,hxl,hyl⟩:=two_in h1 (by omega)
 exact B8m h hA hB hxl hyl hw
end Go.Proofs.YtnoengaghabmjaaGreatDoor
/- A start at which the variables hold what is laid. -/
namespace Go.Proofs.YtnoengaghabmjaaGreatDoor
open Go Go.Proofs
def laidL:List (String×DataW Unit):=[("math/bits.deBruijn32tab",Rows.laid_math_bits_deBruijn32tab),("math/bits.deBruijn64tab",Rows.laid_math_bits_deBruijn64tab),("internal/strconv.uint64pow10",Rows.laid_internal_strconv_uint64pow10)]
def litsOf:DataW Unit→List Value
 | .agg ds=>ds.map fun d=>match d with
  | .lit (.int k n)=>.int k n
  | _=>.bool false
 | _=>[]
noncomputable def gAt (n:String):Nat:=(Tryz.prog.globalNamed n).getD 0
noncomputable def laidWorld (os:Os):World:=
 let w0:=World.holding Tryz.prog os ⟨#[],#[],[]⟩
 let put (h:Array Obj) (x:String×DataW Unit):Array Obj:=h.modify (gAt x.1) fun
  | .cells _ t frozen=>.cells (litsOf x.2).toArray t frozen
  | o=>o
 { w0 with heap:=laidL.foldl put w0.heap }
theorem laid_met (os:Os) (args:Array Value):laidMetH Tryz.prog laidL ((laidWorld os).forCall (fun _ _=>0) ⟨#[],args,[]⟩).memory:=by
 have h:LaidIn Tryz.prog ((laidWorld os).forCall (fun _ _=>0) ⟨#[],args,[]⟩).memory laidL (laidL.map fun x=>gAt x.1):=LaidIn.of_run _ 8 (by kernel_rfl) (by kernel_rfl) (by kernel_rfl) (by kernel_rfl)
 exact h.met
end Go.Proofs.YtnoengaghabmjaaGreatDoor
