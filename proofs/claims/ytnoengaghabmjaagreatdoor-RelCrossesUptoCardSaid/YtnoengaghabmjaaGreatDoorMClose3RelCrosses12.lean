/- A part of the proof: LawJoined, TwoIn, IndexFuncArc, Sided, JoinErr0, GraphChain, RelChain, RefGraph, CmpLessInt, InsSortInt, SortSmallInt, BitsLen, BreakPatInt, HeapSortInt, PartitionInt, PartInsInt, PdqInt, SortIntsInt, SortInts, RefClose, RefRun, RefAbove. -/
import Derived.Test.YtnoengaghabmjaaGreatDoorMClose3RelCrosses10
import Derived.Test.YtnoengaghabmjaaGreatDoorMClose3RelCrosses11
import Derived.ProofKit
import Derived.Test.YtnoengaghabmjaaGreatDoorMClose3RelCrosses2
import Derived.Test.YtnoengaghabmjaaGreatDoorMClose3RelCrosses4
import Derived.Test.YtnoengaghabmjaaGreatDoorMClose3RelCrosses1
import Derived.Test.YtnoengaghabmjaaGreatDoorMClose3RelCrosses9
set_option linter.unusedVariables false
set_option linter.unusedSimpArgs false
/- What laws about two nets have alike: a net is made of them that holds what it should, or the error is as told. -/
set_option maxHeartbeats 4000000
set_option maxRecDepth 20000
set_option linter.unusedSimpArgs false
set_option linter.unusedVariables false
namespace Go.Proofs.YtnoengaghabmjaaGreatDoor
open Go Go.Proofs Go.Proofs.Sh
theorem A6x {H:AH}:Sh.Call Tryz.prog (knows 8) 8 [] H (fun r H'=>H'=H∧r=.bool true):=⟨_,_,⟨0,rfl⟩,rfl,rfl⟩
def twoV (A B:NetD) (sgA arA enA sgB arB enB ux uy:Value):List Value:=[sgA,.int .i64 A.states,arA,enA,sgB,.int .i64 B.states,arB,enB,ux,uy]
structure TwoAt (H:AH) (A B:NetD) (x y:List ByteArray) (sgA arA enA sgB arB enB ux uy:Value):Prop where
 a1:Sl H sgA 1 (A.sigma.map A2b)
 a2:Sl H arA 5 (A.arcs.map ArcD.cells)
 a3:Sl H enA 2 (A.ends.map EndD.cells)
 b1:Sl H sgB 1 (B.sigma.map A2b)
 b2:Sl H arB 5 (B.arcs.map ArcD.cells)
 b3:Sl H enB 2 (B.ends.map EndD.cells)
 x:Sl H ux 1 (x.map A2b)
 y:Sl H uy 1 (y.map A2b)
section
variable {H H':AH} {A B:NetD} {x y:List ByteArray} {sgA arA enA sgB arB enB ux uy:Value}
theorem TwoAt.kept (h:TwoAt H A B x y sgA arA enA sgB arB enB ux uy) (hw:Wf H) (hk:Kept H H'):TwoAt H' A B x y sgA arA enA sgB arB enB ux uy:=
 ⟨h.a1.grow (hk.grow hw),h.a2.grow (hk.grow hw),h.a3.grow (hk.grow hw),h.b1.grow (hk.grow hw),h.b2.grow (hk.grow hw),h.b3.grow (hk.grow hw),h.x.grow (hk.grow hw),h.y.grow (hk.grow hw)⟩
structure TBox (H:AH) (g:Nat) (A B:NetD) (x y:List ByteArray) (sgA arA enA sgB arB enB ux uy:Value):Prop where
 ar:Arr H g 0 10 (twoV A B sgA arA enA sgB arB enB ux uy)
 at':TwoAt H A B x y sgA arA enA sgB arB enB ux uy
theorem TBox.kept {g:Nat} (h:TBox H g A B x y sgA arA enA sgB arB enB ux uy) (hw:Wf H) (hk:Kept H H'):TBox H' g A B x y sgA arA enA sgB arB enB ux uy:=
 ⟨h.ar.keep (hk.old g (h.ar.lt hw)),h.at'.kept hw hk⟩
theorem TBox.new (h:TwoAt H A B x y sgA arA enA sgB arB enB ux uy) (hw:Wf H):TBox (H.new 10 (twoV A B sgA arA enA sgB arB enB ux uy)).2 H.next A B x y sgA arA enA sgB arB enB ux uy:=
 ⟨(Sh.Obj.new (H:=H) 10 _).arr,h.kept hw (Kept.new hw 10 _)⟩
theorem TBox.cA {g:Nat} (h:TBox H g A B x y sgA arA enA sgB arB enB ux uy):H.cells ⟨g,0,some 0⟩ 4=some [sgA,.int .i64 A.states,arA,enA]:=h.ar.cells (i:=0) (n:=4) (by simp [twoV])
theorem TBox.cB {g:Nat} (h:TBox H g A B x y sgA arA enA sgB arB enB ux uy):H.cells ⟨g,4,some 0⟩ 4=some [sgB,.int .i64 B.states,arB,enB]:=h.ar.cells (i:=4) (n:=4) (by simp [twoV])
theorem TBox.cT {g:Nat} (h:TBox H g A B x y sgA arA enA sgB arB enB ux uy):H.cells ⟨g,0,some 0⟩ 10=some (twoV A B sgA arA enA sgB arB enB ux uy):=h.ar.cells (i:=0) (n:=10) (by simp [twoV])
theorem TBox.c0 {g:Nat} (h:TBox H g A B x y sgA arA enA sgB arB enB ux uy):H.cell ⟨g,0,some 0⟩=some sgA:=h.ar.cell 0
theorem TBox.c8 {g:Nat} (h:TBox H g A B x y sgA arA enA sgB arB enB ux uy):H.cell ⟨g,8,some 0⟩=some ux:=h.ar.cell 8
theorem TBox.c9 {g:Nat} (h:TBox H g A B x y sgA arA enA sgB arB enB ux uy):H.cell ⟨g,9,some 0⟩=some uy:=h.ar.cell 9
def TBox.nA {g:Nat} (h:TBox H g A B x y sgA arA enA sgB arB enB ux uy):A3m H (.agg #[sgA,.int .i64 A.states,arA,enA]) A:=⟨sgA,arA,enA,rfl,h.at'.a1,h.at'.a2,h.at'.a3⟩
def TBox.nB {g:Nat} (h:TBox H g A B x y sgA arA enA sgB arB enB ux uy):A3m H (.agg #[sgB,.int .i64 B.states,arB,enB]) B:=⟨sgB,arB,enB,rfl,h.at'.b1,h.at'.b2,h.at'.b3⟩
theorem C1h (h:TwoAt H A B x y sgA arA enA sgB arB enB ux uy):(twoV A B sgA arA enA sgB arB enB ux uy).all isCell=true:=by
 have hi:∀ n:Int,isCell (.int .i64 n)=true:=fun _=>rfl
 simp [twoV,h.a1.isCell,h.a2.isCell,h.a3.isCell,h.b1.isCell,h.b2.isCell,h.b3.isCell,h.x.isCell,h.y.isCell,hi]
theorem twoNew (h:TwoAt H A B x y sgA arA enA sgB arB enB ux uy):anew Tryz.prog 28 H (.agg (twoV A B sgA arA enA sgB arB enB ux uy).toArray)=some (.pointer (some ⟨H.next,0,some 0⟩),(H.new 10 (twoV A B sgA arA enA sgB arB enB ux uy)).2):=
 A9m (vs:=twoV A B sgA arA enA sgB arB enB ux uy) C2o rfl (C1h h)
theorem two_nets (hw:Wf H) (h:TwoAt H A B x y sgA arA enA sgB arB enB ux uy) (hA:A5c A) (hB:A5c B):
  ∃ H',A6a Tryz.prog 51 2 [(0,.agg #[sgA,.int .i64 A.states,arA,enA]),(1,.agg #[sgB,.int .i64 B.states,arB,enB])] H=some (.slice (some ⟨H.next,0,some 0⟩) 2 2,H')∧Kept H H'∧
   Sl H' (.slice (some ⟨H.next,0,some 0⟩) 2 2) 4 [[sgA,.int .i64 A.states,arA,enA],[sgB,.int .i64 B.states,arB,enB]]∧∀ r∈[[sgA,.int .i64 A.states,arA,enA],[sgB,.int .i64 B.states,arB,enB]],NetRow H' r:=by
 have k:=Kept.new hw 4 [sgA,.int .i64 A.states,arA,enA,sgB,.int .i64 B.states,arB,enB]
 refine ⟨(H.new 4 [sgA,.int .i64 A.states,arA,enA,sgB,.int .i64 B.states,arB,enB]).2,?_,k,(Buf.fresh (H:=H) (s:=4) (xs:=[[sgA,.int .i64 A.states,arA,enA],[sgB,.int .i64 B.states,arB,enB]]) hw (by
  intro x hx
  simp only [List.mem_cons,List.not_mem_nil,or_false] at hx
  rcases hx with rfl | rfl <;> rfl) (by simp) 2 rfl).toSl,fun r hr=>?_⟩
 ·unfold A6a
  have va:∀ xs:Array Value,A0b (.agg xs)=xs.toList:=fun _=>rfl
  have hi:∀ n:Int,isCell (.int .i64 n)=true:=fun _=>rfl
  have hn:(H.new 4 [sgA,.int .i64 A.states,arA,enA,sgB,.int .i64 B.states,arB,enB]).1=⟨H.next,0,some 0⟩:=rfl
  simp only [Tryz.underlying51,A6p,A71,Option.bind_some,va]
  simp [repl,A3s,va,h.a1.isCell,h.a2.isCell,h.a3.isCell,h.b1.isCell,h.b2.isCell,h.b3.isCell,hi,setCells,A8a,A5b,hn]
 ·simp only [List.mem_cons,List.not_mem_nil,or_false] at hr
  have h':=h.kept hw k
  rcases hr with rfl | rfl
  ·exact ⟨A,sgA,arA,enA,rfl,h'.a1,h'.a2,h'.a3,hA⟩
  ·exact ⟨B,sgB,arB,enB,rfl,h'.b1,h'.b2,h'.b3,hB⟩
end
theorem C1y {H:AH} {A B:NetD} {x y:List ByteArray} {sgA arA enA sgB arB enB ux uy:Value} {kd err:Int} {P:List ByteArray→List ByteArray→Prop}
  (hj:∀ {H:AH} {va vb:Value},A3m H va A→A3m H vb B→Wf H→Sh.Call Tryz.prog (knows 8) 11 [va,vb,.int .i64 kd] H (fun r H'=>JoinOut H H' A.sigma err P r))
  (hr:∀ {H:AH} {va vb:Value},A3m H va A→A3m H vb B→Wf H→Sh.Call Tryz.prog (knows 8) 12 [va,vb,.int .i64 kd] H (fun r H'=>Kept H H'∧r=.int .i64 err))
  (hm:err=0→∀ {H:AH} {va vb ux uy:Value},A3m H va A→A3m H vb B→Sl H ux 1 (x.map A2b)→Sl H uy 1 (y.map A2b)→x.length≤400→y.length≤400→Wf H→Sh.Call Tryz.prog (knows 8) 16 [va,vb,.int .i64 kd,ux,uy] H (fun r H'=>Kept H H'∧r=.bool (tB (P x y))))
  (h:TwoAt H A B x y sgA arA enA sgB arB enB ux uy) (hA:A5c A) (hB:A5c B) (hxl:x.length≤1048576) (hyl:y.length≤1048576) (hw:Wf H):
  Sh.Call Tryz.prog (knows 8) 7 [.agg (twoV A B sgA arA enA sgB arB enB ux uy).toArray,.int .i64 kd] H (fun r H'=>Kept H H'∧r=.bool true):=by
 refine A5a rfl Tryz.func7 rfl (Nat.le_of_ble_eq_true rfl) ?_
 have hres:Tryz.f7.results.toList=[.tmp 4]:=rfl
 have t1:=TBox.new h hw
 have k1:Kept H (H.new 10 (twoV A B sgA arA enA sgB arB enB ux uy)).2:=Kept.new hw 10 _
 simp only [↓Sh.dn,sx,Nat.reduceBEq,reduceCtorEq,Nat.reduceEqDiff,twoNew h]
 generalize H.next=g at t1 ⊢
 generalize (H.new 10 (twoV A B sgA arA enA sgB arB enB ux uy)).2=H1 at t1 k1 ⊢
 obtain ⟨H2,hb2,k2,sl2,row2⟩:=two_nets k1.wf t1.at' hA hB
 obtain ⟨r,H3,hd3,rfl,b,rfl⟩:=lawOver sl2 (by simp) row2
 have t2:=t1.kept k1.wf k2
 have k12:=k1.trans k2
 simp only [↓Sh.dn,sx,Nat.reduceBEq,reduceCtorEq,Nat.reduceEqDiff,t1.cA,t1.cB,t1.c8,t1.c9,Option.map_some,hb2]
 refine ⟨_,_,hd3,?_⟩
 generalize (Value.slice (some ⟨H1.next,0,some 0⟩) 2 2)=lv at hd3 ⊢
 cases b with
 | true=>
  obtain ⟨r,H4,hd4,rfl,rfl⟩:=A6x (H:=H3)
  simp only [↓Sh.dn,sx,Nat.reduceBEq,reduceCtorEq,Nat.reduceEqDiff]
  refine ⟨_,_,hd4,?_⟩
  simp only [↓Sh.dn,sx,Nat.reduceBEq,reduceCtorEq,Nat.reduceEqDiff,hres]
  exact k12
 | false=>
 have hbs:=C5h (P:=Tryz.prog) (H:=H3) Tryz.underlying48 A8x B4q rfl t2.at'.x.isCell t2.at'.y.isCell
 have hJ:=two_jag t2.at'.x t2.at'.y k12.wf
 have km:=Kept.new k12.wf 1 [ux,uy]
 obtain ⟨r,K2,hd2,rfl,rfl⟩:=lawLong hJ (by simp)
 simp only [↓Sh.dn,sx,Nat.reduceBEq,reduceCtorEq,Nat.reduceEqDiff,t2.cA,t2.cB,t2.c8,t2.c9,Option.map_some,hbs]
 refine ⟨_,_,hd2,?_⟩
 have t3:=t2.kept k12.wf km
 have k13:=k12.trans km
 generalize (H3.new 1 [ux,uy]).2=H4 at km t3 k13 ⊢
 cases hlg:[x,y].any fun w=>decide (240 < w.length) with
 | true=>
  obtain ⟨r,H5,hd4,rfl,rfl⟩:=A6x (H:=H4)
  simp only [↓Sh.dn,sx,Nat.reduceBEq,reduceCtorEq,Nat.reduceEqDiff]
  refine ⟨_,_,hd4,?_⟩
  simp only [↓Sh.dn,sx,Nat.reduceBEq,reduceCtorEq,Nat.reduceEqDiff,hres]
  exact k13
 | false=>
 have hx4:x.length≤400∧y.length≤400:=by
  simp only [List.any_cons,List.any_nil,Bool.or_false,Bool.or_eq_false_iff,decide_eq_false_iff_not] at hlg
  omega
 obtain ⟨r5,H5,hd5,k5,mv,rfl,hbad,hok⟩:=hj t3.nA t3.nB k13.wf
 simp only [↓Sh.dn,sx,Nat.reduceBEq,reduceCtorEq,Nat.reduceEqDiff,t3.cA,t3.cB,Option.map_some]
 refine ⟨_,_,hd5,?_⟩
 have t5:=t3.kept k13.wf k5
 have k15:=k13.trans k5
 by_cases hE:err=0
 case neg=>
  have hz:=hbad hE
  unfold A66 at hz
  subst hz
  have k6:=Kept.new k15.wf 4 [.slice none 0 0,.int .i64 0,.slice none 0 0,.slice none 0 0]
  have hb6:=NetBox.of (N:=⟨[],0,[],[]⟩) k15.wf (Sl.nil H5 1) (Sl.nil H5 5) (Sl.nil H5 2)
  simp only [↓Sh.dn,sx,Nat.reduceBEq,reduceCtorEq,Nat.reduceEqDiff,A2c,A8v (H:=(H5.new 4 [.slice none 0 0,.int .i64 0,.slice none 0 0,.slice none 0 0]).2) (sg:=.slice none 0 0) (ar:=.slice none 0 0) (en:=.slice none 0 0) rfl rfl rfl,A7c]
  simp only [] at hb6
  have t6:=t5.kept k15.wf k6
  have k16:=k15.trans k6
  generalize H5.next=gn at hb6 ⊢
  generalize (H5.new 4 [.slice none 0 0,.int .i64 0,.slice none 0 0,.slice none 0 0]).2=H6 at hb6 t6 k6 k16 ⊢
  obtain ⟨r7,H7,hd7,k7,rfl⟩:=hr t6.nA t6.nB k16.wf
  simp only [↓Sh.dn,sx,Nat.reduceBEq,reduceCtorEq,Nat.reduceEqDiff,t6.cA,t6.cB,Option.map_some]
  refine ⟨_,_,hd7,?_⟩
  have hb7:=hb6.kept k16.wf k7
  have k17:=k16.trans k7
  obtain ⟨r8,H8,hd8,k8,rfl⟩:=lawNone k17.wf
  unfold A66 at hd8
  obtain ⟨r9,H9,hd9,rfl,rfl⟩:=A6x (H:=H8)
  simp only [↓Sh.dn,sx,Nat.reduceBEq,reduceCtorEq,Nat.reduceEqDiff,hE,decide_false,eq_self,decide_true,hb7.c0,hb7.c1,hb7.c2,hb7.c3,hb7.ca,A3a hb7,A1a hb7,A2a hb7,Option.map_some]
  refine ⟨_,_,hd8,?_⟩
  simp only [↓Sh.dn,sx,Nat.reduceBEq,reduceCtorEq,Nat.reduceEqDiff]
  refine ⟨_,_,hd9,?_⟩
  simp only [↓Sh.dn,sx,Nat.reduceBEq,reduceCtorEq,Nat.reduceEqDiff,hres]
  exact k17.trans k8
 obtain ⟨M,hM,m1,m2,m3,m4⟩:=hok hE
 obtain ⟨⟨sgM,arM,enM,rfl,z1,z2,z3⟩⟩:=hM H5 fun _ _=>rfl
 have k6:=Kept.new k15.wf 4 [sgM,.int .i64 M.states,arM,enM]
 have hb6:=NetBox.of (N:=M) k15.wf z1 z2 z3
 simp only [↓Sh.dn,sx,Nat.reduceBEq,reduceCtorEq,Nat.reduceEqDiff,A2c,A8v z1.isCell z2.isCell z3.isCell,A7c]
 have t6:=t5.kept k15.wf k6
 have k16:=k15.trans k6
 generalize H5.next=gn at hb6 ⊢
 generalize (H5.new 4 [sgM,.int .i64 M.states,arM,enM]).2=H6 at hb6 t6 k6 k16 ⊢
 obtain ⟨r7,H7,hd7,k7,rfl⟩:=hr t6.nA t6.nB k16.wf
 simp only [↓Sh.dn,sx,Nat.reduceBEq,reduceCtorEq,Nat.reduceEqDiff,t6.cA,t6.cB,Option.map_some]
 refine ⟨_,_,hd7,?_⟩
 have hb7:=hb6.kept k16.wf k7
 have t7:=t6.kept k16.wf k7
 have k17:=k16.trans k7
 subst hE
 have i03:decide ((0:Int)=3)=false:=rfl
 simp only [↓Sh.dn,sx,Nat.reduceBEq,reduceCtorEq,Nat.reduceEqDiff,i03,eq_self,decide_true]
 obtain ⟨r8,H8,hd8,k8,rfl⟩:=hm rfl t7.nA t7.nB t7.at'.x t7.at'.y hx4.1 hx4.2 k17.wf
 have hb8:=hb7.kept k17.wf k8
 have t8:=t7.kept k17.wf k8
 have k18:=k17.trans k8
 have he:tB (P x y)=tB (A90 M x y):=by rw [Bool.eq_iff_iff,A72,A72,m4]
 obtain ⟨r9,H9,hd9,k9,rfl⟩:=lawMade hb8.netAt m1 m2 m3 t8.at'.a1 hA.sg t8.at'.x t8.at'.y hx4.1 hx4.2 he k18.wf
 have k19:=k18.trans k9
 obtain ⟨r10,H10,hd10,rfl,rfl⟩:=A6x (H:=H9)
 have hvqA:veq (.agg #[sgA,.int .i64 A.states,arA,enA]) (.agg #[sgA,.int .i64 A.states,arA,enA])=true:=A42 (by simp only [A7m,A1p,A4e,t7.at'.a1.veq,t7.at'.a2.veq,t7.at'.a3.veq,Bool.and_self])
 have hvqB:veq (.agg #[sgB,.int .i64 B.states,arB,enB]) (.agg #[sgB,.int .i64 B.states,arB,enB])=true:=A42 (by simp only [A7m,A1p,A4e,t7.at'.b1.veq,t7.at'.b2.veq,t7.at'.b3.veq,Bool.and_self])
 have hvqM:veq (.agg #[sgM,.int .i64 M.states,arM,enM]) (.agg #[sgM,.int .i64 M.states,arM,enM])=true:=A42 (by simp only [A7m,A1p,A4e,z1.veq,z2.veq,z3.veq,Bool.and_self])
 have vx:=t7.at'.x.veq
 have vy:=t7.at'.y.veq
 have vs:=t7.at'.a1.veq
 refine A5v (fl:=[(0,true),(1,true),(2,true),(3,false),(4,true),(5,true),(6,false),(7,true),(8,false),(9,true),(10,false),(11,true),(12,false),(13,true),(14,false),(15,true),(16,true),(17,false),(18,true),(19,false),(20,false),(21,true),(22,true),(23,true),(24,true),(25,true),(26,true)]) (by kernel_rfl) (by kernel_rfl) k17.wf ?_
 simp only [↓Sh.dn,sx,Nat.reduceBEq,reduceCtorEq,Nat.reduceEqDiff,wpg,A80,isEff,A6c,isRead,A8h,A4e,A6h,A3f,A9d,forall_eq,forall_eq',eq_self,decide_true,hb7.c0,hb7.c1,hb7.c2,hb7.c3,hb7.ca,A3a hb7,A1a hb7,A2a hb7,t7.cA,t7.cB,t7.c0,t7.c8,t7.c9,Option.map_some,hvqA,hvqB,hvqM,vx,vy,vs]
 refine ⟨_,_,hd8,k8.wf,k8.grow k17.wf,?_⟩
 refine ⟨_,_,hd9,k9.wf,?_⟩
 simp only [↓Sh.dn,sx,Nat.reduceBEq,reduceCtorEq,Nat.reduceEqDiff,wpg,A80,isEff,A6c,isRead,A8h,A4e,A6h,A3f,A9d,forall_eq,forall_eq']
 refine ⟨_,_,hd10,k9.wf,?_⟩
 simp only [↓Sh.dn,sx,Nat.reduceBEq,reduceCtorEq,Nat.reduceEqDiff,wpg,A80,isEff,A6c,isRead,A8h,A4e,A6h,A3f,A9d,forall_eq,forall_eq',hres]
 exact k19
end Go.Proofs.YtnoengaghabmjaaGreatDoor
/- What comes in: two nets and two lists. -/
namespace Go.Proofs.YtnoengaghabmjaaGreatDoor
open Go Go.Proofs Go.Proofs.Sh
theorem ten {c:List Value} (h:c.length=10):∃ a b x y z a' b' x' y' z',c=[a,b,x,y,z,a',b',x',y',z']:=by
 match c,h with
 | [a,b,x,y,z,a',b',x',y',z'],_=>exact ⟨a,b,x,y,z,a',b',x',y',z',rfl⟩
theorem two_in {K:Type} {H:AH} {f:Nat} {v:Value} {d:DataW K} (h:RD Tryz.prog H f 28 (A0b v) d) (hb:Rows.uptoBulk d≤1048576):
  ∃ (A B:NetD) (x y:List ByteArray) (sgA arA enA sgB arB enB ux uy:Value),v=.agg (twoV A B sgA arA enA sgB arB enB ux uy).toArray∧TwoAt H A B x y sgA arA enA sgB arB enB ux uy∧A5c A∧A5c B∧x.length≤1048576∧y.length≤1048576:=by
 obtain ⟨f',ds,rfl,h1,h2,h3⟩:=RD.struct Tryz.underlying28 h
 rw [cells_28] at h1
 obtain ⟨c0,c1,c2,c3,c4,c5,c6,c7,c8,c9,hv⟩:=ten h1
 rw [hv] at h3
 have h2':ds.length=4:=h2
 obtain ⟨d0,e0⟩:=A1l h2' (i:=0) (by omega)
 obtain ⟨d1,e1⟩:=A1l h2' (i:=1) (by omega)
 obtain ⟨d2,e2⟩:=A1l h2' (i:=2) (by omega)
 obtain ⟨d3,e3⟩:=A1l h2' (i:=3) (by omega)
 have g0:=h3 0 _ _ rfl e0
 have g1:=h3 1 _ _ rfl e1
 have g2:=h3 2 _ _ rfl e2
 have g3:=h3 3 _ _ rfl e3
 simp only [C1d,C3g,List.drop_zero,List.drop_succ_cons,List.take_succ_cons,List.take_zero,List.getElem_toArray,List.getElem_cons_zero,List.getElem_cons_succ] at g0 g1 g2 g3
 have m0:=A4t (List.mem_of_getElem? e0)
 have m1:=A4t (List.mem_of_getElem? e1)
 have m2:=A4t (List.mem_of_getElem? e2)
 have m3:=A4t (List.mem_of_getElem? e3)
 simp only [Rows.uptoBulk] at hb
 obtain ⟨A,⟨nA⟩,sA,_⟩:=net_in (v:=.agg #[c0,c1,c2,c3]) g0 (by omega)
 obtain ⟨B,⟨nB⟩,sB,_⟩:=net_in (v:=.agg #[c4,c5,c6,c7]) g1 (by omega)
 obtain ⟨ux,x,qx,sx',bx⟩:=B22 g2
 obtain ⟨uy,y,qy,sy',by'⟩:=B22 g3
 simp only [List.cons.injEq,and_true] at qx qy
 subst qx qy
 obtain ⟨sgA,arA,enA,eA,a1,a2,a3⟩:=nA
 obtain ⟨sgB,arB,enB,eB,b1,b2,b3⟩:=nB
 simp only [Value.agg.injEq,Array.mk.injEq,List.cons.injEq,and_true] at eA eB
 obtain ⟨rfl,rfl,rfl,rfl⟩:=eA
 obtain ⟨rfl,rfl,rfl,rfl⟩:=eB
 exact ⟨A,B,x,y,_,_,_,_,_,_,_,_,agg_of hv,⟨a1,a2,a3,b1,b2,b3,sx',sy'⟩,sA,sB,by omega,by omega⟩
end Go.Proofs.YtnoengaghabmjaaGreatDoor
/- slices.IndexFunc and ContainsFunc: whether some element is so. -/
namespace Go.Proofs.YtnoengaghabmjaaGreatDoor
open Go Go.Proofs Go.Proofs.Sh
theorem B1w {H:AH} {v:Value} {l:List ArcD} {fid:Nat} {caps:List Value} (p:ArcD→Bool) (hs:Sl H v 5 (l.map ArcD.cells)) (hl:l.length≤1048576) (hw:Wf H)
  (hp:∀ H',Kept H H'→∀ x∈l,Sh.Call Tryz.prog (knows 8) fid ((fun a=>Value.agg a.cells.toArray) x :: caps) H' (fun r H''=>Kept H' H''∧r=.bool (p x))):
  Sh.Call Tryz.prog (knows 8) 93 [v,.func (.func fid) #[] caps.toArray] H (fun r H'=>Kept H H'∧∃ k:Int,r=.int .i64 k∧decide (0≤k)=l.any p):=by
 refine A5a rfl Tryz.func93 rfl (Nat.le_of_ble_eq_true rfl) ?_
 have hres:Tryz.f93.results.toList=[.tmp 4]:=rfl
 have hlen:=hs.len Tryz.underlying23 H
 simp only [↓Sh.dn,sx,Nat.reduceBEq,reduceCtorEq,Nat.reduceEqDiff,hlen,List.length_map]
 refine A6g l.length 8 [5,8,9,10,11,12,13,14,15,16,18] (fun i F H'=>Kept H H'∧(l.take i).any p=false) (by simp only [↓Sh.dn,sx,Nat.reduceBEq,reduceCtorEq,Nat.reduceEqDiff]) ⟨Kept.refl hw,rfl⟩ ?_ ?_
 ·rintro i F H' hlt hF f8 ⟨hk,hall⟩ k
  have hs1:=hs.grow (hk.grow hw)
  obtain ⟨g,o,kk,hia,hc,hcc⟩:=hs1.at Tryz.underlying23 A8l (i:=i) (x:=ArcD.cells l[i]) (by simp [hlt]) .i64
  have hld:=hc
  have f0:=hF 0 rfl
  have f1:=hF 1 rfl
  have f7:=hF 7 rfl
  simp only [↓Sh.dn,sx,Nat.reduceBEq,reduceCtorEq,Nat.reduceEqDiff] at f0 f1 f7
  obtain ⟨r,H2,hd,hk2,rfl⟩:=hp H' hk l[i] (List.getElem_mem hlt)
  simp only [↓Sh.dn,sx,Nat.reduceBEq,reduceCtorEq,Nat.reduceEqDiff,f0,f1,f7,f8,A4a,hlt,decide_true,hia,hld,Option.map_some,forall_const,reduceCtorEq,false_implies,and_true,true_and]
  refine ⟨_,_,hd,?_⟩
  cases hpv:p l[i] with
  | true=>
   simp only [↓Sh.dn,sx,Nat.reduceBEq,reduceCtorEq,Nat.reduceEqDiff,hres,forall_const,reduceCtorEq,false_implies,and_true,true_and]
   refine ⟨hk.trans hk2,_,rfl,?_⟩
   rw [List.any_eq_true.2 ⟨_,List.getElem_mem hlt,hpv⟩]
   simp
  | false=>
   simp only [↓Sh.dn,sx,Nat.reduceBEq,reduceCtorEq,Nat.reduceEqDiff,hres,f8,wrap_succ hlt hl,forall_const,reduceCtorEq,false_implies,and_true,true_and]
   refine k _ _ (by repeat (first | refine Same.put ?_ rfl | exact Same.rfl' _)) (by simp only [↓Sh.dn,sx,Nat.reduceBEq,reduceCtorEq,Nat.reduceEqDiff]) ⟨hk.trans hk2,?_⟩
   rw [List.take_add_one,List.getElem?_eq_getElem hlt]
   simp only [Option.toList,List.any_append,hall,List.any_cons,List.any_nil,hpv,Bool.or_false]
 ·rintro F H' hF f8 ⟨hk,hall⟩
  have f7:=hF 7 rfl
  simp only [↓Sh.dn,sx,Nat.reduceBEq,reduceCtorEq,Nat.reduceEqDiff] at f7
  rw [List.take_length] at hall
  simp only [↓Sh.dn,sx,Nat.reduceBEq,reduceCtorEq,Nat.reduceEqDiff,f7,f8,A4a,Nat.lt_irrefl,decide_false,hres,forall_const,reduceCtorEq,false_implies,and_true,true_and]
  exact ⟨hk,_,rfl,by rw [hall]; rfl⟩
theorem B0c {H:AH} {v:Value} {l:List ArcD} {fid:Nat} {caps:List Value} (p:ArcD→Bool) (hs:Sl H v 5 (l.map ArcD.cells)) (hl:l.length≤1048576) (hw:Wf H)
  (hp:∀ H',Kept H H'→∀ x∈l,Sh.Call Tryz.prog (knows 8) fid ((fun a=>Value.agg a.cells.toArray) x :: caps) H' (fun r H''=>Kept H' H''∧r=.bool (p x))):
  Sh.Call Tryz.prog (knows 8) 63 [v,.func (.func fid) #[] caps.toArray] H (fun r H'=>Kept H H'∧r=.bool (l.any p)):=by
 refine A5a rfl Tryz.func63 rfl (Nat.le_of_ble_eq_true rfl) ?_
 have hres:Tryz.f63.results.toList=[.tmp 4]:=rfl
 obtain ⟨r,H2,hd,hk,k,rfl,hk0⟩:=B1w p hs hl hw hp
 simp only [↓Sh.dn,sx,Nat.reduceBEq,reduceCtorEq,Nat.reduceEqDiff]
 refine ⟨_,_,hd,?_⟩
 simp only [↓Sh.dn,sx,Nat.reduceBEq,reduceCtorEq,Nat.reduceEqDiff,hres,hk0,and_true]
 exact hk
end Go.Proofs.YtnoengaghabmjaaGreatDoor
/- Whether a net has arcs whose two symbols differ, by both. -/
namespace Go.Proofs.YtnoengaghabmjaaGreatDoor
open Go Go.Proofs Go.Proofs.Sh
theorem sidedArc {H:AH} {a:ArcD} (hw:Wf H):Sh.Call Tryz.prog (knows 8) 64 [.agg a.cells.toArray] H (fun r H'=>Kept H H'∧r=.bool (!decide (a.inn=a.out))):=by
 refine A5a rfl Tryz.func64 rfl (Nat.le_of_ble_eq_true rfl) ?_
 have hres:Tryz.f64.results.toList=[.tmp 2]:=rfl
 simp only [↓Sh.dn,sx,Nat.reduceBEq,reduceCtorEq,Nat.reduceEqDiff,A2c,A1e,A7d,A4g,A5g,A0c,A1c,A0e,A8d,A7c,arc0,arc1,arc2,arc3,arc4,end0,end1,hres,Kept.new hw 5 a.cells]
theorem B28 {H:AH} {v:Value} {N:NetD} (h:A3m H v N) (hsm:A5c N) (hw:Wf H):
  Sh.Call Tryz.prog (knows 8) 34 [v] H (fun r H'=>Kept H H'∧r=.bool (N.arcs.any fun a=>!decide (a.inn=a.out))):=by
 refine A5a rfl Tryz.func34 rfl (Nat.le_of_ble_eq_true rfl) ?_
 have hres:Tryz.f34.results.toList=[.tmp 2]:=rfl
 obtain ⟨sg,ar,en,rfl,hsg,har,hen⟩:=h
 have hb1:=NetBox.of (N:=N) hw hsg har hen
 have hk1:Kept H (H.new 4 [sg,.int .i64 N.states,ar,en]).2:=Kept.new hw 4 _
 simp only [↓Sh.dn,sx,Nat.reduceBEq,reduceCtorEq,Nat.reduceEqDiff,A0n hsg.isCell har.isCell hen.isCell]
 generalize H.next=gg at hb1 ⊢
 generalize (H.new 4 [sg,.int .i64 N.states,ar,en]).2=H1 at hb1 hk1 ⊢
 obtain ⟨r,H3,hd3,hk3,rfl⟩:=B0c (caps:=[]) (fid:=64) (fun a=>!decide (a.inn=a.out)) hb1.har hsm.ar hk1.wf (fun H' hk a ha=>sidedArc hk.wf)
 simp only [↓Sh.dn,sx,Nat.reduceBEq,reduceCtorEq,Nat.reduceEqDiff,hb1.c0,hb1.c1,hb1.c2,hb1.c3,hb1.ca,A3a hb1,A1a hb1,A2a hb1]
 refine ⟨_,_,hd3,?_⟩
 simp only [↓Sh.dn,sx,Nat.reduceBEq,reduceCtorEq,Nat.reduceEqDiff,hres]
 exact hk1.trans hk3
theorem A84 {H:AH} {v:Value} {N:NetD} (h:A3m H v N) (hsm:A5c N) (hw:Wf H):
  Sh.Call Tryz.prog (knows 8) 27 [v] H (fun r H'=>Kept H H'∧r=.bool (!(N.arcs.any fun a=>!decide (a.inn=a.out)))):=by
 refine A5a rfl Tryz.func27 rfl (Nat.le_of_ble_eq_true rfl) ?_
 have hres:Tryz.f27.results.toList=[.tmp 2]:=rfl
 obtain ⟨sg,ar,en,rfl,hsg,har,hen⟩:=h
 have hb1:=NetBox.of (N:=N) hw hsg har hen
 have hk1:Kept H (H.new 4 [sg,.int .i64 N.states,ar,en]).2:=Kept.new hw 4 _
 simp only [↓Sh.dn,sx,Nat.reduceBEq,reduceCtorEq,Nat.reduceEqDiff,A0n hsg.isCell har.isCell hen.isCell]
 generalize H.next=gg at hb1 ⊢
 generalize (H.new 4 [sg,.int .i64 N.states,ar,en]).2=H1 at hb1 hk1 ⊢
 have hlen:=fun H'=>hb1.har.len Tryz.underlying23 H'
 simp only [List.length_map] at hlen
 have hs2:=hsm.ar
 refine A6g N.arcs.length 3 (List.range' 3 21) (fun i F H'=>H'=H1∧∀ a∈N.arcs.take i,a.inn=a.out) (by simp only [↓Sh.dn,sx,Nat.reduceBEq,reduceCtorEq,Nat.reduceEqDiff]) ⟨rfl,by simp⟩ ?_ ?_
 ·rintro i F H' hi hF f3 ⟨rfl,hall⟩ k
  have f1:=hF 1 rfl
  simp only [↓Sh.dn,sx,Nat.reduceBEq,reduceCtorEq,Nat.reduceEqDiff] at f1
  obtain ⟨ga,oa,ka,ja,_,ca⟩:=hb1.har.at Tryz.underlying23 A8l (i:=i) (x:=N.arcs[i].cells) (by simp [hi]) .i64
  have x1:=ca 1 (.string N.arcs[i].inn) rfl
  have x2:=ca 2 (.string N.arcs[i].out) rfl
  have htk:N.arcs.take (i+1)=N.arcs.take i++[N.arcs[i]]:=by rw [List.take_add_one,List.getElem?_eq_getElem hi]; rfl
  have hm:N.arcs[i]∈N.arcs:=List.getElem_mem hi
  generalize N.arcs[i]=a at x1 x2 htk hm
  simp only [↓Sh.dn,sx,Nat.reduceBEq,reduceCtorEq,Nat.reduceEqDiff,f1,f3,hb1.c0,hb1.c1,hb1.c2,hb1.c3,hb1.ca,A3a hb1,A1a hb1,A2a hb1,hlen,A4a,hi,decide_true]
  first | refine (A4d (by kernel_rfl)).2 ?_ | skip
  by_cases ha:a.inn=a.out
  ·simp only [↓Sh.dn,sx,Nat.reduceBEq,reduceCtorEq,Nat.reduceEqDiff,f1,f3,hb1.c0,hb1.c1,hb1.c2,hb1.c3,hb1.ca,A3a hb1,A1a hb1,A2a hb1,ja,x1,x2,ha,decide_true,A7b hi (by omega)]
   refine k _ _ (by repeat (first | refine Same.put ?_ rfl | exact Same.rfl' _)) (by simp only [↓Sh.dn,sx,Nat.reduceBEq,reduceCtorEq,Nat.reduceEqDiff]) ⟨rfl,fun b hb=>?_⟩
   rw [htk] at hb
   rcases List.mem_append.1 hb with h2 | h2
   ·exact hall b h2
   ·rw [List.mem_singleton.1 h2]; exact ha
  ·have hany:(N.arcs.any fun a=>!decide (a.inn=a.out))=true:=List.any_eq_true.2 ⟨a,hm,by rw [decide_eq_false ha]; rfl⟩
   simp only [↓Sh.dn,sx,Nat.reduceBEq,reduceCtorEq,Nat.reduceEqDiff,f1,f3,hb1.c0,hb1.c1,hb1.c2,hb1.c3,hb1.ca,A3a hb1,A1a hb1,A2a hb1,ja,x1,x2,ha,decide_false,hres,hany]
   exact hk1
 ·rintro F H' hF f3 ⟨rfl,hall⟩
  have f1:=hF 1 rfl
  simp only [↓Sh.dn,sx,Nat.reduceBEq,reduceCtorEq,Nat.reduceEqDiff] at f1
  rw [List.take_length] at hall
  have hany:(N.arcs.any fun a=>!decide (a.inn=a.out))=false:=by
   rw [List.any_eq_false]
   intro a ha
   rw [decide_eq_true (hall a ha)]; simp
  simp only [↓Sh.dn,sx,Nat.reduceBEq,reduceCtorEq,Nat.reduceEqDiff,f1,f3,hb1.c0,hb1.c1,hb1.c2,hb1.c3,hb1.ca,A3a hb1,A1a hb1,A2a hb1,hlen,A4a,Nat.lt_irrefl,decide_false,hres,hany]
  exact hk1
end Go.Proofs.YtnoengaghabmjaaGreatDoor
/- What the reference finds wrong with two acceptors that are to be crossed. -/
namespace Go.Proofs.YtnoengaghabmjaaGreatDoor
open Go Go.Proofs Go.Proofs.Sh
def A5x (N:NetD):Bool:=N.arcs.any fun a=>!decide (a.inn=a.out)
def A7e (A B:NetD):Int:=if A1k A B≠0 then A1k A B else if (A5x A || A5x B)=true then 6 else if B5e A B=true then 3 else 0
theorem C2v {H:AH} {va vb:Value} {A B:NetD} (ha:A3m H va A) (hb:A3m H vb B) (hA:A5c A) (hB:A5c B) (hw:Wf H):
  Sh.Call Tryz.prog (knows 8) 12 [va,vb,.int .i64 0] H (fun r H'=>Kept H H'∧r=.int .i64 (A7e A B)):=by
 refine A5a rfl Tryz.func12 rfl (Nat.le_of_ble_eq_true rfl) ?_
 have hres:Tryz.f12.results.toList=[.tmp 6]:=rfl
 obtain ⟨sgA,arA,enA,rfl,s1,s2,s3⟩:=ha
 obtain ⟨sgB,arB,enB,rfl,t1,t2,t3⟩:=hb
 have bA:=NetBox.of (N:=A) hw s1 s2 s3
 have k1:=Kept.new hw 4 [sgA,.int .i64 A.states,arA,enA]
 have bB:=NetBox.of (N:=B) k1.wf (t1.grow (k1.grow hw)) (t2.grow (k1.grow hw)) (t3.grow (k1.grow hw))
 have k2:=k1.news 4 [sgB,.int .i64 B.states,arB,enB]
 have bA2:=bA.new k1.wf 4 [sgB,.int .i64 B.states,arB,enB]
 simp only [↓Sh.dn,sx,Nat.reduceBEq,reduceCtorEq,Nat.reduceEqDiff,A0n s1.isCell s2.isCell s3.isCell,A0n t1.isCell t2.isCell t3.isCell]
 obtain ⟨H1,hH1⟩:∃ K,(H.new 4 [sgA,.int .i64 A.states,arA,enA]).2=K:=⟨_,rfl⟩
 simp only [hH1] at k1 bB bA k2 bA2 ⊢
 obtain ⟨H2,hH2⟩:∃ K,(H1.new 4 [sgB,.int .i64 B.states,arB,enB]).2=K:=⟨_,rfl⟩
 simp only [hH2] at bB k2 bA2 ⊢
 generalize H.next=gA at bA2 ⊢
 generalize H1.next=gB at bB ⊢
 obtain ⟨r3,H3,hd3,k3,rfl⟩:=B9c bA2.netAt hA k2.wf
 have bA3:=bA2.kept k2.wf k3
 have bB3:=bB.kept k2.wf k3
 have k23:=k2.trans k3
 obtain ⟨r4,H4,hd4,k4,rfl⟩:=B9c bB3.netAt hB k23.wf
 have bA4:=bA3.kept k23.wf k4
 have bB4:=bB3.kept k23.wf k4
 have k24:=k23.trans k4
 obtain ⟨r5,H5,hd5,rfl,rfl⟩:=C8t bA4.hsg bB4.hsg hA.sg hB.sg k24.wf
 simp only [↓Sh.dn,sx,Nat.reduceBEq,reduceCtorEq,Nat.reduceEqDiff,bA2.c0,bA2.c1,bA2.c2,bA2.c3,bA2.ca,A3a bA2,A1a bA2,A2a bA2,Option.map_some]
 refine ⟨_,_,hd3,?_⟩
 by_cases hE:A8i A=0
 case neg=>
  have e1:A7e A B=A8i A:=by unfold A7e A1k; rw [if_pos hE,if_pos hE]
  simp only [↓Sh.dn,sx,Nat.reduceBEq,reduceCtorEq,Nat.reduceEqDiff,hE,decide_false,hres,e1]
  exact k23
 simp only [↓Sh.dn,sx,Nat.reduceBEq,reduceCtorEq,Nat.reduceEqDiff,hE,decide_true,bB3.c0,bB3.c1,bB3.c2,bB3.c3,bB3.ca,A3a bB3,A1a bB3,A2a bB3,Option.map_some]
 refine ⟨_,_,hd4,?_⟩
 by_cases hF:A8i B=0
 case neg=>
  have e1:A7e A B=A8i B:=by unfold A7e A1k; simp only [hE,hF,ne_eq,not_true_eq_false,not_false_eq_true,if_true,if_false]
  simp only [↓Sh.dn,sx,Nat.reduceBEq,reduceCtorEq,Nat.reduceEqDiff,hF,decide_false,hres,e1]
  exact k24
 simp only [↓Sh.dn,sx,Nat.reduceBEq,reduceCtorEq,Nat.reduceEqDiff,hF,decide_true,bA4.c0,bA4.c1,bA4.c2,bA4.c3,bA4.ca,A3a bA4,A1a bA4,A2a bA4,bB4.c0,bB4.c1,bB4.c2,bB4.c3,bB4.ca,A3a bB4,A1a bB4,A2a bB4,Option.map_some]
 refine ⟨_,_,hd5,?_⟩
 by_cases hs:A.sigma=B.sigma
 case neg=>
  have e1:A7e A B=10:=by unfold A7e A1k; simp [hE,hF,hs]
  simp only [↓Sh.dn,sx,Nat.reduceBEq,reduceCtorEq,Nat.reduceEqDiff,hs,decide_false,hres,e1]
  exact k24
 obtain ⟨r6,H6,hd6,k6,rfl⟩:=A84 bA4.netAt hA k24.wf
 have bA6:=bA4.kept k24.wf k6
 have bB6:=bB4.kept k24.wf k6
 have k26:=k24.trans k6
 have z00:decide ((0:Int)=0)=true:=rfl
 simp only [↓Sh.dn,sx,Nat.reduceBEq,reduceCtorEq,Nat.reduceEqDiff,hs,decide_true,eq_self,bA4.c0,bA4.c1,bA4.c2,bA4.c3,bA4.ca,A3a bA4,A1a bA4,A2a bA4,bB4.c0,bB4.c1,bB4.c2,bB4.c3,bB4.ca,A3a bB4,A1a bB4,A2a bB4,Option.map_some]
 refine ⟨_,_,hd6,?_⟩
 cases hsa:(A.arcs.any fun a=>!decide (a.inn=a.out)) with
 | true=>
  have e1:A7e A B=6:=by unfold A7e A1k A5x; simp [hE,hF,hs,hsa]
  simp only [↓Sh.dn,sx,Nat.reduceBEq,reduceCtorEq,Nat.reduceEqDiff,hres,e1]
  exact k26
 | false=>
 obtain ⟨r7,H7,hd7,k7,rfl⟩:=A84 bB6.netAt hB k26.wf
 have bA7:=bA6.kept k26.wf k7
 have bB7:=bB6.kept k26.wf k7
 have k27:=k26.trans k7
 simp only [↓Sh.dn,sx,Nat.reduceBEq,reduceCtorEq,Nat.reduceEqDiff,bA6.c0,bA6.c1,bA6.c2,bA6.c3,bA6.ca,A3a bA6,A1a bA6,A2a bA6,bB6.c0,bB6.c1,bB6.c2,bB6.c3,bB6.ca,A3a bB6,A1a bB6,A2a bB6,Option.map_some]
 refine ⟨_,_,hd7,?_⟩
 cases hsb:(B.arcs.any fun a=>!decide (a.inn=a.out)) with
 | true=>
  have e1:A7e A B=6:=by unfold A7e A1k A5x; simp [hE,hF,hs,hsa,hsb]
  simp only [↓Sh.dn,sx,Nat.reduceBEq,reduceCtorEq,Nat.reduceEqDiff,hres,e1]
  exact k27
 | false=>
 have e1:A7e A B=if B5e A B=true then 3 else 0:=by
  unfold A7e A1k A5x
  rw [if_neg (by simp [hE,hF,hs]),if_neg (by rw [hsa,hsb]; simp)]
 obtain ⟨okA,_,_⟩:=A6j hE
 obtain ⟨okB,_,_⟩:=A6j hF
 have a1:=okA.st1
 have a2:=okA.st2
 have a3:=okA.ar
 have a4:=okA.en
 have b1:=okB.st1
 have b2:=okB.st2
 have b3:=okB.ar
 have b4:=okB.en
 have w1:IntKind.wrap .i64 (A.states+B.states)=A.states+B.states:=wrap64 (by omega) (by omega)
 have w2:IntKind.wrap .i64 ((A.arcs.length:Int)+(B.arcs.length:Int))=(A.arcs.length:Int)+(B.arcs.length:Int):=wrap64 (by omega) (by omega)
 have w3:IntKind.wrap .i64 ((A.ends.length:Int)+(B.ends.length:Int))=(A.ends.length:Int)+(B.ends.length:Int):=wrap64 (by omega) (by omega)
 have d2:decide ((50000:Int) < (A.arcs.length:Int)+(B.arcs.length:Int))=decide (50000 < A.arcs.length+B.arcs.length):=decide_eq_decide.2 (by omega)
 have d3:decide ((50000:Int) < (A.ends.length:Int)+(B.ends.length:Int))=decide (50000 < A.ends.length+B.ends.length):=decide_eq_decide.2 (by omega)
 unfold B5e at e1
 cases p1:decide (300 < A.states+B.states) with
 | true=>
  simp only [p1,Bool.true_or,if_true] at e1
  simp only [↓Sh.dn,sx,Nat.reduceBEq,reduceCtorEq,Nat.reduceEqDiff,decide_true,z00,bA7.c0,bA7.c1,bA7.c2,bA7.c3,bA7.ca,A3a bA7,A1a bA7,A2a bA7,bB7.c0,bB7.c1,bB7.c2,bB7.c3,bB7.ca,A3a bB7,A1a bB7,A2a bB7,Option.map_some,eq_self,w1,p1,hres,e1] <;> exact k27
 | false=>
 cases p2:decide (50000 < A.arcs.length+B.arcs.length) with
 | true=>
  simp only [p1,p2,Bool.true_or,Bool.false_or,if_true] at e1
  simp only [↓Sh.dn,sx,Nat.reduceBEq,reduceCtorEq,Nat.reduceEqDiff,decide_true,z00,bA7.c0,bA7.c1,bA7.c2,bA7.c3,bA7.ca,A3a bA7,A1a bA7,A2a bA7,bB7.c0,bB7.c1,bB7.c2,bB7.c3,bB7.ca,A3a bB7,A1a bB7,A2a bB7,Option.map_some,eq_self,w1,p1,w2,d2,p2,hres,e1] <;> exact k27
 | false=>
 cases p3:decide (50000 < A.ends.length+B.ends.length) with
 | true=>
  simp only [p1,p2,p3,Bool.true_or,Bool.false_or,if_true] at e1
  simp only [↓Sh.dn,sx,Nat.reduceBEq,reduceCtorEq,Nat.reduceEqDiff,decide_true,z00,bA7.c0,bA7.c1,bA7.c2,bA7.c3,bA7.ca,A3a bA7,A1a bA7,A2a bA7,bB7.c0,bB7.c1,bB7.c2,bB7.c3,bB7.ca,A3a bB7,A1a bB7,A2a bB7,Option.map_some,eq_self,w1,p1,w2,d2,p2,w3,d3,p3,hres,e1] <;> exact k27
 | false=>
  simp only [p1,p2,p3,Bool.false_or,Bool.false_eq_true,if_false] at e1
  simp only [↓Sh.dn,sx,Nat.reduceBEq,reduceCtorEq,Nat.reduceEqDiff,decide_true,z00,bA7.c0,bA7.c1,bA7.c2,bA7.c3,bA7.ca,A3a bA7,A1a bA7,A2a bA7,bB7.c0,bB7.c1,bB7.c2,bB7.c3,bB7.ca,A3a bB7,A1a bB7,A2a bB7,Option.map_some,eq_self,w1,p1,w2,d2,p2,w3,d3,p3,hres,e1] <;> exact k27
end Go.Proofs.YtnoengaghabmjaaGreatDoor
/- graph.Chain: the second graph behind the first. -/
namespace Go.Proofs.YtnoengaghabmjaaGreatDoor
open Go Go.Proofs Go.Proofs.Sh
theorem grPutEnd {H:AH} {X:Nat→Prop} {g:Nat} {sigma:List ByteArray} {rows:List (List (List Value))} {ends costs:List Int} {s:Nat} {x:Int}
  (h:GrX H X g sigma rows ends costs) (hs:s < ends.length) (hw:Wf H):
  ∃ ev p H',H.cell ⟨g,2,some 0⟩=some ev∧A9b Tryz.prog 86 ev (.int .i64 (s:Int))=some (.pointer (some p))∧A8f Tryz.prog 3 H (.int .i64 x) (.pointer (some p))=some H'∧Chg X H H'∧GrX H' X g sigma rows (ends.set s x) costs:=by
 obtain ⟨sv,av,ev,cv,os,ot,oe,oc,vals,obs,h,ho⟩:=h
 obtain ⟨pe,H2,ia,e1,b1,c1,n1⟩:=Buf.set (P:=Tryz.prog) h.en hw (i:=s) (x:=[.int .i64 x]) (by simpa using hs) rfl
 refine ⟨ev,pe,H2,h.arr.cell 2,ia Tryz.underlying86 A3e (j:=.i64),by rw [A9e A3e rfl]; exact e1,c1.weak fun y hy=>ho y (.inr (.inr (.inr (.inl hy)))),sv,av,ev,cv,os,ot,oe,oc,vals,obs,
  { h with arr:=h.arr.keep (c1.old g (h.arr.lt hw) ?_),sg:=h.sg.chg hw c1 ?_,jag:=h.jag.chg hw c1 ?_,en:=by rw [List.map_set]; exact b1,co:=h.co.chg hw c1 ?_ },ho⟩
 ·exact h.ge
 ·intro y hy hy2
  exact h.se y hy hy2
 ·intro y hy hy2
  exact h.je y hy2 hy
 ·intro y hy hy2
  exact h.ec y hy2 hy
def chE (E1 E2:List (List GE)) (ends1 costs1:List Int):Nat→List (List GE)
 | 0=>A3c 0 E1++A3c E1.length E2
 | i+1=>if 0 < ends1.getD i 0 then (chE E1 E2 ends1 costs1 i).set i ((chE E1 E2 ends1 costs1 i).getD i []++[(E1.length,-1,-1,costs1.getD i 0)]) else chE E1 E2 ends1 costs1 i
def A1n (ends1 ends2:List Int):Nat→List Int
 | 0=>ends1++ends2
 | i+1=>if 0 < ends1.getD i 0 then (A1n ends1 ends2 i).set i 0 else A1n ends1 ends2 i
section
variable {E1 E2:List (List GE)} {ends1 ends2 costs1:List Int}
theorem A97:∀ i,(chE E1 E2 ends1 costs1 i).length=E1.length+E2.length
 | 0=>by simp [chE,A3c]
 | i+1=>by
  unfold chE
  split
  ·rw [List.length_set]; exact A97 i
  ·exact A97 i
theorem A30:∀ i,(A1n ends1 ends2 i).length=ends1.length+ends2.length
 | 0=>by simp [A1n]
 | i+1=>by
  unfold A1n
  split
  ·rw [List.length_set]; exact A30 i
  ·exact A30 i
theorem B09:∀ i s,i≤s→(chE E1 E2 ends1 costs1 i)[s]?=(chE E1 E2 ends1 costs1 0)[s]?
 | 0,_,_=>rfl
 | i+1,s,h=>by
  rw [← B09 i s (by omega)]
  conv=>lhs; unfold chE
  split
  ·rw [List.getElem?_set,if_neg (by omega)]
  ·rfl
theorem B5l:∀ i s,(A1n ends1 ends2 i).getD s 0=if s < i∧0 < ends1.getD s 0 then 0 else (ends1++ends2).getD s 0
 | 0,s=>by simp [A1n]
 | i+1,s=>by
  have ih:=B5l i s
  unfold A1n
  by_cases hi:0 < ends1.getD i 0
  ·rw [if_pos hi]
   by_cases hs:i=s
   ·subst hs
    rw [if_pos ⟨Nat.lt_succ_self i,hi⟩,List.getD_eq_getElem?_getD,List.getElem?_set,if_pos rfl]
    split <;> rfl
   ·rw [List.getD_eq_getElem?_getD,List.getElem?_set,if_neg hs,← List.getD_eq_getElem?_getD,ih]
    have:(s < i∧0 < ends1.getD s 0)↔(s < i+1∧0 < ends1.getD s 0):=⟨fun h=>⟨by omega,h.2⟩,fun h=>⟨by omega,h.2⟩⟩
    simp only [this]
  ·rw [if_neg hi,ih]
   have:(s < i∧0 < ends1.getD s 0)↔(s < i+1∧0 < ends1.getD s 0):=⟨fun h=>⟨by omega,h.2⟩,fun h=>⟨by
    rcases Nat.lt_or_ge s i with h1 | h1
    ·exact h1
    ·have:s=i:=by omega
     subst this
     exact absurd h.2 hi,h.2⟩⟩
   simp only [this]
theorem chE_rows {i:Nat} (hi:i≤E1.length) {s:Nat} {a b:Option Nat} {t:Nat}:A4n (chE E1 E2 ends1 costs1 i) s a b t↔A4n (chE E1 E2 ends1 costs1 0) s a b t∨(s < i∧0 < ends1.getD s 0∧t=E1.length∧a=none∧b=none):=by
 induction i with
 | zero=>simp
 | succ i ih=>
  have ih:=ih (by omega)
  have l1:labN (-1)=none:=rfl
  conv=>lhs; unfold chE
  by_cases h:0 < ends1.getD i 0
  ·rw [if_pos h]
   have hg:(chE E1 E2 ends1 costs1 i)[i]?=some ((chE E1 E2 ends1 costs1 i).getD i []):=by
    have:i < (chE E1 E2 ends1 costs1 i).length:=by rw [A97]; omega
    rw [List.getD_eq_getElem?_getD,List.getElem?_eq_getElem this]; rfl
   rw [C8w hg,ih,l1]
   constructor
   ·rintro ((h1 | h1) | ⟨rfl,h2,h3,h4⟩)
    ·exact .inl h1
    ·exact .inr ⟨by omega,h1.2⟩
    ·exact .inr ⟨Nat.lt_succ_self _,h,h2,h3,h4⟩
   ·rintro (h1 | ⟨h1,h2,h3,h4,h5⟩)
    ·exact .inl (.inl h1)
    ·rcases Nat.lt_or_ge s i with h6 | h6
     ·exact .inl (.inr ⟨h6,h2,h3,h4,h5⟩)
     ·exact .inr ⟨by omega,h3,h4,h5⟩
  ·rw [if_neg h,ih]
   constructor
   ·rintro (h1 | h1)
    ·exact .inl h1
    ·exact .inr ⟨by omega,h1.2⟩
   ·rintro (h1 | ⟨h1,h2,h3⟩)
    ·exact .inl h1
    ·rcases Nat.lt_or_ge s i with h6 | h6
     ·exact .inr ⟨h6,h2,h3⟩
     ·have:s=i:=by omega
      subst this
      exact absurd h2 h
theorem chain_of {n:Nat} (hl:E1.length=n) (hl1:ends1.length=n) (hn:0 < n) (hto:∀ r∈E1,∀ e∈r,e.1 < n):
  ChainOf n (A4n E1) (A4n E2) (A4n (chE E1 E2 ends1 costs1 n)) (endP ends1) (endP ends2) (endP (A1n ends1 ends2 n)):=by
 have hg:∀ {s:Nat},0 < ends1.getD s 0→s < n:=fun {s} h=>by
  rcases Nat.lt_or_ge s n with h2 | h2
  ·exact h2
  ·rw [List.getD_eq_getElem?_getD,List.getElem?_eq_none (by omega)] at h
   exact absurd h (Int.lt_irrefl 0)
 refine ⟨fun s a b t=>?_,fun t=>?_,?_,fun t h=>hg h,hn⟩
 ·rw [chE_rows (by omega)]
  have e0:chE E1 E2 ends1 costs1 0=A3c 0 E1++A3c E1.length E2:=rfl
  rw [e0,C4t,B7c]
  have e1:(A3c 0 E1).length=n:=by simp [A3c,hl]
  rw [e1]
  simp only [B7c,hl]
  constructor
  ·rintro ((⟨t',h1,h2⟩ | ⟨s',h1,t',h2,h3⟩) | ⟨h1,h2,h3,h4,h5⟩)
   ·rw [Nat.zero_add] at h1; subst h1; exact .inl h2
   ·exact .inr (.inl ⟨s',t',h1,h2,h3⟩)
   ·exact .inr (.inr ⟨h2,h3,h4,h5⟩)
  ·rintro (h | ⟨s',t',h1,h2,h3⟩ | ⟨h1,h2,h3,h4⟩)
   ·exact .inl (.inl ⟨t,(Nat.zero_add t).symm,h⟩)
   ·exact .inl (.inr ⟨s',h1,t',h2,h3⟩)
   ·exact .inr ⟨hg h1,h1,h2,h3,h4⟩
 ·unfold endP
  rw [B5l]
  by_cases ht:t < n
  ·have e:(ends1++ends2).getD t 0=ends1.getD t 0:=by rw [List.getD_eq_getElem?_getD,List.getElem?_append_left (by omega),← List.getD_eq_getElem?_getD]
   rw [e]
   constructor
   ·intro h
    by_cases h2:0 < ends1.getD t 0
    ·rw [if_pos ⟨ht,h2⟩] at h; exact absurd h (Int.lt_irrefl 0)
    ·rw [if_neg fun h3=>h2 h3.2] at h; exact absurd h h2
   ·rintro ⟨t',h1,_⟩
    omega
  ·rw [if_neg fun h=>ht h.1,List.getD_eq_getElem?_getD,List.getElem?_append_right (by omega),← List.getD_eq_getElem?_getD,hl1]
   constructor
   ·intro h; exact ⟨t - n,by omega,h⟩
   ·rintro ⟨t',h1,h2⟩
    have:t'=t - n:=by omega
    subst this; exact h2
 ·rintro s a b t ⟨r,hr,e,he,rfl,_⟩
  have:=(List.getElem?_eq_some_iff.1 hr).1
  exact ⟨by omega,hto r (List.mem_of_getElem? hr) e he⟩
end
theorem C2h {H:AH} {Y1 Y2:Nat→Prop} {g1 g2 n1 n2:Nat} {sigma sigma2:List ByteArray} {E1 E2:List (List GE)} {ends1 ends2 costs1 costs2:List Int} (h1:GrX H Y1 g1 sigma (A1f E1) ends1 costs1) (h2:GrX H Y2 g2 sigma2 (A1f E2) ends2 costs2)
  (hl1:E1.length=n1) (he1:ends1.length=n1) (hc1:costs1.length=n1) (hp1:1≤n1) (hq1:n1≤3000) (hl2:E2.length=n2) (he2:ends2.length=n2) (hc2:costs2.length=n2) (hp2:1≤n2) (hq2:n2≤3000) (hsl:sigma.length≤1048576)
  (ht1:∀ r∈E1,r.length≤60000∧∀ e∈r,e.1 < n1) (ht2:∀ r∈E2,r.length≤60000∧∀ e∈r,e.1 < n2) (hw:Wf H):
  Sh.Call Tryz.prog (knows 8) 36 [.pointer (some ⟨g1,0,some 0⟩),.pointer (some ⟨g2,0,some 0⟩)] H (fun r H'=>Kept H H'∧∃ g,∃ X:Nat→Prop,r=.pointer (some ⟨g,0,some 0⟩)∧GrX H' X g sigma (A1f (chE E1 E2 ends1 costs1 n1)) (A1n ends1 ends2 n1) (costs1++costs2)):=by
 refine A5a rfl Tryz.func36 rfl (Nat.le_of_ble_eq_true rfl) ?_
 have hres:Tryz.f36.results.toList=[.tmp 4]:=rfl
 obtain ⟨sv,av,ev,cv,vals,hR⟩:=h1.read
 have hc0:H.cell ⟨g1,0,some 0⟩=some sv:=hR.arr.cell 0
 obtain ⟨r3,H3,hd3,hk3,g,rfl,hG3⟩:=B0p (n:=0) hR.sg hsl (by decide) hw
 have hX3:=hG3.own hk3.wf
 have hz:GrX H3 (fun y=>H.next≤y∧y < H3.next) g sigma (A1f []) [] []:=hX3
 have hd3':Does Tryz.prog (knows 8) 65 [sv,.int .i64 0] H (.pointer (some ⟨g,0,some 0⟩)) H3:=hd3
 have h1n:=grNow h1 hw
 have h2n:=grNow h2 hw
 obtain ⟨r4,H4,hd4,rfl,hc4,hX4⟩:=grAdd hz (h1n.kept hw hk3) (fun y hy=>⟨fun hx=>by have:=hy.2; omega,by have:=hk3.next; have:=hy.2; omega⟩) rfl rfl hl1 he1 hc1 hp1 hq1 (by simp [A1f]) (fun r hr=>⟨by have:=(ht1 r hr).1; omega,(ht1 r hr).2⟩) hk3.wf
 have hk4:Kept H H4:=hk3.then (Nat.le_refl _) (hc4.weak fun y hy=>by
  rcases hy with h | h
  ·exact h.1
  ·have:=hk3.next; omega)
 have hX4':GrX H4 (fun y=>H.next≤y) g sigma (A1f (A3c 0 E1)) ends1 costs1:=hX4.mono fun y hy=>by
  rcases hy with h | h
  ·exact h.1
  ·have:=hk3.next; omega
 have hl0:(A1f (A3c 0 E1)).length=n1:=by simp [A1f,A3c,hl1]
 obtain ⟨r5,H5,hd5,rfl,hc5,hX5⟩:=grAdd hX4' (h2n.kept hw hk4) (fun y hy=>⟨fun hx=>by have:=hy.2; omega,by have:=hk4.next; have:=hy.2; omega⟩) (by rw [hl0,he1]) (by rw [hl0,hc1]) hl2 he2 hc2 hp2 hq2 (by omega) (fun r hr=>⟨by have:=(ht2 r hr).1; omega,(ht2 r hr).2⟩) hk4.wf
 have hk5:Kept H H5:=hk4.then (Nat.le_refl _) (hc5.weak fun y hy=>by
  rcases hy with h | h
  ·exact h
  ·have:=hk4.next; omega)
 rw [hl0] at hd5 hX5
 have happ:A1f (A3c 0 E1)++A1f (A3c n1 E2)=A1f (chE E1 E2 ends1 costs1 0):=by unfold A1f chE; rw [List.map_append,hl1]
 rw [happ] at hX5
 have hX5':GrX H5 (fun y=>H.next≤y) g sigma (A1f (chE E1 E2 ends1 costs1 0)) (A1n ends1 ends2 0) (costs1++costs2):=hX5.mono fun y hy=>by
  rcases hy with h | h
  ·exact h
  ·have:=hk4.next; omega
 have hc2':∀ {H':AH},Kept H H'→H'.cell ⟨g1,2,some 0⟩=some ev:=fun hk=>A9g (hk.grow hw) (hR.arr.cell 2)
 have hc3':∀ {H':AH},Kept H H'→H'.cell ⟨g1,3,some 0⟩=some cv:=fun hk=>A9g (hk.grow hw) (hR.arr.cell 3)
 have hlen:∀ H',A7a Tryz.prog .len [86] [ev] H'=some (.int .i64 (n1:Int),H'):=fun H'=>by
  rw [hR.en.len Tryz.underlying86 H',List.length_map,he1]
 simp only [↓Sh.dn,sx,Nat.reduceBEq,reduceCtorEq,Nat.reduceEqDiff,hc0]
 refine ⟨_,_,hd3',?_⟩
 refine ⟨_,_,hd4,?_⟩
 refine ⟨_,_,hd5,?_⟩
 simp only [↓Sh.dn,sx,Nat.reduceBEq,reduceCtorEq,Nat.reduceEqDiff,hc2' hk5,hlen]
 refine A6g n1 25 (List.range' 25 25++[7,8]) (fun i F H'=>Kept H H'∧∃ X:Nat→Prop,(∀ y,X y→H.next≤y)∧GrX H' X g sigma (A1f (chE E1 E2 ends1 costs1 i)) (A1n ends1 ends2 i) (costs1++costs2)) (by simp only [↓Sh.dn,sx,Nat.reduceBEq,reduceCtorEq,Nat.reduceEqDiff]) ⟨hk5,_,fun y hy=>hy,hX5'⟩ ?_ ?_
 ·rintro i F H' hi hF f25 ⟨hk,X,hXb,hX⟩ k
  have f0:=hF 0 rfl
  have f5:=hF 5 rfl
  have f6:=hF 6 rfl
  have f23:=hF 23 rfl
  have f24:=hF 24 rfl
  simp only [↓Sh.dn,sx,Nat.reduceBEq,reduceCtorEq,Nat.reduceEqDiff] at f0 f5 f6 f23 f24
  have hie:i < ends1.length:=by omega
  have hic:i < costs1.length:=by omega
  have ge:ends1.getD i 0=ends1[i]:=by rw [List.getD_eq_getElem?_getD,List.getElem?_eq_getElem hie]; rfl
  have gc:costs1.getD i 0=costs1[i]:=by rw [List.getD_eq_getElem?_getD,List.getElem?_eq_getElem hic]; rfl
  obtain ⟨p1,i1,e1⟩:=Sl.elem (s:=1) Tryz.underlying86 A3e (hR.en.grow (hk.grow hw)) (i:=i) (u:=.int .i64 ends1[i]) (by rw [List.getElem?_map,List.getElem?_eq_getElem hie]; rfl)
  by_cases hpos:0 < ends1[i]
  ·have hs1:i < (A1n ends1 ends2 i).length:=by rw [A30]; omega
   obtain ⟨ev6,p6,H6,c6,ia6,st6,chg6,hX6⟩:=grPutEnd (x:=0) hX hs1 hk.wf
   have hk6:Kept H H6:=hk.then (Nat.le_refl _) (chg6.weak hXb)
   obtain ⟨p7,i7,e7⟩:=Sl.elem (s:=1) Tryz.underlying86 A3e (hR.co.grow (hk6.grow hw)) (i:=i) (u:=.int .i64 costs1[i]) (by rw [List.getElem?_map,List.getElem?_eq_getElem hic]; rfl)
   have hlr:i < (chE E1 E2 ends1 costs1 i).length:=by rw [A97]; omega
   have hrow0:(chE E1 E2 ends1 costs1 i)[i]?=some ((chE E1 E2 ends1 costs1 i).getD i []):=by rw [List.getD_eq_getElem?_getD,List.getElem?_eq_getElem hlr]; rfl
   have hrl:((chE E1 E2 ends1 costs1 i).getD i []).length≤60000:=by
    rw [List.getD_eq_getElem?_getD,B09 i i (Nat.le_refl i)]
    have hi1:i < (A3c 0 E1).length:=by simp [A3c,hl1,hi]
    show (((A3c 0 E1++A3c E1.length E2)[i]?).getD []).length≤60000
    rw [List.getElem?_append_left hi1]
    unfold A3c
    rw [List.getElem?_map,List.getElem?_eq_getElem (by omega)]
    show (List.map _ _).length≤60000
    rw [List.length_map]
    exact (ht1 _ (List.getElem_mem _)).1
   have hrow:(A1f (chE E1 E2 ends1 costs1 i))[i]?=some (((chE E1 E2 ends1 costs1 i).getD i []).map A3h):=by unfold A1f; rw [List.getElem?_map,hrow0]; rfl
   obtain ⟨r8,H8,hd8,hc8,hX8⟩:=C5q (s:=i) (x0:=(n1:Int)) (x1:=-1) (x2:=-1) (x3:=costs1[i]) hX6 hrow (by rw [List.length_map]; omega) chg6.wf
   have hset:(A1f (chE E1 E2 ends1 costs1 i)).set i (((chE E1 E2 ends1 costs1 i).getD i []).map A3h++[[Value.int .i64 (n1:Int),Value.int .i64 (-1),Value.int .i64 (-1),Value.int .i64 costs1[i]]])=A1f (chE E1 E2 ends1 costs1 (i+1)):=by
    conv=>rhs; unfold chE
    rw [if_pos (by rw [ge]; exact hpos),hl1,gc]
    unfold A1f
    rw [List.map_set,List.map_append (l₁:=(chE E1 E2 ends1 costs1 i).getD i [])]
    rfl
   have hse:(A1n ends1 ends2 i).set i 0=A1n ends1 ends2 (i+1):=by
    conv=>rhs; unfold A1n
    rw [if_pos (by rw [ge]; exact hpos)]
   rw [hset,hse] at hX8
   have hn6:=hk6.next
   have hXb':∀ y,(X y∨H6.next≤y)→H.next≤y:=fun y hy=>by
    rcases hy with h | h
    ·exact hXb y h
    ·omega
   have hk8:Kept H H8:=hk6.then (Nat.le_refl _) (hc8.weak hXb)
   simp only [↓Sh.dn,sx,Nat.reduceBEq,reduceCtorEq,Nat.reduceEqDiff,f0,f5,f6,f23,f24,f25,A4a,hi,decide_true,i1,e1,hpos,c6,ia6,st6,hc3' hk6,i7,e7]
   refine ⟨_,_,hd8,?_⟩
   simp only [↓Sh.dn,sx,Nat.reduceBEq,reduceCtorEq,Nat.reduceEqDiff,f25,A7b hi (by omega)]
   exact k _ _ (by repeat (first | refine Same.put ?_ rfl | exact Same.rfl' _)) (by simp only [↓Sh.dn,sx,Nat.reduceBEq,reduceCtorEq,Nat.reduceEqDiff]) ⟨hk8,_,hXb',hX8⟩
  ·have hE : chE E1 E2 ends1 costs1 (i + 1) = chE E1 E2 ends1 costs1 i := by
     conv => lhs; unfold chE
     rw [if_neg (by rw [ge]; exact hpos)]
   have hse : A1n ends1 ends2 (i + 1) = A1n ends1 ends2 i := by
     conv => lhs; unfold A1n
     rw [if_neg (by rw [ge]; exact hpos)]
   simp only [↓Sh.dn, sx, Nat.reduceBEq, reduceCtorEq, Nat.reduceEqDiff, f0, f5, f6, f23, f24, f25, A4a, hi, decide_true, i1, e1, hpos, decide_false, A7b hi (by omega)]
   exact k _ _ (by repeat (first | refine Same.put ?_ rfl | exact Same.rfl' _)) (by simp only [↓Sh.dn, sx, Nat.reduceBEq, reduceCtorEq, Nat.reduceEqDiff]) ⟨hk, X, hXb, by rw [hE, hse]; exact hX⟩
 ·rintro F H' hF f25 ⟨hk,X,hXb,hX⟩
  have f5:=hF 5 rfl
  have f24:=hF 24 rfl
  simp only [↓Sh.dn,sx,Nat.reduceBEq,reduceCtorEq,Nat.reduceEqDiff] at f5 f24
  simp only [↓Sh.dn,sx,Nat.reduceBEq,reduceCtorEq,Nat.reduceEqDiff,f5,f24,f25,A4a,Nat.lt_irrefl,decide_false,hres]
  exact ⟨hk,g,rfl,X,hX⟩
end Go.Proofs.YtnoengaghabmjaaGreatDoor
/- rel.Chain: the pairs of the first with those of the second behind them. -/
namespace Go.Proofs.YtnoengaghabmjaaGreatDoor
open Go Go.Proofs Go.Proofs.Sh
theorem A69 (e0:GE):∀ {L:List (List GE)} {i:Nat} {r0:List GE},L[i]?=some r0→((L.set i (r0++[e0])).map List.length).sum=(L.map List.length).sum+1
 | [],_,_,h=>by simp at h
 | q :: L,0,r0,h=>by
  have:=Option.some.inj h
  subst this
  simp; omega
 | q :: L,i+1,r0,h=>by
  have ih:=A69 e0 (L:=L) (i:=i) (r0:=r0) (by simpa using h)
  simp only [List.set_cons_succ,List.map_cons,List.sum_cons,ih]; omega
theorem chE_ok {sigma:List ByteArray} {E1 E2:List (List GE)} {ends1 costs1:List Int} {n1 n2 k1 k2:Nat} (hl1:E1.length=n1) (hn:0 < n2)
  (h1:∀ r∈E1,∀ e∈r,e.1 < n1∧e.2.1 < (sigma.length:Int)∧e.2.2.1 < (sigma.length:Int)∧e.2.2.2=0) (h2:∀ r∈E2,∀ e∈r,e.1 < n2∧e.2.1 < (sigma.length:Int)∧e.2.2.1 < (sigma.length:Int)∧e.2.2.2=0)
  (hz:∀ c∈costs1,c=0) (hs1:(E1.map List.length).sum=k1) (hs2:(E2.map List.length).sum=k2):
  ∀ i,i≤n1→(∀ r∈chE E1 E2 ends1 costs1 i,∀ e∈r,e.1 < n1+n2∧e.2.1 < (sigma.length:Int)∧e.2.2.1 < (sigma.length:Int)∧e.2.2.2=0)∧((chE E1 E2 ends1 costs1 i).map List.length).sum≤k1+k2+i
 | 0,_=>by
  refine ⟨fun r hr e he=>?_,?_⟩
  ·have hr':r∈A3c 0 E1++A3c E1.length E2:=hr
   rcases List.mem_append.1 hr' with h | h
   ·obtain ⟨r0,hr0,rfl⟩:=List.mem_map.1 h
    obtain ⟨e0,he0,rfl⟩:=List.mem_map.1 he
    have:=h1 r0 hr0 e0 he0
    unfold A5y
    exact ⟨by simp only; omega,this.2⟩
   ·obtain ⟨r0,hr0,rfl⟩:=List.mem_map.1 h
    obtain ⟨e0,he0,rfl⟩:=List.mem_map.1 he
    have:=h2 r0 hr0 e0 he0
    unfold A5y
    exact ⟨by simp only; omega,this.2⟩
  ·have hsh : ∀ (k : Nat) (E : List (List GE)), ((A3c k E).map List.length).sum = (E.map List.length).sum := fun k E => by
     unfold A3c
     rw [List.map_map]
     congr 1
     exact List.map_congr_left fun r _ => by simp
   show ((A3c 0 E1 ++ A3c E1.length E2).map List.length).sum ≤ _
   rw [List.map_append, List.sum_append, hsh, hsh, hs1, hs2]; omega
 | i+1,hi=>by
  obtain ⟨q1,q2⟩:=chE_ok (ends1:=ends1) hl1 hn h1 h2 hz hs1 hs2 i (by omega)
  by_cases h:0 < ends1.getD i 0
  ·have e : chE E1 E2 ends1 costs1 (i + 1) = (chE E1 E2 ends1 costs1 i).set i ((chE E1 E2 ends1 costs1 i).getD i [] ++ [(E1.length, -1, -1, costs1.getD i 0)]) := by
     conv => lhs; unfold chE
     rw [if_pos h]
   have hlr : i < (chE E1 E2 ends1 costs1 i).length := by rw [A97]; omega
   have hrow : (chE E1 E2 ends1 costs1 i)[i]? = some ((chE E1 E2 ends1 costs1 i).getD i []) := by rw [List.getD_eq_getElem?_getD, List.getElem?_eq_getElem hlr]; rfl
   have hneg : ((-1 : Int)) < (sigma.length : Int) := by omega
   rw [e, A69 _ hrow]
   refine ⟨fun r hr e he => ?_, by omega⟩
   rcases List.mem_or_eq_of_mem_set hr with h3 | h3
   · exact q1 r h3 e he
   · rw [h3] at he
     rcases List.mem_append.1 he with h4 | h4
     · exact q1 _ (List.mem_of_getElem? hrow) e h4
     · rw [List.mem_singleton.1 h4]
       exact ⟨by simp only; omega, hneg, hneg, B1s hz i⟩
  ·have e : chE E1 E2 ends1 costs1 (i + 1) = chE E1 E2 ends1 costs1 i := by
     conv => lhs; unfold chE
     rw [if_neg h]
   rw [e]
   exact ⟨q1, by omega⟩
end Go.Proofs.YtnoengaghabmjaaGreatDoor
/- The reference's graph: made of a net. -/
namespace Go.Proofs.YtnoengaghabmjaaGreatDoor
open Go Go.Proofs Go.Proofs.Sh
theorem C5b {H:AH}:anew Tryz.prog 83 H (.agg #[.int .i64 0,.slice none 0 0,.slice none 0 0])=some (.pointer (some ⟨H.next,0,some 0⟩),(H.new 3 [.int .i64 0,.slice none 0 0,.slice none 0 0]).2):=A9m (vs:=[.int .i64 0,.slice none 0 0,.slice none 0 0]) B9n rfl rfl
theorem C3w {H:AH} {ev bv:Value} (he:isCell ev=true) (hb:isCell bv=true):anew Tryz.prog 83 H (.agg #[.int .i64 0,ev,bv])=some (.pointer (some ⟨H.next,0,some 0⟩),(H.new 3 [.int .i64 0,ev,bv]).2):=
 A9m (vs:=[.int .i64 0,ev,bv]) B9n rfl (by simp [he,hb,show isCell (.int .i64 0)=true from rfl])
theorem B72 {H:AH} {ev bv:Value} {p:Addr} (he:isCell ev=true) (hb:isCell bv=true):A8f Tryz.prog 83 H (.agg #[.int .i64 0,ev,bv]) (.pointer (some p))=H.write p [.int .i64 0,ev,bv]:=
 A8o (vs:=[.int .i64 0,ev,bv]) B9n rfl (by simp [he,hb,show isCell (.int .i64 0)=true from rfl])
theorem rgOver {H:AH} {a b c x y z:Value}:(H.new 3 [a,b,c]).2.write ⟨H.next,0,some 0⟩ [x,y,z]=some (H.new 3 [x,y,z]).2:=A3p rfl
theorem reZero {H:AH}:anew Tryz.prog 139 H (.agg #[.string ⟨#[]⟩,.int .i64 0])=some (.pointer (some ⟨H.next,0,some 0⟩),(H.new 2 [.string ⟨#[]⟩,.int .i64 0]).2):=A9m (vs:=[.string ⟨#[]⟩,.int .i64 0]) A6w rfl rfl
theorem C2r {H:AH} {e:ByteArray×Nat} {p:Addr}:A8f Tryz.prog 139 H (.agg (A4s e).toArray) (.pointer (some p))=H.write p (A4s e):=A8o A6w rfl rfl
theorem reOver {H:AH} {e:ByteArray×Nat} {x0 x1:Value}:(H.new 2 [x0,x1]).2.write ⟨H.next,0,some 0⟩ (A4s e)=some (H.new 2 (A4s e)).2:=A3p rfl
theorem re0 {H:AH} {e:ByteArray×Nat}:(H.new 2 (A4s e)).2.cell ⟨H.next,0,some 0⟩=some (.string e.1):=A8k _ _ _
theorem re1 {H:AH} {e:ByteArray×Nat}:(H.new 2 (A4s e)).2.cell ⟨H.next,1,some 0⟩=some (.int .i64 (e.2:Int)):=A8k _ _ _
theorem rgOut {H:AH} (hw:Wf H) {ev bv:Value} {g:Nat} (x y z:Value) (h:Sh.Obj H g 3 [x,y,z] true) (he:isCell ev=true) (hb:isCell bv=true):∃ H',A8f Tryz.prog 83 H (.agg #[.int .i64 0,ev,bv]) (.pointer (some ⟨g,0,some 0⟩))=some H'∧Sh.Obj H' g 3 [.int .i64 0,ev,bv] true∧Chg (fun y=>y=g) H H':=by
 obtain ⟨H',h1,h2,h3,h4⟩:=h.arr.write hw (i:=0) (vs:=[.int .i64 0,ev,bv]) (by simp)
 have ho:Sh.Obj H' g 3 [.int .i64 0,ev,bv] true:=by
  obtain ⟨H2,k1,k2,_⟩:=Sh.Obj.write h (i:=0) (vs:=[.int .i64 0,ev,bv]) (by simp)
  rw [h1] at k1
  injection k1 with k1
  subst k1
  exact k2
 exact ⟨H',by rw [B72 he hb]; exact h1,ho,h4.weak fun _ h=>h⟩
theorem newGraph {H:AH} {n:Nat} (hn:n≤1048576) (hw:Wf H):
  Sh.Call Tryz.prog (knows 8) 88 [.int .i64 (n:Int)] H (fun r H'=>Kept H H'∧∃ ev bv,r=.agg #[.int .i64 0,ev,bv]∧∃ g1,H.next≤g1∧∃ g2,g1 < g2∧Jag H' ev (if n=0 then none else some g1) 2 (List.replicate n (.slice none 0 0)) (List.replicate n []) (List.replicate n none)∧Buf H' 1 bv (List.replicate n [.bool false]) (if n=0 then none else some g2)):=by
 refine A5a rfl Tryz.func88 rfl (Nat.le_of_ble_eq_true rfl) ?_
 have hres:Tryz.f88.results.toList=[.cell 2 83]:=rfl
 simp only [↓Sh.dn,sx,Nat.reduceBEq,reduceCtorEq,Nat.reduceEqDiff,C5b]
 have k0:=Kept.new hw 3 [.int .i64 0,.slice none 0 0,.slice none 0 0]
 have o0:=Sh.Obj.new (H:=H) 3 [.int .i64 0,.slice none 0 0,.slice none 0 0]
 have x0:H.next < (H.new 3 [.int .i64 0,.slice none 0 0,.slice none 0 0]).2.next:=Nat.lt_succ_self _
 generalize (H.new 3 [.int .i64 0,.slice none 0 0,.slice none 0 0]).2=H0 at k0 o0 x0 ⊢
 have m1:=mk_80 (H:=H0) (l:=n) (c:=n) (Nat.le_refl _) (by omega)
 have k1:=Kept.new k0.wf 1 (List.replicate n (.slice none 0 0))
 have jg:=Jag.make k0.wf 2 (n:=n) (by omega)
 have o1:=B30 (H:=H0) (n:=n) (z:=.slice none 0 0) rfl
 have x1:H0.next < (H0.new 1 (List.replicate n (.slice none 0 0))).2.next:=Nat.lt_succ_self _
 generalize (H0.new 1 (List.replicate n (.slice none 0 0))).2=K1 at m1 k1 jg o1 x1 ⊢
 have m2:=mk_81 (H:=K1) (l:=n) (c:=n) (Nat.le_refl _) (by omega)
 have k2:=Kept.new k1.wf 1 (List.replicate n (.bool false))
 have f2:=Buf.fill k1.wf (.bool false) (c:=n) (by omega)
 have o2:=B30 (H:=K1) (n:=n) (z:=.bool false) rfl
 generalize (K1.new 1 (List.replicate n (.bool false))).2=K2 at m2 k2 f2 o2 ⊢
 have bq:A9l Tryz.prog 83 [(1,.slice (some ⟨H0.next,0,some 0⟩) n n),(2,.slice (some ⟨K1.next,0,some 0⟩) n n)]=some (.agg #[.int .i64 0,.slice (some ⟨H0.next,0,some 0⟩) n n,.slice (some ⟨K1.next,0,some 0⟩) n n]):=by
  have va:∀ xs:Array Value,A0b (.agg xs)=xs.toList:=fun _=>rfl
  refine A3i (pl:=[(0,1),(1,1),(2,1)]) Tryz.underlying83 B41 (by kernel_rfl) ?_
  simp [A3s,va,A0b,isCell,setCells,A8a,A5b]
 have o0':Sh.Obj K2 H.next 3 [.int .i64 0,.slice none 0 0,.slice none 0 0] true:=by
  unfold Sh.Obj at o0 ⊢
  rw [(k1.trans k2).old H.next x0]; exact o0
 obtain ⟨K3,st,o3,c3⟩:=rgOut (ev:=.slice (some ⟨H0.next,0,some 0⟩) n n) (bv:=.slice (some ⟨K1.next,0,some 0⟩) n n) k2.wf _ _ _ o0' rfl rfl
 have k012:=(k0.trans k1).trans k2
 have c3':=o3.cells (i:=0) (n:=3) (by simp)
 refine A5v (fl:=[(0,true),(1,false),(2,true),(3,false),(4,true),(5,true)]) (by kernel_rfl) (by kernel_rfl) k0.wf ?_
 simp only [↓Sh.dn,sx,Nat.reduceBEq,reduceCtorEq,Nat.reduceEqDiff,wpg,A80,isEff,A6c,isRead,A8h,A4e,A6h,A3f,A9d,forall_eq,forall_eq',m1,m2,bq,st,k1.wf,k2.wf,hres,c3',Option.map_some,List.drop_zero,List.take_succ_cons,List.take_zero]
 have j1:=(jg.kept k1.wf k2).chg k2.wf c3 (fun y hy e=>by
  subst e
  have:∀ y,JIn (if n=0 then none else some H0.next) (List.replicate n none) y→y=H0.next:=by
   rintro y (h | ⟨i,h⟩)
   ·by_cases h0:n=0
    ·rw [if_pos h0] at h; cases h
    ·rw [if_neg h0] at h; exact (Option.some.inj h).symm
   ·rw [List.getElem?_replicate] at h
    split at h <;> cases h
  have:=this _ hy
  omega)
 have b1:=f2.chg k2.wf c3 (fun y hy e=>by
  subst e
  by_cases h0:n=0
  ·rw [if_pos h0] at hy; cases hy
  ·rw [if_neg h0] at hy; have:=Option.some.inj hy; omega)
 exact ⟨o1,o2,c3.wf,k012.then (Nat.le_refl _) (c3.weak fun y hy=>by omega),_,_,rfl,H0.next,Nat.le_of_lt x0,K1.next,x1,j1,b1⟩
def B3i (N:NetD) (l:List ArcD):List (List (List Value)):=rowsOf ArcD.fr (fun a=>A4s (a.inn,a.to.toNat)) N.states.toNat l
theorem C0h {H:AH} {v:Value} {N:NetD} (h:A3m H v N) (hok:A0o N) (hsm:A5c N) (hw:Wf H):
  Sh.Call Tryz.prog (knows 8) 54 [v] H (fun r H'=>Kept H H'∧∃ ev bv vals,RG H' r N.states.toNat (A27 N) (marksOf EndD.state N.states.toNat N.ends) ev bv vals):=by
 refine A5a rfl Tryz.func54 rfl (Nat.le_of_ble_eq_true rfl) ?_
 have hres:Tryz.f54.results.toList=[.cell 2 83]:=rfl
 obtain ⟨sg,ar,en,rfl,hsg,har,hen⟩:=h
 have hb1:=NetBox.of (N:=N) hw hsg har hen
 have hk1:Kept H (H.new 4 [sg,.int .i64 N.states,ar,en]).2:=Kept.new hw 4 _
 have h1:=hok.st1
 have h2:=hok.st2
 obtain ⟨n,hn⟩:∃ n:Nat,N.states=(n:Int):=⟨N.states.toNat,by omega⟩
 have hnn:N.states.toNat=n:=by omega
 simp only [↓Sh.dn,sx,Nat.reduceBEq,reduceCtorEq,Nat.reduceEqDiff,A0n hsg.isCell har.isCell hen.isCell,C5b]
 have hnx:H.next < (H.new 4 [sg,.int .i64 N.states,ar,en]).2.next:=Nat.lt_succ_self _
 have e0:∀ y,(H.new 4 [sg,.int .i64 N.states,ar,en]).2.next≤y→H.next≤y:=fun y hy=>Nat.le_trans (Nat.le_succ _) hy
 generalize H.next=gg at hb1 hnx ⊢
 generalize (H.new 4 [sg,.int .i64 N.states,ar,en]).2=H1 at hb1 hk1 hnx e0 ⊢
 have hb2:=hb1.new hk1.wf 3 [.int .i64 0,.slice none 0 0,.slice none 0 0]
 have hk2:=hk1.news 3 [.int .i64 0,.slice none 0 0,.slice none 0 0]
 have o0:=Sh.Obj.new (H:=H1) 3 [.int .i64 0,.slice none 0 0,.slice none 0 0]
 have x2:H1.next < (H1.new 3 [.int .i64 0,.slice none 0 0,.slice none 0 0]).2.next:=Nat.lt_succ_self _
 generalize H1.next=go at o0 x2 e0 ⊢
 generalize (H1.new 3 [.int .i64 0,.slice none 0 0,.slice none 0 0]).2=H2 at hb2 hk2 o0 x2 ⊢
 obtain ⟨r,H3,hd3,hk3,ev,bv,rfl,g1,hg1,g2,hg2,hj,hbf⟩:=newGraph (n:=n) (by omega) hk2.wf
 simp only [↓Sh.dn,sx,Nat.reduceBEq,reduceCtorEq,Nat.reduceEqDiff,hb2.c0,hb2.c1,hb2.c2,hb2.c3,hb2.ca,A3a hb2,A1a hb2,A2a hb2,Option.map_some,hn]
 refine ⟨_,_,hd3,?_⟩
 have hb3:=hb2.kept hk2.wf hk3
 have ic1:=hj.top.isCell
 have ic2:=hbf.isCell
 simp only [↓Sh.dn,sx,Nat.reduceBEq,reduceCtorEq,Nat.reduceEqDiff,hb3.c0,hb3.c1,hb3.c2,hb3.c3,hb3.ca,A3a hb3,A1a hb3,A2a hb3,Option.map_some,C5b,B72 ic1 ic2,rgOver]
 have og:=(Sh.Obj.new (H:=H3) 3 [.int .i64 0,ev,bv]).arr
 have kn:=Kept.new hk3.wf 3 [.int .i64 0,ev,bv]
 have xg:H3.next < (H3.new 3 [.int .i64 0,ev,bv]).2.next:=Nat.lt_succ_self _
 have hj4:=hj.kept hk3.wf kn
 have hbf4:=hbf.kept hk3.wf kn
 have hk4:=hk3.trans kn
 have hx3:=hk3.next
 obtain ⟨ot,hot⟩:∃ ot,(if n=0 then none else some g1)=ot:=⟨_,rfl⟩
 obtain ⟨ob,hob⟩:∃ ob,(if n=0 then none else some g2)=ob:=⟨_,rfl⟩
 have lob:∀ y,ob=some y→y=g2:=by
  intro y h
  rw [← hob] at h
  by_cases h0:n=0
  ·rw [if_pos h0] at h; cases h
  ·rw [if_neg h0] at h; exact (Option.some.inj h).symm
 have lot:∀ y,JIn ot (List.replicate n none) y→y=g1:=by
  rintro y (h | ⟨i,h⟩)
  ·rw [← hot] at h
   by_cases h0:n=0
   ·rw [if_pos h0] at h; cases h
   ·rw [if_neg h0] at h; exact (Option.some.inj h).symm
  ·rw [List.getElem?_replicate] at h
   split at h <;> cases h
 rw [hot] at hj4
 rw [hob] at hbf4
 have lb:=fun y h=>hbf.lt hk3.wf y (by rw [hob]; exact h)
 have lj:=fun y h=>hj.lt hk3.wf y (by rw [hot]; exact h)
 generalize H3.next=gb at og xg hx3 lb lj ⊢
 generalize (H3.new 3 [.int .i64 0,ev,bv]).2=H4 at og xg hj4 hbf4 hk4 ⊢
 refine A6g N.arcs.length 4 (List.range' 4 36++[4,5]) (fun i F H'=>Kept H2 H'∧Arr H' gb 0 3 [.int .i64 0,ev,bv]∧Buf H' 1 bv (List.replicate n [.bool false]) ob∧∃ vals obs,Jag H' ev ot 2 vals (B3i N (N.arcs.take i)) obs∧∀ y,JIn ot obs y→H2.next≤y∧y≠gb∧ob≠some y) (by simp only [↓Sh.dn,sx,Nat.reduceBEq,reduceCtorEq,Nat.reduceEqDiff]) ⟨hk4,og,hbf4,_,_,by
  rw [List.take_zero]; unfold B3i; rw [A1v,hnn]; exact hj4,fun y hy=>by
   have e1:=lot y hy
   have e2:=lj y hy
   exact ⟨by omega,by omega,fun h=>by have:=lob y h; omega⟩⟩ ?_ ?_
 ·rintro i F H' hlt hF f4 ⟨hk,hog,hbb,vals,obs,hJ,hin⟩ k
  have f1:=hF 1 rfl
  have f3:=hF 3 rfl
  simp only [↓Sh.dn,sx,Nat.reduceBEq,reduceCtorEq,Nat.reduceEqDiff] at f1 f3
  have hb':=hb2.kept hk2.wf hk
  obtain ⟨q,o,kk,hia,hc,hcc⟩:=hb'.har.at Tryz.underlying23 A8l (i:=i) (x:=N.arcs[i].cells) (by simp [hlt]) .i64
  clear hcc
  have htake:N.arcs.take (i+1)=N.arcs.take i++[N.arcs[i]]:=by rw [List.take_add_one,List.getElem?_eq_getElem hlt]; rfl
  obtain ⟨k0,k1,k2,k3,k4,k5⟩:=hok.arc _ (List.getElem_mem hlt)
  have kn:=Kept.new hk.wf 5 (N.arcs[i].cells)
  have hk3:=hk.news 5 (N.arcs[i].cells)
  generalize N.arcs[i]=a at hk3 kn hc htake k0 k1 k2 k3 k4 k5
  obtain ⟨s,hs⟩:∃ s:Nat,a.fr=(s:Int):=⟨a.fr.toNat,by omega⟩
  have hto:(a.to.toNat:Int)=a.to:=by omega
  have hsn:s < N.states.toNat:=by omega
  have hrow:=A7h (key:=ArcD.fr) (f:=fun a=>A4s (a.inn,a.to.toNat)) (l:=N.arcs.take i) hsn
  have hrl:=A1u hrow
  have hsmA:=hsm.ar
  have htl:(N.arcs.take i).length≤1048576:=by rw [List.length_take]; omega
  have hJ3:=hJ.kept hk.wf kn
  have hog3:=hog.keep (kn.old gb (hog.lt hk.wf))
  have hbb3:=hbb.kept hk.wf kn
  have hnj:¬JIn ot obs H'.next:=fun h=>by have:=hJ.lt hk.wf _ h; omega
  have hn:=hog3.cell 1
  obtain ⟨ba,cap,w',H5,H6,o',p,e1,e2,e3,e4,e5,e6,e7,e8,e9⟩:=hJ3.pushAt Tryz.underlying80 A34 hk3.wf hrow (x:=A4s (a.inn,a.to.toNat)) rfl
  rw [← hs] at e2
  have bl:A9l Tryz.prog 139 [(0,.string a.inn),(1,.int .i64 a.to)]=some (.agg (A4s (a.inn,a.to.toNat)).toArray):=by
   have:=bld_139 (v0:=.string a.inn) (v1:=.int .i64 a.to) rfl rfl
   rw [this]; simp [A4s,hto]
  have hbs:=C4h (H:=(H'.new 5 a.cells).2) (x:=.agg (A4s (a.inn,a.to.toNat)).toArray) rfl rfl
  have ha:=app1_137 (H:=(H'.new 5 a.cells).2) (base:=ba) (len:=_) (cap:=cap) (x:=A4s (a.inn,a.to.toNat)) rfl (Nat.le_trans hrl (by omega))
  rw [e1] at ha
  have hgj:¬JIn ot obs gb:=fun h=>(hin gb h).2.1 rfl
  have hn5:=(hog3.keep (e7.old gb (hog3.lt hk3.wf) hgj)).cell 1
  have c4:=((Sh.Obj.new (H:=H') 5 a.cells).arr.keep (e7.old H'.next (Nat.lt_succ_self _) hnj)).cell 0
  have c4':(a.cells)[0]?=some (.int .i64 a.fr):=rfl
  rw [c4'] at c4
  have st:A8f Tryz.prog 137 H5 w' (.pointer (some p))=some H6:=by rw [A9e A34 e8,e4]
  have va:∀ xs:Array Value,A0b (.agg xs)=xs.toList:=fun _=>rfl
  have hav:=hJ3.top.veq
  simp only [va] at hbs
  simp only [↓Sh.dn,sx,Nat.reduceBEq,reduceCtorEq,Nat.reduceEqDiff,hb'.c0,hb'.c1,hb'.c2,hb'.c3,hb'.ca,A3a hb',A1a hb',A2a hb',A2c,A1e,A7d,A4g,A5g,A0c,A1c,A0e,A8d,A7c,arc0,arc1,arc2,arc3,arc4,end0,end1,f1,f3,f4,Option.map_some,A4a,hlt,decide_true,hia,hc]
  refine A7y (fl:=[(0,[]),(1,[]),(2,[]),(3,[]),(4,[]),(5,[]),(6,[]),(7,[]),(8,[]),(9,[]),(10,[]),(11,[]),(12,[]),(13,[]),(14,[]),(15,[]),(16,[3,1]),(17,[]),(18,[])]) (by kernel_rfl) (by kernel_rfl) (by kernel_rfl) ?_
  simp only [↓Sh.dn,sx,Nat.reduceBEq,reduceCtorEq,Nat.reduceEqDiff,wpr,again,A6c,A8h,A4e,A6h,A3f,A9d,A3g,forall_eq,forall_eq',A2c,A1e,A7d,A4g,A5g,A0c,A1c,A0e,A8d,A7c,arc0,arc1,arc2,arc3,arc4,end0,end1,f1,f3,f4,hn,e2,e3,Option.map_some,hav,bl,hbs,ha,hn5,st,c4,wrap_succ hlt hsm.ar]
  refine k _ _ (by repeat (first | refine Same.put ?_ rfl | exact Same.rfl' _)) (by simp only [↓Sh.dn,sx,Nat.reduceBEq,reduceCtorEq,Nat.reduceEqDiff]) ⟨hk3.then (Nat.le_refl _) (e6.weak fun y hy=>(hin y hy).1),hog3.keep (e6.old gb (hog3.lt hk3.wf) hgj),hbb3.chg hk3.wf e6 (fun y hy h=>(hin y h).2.2 hy),vals.set s w',obs.set s o',?_,?_⟩
  ·rw [htake]
   unfold B3i
   rw [A7s hsn hs]
   exact e5
  ·intro y hy
   rcases e9 y hy with h | h
   ·exact hin y h
   ·have:=hk3.next
    have:=hog3.lt hk3.wf
    exact ⟨by omega,by omega,fun h2=>by have:=hbb3.lt hk3.wf y h2; omega⟩
 ·rintro F H' hF f4 ⟨hk,hog,hbb,vals,obs,hJ,hin⟩
  have f1:=hF 1 rfl
  have f2:=hF 2 rfl
  have f3:=hF 3 rfl
  simp only [↓Sh.dn,sx,Nat.reduceBEq,reduceCtorEq,Nat.reduceEqDiff] at f1 f2 f3
  rw [List.take_length] at hJ
  have hb':=hb2.kept hk2.wf hk
  simp only [↓Sh.dn,sx,Nat.reduceBEq,reduceCtorEq,Nat.reduceEqDiff,hb'.c0,hb'.c1,hb'.c2,hb'.c3,hb'.ca,A3a hb',A1a hb',A2a hb',f1,f3,f4,A4a,Nat.lt_irrefl,decide_false,Option.map_some]
  have hmk:∀ b:Bool,∀ m:Nat,(List.replicate m b).map A01=List.replicate m [.bool b]:=fun b m=>by simp [A01]
  refine A6g N.ends.length 6 (List.range' 40 16++[6]) (fun i F H'=>Kept H2 H'∧Arr H' gb 0 3 [.int .i64 0,ev,bv]∧Buf H' 1 bv ((marksOf EndD.state N.states.toNat (N.ends.take i)).map A01) ob∧Jag H' ev ot 2 vals (B3i N N.arcs) obs) (by simp only [↓Sh.dn,sx,Nat.reduceBEq,reduceCtorEq,Nat.reduceEqDiff]) ⟨hk,hog,by rw [List.take_zero,A88,hnn,hmk]; exact hbb,hJ⟩ ?_ ?_
  ·rintro i F' H' hlt hF' f6 ⟨hk,hog,hbb,hJ⟩ k
   have g1:=hF' 1 rfl
   have g3:=hF' 3 rfl
   simp only [↓Sh.dn,sx,Nat.reduceBEq,reduceCtorEq,Nat.reduceEqDiff,f1,f3] at g1 g3
   have hb':=hb2.kept hk2.wf hk
   obtain ⟨q,o,kk,hia,hc,hcc⟩:=hb'.hen.at Tryz.underlying24 A6q (i:=i) (x:=N.ends[i].cells) (by simp [hlt]) .i64
   have hcs:=hcc 0 _ rfl
   simp only [Nat.add_zero,List.getElem_cons_zero] at hcs
   clear hcc
   have htake:N.ends.take (i+1)=N.ends.take i++[N.ends[i]]:=by rw [List.take_add_one,List.getElem?_eq_getElem hlt]; rfl
   obtain ⟨k0,k1⟩:=hok.fin _ (List.getElem_mem hlt)
   generalize N.ends[i]=e at hc hcs htake k0 k1
   obtain ⟨s,hs⟩:∃ s:Nat,e.state=(s:Int):=⟨e.state.toNat,by omega⟩
   have hsn:s < N.states.toNat:=by omega
   have hn1:=hog.cell 1
   have hn2:=hog.cell 2
   obtain ⟨p,H6,ia,e1,e2,e3,e4⟩:=Buf.set (P:=Tryz.prog) hbb hk.wf (i:=s) (x:=A01 true) (by simp [A1j,hsn]) rfl
   have ia2:=ia Tryz.underlying81 A1x (j:=.i64)
   rw [← hs] at ia2
   have st:A8f Tryz.prog 4 H' (.bool true) (.pointer (some p))=some H6:=by rw [A9e A1x rfl]; exact e1
   simp only [↓Sh.dn,sx,Nat.reduceBEq,reduceCtorEq,Nat.reduceEqDiff,hb'.c0,hb'.c1,hb'.c2,hb'.c3,hb'.ca,A3a hb',A1a hb',A2a hb',g1,g3,f6,Option.map_some,A4a,hlt,decide_true]
   first | refine (A4d (by kernel_rfl)).2 ?_ | skip
   simp only [↓Sh.dn,sx,Nat.reduceBEq,reduceCtorEq,Nat.reduceEqDiff,hb'.c0,hb'.c1,hb'.c2,hb'.c3,hb'.ca,A3a hb',A1a hb',A2a hb',g1,g3,f6,hn1,hn2,Option.map_some,hia,hcs,ia2,st,wrap_succ hlt hsm.en]
   refine k _ _ (by repeat (first | refine Same.put ?_ rfl | exact Same.rfl' _)) (by simp only [↓Sh.dn,sx,Nat.reduceBEq,reduceCtorEq,Nat.reduceEqDiff]) ⟨hk.then (Nat.le_refl _) (e3.weak fun y hy=>by have:=lob y hy; omega),hog.keep (e3.old gb (hog.lt hk.wf) (fun hy=>by have:=lb gb hy; omega)),?_,hJ.chg hk.wf e3 fun y hy h=>(hin y hy).2.2 h⟩
   rw [htake,A39 hsn hs,List.map_set]
   exact e2
  ·rintro F' H' hF' f6 ⟨hk,hog,hbb,hJ⟩
   have g1:=hF' 1 rfl
   have g2':=hF' 2 rfl
   have g3:=hF' 3 rfl
   simp only [↓Sh.dn,sx,Nat.reduceBEq,reduceCtorEq,Nat.reduceEqDiff,f1,f2,f3] at g1 g2' g3
   rw [List.take_length] at hbb
   have hb':=hb2.kept hk2.wf hk
   have o0':Sh.Obj H' go 3 [.int .i64 0,.slice none 0 0,.slice none 0 0] true:=by
    unfold Sh.Obj at o0 ⊢
    rw [hk.old go x2]; exact o0
   obtain ⟨H6,st,o3,c3⟩:=rgOut (ev:=ev) (bv:=bv) hk.wf _ _ _ o0' ic1 ic2
   have hca:=hog.cells (i:=0) (n:=3) (by simp)
   have hcr:=o3.cells (i:=0) (n:=3) (by simp)
   simp only [↓Sh.dn,sx,Nat.reduceBEq,reduceCtorEq,Nat.reduceEqDiff,hb'.c0,hb'.c1,hb'.c2,hb'.c3,hb'.ca,A3a hb',A1a hb',A2a hb',g1,g2',g3,f6,A4a,Nat.lt_irrefl,decide_false,Option.map_some,hca,List.drop_zero,List.take_succ_cons,List.take_zero,st,hres,hcr]
   have hJ6:=(hJ.chg hk.wf c3 fun y hy e=>by have:=(hin y hy).1; omega).read
   have hb6:=(hbb.chg hk.wf c3 fun y hy e=>by have:=lob y hy; omega).toSl
   have er:A25 (A27 N)=B3i N N.arcs:=by unfold A25 A27 B3i rowsOf; simp [Function.comp_def]
   rw [← hn]
   refine ⟨(hk2.trans hk).then (e0 go (Nat.le_refl _)) (c3.weak fun y hy=>by omega),ev,bv,vals,rfl,by rw [er]; exact hJ6,hb6,by unfold A27; rw [A4f],A1j,by omega,by omega,fun s r hr=>⟨Nat.le_trans (A1u hr) hok.ar,fun e he=>?_⟩⟩
   obtain ⟨a,ha,_,rfl⟩:=(A5q hr e).1 he
   have:=hok.arc a ha
   show a.to.toNat < _
   omega
end Go.Proofs.YtnoengaghabmjaaGreatDoor
/- cmp.Less, where nothing is no number. -/
namespace Go.Proofs.YtnoengaghabmjaaGreatDoor
open Go Go.Proofs Go.Proofs.Sh
theorem B53 {H:AH} {x:Int}:Sh.Call Tryz.prog (knows 8) 188 [Value.int .i64 x] H (fun r H'=>H'=H∧r=.bool false):=by
 refine A5a rfl Tryz.func188 rfl (Nat.le_of_ble_eq_true rfl) ?_
 have hres:Tryz.f188.results.toList=[.tmp 2]:=rfl
 simp only [↓Sh.dn,sx,Nat.reduceBEq,reduceCtorEq,Nat.reduceEqDiff,hres,decide_true,Bool.not_true,and_self]
theorem C6k {H:AH} {x y:Int}:Sh.Call Tryz.prog (knows 8) 174 [Value.int .i64 x,Value.int .i64 y] H (fun r H'=>H'=H∧r=.bool (A4c x y)):=by
 refine A5a rfl Tryz.func174 rfl (Nat.le_of_ble_eq_true rfl) ?_
 have hres:Tryz.f174.results.toList=[.tmp 4]:=rfl
 obtain ⟨r,H1,hd,rfl,rfl⟩:=B53 (H:=H) (x:=x)
 simp only [↓Sh.dn,sx,Nat.reduceBEq,reduceCtorEq,Nat.reduceEqDiff]
 refine ⟨_,_,hd,?_⟩
 simp only [↓Sh.dn,sx,Nat.reduceBEq,reduceCtorEq,Nat.reduceEqDiff,hres,and_self]
 try rfl
theorem A2e {H:AH} {x y:Int}:Does Tryz.prog (knows 8) 174 [Value.int .i64 x,Value.int .i64 y] H (.bool (A4c x y)) H:=by
 obtain ⟨r,H1,hd,rfl,rfl⟩:=C6k (H:=H) (x:=x) (y:=y)
 exact hd
abbrev A6e (H:AH) (g k n:Nat) (l:List Int):Prop:=Cells H g k n (l.map (Value.int .i64))
section
variable {H:AH} {g k n m cap i:Nat} {l:List Int}
theorem A1d {j:IntKind} (h:i < m):A9b Tryz.prog 86 (.slice (some ⟨g,0,some k⟩) m cap) (.int j (i:Int))=some (.pointer (some ⟨g,i,some k⟩)):=by
 rw [ia_86 h,Nat.mul_one,Nat.zero_add]
theorem A8c (h:A6e H g k n l) (hi:i < l.length):H.cell ⟨g,i,some k⟩=some (Value.int .i64 l[i]):=h.cell (by simp [hi])
theorem A7n {x:Int} {p:Addr}:A8f Tryz.prog 3 H (Value.int .i64 x) (.pointer (some p))=H.write p [Value.int .i64 x]:=A9e A3e rfl
theorem A7k (h:A6e H g k n l) (hw:Wf H) {i j:Nat} (hi:i < l.length) (hj:j < l.length):
  ∃ H1 H2,H.write ⟨g,i,some k⟩ [Value.int .i64 l[j]]=some H1∧H1.write ⟨g,j,some k⟩ [Value.int .i64 l[i]]=some H2∧A6e H2 g k n (swp l i j)∧Chg (fun y=>y=g) H H2∧H2.next=H.next:=by
 obtain ⟨H1,H2,h1,h2,h3,h4,h5⟩:=Cells.swap h hw (i:=i) (j:=j) (x:=Value.int .i64 l[i]) (y:=Value.int .i64 l[j]) (by simp [hi]) (by simp [hj])
 exact ⟨H1,H2,h1,h2,by rw [swp_map] at h3; exact h3,h4,h5⟩
end
end Go.Proofs.YtnoengaghabmjaaGreatDoor
/- insertionSortOrdered. -/
namespace Go.Proofs.YtnoengaghabmjaaGreatDoor
open Go Go.Proofs Go.Proofs.Sh
theorem B2a {H:AH} {g k n cap a b:Nat} {l:List Int} (hv:A6e H g k n l) (hw:Wf H) (hl:l.length≤1048576) (hab:a≤b) (hb:b≤l.length):
  Sh.Call Tryz.prog (knows 8) 168 [.slice (some ⟨g,0,some k⟩) l.length cap,.int .i64 (a:Int),.int .i64 (b:Int)] H
   (fun r H'=>∃ l',Mix a b l l'∧Srt A4c a b l'∧A6e H' g k n l'∧Chg (fun y=>y=g) H H'):=by
 refine A5a rfl Tryz.func168 rfl (Nat.le_of_ble_eq_true rfl) ?_
 have hres:Tryz.f168.results.toList=[]:=rfl
 have hTO:=intTO
 have w1:IntKind.wrap .i64 ((a:Int)+1)=((a+1:Nat):Int):=by rw [wrap64 (by omega) (by omega)]; rfl
 simp only [↓Sh.dn,sx,Nat.reduceBEq,reduceCtorEq,Nat.reduceEqDiff,w1]
 let Adj (i:Nat) (m:List Int):Prop:=∀ (p:Nat) x y,a≤p→p+1 < i→m[p]?=some x→m[p+1]?=some y→A4c y x=false
 refine A5e (fun m F H' => ∃ (i : Nat) (l1 : List Int), m = b - i ∧ a + 1 ≤ i ∧ (i ≤ b ∨ i = a + 1) ∧ Mix a b l l1 ∧ Adj i l1 ∧ A6e H' g k n l1 ∧ Chg (fun y => y = g) H H' ∧
     F.get 0 = some (.slice (some ⟨g, 0, some k⟩) l.length cap) ∧ F.get 1 = some (.int .i64 (a : Int)) ∧ F.get 2 = some (.int .i64 (b : Int)) ∧ F.get 6 = some (.int .i64 (i : Int))) (m := b - (a + 1))
   ⟨a + 1, l, rfl, by omega, .inr rfl, .refl l, fun p x y h1 h2 => by omega, hv, Chg.refl hw, by simp only [↓Sh.dn, sx, Nat.reduceBEq, reduceCtorEq, Nat.reduceEqDiff], by simp only [↓Sh.dn, sx, Nat.reduceBEq, reduceCtorEq, Nat.reduceEqDiff], by simp only [↓Sh.dn, sx, Nat.reduceBEq, reduceCtorEq, Nat.reduceEqDiff], by simp only [↓Sh.dn, sx, Nat.reduceBEq, reduceCtorEq, Nat.reduceEqDiff]⟩ ?_
 rintro m F H' ⟨i,l1,rfl,hai,hib,hm,hadj,hv1,hc1,f0,f1,f2,f6⟩ kk
 by_cases hlt:i < b
 ·simp only [↓Sh.dn,sx,Nat.reduceBEq,reduceCtorEq,Nat.reduceEqDiff,f2,f6,A4a,hlt,decide_true]
  refine A5e (fun m F' H2 => ∃ (j : Nat) (l2 : List Int), m = j ∧ a ≤ j ∧ j ≤ i ∧ Mix a b l l2 ∧ (∀ (p : Nat) x y, a ≤ p → p + 1 < i + 1 → p + 1 ≠ j → l2[p]? = some x → l2[p + 1]? = some y → A4c y x = false) ∧
      (∀ x y, a < j → j < i → l2[j - 1]? = some x → l2[j + 1]? = some y → A4c y x = false) ∧ A6e H2 g k n l2 ∧ Chg (fun y => y = g) H H2 ∧
      F'.get 0 = some (.slice (some ⟨g, 0, some k⟩) l.length cap) ∧ F'.get 1 = some (.int .i64 (a : Int)) ∧ F'.get 2 = some (.int .i64 (b : Int)) ∧ F'.get 6 = some (.int .i64 (i : Int)) ∧ F'.get 7 = some (.int .i64 (j : Int))) (m := i)
    ⟨i, l1, rfl, by omega, Nat.le_refl _, hm, fun p x y h1 h2 h3 => hadj p x y h1 (by omega), fun x y h1 h2 => by omega, hv1, hc1, by simp only [↓Sh.dn, sx, Nat.reduceBEq, reduceCtorEq, Nat.reduceEqDiff, f0], by simp only [↓Sh.dn, sx, Nat.reduceBEq, reduceCtorEq, Nat.reduceEqDiff, f1], by simp only [↓Sh.dn, sx, Nat.reduceBEq, reduceCtorEq, Nat.reduceEqDiff, f2], by simp only [↓Sh.dn, sx, Nat.reduceBEq, reduceCtorEq, Nat.reduceEqDiff, f6], by simp only [↓Sh.dn, sx, Nat.reduceBEq, reduceCtorEq, Nat.reduceEqDiff]⟩ ?_
  rintro j F' H2 ⟨_,l2,rfl,haj,hji,hm2,hA,hB,hv2,hc2,g0,g1,g2,g6,g7⟩ k2
  have hlen:=hm2.length
  have wi:IntKind.wrap .i64 ((i:Int)+1)=((i+1:Nat):Int):=by rw [wrap64 (by omega) (by omega)]; rfl
  simp only [↓Sh.dn,sx,Nat.reduceBEq,reduceCtorEq,Nat.reduceEqDiff]
  refine (A4d (by kernel_rfl)).2 ?_
  by_cases hgt:a < j
  ·have wj:IntKind.wrap .i64 ((j:Int) - 1)=((j - 1:Nat):Int):=by rw [wrap64 (by omega) (by omega)]; omega
   have hj1:j < l2.length:=by omega
   have hj2:j - 1 < l2.length:=by omega
   have i1:=A1d (g:=g) (k:=k) (cap:=cap) (m:=l.length) (i:=j) (j:=.i64) (by omega)
   have i2:=A1d (g:=g) (k:=k) (cap:=cap) (m:=l.length) (i:=j - 1) (j:=.i64) (by omega)
   have r1:=A8c hv2 hj1
   have r2:=A8c hv2 hj2
   have q1:l2[j]?=some l2[j]:=List.getElem?_eq_getElem hj1
   have q2:l2[j - 1]?=some l2[j - 1]:=List.getElem?_eq_getElem hj2
   simp only [↓Sh.dn,sx,Nat.reduceBEq,reduceCtorEq,Nat.reduceEqDiff,g0,g1,g7,A4a,hgt,decide_true,wj,i1,i2,r1,r2]
   refine ⟨_,_,A2e,?_⟩
   cases hc:A4c l2[j] l2[j - 1] with
   | true=>
    simp only [↓Sh.dn,sx,Nat.reduceBEq,reduceCtorEq,Nat.reduceEqDiff]
    refine (A4d (by kernel_rfl)).2 ?_
    obtain ⟨K1,K2,e1,e2,e3,e4,e5⟩:=A7k hv2 hc2.wf hj1 hj2
    simp only [↓Sh.dn,sx,Nat.reduceBEq,reduceCtorEq,Nat.reduceEqDiff,g0,g7,wj,i1,i2,r1,r2,A7n,e1,e2]
    refine k2 (j - 1) _ _ (by omega) ⟨j - 1,swp l2 j (j - 1),rfl,by omega,by omega,hm2.swap (by omega) (by omega) (by omega) (by omega),fun p x y h1 h2 h3 hx hy=>?_,fun x y h1 h2 hx hy=>?_,e3,hc2.trans e4,by simp only [↓Sh.dn,sx,Nat.reduceBEq,reduceCtorEq,Nat.reduceEqDiff,g0],by simp only [↓Sh.dn,sx,Nat.reduceBEq,reduceCtorEq,Nat.reduceEqDiff,g1],by simp only [↓Sh.dn,sx,Nat.reduceBEq,reduceCtorEq,Nat.reduceEqDiff,g2],by simp only [↓Sh.dn,sx,Nat.reduceBEq,reduceCtorEq,Nat.reduceEqDiff,g6],by simp only [↓Sh.dn,sx,Nat.reduceBEq,reduceCtorEq,Nat.reduceEqDiff]⟩
    ·rw [swp_get hj1 hj2] at hx hy
     by_cases hp1:p+1=j
     ·have hp:p=j - 1:=by omega
      rw [if_pos hp,q1] at hx
      rw [if_neg (by omega),if_pos hp1,q2] at hy
      rw [← Option.some.inj hx,← Option.some.inj hy]
      exact hTO.asymm hc
     ·by_cases hp2:p=j
      ·rw [if_neg (by omega),if_pos hp2,q2] at hx
       rw [if_neg (by omega),if_neg (by omega)] at hy
       rw [← Option.some.inj hx]
       exact hB _ _ hgt (by omega) q2 (by rw [← hp2]; exact hy)
      ·rw [if_neg (by omega),if_neg hp2] at hx
       rw [if_neg (by omega),if_neg (by omega)] at hy
       exact hA p x y h1 h2 hp1 hx hy
    ·rw [swp_get hj1 hj2] at hx hy
     rw [if_neg (by omega),if_neg (by omega)] at hx
     rw [if_neg (by omega),if_pos (by omega),q2] at hy
     rw [← Option.some.inj hy]
     exact hA (j - 2) _ _ (by omega) (by omega) (by omega) (by rw [show j - 2=j - 1 - 1 by omega]; exact hx) (by rw [show j - 2+1=j - 1 by omega]; exact q2)
   | false=>
    simp only [↓Sh.dn,sx,Nat.reduceBEq,reduceCtorEq,Nat.reduceEqDiff,g6,wi]
    refine kk (b - (i+1)) _ _ (by omega) ⟨i+1,l2,rfl,by omega,.inl (by omega),hm2,fun p x y h1 h2 hx hy=>?_,hv2,hc2,by simp only [↓Sh.dn,sx,Nat.reduceBEq,reduceCtorEq,Nat.reduceEqDiff,g0],by simp only [↓Sh.dn,sx,Nat.reduceBEq,reduceCtorEq,Nat.reduceEqDiff,g1],by simp only [↓Sh.dn,sx,Nat.reduceBEq,reduceCtorEq,Nat.reduceEqDiff,g2],by simp only [↓Sh.dn,sx,Nat.reduceBEq,reduceCtorEq,Nat.reduceEqDiff]⟩
    by_cases hp:p+1=j
    ·have hp':p=j - 1:=by omega
     rw [hp',q2] at hx
     rw [hp,q1] at hy
     rw [← Option.some.inj hx,← Option.some.inj hy]; exact hc
    ·exact hA p x y h1 h2 hp hx hy
  ·simp only [↓Sh.dn,sx,Nat.reduceBEq,reduceCtorEq,Nat.reduceEqDiff,g0,g1,g7,A4a,hgt,decide_false,g6,wi]
   exact kk (b - (i+1)) _ _ (by omega) ⟨i+1,l2,rfl,by omega,.inl (by omega),hm2,fun p x y h1 h2 hx hy=>hA p x y h1 h2 (by omega) hx hy,hv2,hc2,by simp only [↓Sh.dn,sx,Nat.reduceBEq,reduceCtorEq,Nat.reduceEqDiff,g0],by simp only [↓Sh.dn,sx,Nat.reduceBEq,reduceCtorEq,Nat.reduceEqDiff,g1],by simp only [↓Sh.dn,sx,Nat.reduceBEq,reduceCtorEq,Nat.reduceEqDiff,g2],by simp only [↓Sh.dn,sx,Nat.reduceBEq,reduceCtorEq,Nat.reduceEqDiff]⟩
 ·simp only [↓Sh.dn,sx,Nat.reduceBEq,reduceCtorEq,Nat.reduceEqDiff,f2,f6,A4a,hlt,decide_false,hres]
  exact ⟨l1,hm,B87 hTO fun p x y h1 h2 hx hy=>hadj p x y h1 (by omega) hx hy,hv1,hc1⟩
end Go.Proofs.YtnoengaghabmjaaGreatDoor
/- Small parts of the sort: reverseRange, order2, median, choosePivot. -/
namespace Go.Proofs.YtnoengaghabmjaaGreatDoor
open Go Go.Proofs Go.Proofs.Sh
section
variable {H:AH} {g k n cap a b:Nat} {l:List Int}
theorem B9f (hv:A6e H g k n l) (hw:Wf H) (hl:l.length≤1048576) (hab:a < b) (hb:b≤l.length):
  Sh.Call Tryz.prog (knows 8) 172 [.slice (some ⟨g,0,some k⟩) l.length cap,.int .i64 (a:Int),.int .i64 (b:Int)] H
   (fun r H'=>∃ l',Mix a b l l'∧A6e H' g k n l'∧Chg (fun y=>y=g) H H'):=by
 refine A5a rfl Tryz.func172 rfl (Nat.le_of_ble_eq_true rfl) ?_
 have hres:Tryz.f172.results.toList=[]:=rfl
 have w1:IntKind.wrap .i64 ((b:Int) - 1)=((b - 1:Nat):Int):=by rw [wrap64 (by omega) (by omega)]; omega
 simp only [↓Sh.dn,sx,Nat.reduceBEq,reduceCtorEq,Nat.reduceEqDiff,w1]
 refine A5e (fun m F H' => ∃ (i j : Nat) (l1 : List Int), m = b - i ∧ a ≤ i ∧ i + j + 1 = a + b ∧ i ≤ b ∧ Mix a b l l1 ∧ A6e H' g k n l1 ∧ Chg (fun y => y = g) H H' ∧
     F.get 0 = some (.slice (some ⟨g, 0, some k⟩) l.length cap) ∧ F.get 6 = some (.int .i64 (i : Int)) ∧ F.get 7 = some (.int .i64 (j : Int))) (m := b - a)
   ⟨a, b - 1, l, rfl, by omega, by omega, by omega, .refl l, hv, Chg.refl hw, by simp only [↓Sh.dn, sx, Nat.reduceBEq, reduceCtorEq, Nat.reduceEqDiff], by simp only [↓Sh.dn, sx, Nat.reduceBEq, reduceCtorEq, Nat.reduceEqDiff], by simp only [↓Sh.dn, sx, Nat.reduceBEq, reduceCtorEq, Nat.reduceEqDiff]⟩ ?_
 rintro m F H' ⟨i,j,l1,rfl,hai,hij,hib,hm,hv1,hc1,f0,f6,f7⟩ kk
 have hlen:=hm.length
 by_cases hlt:i < j
 ·have hi:i < l1.length:=by omega
  have hj:j < l1.length:=by omega
  have wi:IntKind.wrap .i64 ((i:Int)+1)=((i+1:Nat):Int):=by rw [wrap64 (by omega) (by omega)]; rfl
  have wj:IntKind.wrap .i64 ((j:Int) - 1)=((j - 1:Nat):Int):=by rw [wrap64 (by omega) (by omega)]; omega
  have i1:=A1d (g:=g) (k:=k) (cap:=cap) (m:=l.length) (i:=i) (j:=.i64) (by omega)
  have i2:=A1d (g:=g) (k:=k) (cap:=cap) (m:=l.length) (i:=j) (j:=.i64) (by omega)
  have r1:=A8c hv1 hi
  have r2:=A8c hv1 hj
  obtain ⟨K1,K2,e1,e2,e3,e4,e5⟩:=A7k hv1 hc1.wf hi hj
  simp only [↓Sh.dn,sx,Nat.reduceBEq,reduceCtorEq,Nat.reduceEqDiff,f6,f7,A4a,hlt,decide_true]
  refine (A4d (by kernel_rfl)).2 ?_
  simp only [↓Sh.dn,sx,Nat.reduceBEq,reduceCtorEq,Nat.reduceEqDiff,f0,f6,f7,i1,i2,r1,r2,A7n,e1,e2,wi,wj]
  exact kk (b - (i+1)) _ _ (by omega) ⟨i+1,j - 1,swp l1 i j,rfl,by omega,by omega,by omega,hm.swap (by omega) (by omega) (by omega) (by omega),e3,hc1.trans e4,by simp only [↓Sh.dn,sx,Nat.reduceBEq,reduceCtorEq,Nat.reduceEqDiff,f0],by simp only [↓Sh.dn,sx,Nat.reduceBEq,reduceCtorEq,Nat.reduceEqDiff],by simp only [↓Sh.dn,sx,Nat.reduceBEq,reduceCtorEq,Nat.reduceEqDiff]⟩
 ·simp only [↓Sh.dn,sx,Nat.reduceBEq,reduceCtorEq,Nat.reduceEqDiff,f6,f7,A4a,hlt,decide_false,hres]
  exact ⟨l1,hm,hv1,hc1⟩
def B3e (H:AH) (p:Nat) (c:Int):Prop:=Arr H p 0 1 [.int .i64 c]
theorem B4g {i j p:Nat} {c:Int} (hv:A6e H g k n l) (hp:B3e H p c) (hpg:p≠g) (hw:Wf H) (hi:i < l.length) (hj:j < l.length):
  Sh.Call Tryz.prog (knows 8) 191 [.slice (some ⟨g,0,some k⟩) l.length cap,.int .i64 (i:Int),.int .i64 (j:Int),.pointer (some ⟨p,0,some 0⟩)] H
   (fun r H'=>∃ i' j':Nat,r=.tuple #[.int .i64 (i':Int),.int .i64 (j':Int)]∧(i'=i∧j'=j∨i'=j∧j'=i)∧A6e H' g k n l∧∃ c',B3e H' p c'∧Chg (fun y=>y=p) H H'):=by
 refine A5a rfl Tryz.func191 rfl (Nat.le_of_ble_eq_true rfl) ?_
 have hres:Tryz.f191.results.toList=[.tmp 8,.tmp 9]:=rfl
 have i1:=A1d (g:=g) (k:=k) (cap:=cap) (m:=l.length) (i:=i) (j:=.i64) hi
 have i2:=A1d (g:=g) (k:=k) (cap:=cap) (m:=l.length) (i:=j) (j:=.i64) hj
 have r1:=A8c hv hi
 have r2:=A8c hv hj
 have r3:H.cell ⟨p,0,some 0⟩=some (.int .i64 c):=hp.cell 0
 simp only [↓Sh.dn,sx,Nat.reduceBEq,reduceCtorEq,Nat.reduceEqDiff]
 refine (A4d (by kernel_rfl)).2 ?_
 simp only [↓Sh.dn,sx,Nat.reduceBEq,reduceCtorEq,Nat.reduceEqDiff,i1,i2,r1,r2]
 refine ⟨_,_,A2e,?_⟩
 cases hc:A4c l[j] l[i] with
 | true=>
  obtain ⟨K1,e1,e2,e3,e4⟩:=hp.write hw (i:=0) (vs:=[.int .i64 (IntKind.wrap .i64 (c+1))]) (by simp)
  have st:A8f Tryz.prog 3 H (.int .i64 (IntKind.wrap .i64 (c+1))) (.pointer (some ⟨p,0,some 0⟩))=H.write ⟨p,0,some 0⟩ [.int .i64 (IntKind.wrap .i64 (c+1))]:=A9e A3e rfl
  simp only [↓Sh.dn,sx,Nat.reduceBEq,reduceCtorEq,Nat.reduceEqDiff,r3,st,e1,hres]
  exact ⟨j,i,rfl,.inr ⟨rfl,rfl⟩,hv.chg hw e4 (fun h=>hpg h.symm),_,e2,e4⟩
 | false=>
  simp only [↓Sh.dn,sx,Nat.reduceBEq,reduceCtorEq,Nat.reduceEqDiff,hres]
  exact ⟨i,j,rfl,.inl ⟨rfl,rfl⟩,hv,c,hp,Chg.refl hw⟩
theorem B0h {i j m p:Nat} {c:Int} (hv:A6e H g k n l) (hp:B3e H p c) (hpg:p≠g) (hw:Wf H) (hi:i < l.length) (hj:j < l.length) (hm:m < l.length):
  Sh.Call Tryz.prog (knows 8) 187 [.slice (some ⟨g,0,some k⟩) l.length cap,.int .i64 (i:Int),.int .i64 (j:Int),.int .i64 (m:Int),.pointer (some ⟨p,0,some 0⟩)] H
   (fun r H'=>∃ q:Nat,r=.int .i64 (q:Int)∧(q=i∨q=j∨q=m)∧A6e H' g k n l∧∃ c',B3e H' p c'∧Chg (fun y=>y=p) H H'):=by
 refine A5a rfl Tryz.func187 rfl (Nat.le_of_ble_eq_true rfl) ?_
 have hres:Tryz.f187.results.toList=[.tmp 10]:=rfl
 obtain ⟨r,H1,hd1,i1,j1,rfl,h1,hv1,c1,hp1,hc1⟩:=B4g (cap:=cap) hv hp hpg hw hi hj
 have hi1:i1 < l.length:=by omega
 have hj1:j1 < l.length:=by omega
 obtain ⟨r,H2,hd2,j2,m2,rfl,h2,hv2,c2,hp2,hc2⟩:=B4g (cap:=cap) hv1 hp1 hpg hc1.wf hj1 hm
 have hj2:j2 < l.length:=by omega
 obtain ⟨r,H3,hd3,i3,j3,rfl,h3,hv3,c3,hp3,hc3⟩:=B4g (cap:=cap) hv2 hp2 hpg hc2.wf hi1 hj2
 simp only [↓Sh.dn,sx,Nat.reduceBEq,reduceCtorEq,Nat.reduceEqDiff]
 refine ⟨_,_,hd1,?_⟩
 simp only [↓Sh.dn,sx,Nat.reduceBEq,reduceCtorEq,Nat.reduceEqDiff]
 refine ⟨_,_,hd2,?_⟩
 simp only [↓Sh.dn,sx,Nat.reduceBEq,reduceCtorEq,Nat.reduceEqDiff]
 refine ⟨_,_,hd3,?_⟩
 simp only [↓Sh.dn,sx,Nat.reduceBEq,reduceCtorEq,Nat.reduceEqDiff,hres]
 exact ⟨j3,rfl,by omega,hv3,c3,hp3,(hc1.trans hc2).trans hc3⟩
theorem A2q {i p:Nat} {c:Int} (hv:A6e H g k n l) (hp:B3e H p c) (hpg:p≠g) (hw:Wf H) (hl:l.length≤1048576) (h0:1≤i) (hi:i+1 < l.length):
  Sh.Call Tryz.prog (knows 8) 186 [.slice (some ⟨g,0,some k⟩) l.length cap,.int .i64 (i:Int),.pointer (some ⟨p,0,some 0⟩)] H
   (fun r H'=>∃ q:Nat,r=.int .i64 (q:Int)∧(i≤q+1∧q≤i+1)∧A6e H' g k n l∧∃ c',B3e H' p c'∧Chg (fun y=>y=p) H H'):=by
 refine A5a rfl Tryz.func186 rfl (Nat.le_of_ble_eq_true rfl) ?_
 have hres:Tryz.f186.results.toList=[.tmp 6]:=rfl
 have w1:IntKind.wrap .i64 ((i:Int) - 1)=((i - 1:Nat):Int):=by rw [wrap64 (by omega) (by omega)]; omega
 have w2:IntKind.wrap .i64 ((i:Int)+1)=((i+1:Nat):Int):=by rw [wrap64 (by omega) (by omega)]; rfl
 obtain ⟨r,H1,hd1,q,rfl,h1,hv1,c1,hp1,hc1⟩:=B0h (cap:=cap) (i:=i - 1) (j:=i) (m:=i+1) hv hp hpg hw (by omega) (by omega) hi
 simp only [↓Sh.dn,sx,Nat.reduceBEq,reduceCtorEq,Nat.reduceEqDiff,w1,w2]
 refine ⟨_,_,hd1,?_⟩
 simp only [↓Sh.dn,sx,Nat.reduceBEq,reduceCtorEq,Nat.reduceEqDiff,hres]
 exact ⟨q,rfl,by omega,by omega,hv1,c1,hp1,hc1⟩
theorem B6h (hv:A6e H g k n l) (hw:Wf H) (hl:l.length≤1048576) (hab:a+12 < b) (hb:b≤l.length):
  Sh.Call Tryz.prog (knows 8) 171 [.slice (some ⟨g,0,some k⟩) l.length cap,.int .i64 (a:Int),.int .i64 (b:Int)] H
   (fun r H'=>∃ q:Nat,∃ h:Int,r=.tuple #[.int .i64 (q:Int),.int .i64 h]∧a≤q∧q < b∧A6e H' g k n l∧Kept H H'):=by
 refine A5a rfl Tryz.func171 rfl (Nat.le_of_ble_eq_true rfl) ?_
 have hres:Tryz.f171.results.toList=[.tmp 6,.tmp 7]:=rfl
 have al:anew Tryz.prog 3 H (.int .i64 0)=some (.pointer (some ⟨H.next,0,some 0⟩),(H.new 1 [.int .i64 0]).2):=B0b A3e rfl
 have w0:IntKind.wrap .i64 ((b:Int) - (a:Int))=((b - a:Nat):Int):=by rw [wrap64 (by omega) (by omega)]; omega
 have hq4:(Int.tdiv ((b - a:Nat):Int) 4)=(((b - a) / 4:Nat):Int):=by rw [Int.tdiv_eq_ediv_of_nonneg (by omega)]; rfl
 have B25:∀ {t:TypeId} {c:Bool} {x y:Int},y≠0→abin Tryz.prog t c .quo (.int .i64 x) (.int .i64 y)=some (.int .i64 (IntKind.wrap .i64 (x.tdiv y))):=by
  intro t c x y h
  simp only [abin,A2g,cond_true,aint,A2r,show (y == 0)=false from by simpa using h,cond_false]
 have wq:IntKind.wrap .i64 (((b - a) / 4:Nat):Int)=(((b - a) / 4:Nat):Int):=wrap64 (by omega) (by omega)
 have m1:IntKind.wrap .i64 ((((b - a) / 4:Nat):Int) * 1)=(((b - a) / 4 * 1:Nat):Int):=by rw [wrap64 (by omega) (by omega)]; omega
 have m2:IntKind.wrap .i64 ((((b - a) / 4:Nat):Int) * 2)=(((b - a) / 4 * 2:Nat):Int):=by rw [wrap64 (by omega) (by omega)]; omega
 have m3:IntKind.wrap .i64 ((((b - a) / 4:Nat):Int) * 3)=(((b - a) / 4 * 3:Nat):Int):=by rw [wrap64 (by omega) (by omega)]; omega
 have p1:IntKind.wrap .i64 ((a:Int)+(((b - a) / 4 * 1:Nat):Int))=((a+(b - a) / 4 * 1:Nat):Int):=by rw [wrap64 (by omega) (by omega)]; rfl
 have p2:IntKind.wrap .i64 ((a:Int)+(((b - a) / 4 * 2:Nat):Int))=((a+(b - a) / 4 * 2:Nat):Int):=by rw [wrap64 (by omega) (by omega)]; rfl
 have p3:IntKind.wrap .i64 ((a:Int)+(((b - a) / 4 * 3:Nat):Int))=((a+(b - a) / 4 * 3:Nat):Int):=by rw [wrap64 (by omega) (by omega)]; rfl
 have d8:decide ((8:Int)≤((b - a:Nat):Int))=true:=by simp; omega
 have hk1:Kept H (H.new 1 [.int .i64 0]).2:=Kept.new hw 1 _
 have hv0:A6e (H.new 1 [.int .i64 0]).2 g k n l:=hv.kept hw hk1
 have hp0:B3e (H.new 1 [.int .i64 0]).2 H.next 0:=(Obj.new (H:=H) 1 [.int .i64 0]).arr
 have hpg:H.next≠g:=by have:=hv.lt hw; omega
 simp only [↓Sh.dn,sx,Nat.reduceBEq,reduceCtorEq,Nat.reduceEqDiff,al,w0,B25 (show (4:Int)≠0 by decide),hq4,wq,m1,m2,m3,p1,p2,p3,d8]
 generalize (H.new 1 [.int .i64 0]).2=H1 at hk1 hv0 hp0 ⊢
 by_cases h50:50≤b - a
 ·have d50:decide ((50:Int)≤((b - a:Nat):Int))=true:=by simp; omega
  obtain ⟨r,H2,hd2,q1,rfl,h1,hv1,c1,hp1,hc1⟩:=A2q (cap:=cap) (i:=a+(b - a) / 4 * 1) hv0 hp0 hpg hk1.wf hl (by omega) (by omega)
  obtain ⟨r,H3,hd3,q2,rfl,h2,hv2,c2,hp2,hc2⟩:=A2q (cap:=cap) (i:=a+(b - a) / 4 * 2) hv1 hp1 hpg hc1.wf hl (by omega) (by omega)
  obtain ⟨r,H4,hd4,q3,rfl,h3,hv3,c3,hp3,hc3⟩:=A2q (cap:=cap) (i:=a+(b - a) / 4 * 3) hv2 hp2 hpg hc2.wf hl (by omega) (by omega)
  obtain ⟨r,H5,hd5,q4,rfl,h4,hv4,c4,hp4,hc4⟩:=B0h (cap:=cap) (i:=q1) (j:=q2) (m:=q3) hv3 hp3 hpg hc3.wf (by omega) (by omega) (by omega)
  have r9:H5.cell ⟨H.next,0,some 0⟩=some (.int .i64 c4):=hp4.cell 0
  have hkk:Kept H H5:=(((hk1.chg.trans hc1).trans hc2).trans hc3 |>.trans hc4).kept fun x hx=>by omega
  simp only [↓Sh.dn,sx,Nat.reduceBEq,reduceCtorEq,Nat.reduceEqDiff,d50]
  refine ⟨_,_,hd2,?_⟩
  try simp only [↓Sh.dn,sx,Nat.reduceBEq,reduceCtorEq,Nat.reduceEqDiff]
  refine ⟨_,_,hd3,?_⟩
  try simp only [↓Sh.dn,sx,Nat.reduceBEq,reduceCtorEq,Nat.reduceEqDiff]
  refine ⟨_,_,hd4,?_⟩
  try simp only [↓Sh.dn,sx,Nat.reduceBEq,reduceCtorEq,Nat.reduceEqDiff]
  refine ⟨_,_,hd5,?_⟩
  simp only [↓Sh.dn,sx,Nat.reduceBEq,reduceCtorEq,Nat.reduceEqDiff,r9]
  by_cases z0:c4=0
  ·simp only [↓Sh.dn,sx,Nat.reduceBEq,reduceCtorEq,Nat.reduceEqDiff,z0,decide_true,hres]
   exact ⟨q4,1,rfl,by omega,by omega,hv4,hkk⟩
  ·simp only [↓Sh.dn,sx,Nat.reduceBEq,reduceCtorEq,Nat.reduceEqDiff,z0,decide_false]
   by_cases z1:c4=12
   ·simp only [↓Sh.dn,sx,Nat.reduceBEq,reduceCtorEq,Nat.reduceEqDiff,z1,decide_true,hres]
    exact ⟨q4,2,rfl,by omega,by omega,hv4,hkk⟩
   ·simp only [↓Sh.dn,sx,Nat.reduceBEq,reduceCtorEq,Nat.reduceEqDiff,z1,decide_false,hres]
    exact ⟨q4,0,rfl,by omega,by omega,hv4,hkk⟩
 ·have d50:decide ((50:Int)≤((b - a:Nat):Int))=false:=by simp; omega
  obtain ⟨r,H5,hd5,q4,rfl,h4,hv4,c4,hp4,hc4⟩:=B0h (cap:=cap) (i:=a+(b - a) / 4 * 1) (j:=a+(b - a) / 4 * 2) (m:=a+(b - a) / 4 * 3) hv0 hp0 hpg hk1.wf (by omega) (by omega) (by omega)
  have r9:H5.cell ⟨H.next,0,some 0⟩=some (.int .i64 c4):=hp4.cell 0
  have hkk:Kept H H5:=(hk1.chg.trans hc4).kept fun x hx=>by omega
  simp only [↓Sh.dn,sx,Nat.reduceBEq,reduceCtorEq,Nat.reduceEqDiff,d50]
  refine ⟨_,_,hd5,?_⟩
  simp only [↓Sh.dn,sx,Nat.reduceBEq,reduceCtorEq,Nat.reduceEqDiff,r9]
  by_cases z0:c4=0
  ·simp only [↓Sh.dn,sx,Nat.reduceBEq,reduceCtorEq,Nat.reduceEqDiff,z0,decide_true,hres]
   exact ⟨q4,1,rfl,by omega,by omega,hv4,hkk⟩
  ·simp only [↓Sh.dn,sx,Nat.reduceBEq,reduceCtorEq,Nat.reduceEqDiff,z0,decide_false]
   by_cases z1:c4=12
   ·simp only [↓Sh.dn,sx,Nat.reduceBEq,reduceCtorEq,Nat.reduceEqDiff,z1,decide_true,hres]
    exact ⟨q4,2,rfl,by omega,by omega,hv4,hkk⟩
   ·simp only [↓Sh.dn,sx,Nat.reduceBEq,reduceCtorEq,Nat.reduceEqDiff,z1,decide_false,hres]
    exact ⟨q4,0,rfl,by omega,by omega,hv4,hkk⟩
end
end Go.Proofs.YtnoengaghabmjaaGreatDoor
/- How many binary digits a number has. -/
namespace Go.Proofs.YtnoengaghabmjaaGreatDoor
open Go Go.Proofs Go.Proofs.Sh
def B86 (x r:Nat):Prop:=x < 2 ^ r∧(x≠0→2 ^ r≤2 * x)∧r≤40
theorem C5p {x y u c:Nat} (hx:x < 2 ^ 32) (hc:c≤16) (hy:y=x / 2 ^ c) (hy0:y≠0) (h1:y < 2 ^ u) (h2:y≠0→2 ^ u≤2 * y) (h3:u≤8):B86 x (c+u):=by
  subst hy
  have e:2 ^ (c+u)=2 ^ u * 2 ^ c:=by rw [Nat.add_comm,Nat.pow_add]
  have hp:0 < 2 ^ c:=Nat.two_pow_pos c
  refine ⟨?_,fun _=>?_,by omega⟩
  · rw [e]
    exact Nat.lt_mul_of_div_lt h1 hp |> fun h=>by rw [Nat.mul_comm]; rw [Nat.mul_comm] at h; first | exact h | (rw [Nat.mul_comm]; exact h)
  · rw [e]
    have h4:=h2 hy0
    have h5:x / 2 ^ c * 2 ^ c≤x:=Nat.div_mul_le_self x (2 ^ c)
    calc 2 ^ u * 2 ^ c ≤ 2 * (x / 2 ^ c) * 2 ^ c := Nat.mul_le_mul_right _ h4
      _=2 * (x / 2 ^ c * 2 ^ c):=Nat.mul_assoc _ _ _
      _≤2 * x:=Nat.mul_le_mul_left 2 h5
theorem C3s {H:AH} {x:Nat} (hx:x < 16777216):Sh.Call Tryz.prog (knows 8) 178 [.int .u64 (x:Int)] H (fun r H'=>H'=H∧∃ c:Nat,r=.int .i64 (c:Int)∧B86 x c):=by
 refine A5a rfl Tryz.func178 rfl (Nat.le_of_ble_eq_true rfl) ?_
 have hres:Tryz.f178.results.toList=[.tmp 2]:=rfl
 have d1:decide ((4294967296:Int)≤(x:Int))=false:=by simp; omega
 simp only [↓Sh.dn,sx,Nat.reduceBEq,reduceCtorEq,Nat.reduceEqDiff,d1]
 by_cases h2:65536≤x
 ·have d2:decide ((65536:Int)≤(x:Int))=true:=by simp; omega
  have s2:A2o false .u64 (x:Int) 16=some (.int .u64 ((x / 2 ^ 16:Nat):Int)):=C2x (c:=16) (by omega)
  have hlt:x / 2 ^ 16 < 256:=by omega
  have d3:decide ((256:Int)≤((x / 2 ^ 16:Nat):Int))=false:=by simp; omega
  have w8:IntKind.wrap .u8 ((x / 2 ^ 16:Nat):Int)=((x / 2 ^ 16:Nat):Int):=C7s (by omega) (by omega)
  have w16:IntKind.wrap .i64 ((0:Int)+16)=16:=wrap64 (by omega) (by omega)
  simp only [↓Sh.dn,sx,Nat.reduceBEq,reduceCtorEq,Nat.reduceEqDiff,d2,C2p,s2,d3,w16,w8]
  refine B7q Tryz.underlying9 (by kernel_rfl) hlt fun u u1 u2 u3=>?_
  have wu:IntKind.wrap .i64 (u:Int)=(u:Int):=wrap64 (by omega) (by omega)
  have ws:IntKind.wrap .i64 ((16:Int)+(u:Int))=((16+u:Nat):Int):=by rw [wrap64 (by omega) (by omega)]; rfl
  simp only [↓Sh.dn,sx,Nat.reduceBEq,reduceCtorEq,Nat.reduceEqDiff,wu,ws,hres]
  exact ⟨16+u,rfl,C5p (by omega) (by omega) rfl (by omega) u1 u2 u3⟩
 ·have d2:decide ((65536:Int)≤(x:Int))=false:=by simp; omega
  by_cases h3:256≤x
  ·have d3:decide ((256:Int)≤(x:Int))=true:=by simp; omega
   have s2:A2o false .u64 (x:Int) 8=some (.int .u64 ((x / 2 ^ 8:Nat):Int)):=C2x (c:=8) (by omega)
   have hlt:x / 2 ^ 8 < 256:=by omega
   have w8:IntKind.wrap .u8 ((x / 2 ^ 8:Nat):Int)=((x / 2 ^ 8:Nat):Int):=C7s (by omega) (by omega)
   have w16:IntKind.wrap .i64 ((0:Int)+8)=8:=wrap64 (by omega) (by omega)
   simp only [↓Sh.dn,sx,Nat.reduceBEq,reduceCtorEq,Nat.reduceEqDiff,d2,d3,C2p,s2,w16,w8]
   refine B7q Tryz.underlying9 (by kernel_rfl) hlt fun u u1 u2 u3=>?_
   have wu:IntKind.wrap .i64 (u:Int)=(u:Int):=wrap64 (by omega) (by omega)
   have ws:IntKind.wrap .i64 ((8:Int)+(u:Int))=((8+u:Nat):Int):=by rw [wrap64 (by omega) (by omega)]; rfl
   simp only [↓Sh.dn,sx,Nat.reduceBEq,reduceCtorEq,Nat.reduceEqDiff,wu,ws,hres]
   exact ⟨8+u,rfl,C5p (by omega) (by omega) rfl (by omega) u1 u2 u3⟩
  ·have d3:decide ((256:Int)≤(x:Int))=false:=by simp; omega
   have w8:IntKind.wrap .u8 (x:Int)=(x:Int):=C7s (by omega) (by omega)
   simp only [↓Sh.dn,sx,Nat.reduceBEq,reduceCtorEq,Nat.reduceEqDiff,d2,d3,w8]
   refine B7q Tryz.underlying9 (by kernel_rfl) (by omega) fun u u1 u2 u3=>?_
   have wu:IntKind.wrap .i64 (u:Int)=(u:Int):=wrap64 (by omega) (by omega)
   have ws:IntKind.wrap .i64 ((0:Int)+(u:Int))=(u:Int):=by rw [wrap64 (by omega) (by omega)]; omega
   simp only [↓Sh.dn,sx,Nat.reduceBEq,reduceCtorEq,Nat.reduceEqDiff,wu,ws,hres]
   exact ⟨u,rfl,u1,u2,by omega⟩
theorem bitsLen {H:AH} {x:Nat} (hx:x < 16777216):Sh.Call Tryz.prog (knows 8) 162 [.int .u64 (x:Int)] H (fun r H'=>H'=H∧∃ c:Nat,r=.int .i64 (c:Int)∧B86 x c):=by
 refine A5a rfl Tryz.func162 rfl (Nat.le_of_ble_eq_true rfl) ?_
 have hres:Tryz.f162.results.toList=[.tmp 2]:=rfl
 obtain ⟨r,H1,hd,rfl,c,rfl,hc⟩:=C3s (H:=H) hx
 simp only [↓Sh.dn,sx,Nat.reduceBEq,reduceCtorEq,Nat.reduceEqDiff]
 refine ⟨_,_,hd,?_⟩
 simp only [↓Sh.dn,sx,Nat.reduceBEq,reduceCtorEq,Nat.reduceEqDiff,hres]
 exact ⟨c,rfl,hc⟩
theorem nextPow {H:AH} {x:Nat} (hx:x < 16777216):Sh.Call Tryz.prog (knows 8) 184 [.int .i64 (x:Int)] H (fun r H'=>H'=H∧∃ c:Nat,r=.int .u64 ((2 ^ c:Nat):Int)∧B86 x c):=by
 refine A5a rfl Tryz.func184 rfl (Nat.le_of_ble_eq_true rfl) ?_
 have hres:Tryz.f184.results.toList=[.tmp 2]:=rfl
 have w:IntKind.wrap .u64 (x:Int)=(x:Int):=A18 (by omega) (by omega)
 obtain ⟨r,H1,hd,rfl,c,rfl,hc⟩:=bitsLen (H:=H) hx
 simp only [↓Sh.dn,sx,Nat.reduceBEq,reduceCtorEq,Nat.reduceEqDiff,w]
 refine ⟨_,_,hd,?_⟩
 have sh:A2o true .u64 1 (c:Int)=some (.int .u64 ((2 ^ c:Nat):Int)):=shl_one (by have:=hc.2.2; omega)
 simp only [↓Sh.dn,sx,Nat.reduceBEq,reduceCtorEq,Nat.reduceEqDiff,b_shl,sh,hres]
 exact ⟨c,rfl,hc⟩
end Go.Proofs.YtnoengaghabmjaaGreatDoor
/- breakPatternsOrdered. -/
namespace Go.Proofs.YtnoengaghabmjaaGreatDoor
open Go Go.Proofs Go.Proofs.Sh
section
variable {H:AH} {g k n cap a b:Nat} {l:List Int}
theorem C7k {p:Nat} {z:Int} (hp:Arr H p 0 1 [.int .u64 z]) (hw:Wf H):
  Sh.Call Tryz.prog (knows 8) 185 [.pointer (some ⟨p,0,some 0⟩)] H (fun r H'=>∃ z',r=.int .u64 z'∧Arr H' p 0 1 [.int .u64 z']∧Chg (fun y=>y=p) H H'):=by
 refine A5a rfl Tryz.func185 rfl (Nat.le_of_ble_eq_true rfl) ?_
 have hres:Tryz.f185.results.toList=[.tmp 2]:=rfl
 have st:∀ (H:AH) (z:Int),A8f Tryz.prog 231 H (.int .u64 z) (.pointer (some ⟨p,0,some 0⟩))=H.write ⟨p,0,some 0⟩ [.int .u64 z]:=fun H z=>A9e B2r rfl
 obtain ⟨s1,h1⟩:∃ s,A2o true .u64 z 13=some (.int .u64 s):=B9q (b:=13)
 have r0:H.cell ⟨p,0,some 0⟩=some (.int .u64 z):=hp.cell 0
 obtain ⟨K1,e1,a1,n1,c1⟩:=hp.write hw (i:=0) (vs:=[.int .u64 (IntKind.wrap .u64 ((BitVec.ofInt IntKind.u64.bits z) ^^^ (BitVec.ofInt IntKind.u64.bits s1)).toNat)]) (by simp)
 simp only [↓Sh.dn,sx,Nat.reduceBEq,reduceCtorEq,Nat.reduceEqDiff]
 refine (A4d (by kernel_rfl)).2 ?_
 simp only [↓Sh.dn,sx,Nat.reduceBEq,reduceCtorEq,Nat.reduceEqDiff,r0,b_shl,h1,b_xor,st,e1]
 generalize IntKind.wrap .u64 ((BitVec.ofInt IntKind.u64.bits z) ^^^ (BitVec.ofInt IntKind.u64.bits s1)).toNat=z1 at a1 e1 ⊢
 obtain ⟨s2,h2⟩:∃ s,A2o false .u64 z1 7=some (.int .u64 s):=B9q (b:=7)
 have r1:K1.cell ⟨p,0,some 0⟩=some (.int .u64 z1):=a1.cell 0
 obtain ⟨K2,e2,a2,n2,c2⟩:=a1.write c1.wf (i:=0) (vs:=[.int .u64 (IntKind.wrap .u64 ((BitVec.ofInt IntKind.u64.bits z1) ^^^ (BitVec.ofInt IntKind.u64.bits s2)).toNat)]) (by simp [setCells])
 refine (A4d (by kernel_rfl)).2 ?_
 simp only [↓Sh.dn,sx,Nat.reduceBEq,reduceCtorEq,Nat.reduceEqDiff,r1,C2p,h2,b_xor,st,e2]
 generalize IntKind.wrap .u64 ((BitVec.ofInt IntKind.u64.bits z1) ^^^ (BitVec.ofInt IntKind.u64.bits s2)).toNat=z2 at a2 e2 ⊢
 obtain ⟨s3,h3⟩:∃ s,A2o true .u64 z2 17=some (.int .u64 s):=B9q (b:=17)
 have r2:K2.cell ⟨p,0,some 0⟩=some (.int .u64 z2):=a2.cell 0
 obtain ⟨K3,e3,a3,n3,c3⟩:=a2.write c2.wf (i:=0) (vs:=[.int .u64 (IntKind.wrap .u64 ((BitVec.ofInt IntKind.u64.bits z2) ^^^ (BitVec.ofInt IntKind.u64.bits s3)).toNat)]) (by simp [setCells])
 refine (A4d (by kernel_rfl)).2 ?_
 simp only [↓Sh.dn,sx,Nat.reduceBEq,reduceCtorEq,Nat.reduceEqDiff,r2,b_shl,h3,b_xor,st,e3]
 generalize IntKind.wrap .u64 ((BitVec.ofInt IntKind.u64.bits z2) ^^^ (BitVec.ofInt IntKind.u64.bits s3)).toNat=z3 at a3 e3 ⊢
 have r3:K3.cell ⟨p,0,some 0⟩=some (.int .u64 z3):=a3.cell 0
 simp only [↓Sh.dn,sx,Nat.reduceBEq,reduceCtorEq,Nat.reduceEqDiff,r3,hres]
 exact ⟨z3,rfl,a3,(c1.trans c2).trans c3⟩
theorem B0a (hv:A6e H g k n l) (hw:Wf H) (hl:l.length≤1048576) (hab:a+12 < b) (hb:b≤l.length):
  Sh.Call Tryz.prog (knows 8) 170 [.slice (some ⟨g,0,some k⟩) l.length cap,.int .i64 (a:Int),.int .i64 (b:Int)] H
   (fun r H'=>∃ l',Mix a b l l'∧A6e H' g k n l'∧Chg (fun y=>y=g) H H'):=by
 refine A5a rfl Tryz.func170 rfl (Nat.le_of_ble_eq_true rfl) ?_
 have hres:Tryz.f170.results.toList=[]:=rfl
 have w0:IntKind.wrap .i64 ((b:Int) - (a:Int))=((b - a:Nat):Int):=by rw [wrap64 (by omega) (by omega)]; omega
 have d8:decide ((8:Int)≤((b - a:Nat):Int))=true:=by simp; omega
 have wu:IntKind.wrap .u64 ((b - a:Nat):Int)=((b - a:Nat):Int):=A18 (by omega) (by omega)
 have al:anew Tryz.prog 231 H (.int .u64 0)=some (.pointer (some ⟨H.next,0,some 0⟩),(H.new 1 [.int .u64 0]).2):=B0b B2r rfl
 have st:∀ (H:AH) (p:Addr) (z:Int),A8f Tryz.prog 231 H (.int .u64 z) (.pointer (some p))=H.write p [.int .u64 z]:=fun H p z=>A9e B2r rfl
 have ov:(H.new 1 [.int .u64 0]).2.write ⟨H.next,0,some 0⟩ [.int .u64 ((b - a:Nat):Int)]=some (H.new 1 [.int .u64 ((b - a:Nat):Int)]).2:=A3p rfl
 have hq4:(Int.tdiv ((b - a:Nat):Int) 4)=(((b - a) / 4:Nat):Int):=by rw [Int.tdiv_eq_ediv_of_nonneg (by omega)]; rfl
 have wq:IntKind.wrap .i64 (((b - a) / 4:Nat):Int)=(((b - a) / 4:Nat):Int):=wrap64 (by omega) (by omega)
 have m2:IntKind.wrap .i64 ((((b - a) / 4:Nat):Int) * 2)=(((b - a) / 4 * 2:Nat):Int):=by rw [wrap64 (by omega) (by omega)]; omega
 have p2:IntKind.wrap .i64 ((a:Int)+(((b - a) / 4 * 2:Nat):Int))=((a+(b - a) / 4 * 2:Nat):Int):=by rw [wrap64 (by omega) (by omega)]; rfl
 have q1:IntKind.wrap .i64 (((a+(b - a) / 4 * 2:Nat):Int) - 1)=((a+(b - a) / 4 * 2 - 1:Nat):Int):=by rw [wrap64 (by omega) (by omega)]; omega
 have q2:IntKind.wrap .i64 (((a+(b - a) / 4 * 2:Nat):Int)+1)=((a+(b - a) / 4 * 2+1:Nat):Int):=by rw [wrap64 (by omega) (by omega)]; rfl
 have hk1:Kept H (H.new 1 [.int .u64 ((b - a:Nat):Int)]).2:=Kept.new hw 1 _
 have hp0:Arr (H.new 1 [.int .u64 ((b - a:Nat):Int)]).2 H.next 0 1 [.int .u64 ((b - a:Nat):Int)]:=(Obj.new (H:=H) 1 _).arr
 have hv0:=hv.kept hw hk1
 have hpg:H.next≠g:=by have:=hv.lt hw; omega
 simp only [↓Sh.dn,sx,Nat.reduceBEq,reduceCtorEq,Nat.reduceEqDiff,w0,d8,wu,al,st,ov]
 generalize (H.new 1 [.int .u64 ((b - a:Nat):Int)]).2=H1 at hk1 hv0 hp0 ⊢
 obtain ⟨r,H2,hd,rfl,c,rfl,hc1,hc2,hc3⟩:=nextPow (H:=H1) (x:=b - a) (by omega)
 refine ⟨_,_,hd,?_⟩
 simp only [↓Sh.dn,sx,Nat.reduceBEq,reduceCtorEq,Nat.reduceEqDiff,w0,B25 (show (4:Int)≠0 by decide),hq4,wq,m2,p2,q1]
 have hc2':=hc2 (by omega)
 have hpos:0 < 2 ^ c:=Nat.two_pow_pos c
 have wc:IntKind.wrap .u64 (((2 ^ c:Nat):Int) - 1)=((2 ^ c - 1:Nat):Int):=by
  rw [A18 (by omega) (by omega)]; omega
 generalize hM:2 ^ c=M at *
 refine A5e (fun m F H' => ∃ (i : Nat) (z : Int) (l1 : List Int), m = a + (b - a) / 4 * 2 + 2 - i ∧ a + (b - a) / 4 * 2 - 1 ≤ i ∧ Mix a b l l1 ∧ A6e H' g k n l1 ∧ Arr H' H.next 0 1 [.int .u64 z] ∧ Chg (fun y => y = g ∨ y = H.next) H2 H' ∧
     F.get 0 = some (.slice (some ⟨g, 0, some k⟩) l.length cap) ∧ F.get 1 = some (.int .i64 (a : Int)) ∧ F.get 6 = some (.int .i64 ((b - a : Nat) : Int)) ∧ F.get 7 = some (.pointer (some ⟨H.next, 0, some 0⟩)) ∧ F.get 8 = some (.int .u64 (M : Int)) ∧ F.get 9 = some (.int .i64 (i : Int))) (m := a + (b - a) / 4 * 2 + 2 - (a + (b - a) / 4 * 2 - 1))
   ⟨a + (b - a) / 4 * 2 - 1, _, l, rfl, by omega, .refl l, hv0, hp0, Chg.refl hk1.wf, by simp only [↓Sh.dn, sx, Nat.reduceBEq, reduceCtorEq, Nat.reduceEqDiff], by simp only [↓Sh.dn, sx, Nat.reduceBEq, reduceCtorEq, Nat.reduceEqDiff], by simp only [↓Sh.dn, sx, Nat.reduceBEq, reduceCtorEq, Nat.reduceEqDiff], by simp only [↓Sh.dn, sx, Nat.reduceBEq, reduceCtorEq, Nat.reduceEqDiff], by simp only [↓Sh.dn, sx, Nat.reduceBEq, reduceCtorEq, Nat.reduceEqDiff], by simp only [↓Sh.dn, sx, Nat.reduceBEq, reduceCtorEq, Nat.reduceEqDiff]⟩ ?_
 rintro m F H' ⟨i,z,l1,rfl,hai,hm,hv1,hp1,hch,f0,f1,f6,f7,f8,f9⟩ kk
 have hlen:=hm.length
 by_cases hlt:i≤a+(b - a) / 4 * 2+1
 ·have dl:decide ((i:Int)≤((a+(b - a) / 4 * 2+1:Nat):Int))=true:=by simp; omega
  obtain ⟨r,H3,hd3,z',rfl,hp2,hc3'⟩:=C7k hp1 hch.wf
  have hv2:=hv1.chg hch.wf hc3' (fun h=>hpg h.symm)
  obtain ⟨o,ho1,ho2⟩:=and_le z' (m:=M - 1) (by omega)
  have wo:IntKind.wrap .i64 (o:Int)=(o:Int):=wrap64 (by omega) (by omega)
  simp only [↓Sh.dn,sx,Nat.reduceBEq,reduceCtorEq,Nat.reduceEqDiff,f1,f6,f9,B25 (show (4:Int)≠0 by decide),hq4,wq,m2,p2,q2,dl,f7]
  refine ⟨_,_,hd3,?_⟩
  simp only [↓Sh.dn,sx,Nat.reduceBEq,reduceCtorEq,Nat.reduceEqDiff,f8,wc,b_and,ho2,wo,f6]
  have key:∀ (o':Nat) (F':Fr),o' < b - a→F'.get 0=some (.slice (some ⟨g,0,some k⟩) l.length cap)→F'.get 1=some (.int .i64 (a:Int))→F'.get 6=some (.int .i64 ((b - a:Nat):Int))→F'.get 7=some (.pointer (some ⟨H.next,0,some 0⟩))→F'.get 8=some (.int .u64 (M:Int))→F'.get 9=some (.int .i64 (i:Int))→F'.get 10=some (.int .i64 (o':Int))→True:=fun _ _ _ _ _ _ _ _ _ _=>trivial
  have wi:IntKind.wrap .i64 ((i:Int)+1)=((i+1:Nat):Int):=by rw [wrap64 (by omega) (by omega)]; rfl
  by_cases hbig:b - a≤o
  ·have db:decide (((b - a:Nat):Int)≤(o:Int))=true:=by simp; omega
   have ws:IntKind.wrap .i64 ((o:Int) - ((b - a:Nat):Int))=((o - (b - a):Nat):Int):=by rw [wrap64 (by omega) (by omega)]; omega
   have wa:IntKind.wrap .i64 ((a:Int)+((o - (b - a):Nat):Int))=((a+(o - (b - a)):Nat):Int):=by rw [wrap64 (by omega) (by omega)]; rfl
   have hi:i < l1.length:=by omega
   have hj:a+(o - (b - a)) < l1.length:=by omega
   have i1:=A1d (g:=g) (k:=k) (cap:=cap) (m:=l.length) (i:=i) (j:=.i64) (by omega)
   have i2:=A1d (g:=g) (k:=k) (cap:=cap) (m:=l.length) (i:=a+(o - (b - a))) (j:=.i64) (by omega)
   have r1:=A8c hv2 hi
   have r2:=A8c hv2 hj
   obtain ⟨K1,K2,e1,e2,e3,e4,e5⟩:=A7k hv2 hc3'.wf hi hj
   simp only [↓Sh.dn,sx,Nat.reduceBEq,reduceCtorEq,Nat.reduceEqDiff,db,f6,ws]
   refine (A4d (by kernel_rfl)).2 ?_
   simp only [↓Sh.dn,sx,Nat.reduceBEq,reduceCtorEq,Nat.reduceEqDiff,f0,f1,f9,wa,i1,i2,r1,r2,A7n,e1,e2,wi]
   exact kk (a+(b - a) / 4 * 2+2 - (i+1)) _ _ (by omega) ⟨i+1,z',swp l1 i (a+(o - (b - a))),rfl,by omega,hm.swap (by omega) (by omega) (by omega) (by omega),e3,hp2.keep (e4.old _ (hp2.lt hc3'.wf) hpg),(hch.trans (hc3'.weak fun _ h=>.inr h)).trans (e4.weak fun _ h=>.inl h),by simp only [↓Sh.dn,sx,Nat.reduceBEq,reduceCtorEq,Nat.reduceEqDiff,f0],by simp only [↓Sh.dn,sx,Nat.reduceBEq,reduceCtorEq,Nat.reduceEqDiff,f1],by simp only [↓Sh.dn,sx,Nat.reduceBEq,reduceCtorEq,Nat.reduceEqDiff,f6],by simp only [↓Sh.dn,sx,Nat.reduceBEq,reduceCtorEq,Nat.reduceEqDiff,f7],by simp only [↓Sh.dn,sx,Nat.reduceBEq,reduceCtorEq,Nat.reduceEqDiff,f8],by simp only [↓Sh.dn,sx,Nat.reduceBEq,reduceCtorEq,Nat.reduceEqDiff]⟩
  ·have db:decide (((b - a:Nat):Int)≤(o:Int))=false:=by simp; omega
   have wa:IntKind.wrap .i64 ((a:Int)+(o:Int))=((a+o:Nat):Int):=by rw [wrap64 (by omega) (by omega)]; rfl
   have hi:i < l1.length:=by omega
   have hj:a+o < l1.length:=by omega
   have i1:=A1d (g:=g) (k:=k) (cap:=cap) (m:=l.length) (i:=i) (j:=.i64) (by omega)
   have i2:=A1d (g:=g) (k:=k) (cap:=cap) (m:=l.length) (i:=a+o) (j:=.i64) (by omega)
   have r1:=A8c hv2 hi
   have r2:=A8c hv2 hj
   obtain ⟨K1,K2,e1,e2,e3,e4,e5⟩:=A7k hv2 hc3'.wf hi hj
   simp only [↓Sh.dn,sx,Nat.reduceBEq,reduceCtorEq,Nat.reduceEqDiff,db]
   refine (A4d (by kernel_rfl)).2 ?_
   simp only [↓Sh.dn,sx,Nat.reduceBEq,reduceCtorEq,Nat.reduceEqDiff,f0,f1,f9,wa,i1,i2,r1,r2,A7n,e1,e2,wi]
   exact kk (a+(b - a) / 4 * 2+2 - (i+1)) _ _ (by omega) ⟨i+1,z',swp l1 i (a+o),rfl,by omega,hm.swap (by omega) (by omega) (by omega) (by omega),e3,hp2.keep (e4.old _ (hp2.lt hc3'.wf) hpg),(hch.trans (hc3'.weak fun _ h=>.inr h)).trans (e4.weak fun _ h=>.inl h),by simp only [↓Sh.dn,sx,Nat.reduceBEq,reduceCtorEq,Nat.reduceEqDiff,f0],by simp only [↓Sh.dn,sx,Nat.reduceBEq,reduceCtorEq,Nat.reduceEqDiff,f1],by simp only [↓Sh.dn,sx,Nat.reduceBEq,reduceCtorEq,Nat.reduceEqDiff,f6],by simp only [↓Sh.dn,sx,Nat.reduceBEq,reduceCtorEq,Nat.reduceEqDiff,f7],by simp only [↓Sh.dn,sx,Nat.reduceBEq,reduceCtorEq,Nat.reduceEqDiff,f8],by simp only [↓Sh.dn,sx,Nat.reduceBEq,reduceCtorEq,Nat.reduceEqDiff]⟩
 ·have dl:decide ((i:Int)≤((a+(b - a) / 4 * 2+1:Nat):Int))=false:=by simp; omega
  simp only [↓Sh.dn,sx,Nat.reduceBEq,reduceCtorEq,Nat.reduceEqDiff,f1,f6,f9,B25 (show (4:Int)≠0 by decide),hq4,wq,m2,p2,q2,dl,hres]
  refine ⟨l1,hm,hv1,?_⟩
  exact ⟨fun x hx hxg=>(hch.old x (Nat.lt_of_lt_of_le hx hk1.next) (fun h=>by rcases h with h | h; exact hxg h; omega)).trans (hk1.old x hx),Nat.le_trans hk1.next hch.next,hch.wf⟩
end
end Go.Proofs.YtnoengaghabmjaaGreatDoor
/- siftDownOrdered, heapSortOrdered. -/
namespace Go.Proofs.YtnoengaghabmjaaGreatDoor
open Go Go.Proofs Go.Proofs.Sh
def A08 (l:List Int) (f lo hi:Nat):Prop:=∀ (q r:Nat) x y,lo≤r→(q=2 * r+1∨q=2 * r+2)→q < hi→l[f+r]?=some x→l[f+q]?=some y→A4c x y=false
theorem C8j {l:List Int} {f hi:Nat} (h:A08 l f 0 hi) (hl:f+hi≤l.length):∀ (q:Nat) x y,q < hi→l[f]?=some x→l[f+q]?=some y→A4c x y=false:=by
 intro q
 induction q using Nat.strongRecOn with
 | _ q ih=>
  intro x y hq hx hy
  by_cases h0:q=0
  ·subst h0
   rw [Nat.add_zero,hx] at hy
   rw [← Option.some.inj hy]; exact intTO.irrefl x
  ·have hr:(q - 1) / 2 < q:=by omega
   have hz:l[f+(q - 1) / 2]?=some (l[f+(q - 1) / 2]'(by omega)):=List.getElem?_eq_getElem (by omega)
   exact intTO.le_trans (h q ((q - 1) / 2) _ _ (Nat.zero_le _) (by omega) hq hz hy) (ih _ hr x _ (by omega) hx hz)
section
variable {H:AH} {g k n cap:Nat} {l:List Int}
theorem B9b {lo hi f:Nat} (hv:A6e H g k n l) (hw:Wf H) (hl:l.length≤1048576) (hlo:lo≤hi) (hb:f+hi≤l.length) (hh:A08 l f (lo+1) hi):
  Sh.Call Tryz.prog (knows 8) 183 [.slice (some ⟨g,0,some k⟩) l.length cap,.int .i64 (lo:Int),.int .i64 (hi:Int),.int .i64 (f:Int)] H
   (fun r H'=>∃ l',Mix (f+lo) (f+hi) l l'∧A08 l' f lo hi∧A6e H' g k n l'∧Chg (fun y=>y=g) H H'):=by
 refine A5a rfl Tryz.func183 rfl (Nat.le_of_ble_eq_true rfl) ?_
 have hres:Tryz.f183.results.toList=[]:=rfl
 have hTO:=intTO
 simp only [↓Sh.dn,sx,Nat.reduceBEq,reduceCtorEq,Nat.reduceEqDiff]
 refine A5e (fun m F H' => ∃ (r : Nat) (l1 : List Int), m = hi - r ∧ lo ≤ r ∧ r ≤ hi ∧ Mix (f + lo) (f + hi) l l1 ∧
     (∀ (q p : Nat) x y, lo ≤ p → p ≠ r → (q = 2 * p + 1 ∨ q = 2 * p + 2) → q < hi → l1[f + p]? = some x → l1[f + q]? = some y → A4c x y = false) ∧
     (∀ (q p : Nat) x y, lo ≤ p → (r = 2 * p + 1 ∨ r = 2 * p + 2) → (q = 2 * r + 1 ∨ q = 2 * r + 2) → q < hi → l1[f + p]? = some x → l1[f + q]? = some y → A4c x y = false) ∧
     A6e H' g k n l1 ∧ Chg (fun y => y = g) H H' ∧
     F.get 0 = some (.slice (some ⟨g, 0, some k⟩) l.length cap) ∧ F.get 2 = some (.int .i64 (hi : Int)) ∧ F.get 3 = some (.int .i64 (f : Int)) ∧ F.get 8 = some (.int .i64 (r : Int))) (m := hi - lo)
   ⟨lo, l, rfl, Nat.le_refl _, hlo, .refl l, fun q p x y h1 h2 h3 h4 hx hy => hh q p x y (by omega) h3 h4 hx hy, fun q p x y h1 h2 => by omega, hv, Chg.refl hw, by simp only [↓Sh.dn, sx, Nat.reduceBEq, reduceCtorEq, Nat.reduceEqDiff], by simp only [↓Sh.dn, sx, Nat.reduceBEq, reduceCtorEq, Nat.reduceEqDiff], by simp only [↓Sh.dn, sx, Nat.reduceBEq, reduceCtorEq, Nat.reduceEqDiff], by simp only [↓Sh.dn, sx, Nat.reduceBEq, reduceCtorEq, Nat.reduceEqDiff]⟩ ?_
 rintro m F H' ⟨r,l1,rfl,hr,hrh,hm,hA,hB,hv1,hc1,f0,f2,f3,f8⟩ kk
 have hlen:=hm.length
 have w1:IntKind.wrap .i64 ((2:Int) * (r:Int))=((2 * r:Nat):Int):=by rw [wrap64 (by omega) (by omega)]; rfl
 have w2:IntKind.wrap .i64 (((2 * r:Nat):Int)+1)=((2 * r+1:Nat):Int):=by rw [wrap64 (by omega) (by omega)]; rfl
 have w3:IntKind.wrap .i64 (((2 * r+1:Nat):Int)+1)=((2 * r+1+1:Nat):Int):=by rw [wrap64 (by omega) (by omega)]; rfl
 simp only [↓Sh.dn,sx,Nat.reduceBEq,reduceCtorEq,Nat.reduceEqDiff,f2,f8,w1,w2]
 by_cases hend:hi≤2 * r+1
 ·have d:decide ((hi:Int)≤((2 * r+1:Nat):Int))=true:=by simp; omega
  simp only [↓Sh.dn,sx,Nat.reduceBEq,reduceCtorEq,Nat.reduceEqDiff,d,hres]
  exact ⟨l1,hm,fun q p x y h1 h2 h3 hx hy=>hA q p x y h1 (by omega) h2 h3 hx hy,hv1,hc1⟩
 have d:decide ((hi:Int)≤((2 * r+1:Nat):Int))=false:=by simp; omega
 simp only [↓Sh.dn,sx,Nat.reduceBEq,reduceCtorEq,Nat.reduceEqDiff,d]
 have jr:f+r < l1.length:=by omega
 have ir:=A1d (g:=g) (k:=k) (cap:=cap) (m:=l.length) (i:=f+r) (j:=.i64) (by omega)
 have gr:=A8c hv1 jr
 have qr:l1[f+r]?=some l1[f+r]:=List.getElem?_eq_getElem jr
 have wfr:IntKind.wrap .i64 ((f:Int)+(r:Int))=((f+r:Nat):Int):=by rw [wrap64 (by omega) (by omega)]; rfl
 refine B0v (fun F' H2=>H2=H'∧F'.get 0=some (.slice (some ⟨g,0,some k⟩) l.length cap)∧F'.get 2=some (.int .i64 (hi:Int))∧F'.get 3=some (.int .i64 (f:Int))∧F'.get 8=some (.int .i64 (r:Int))∧F'.get 9=some (.int .i64 ((2 * r+1:Nat):Int))∧
  ∃ bb:Bool,F'.get 36=some (.bool bb)∧(bb=true→2 * r+2 < hi∧∀ y z,l1[f+(2 * r+1)]?=some y→l1[f+(2 * r+2)]?=some z→A4c y z=true)∧(bb=false→2 * r+2 < hi→∀ y z,l1[f+(2 * r+1)]?=some y→l1[f+(2 * r+2)]?=some z→A4c y z=false)) rfl ?_ ?_
 ·refine (A4d (by kernel_rfl)).2 ?_
  by_cases h2:2 * r+1+1 < hi
  ·have j1:f+(2 * r+1) < l1.length:=by omega
   have j2:f+(2 * r+1)+1 < l1.length:=by omega
   have i1:=A1d (g:=g) (k:=k) (cap:=cap) (m:=l.length) (i:=f+(2 * r+1)) (j:=.i64) (by omega)
   have i2:=A1d (g:=g) (k:=k) (cap:=cap) (m:=l.length) (i:=f+(2 * r+1)+1) (j:=.i64) (by omega)
   have g1:=A8c hv1 j1
   have g2:=A8c hv1 j2
   have u1:IntKind.wrap .i64 ((f:Int)+((2 * r+1:Nat):Int))=((f+(2 * r+1):Nat):Int):=by rw [wrap64 (by omega) (by omega)]; rfl
   have u2:IntKind.wrap .i64 (((f+(2 * r+1):Nat):Int)+1)=((f+(2 * r+1)+1:Nat):Int):=by rw [wrap64 (by omega) (by omega)]; rfl
   simp only [↓Sh.dn,sx,Nat.reduceBEq,reduceCtorEq,Nat.reduceEqDiff,f0,f2,f3,w3,A4a,h2,decide_true,u1,u2,i1,i2,g1,g2]
   refine ⟨_,_,A2e,?_⟩
   simp only [↓Sh.dn,sx,Nat.reduceBEq,reduceCtorEq,Nat.reduceEqDiff,f0,f2,f3,f8]
   have e1:l1[f+(2 * r+1)]?=some l1[f+(2 * r+1)]:=List.getElem?_eq_getElem j1
   have e2:l1[f+(2 * r+2)]?=some l1[f+(2 * r+1)+1]:=List.getElem?_eq_getElem j2
   refine ⟨fun hb y z hy hz=>?_,fun hb y z hy hz=>?_⟩
   ·rw [e1] at hy; rw [e2] at hz; rw [← Option.some.inj hy,← Option.some.inj hz]; exact hb
   ·rw [e1] at hy; rw [e2] at hz; rw [← Option.some.inj hy,← Option.some.inj hz]; exact hb
  ·simp only [↓Sh.dn,sx,Nat.reduceBEq,reduceCtorEq,Nat.reduceEqDiff,f0,f2,f3,f8,w3,A4a,h2,decide_false]
   try (refine fun h=>by omega)
 rintro F1 H2 ⟨rfl,x0,x2,x3,x8,x9,bb,x36,hb1,hb2⟩
 refine C3x (fun F' H3=>H3=H2∧F'.get 0=some (.slice (some ⟨g,0,some k⟩) l.length cap)∧F'.get 2=some (.int .i64 (hi:Int))∧F'.get 3=some (.int .i64 (f:Int))∧F'.get 8=some (.int .i64 (r:Int))∧
  ∃ c:Nat,F'.get 9=some (.int .i64 (c:Int))∧(c=2 * r+1∨c=2 * r+2)∧c < hi∧(∀ (q:Nat) y z,(q=2 * r+1∨q=2 * r+2)→q < hi→l1[f+c]?=some y→l1[f+q]?=some z→A4c y z=false)) rfl ?_ ?_
 ·cases bb with
  | true=>
   obtain ⟨h1,h2⟩:=hb1 rfl
   simp only [↓Sh.dn,sx,Nat.reduceBEq,reduceCtorEq,Nat.reduceEqDiff,x0,x2,x3,x8,x9,x36,w3]
   refine ⟨2 * r+2,rfl,.inr rfl,h1,fun q y z hq hqh hy hz=>?_⟩
   rcases hq with rfl | rfl
   ·exact hTO.asymm (h2 z y hz hy)
   ·rw [hy] at hz; rw [← Option.some.inj hz]; exact hTO.irrefl y
  | false=>
   simp only [↓Sh.dn,sx,Nat.reduceBEq,reduceCtorEq,Nat.reduceEqDiff,x0,x2,x3,x8,x9,x36]
   refine ⟨2 * r+1,rfl,.inl rfl,by omega,fun q y z hq hqh hy hz=>?_⟩
   rcases hq with rfl | rfl
   ·rw [hy] at hz; rw [← Option.some.inj hz]; exact hTO.irrefl y
   ·exact hb2 rfl hqh y z hy hz
 rintro F' H3 ⟨rfl,g0,g2,g3,g8,c,g9,hc,hch,hmax⟩
 have jc:f+c < l1.length:=by omega
 have ic:=A1d (g:=g) (k:=k) (cap:=cap) (m:=l.length) (i:=f+c) (j:=.i64) (by omega)
 have gc:=A8c hv1 jc
 have qc:l1[f+c]?=some l1[f+c]:=List.getElem?_eq_getElem jc
 have wfc:IntKind.wrap .i64 ((f:Int)+(c:Int))=((f+c:Nat):Int):=by rw [wrap64 (by omega) (by omega)]; rfl
 simp only [↓Sh.dn,sx,Nat.reduceBEq,reduceCtorEq,Nat.reduceEqDiff]
 refine (A4d (by kernel_rfl)).2 ?_
 simp only [↓Sh.dn,sx,Nat.reduceBEq,reduceCtorEq,Nat.reduceEqDiff,g0,g3,g8,g9,wfr,wfc,ir,ic,gr,gc]
 refine ⟨_,_,A2e,?_⟩
 cases hlt:A4c l1[f+r] l1[f+c] with
 | false=>
  simp only [↓Sh.dn,sx,Nat.reduceBEq,reduceCtorEq,Nat.reduceEqDiff,hres]
  refine ⟨l1,hm,fun q p x y h1 h2 h3 hx hy=>?_,hv1,hc1⟩
  by_cases hp:p=r
  ·subst hp
   rw [qr] at hx
   rw [← Option.some.inj hx]
   exact hTO.le_trans (hmax q _ _ h2 h3 qc hy) hlt
  ·exact hA q p x y h1 hp h2 h3 hx hy
 | true=>
  obtain ⟨K1,K2,e1,e2,e3,e4,e5⟩:=A7k hv1 hc1.wf jr jc
  simp only [↓Sh.dn,sx,Nat.reduceBEq,reduceCtorEq,Nat.reduceEqDiff]
  refine (A4d (by kernel_rfl)).2 ?_
  simp only [↓Sh.dn,sx,Nat.reduceBEq,reduceCtorEq,Nat.reduceEqDiff,g0,g3,g8,g9,wfr,wfc,ir,ic,gr,gc,A7n,e1,e2]
  refine kk (hi - c) _ _ (by omega) ⟨c,swp l1 (f+r) (f+c),rfl,by omega,by omega,hm.swap (by omega) (by omega) (by omega) (by omega),fun q p x y h1 h2 h3 h4 hx hy=>?_,fun q p x y h1 h2 h3 h4 hx hy=>?_,e3,hc1.trans e4,by simp only [↓Sh.dn,sx,Nat.reduceBEq,reduceCtorEq,Nat.reduceEqDiff,g0],by simp only [↓Sh.dn,sx,Nat.reduceBEq,reduceCtorEq,Nat.reduceEqDiff,g2],by simp only [↓Sh.dn,sx,Nat.reduceBEq,reduceCtorEq,Nat.reduceEqDiff,g3],by simp only [↓Sh.dn,sx,Nat.reduceBEq,reduceCtorEq,Nat.reduceEqDiff]⟩
  ·rw [swp_get jr jc] at hx hy
   by_cases hp:p=r
   ·subst hp
    rw [if_neg (by omega),if_pos rfl,qc] at hx
    rw [← Option.some.inj hx]
    by_cases hq:q=c
    ·subst hq
     rw [if_pos rfl,qr] at hy
     rw [← Option.some.inj hy]; exact hTO.asymm hlt
    ·rw [if_neg (by omega),if_neg (by omega)] at hy
     exact hmax q _ _ h3 h4 qc hy
   ·rw [if_neg (by omega),if_neg (by omega)] at hx
    by_cases hq:q=r
    ·subst hq
     rw [if_neg (by omega),if_pos rfl] at hy
     exact hB c p x _ h1 (by omega) hc hch hx hy
    ·by_cases hq2:q=c
     ·omega
     ·rw [if_neg (by omega),if_neg (by omega)] at hy
      exact hA q p x y h1 hp h3 h4 hx hy
  ·have hpr:p=r:=by omega
   subst hpr
   rw [swp_get jr jc] at hx hy
   rw [if_neg (by omega),if_pos rfl,qc] at hx
   rw [if_neg (by omega),if_neg (by omega)] at hy
   rw [← Option.some.inj hx]
   exact hA q c _ _ (by omega) (by omega) h3 h4 qc hy
theorem B55 {a b:Nat} (hv:A6e H g k n l) (hw:Wf H) (hl:l.length≤1048576) (hab:a < b) (hb:b≤l.length):
  Sh.Call Tryz.prog (knows 8) 169 [.slice (some ⟨g,0,some k⟩) l.length cap,.int .i64 (a:Int),.int .i64 (b:Int)] H
   (fun r H'=>∃ l',Mix a b l l'∧Srt A4c a b l'∧A6e H' g k n l'∧Chg (fun y=>y=g) H H'):=by
 refine A5a rfl Tryz.func169 rfl (Nat.le_of_ble_eq_true rfl) ?_
 have hres:Tryz.f169.results.toList=[]:=rfl
 have hTO:=intTO
 obtain ⟨hi,rfl⟩:∃ hi,b=a+hi:=⟨b - a,by omega⟩
 have w0:IntKind.wrap .i64 (((a+hi:Nat):Int) - (a:Int))=(hi:Int):=by rw [wrap64 (by omega) (by omega)]; omega
 have w1:IntKind.wrap .i64 ((hi:Int) - 1)=((hi - 1:Nat):Int):=by rw [wrap64 (by omega) (by omega)]; omega
 have hq2:(Int.tdiv ((hi - 1:Nat):Int) 2)=(((hi - 1) / 2:Nat):Int):=by rw [Int.tdiv_eq_ediv_of_nonneg (by omega)]; rfl
 have wq:IntKind.wrap .i64 (((hi - 1) / 2:Nat):Int)=(((hi - 1) / 2:Nat):Int):=wrap64 (by omega) (by omega)
 simp only [↓Sh.dn,sx,Nat.reduceBEq,reduceCtorEq,Nat.reduceEqDiff,w0,w1,B25 (show (2:Int)≠0 by decide),hq2,wq]
 refine B9r (fun F' H2 => ∃ l1 : List Int, Mix a (a + hi) l l1 ∧ A08 l1 a 0 hi ∧ A6e H2 g k n l1 ∧ Chg (fun y => y = g) H H2 ∧
     F'.get 0 = some (.slice (some ⟨g, 0, some k⟩) l.length cap) ∧ F'.get 6 = some (.int .i64 (a : Int)) ∧ F'.get 7 = some (.int .i64 0) ∧ F'.get 8 = some (.int .i64 (hi : Int))) (by rfl) ?_ ?_
 ·refine A5e (fun m F H' => ∃ l1 : List Int, m ≤ (hi - 1) / 2 + 1 ∧ Mix a (a + hi) l l1 ∧ A08 l1 a m hi ∧ A6e H' g k n l1 ∧ Chg (fun y => y = g) H H' ∧
    F.get 0 = some (.slice (some ⟨g, 0, some k⟩) l.length cap) ∧ F.get 6 = some (.int .i64 (a : Int)) ∧ F.get 7 = some (.int .i64 0) ∧ F.get 8 = some (.int .i64 (hi : Int)) ∧ F.get 9 = some (.int .i64 ((m : Int) - 1))) (m := (hi - 1) / 2 + 1)
    ⟨l, Nat.le_refl _, .refl l, fun q r x y h1 h2 h3 => by omega, hv, Chg.refl hw, by simp only [↓Sh.dn, sx, Nat.reduceBEq, reduceCtorEq, Nat.reduceEqDiff], by simp only [↓Sh.dn, sx, Nat.reduceBEq, reduceCtorEq, Nat.reduceEqDiff], by simp only [↓Sh.dn, sx, Nat.reduceBEq, reduceCtorEq, Nat.reduceEqDiff], by simp only [↓Sh.dn, sx, Nat.reduceBEq, reduceCtorEq, Nat.reduceEqDiff], by simp only [↓Sh.dn, sx, Nat.reduceBEq, reduceCtorEq, Nat.reduceEqDiff]; congr 2; omega⟩ ?_
  rintro m F H' ⟨l1, hmh, hm, hh, hv1, hc1, f0, f6, f7, f8, f9⟩ kk
  have hlen := hm.length
  cases m with
  | zero =>
    have d : decide ((0 : Int) ≤ ((0 : Nat) : Int) - 1) = false := by simp
    simp only [↓Sh.dn, sx, Nat.reduceBEq, reduceCtorEq, Nat.reduceEqDiff, f9, d, f0, f6, f7, f8]
    exact ⟨l1, hm, hh, hv1, hc1⟩
  | succ m =>
    have e9 : ((m + 1 : Nat) : Int) - 1 = (m : Int) := by omega
    rw [e9] at f9
    have d : decide ((0 : Int) ≤ (m : Int)) = true := by simp
    obtain ⟨r, H2, hd, l2, hm2, hh2, hv2, hc2⟩ := B9b (cap := cap) (lo := m) (hi := hi) (f := a) hv1 hc1.wf (by omega) (by omega) (by omega) hh
    have wm : IntKind.wrap .i64 ((m : Int) - 1) = (m : Int) - 1 := wrap64 (by omega) (by omega)
    rw [hlen] at hd
    simp only [↓Sh.dn, sx, Nat.reduceBEq, reduceCtorEq, Nat.reduceEqDiff, f9, d, f0, f6, f8]
    refine ⟨_, _, hd, ?_⟩
    simp only [↓Sh.dn, sx, Nat.reduceBEq, reduceCtorEq, Nat.reduceEqDiff, f9, wm]
    exact kk m _ _ (by omega) ⟨l2, by omega, hm.trans (hm2.wide (by omega) (Nat.le_refl _)), hh2, hv2, hc1.trans hc2, by simp only [↓Sh.dn, sx, Nat.reduceBEq, reduceCtorEq, Nat.reduceEqDiff, f0], by simp only [↓Sh.dn, sx, Nat.reduceBEq, reduceCtorEq, Nat.reduceEqDiff, f6], by simp only [↓Sh.dn, sx, Nat.reduceBEq, reduceCtorEq, Nat.reduceEqDiff, f7], by simp only [↓Sh.dn, sx, Nat.reduceBEq, reduceCtorEq, Nat.reduceEqDiff, f8], by simp only [↓Sh.dn, sx, Nat.reduceBEq, reduceCtorEq, Nat.reduceEqDiff]⟩
 rintro F1 H1 ⟨l1,hm1,hh1,hv1,hc1,f0,f6,f7,f8⟩
 have hlen1:=hm1.length
 simp only [↓Sh.dn,sx,Nat.reduceBEq,reduceCtorEq,Nat.reduceEqDiff,f8,w1]
 refine A5e (fun m F H' => ∃ l2 : List Int, m ≤ hi ∧ Mix a (a + hi) l l2 ∧ A08 l2 a 0 m ∧ (∀ (p q : Nat) x y, p < q → m ≤ q → q < hi → l2[a + p]? = some x → l2[a + q]? = some y → A4c y x = false) ∧ A6e H' g k n l2 ∧ Chg (fun y => y = g) H H' ∧
     F.get 0 = some (.slice (some ⟨g, 0, some k⟩) l.length cap) ∧ F.get 6 = some (.int .i64 (a : Int)) ∧ F.get 7 = some (.int .i64 0) ∧ F.get 10 = some (.int .i64 ((m : Int) - 1))) (m := hi)
   ⟨l1, Nat.le_refl _, hm1, hh1, fun p q x y h1 h2 h3 => by omega, hv1, hc1, by simp only [↓Sh.dn, sx, Nat.reduceBEq, reduceCtorEq, Nat.reduceEqDiff, f0], by simp only [↓Sh.dn, sx, Nat.reduceBEq, reduceCtorEq, Nat.reduceEqDiff, f6], by simp only [↓Sh.dn, sx, Nat.reduceBEq, reduceCtorEq, Nat.reduceEqDiff, f7], by simp only [↓Sh.dn, sx, Nat.reduceBEq, reduceCtorEq, Nat.reduceEqDiff]; congr 2; omega⟩ ?_
 rintro m F H' ⟨l2,hmh,hm,hh,hT,hv2,hc2,f0,f6,f7,f10⟩ kk
 have hlen:=hm.length
 cases m with
 | zero=>
  have d:decide ((0:Int)≤((0:Nat):Int) - 1)=false:=by simp
  simp only [↓Sh.dn,sx,Nat.reduceBEq,reduceCtorEq,Nat.reduceEqDiff,f10,d,hres]
  refine ⟨l2,hm,fun i j x y h1 h2 h3 hx hy=>?_,hv2,hc2⟩
  by_cases hij:i=j
  ·subst hij
   rw [hx] at hy
   rw [← Option.some.inj hy]; exact hTO.irrefl x
  ·exact hT (i - a) (j - a) x y (by omega) (Nat.zero_le _) (by omega) (by rw [show a+(i - a)=i by omega]; exact hx) (by rw [show a+(j - a)=j by omega]; exact hy)
 | succ m=>
  have e10:((m+1:Nat):Int) - 1=(m:Int):=by omega
  rw [e10] at f10
  have d:decide ((0:Int)≤(m:Int))=true:=by simp
  have ja:a < l2.length:=by omega
  have jm:a+m < l2.length:=by omega
  have i1:=A1d (g:=g) (k:=k) (cap:=cap) (m:=l.length) (i:=a) (j:=.i64) (by omega)
  have i2:=A1d (g:=g) (k:=k) (cap:=cap) (m:=l.length) (i:=a+m) (j:=.i64) (by omega)
  have g1:=A8c hv2 ja
  have g2:=A8c hv2 jm
  have wam:IntKind.wrap .i64 ((a:Int)+(m:Int))=((a+m:Nat):Int):=by rw [wrap64 (by omega) (by omega)]; rfl
  have wm:IntKind.wrap .i64 ((m:Int) - 1)=(m:Int) - 1:=wrap64 (by omega) (by omega)
  obtain ⟨K1,K2,e1,e2,e3,e4,e5⟩:=A7k hv2 hc2.wf ja jm
  have hsw:Mix a (a+(m+1)) l2 (swp l2 a (a+m)):=(Mix.refl l2).swap (by omega) (by omega) (by omega) (by omega)
  obtain ⟨r,H3,hd,l3,hm3,hh3,hv3,hc3⟩:=B9b (cap:=cap) (lo:=0) (hi:=m) (f:=a) e3 e4.wf (by rw [A5z]; omega) (by omega) (by rw [A5z]; omega) (fun q p x y h1 h2 h3 hx hy=>by
   rw [swp_get ja jm,if_neg (by omega),if_neg (by omega)] at hx hy
   exact hh q p x y (Nat.zero_le _) h2 (by omega) hx hy)
  rw [A5z,hlen] at hd
  have hmix:Mix a (a+(m+1)) l2 l3:=hsw.trans (hm3.wide (by omega) (by omega))
  have hl3:=hmix.length
  simp only [↓Sh.dn,sx,Nat.reduceBEq,reduceCtorEq,Nat.reduceEqDiff,f10,d]
  refine (A4d (by kernel_rfl)).2 ?_
  simp only [↓Sh.dn,sx,Nat.reduceBEq,reduceCtorEq,Nat.reduceEqDiff,f0,f6,f7,f10,wam,i1,i2,g1,g2,A7n,e1,e2]
  refine ⟨_,_,hd,?_⟩
  simp only [↓Sh.dn,sx,Nat.reduceBEq,reduceCtorEq,Nat.reduceEqDiff,f10,wm]
  have qa:l2[a]?=some l2[a]:=List.getElem?_eq_getElem ja
  refine kk m _ _ (by omega) ⟨l3,by omega,hm.trans (hmix.wide (Nat.le_refl _) (by omega)),hh3,fun p q x y h1 h2 h3 hx hy=>?_,hv3,(hc2.trans e4).trans hc3,by simp only [↓Sh.dn,sx,Nat.reduceBEq,reduceCtorEq,Nat.reduceEqDiff,f0],by simp only [↓Sh.dn,sx,Nat.reduceBEq,reduceCtorEq,Nat.reduceEqDiff,f6],by simp only [↓Sh.dn,sx,Nat.reduceBEq,reduceCtorEq,Nat.reduceEqDiff,f7],by simp only [↓Sh.dn,sx,Nat.reduceBEq,reduceCtorEq,Nat.reduceEqDiff]⟩
  by_cases hq:q=m
  ·subst hq
   have hy':l3[a+q]?=some l2[a]:=by
    rw [hm3.out (.inr (by omega)),swp_get ja jm,if_pos rfl,qa]
   rw [hy'] at hy
   rw [← Option.some.inj hy]
   refine hmix.all (p:=fun x=>A4c l2[a] x=false) (by omega) (fun i z hi1 hi2 hz=>?_) (a+p) x (by omega) (by omega) hx
   exact C8j hh (by omega) (i - a) _ _ (by omega) qa (by rw [show a+(i - a)=i by omega]; exact hz)
  ·have hyq:l2[a+q]?=some y:=by rw [← hmix.out (.inr (by omega))]; exact hy
   by_cases hp:p≤m
   ·refine hmix.all (p:=fun x=>A4c y x=false) (by omega) (fun i z hi1 hi2 hz=>?_) (a+p) x (by omega) (by omega) hx
    exact hT (i - a) q z y (by omega) (by omega) h3 (by rw [show a+(i - a)=i by omega]; exact hz) hyq
   ·have hxp:l2[a+p]?=some x:=by rw [← hmix.out (.inr (by omega))]; exact hx
    exact hT p q x y h1 (by omega) h3 hxp hyq
end
end Go.Proofs.YtnoengaghabmjaaGreatDoor
/- partitionOrdered, partitionEqualOrdered. -/
namespace Go.Proofs.YtnoengaghabmjaaGreatDoor
open Go Go.Proofs Go.Proofs.Sh
section
variable {H:AH} {g k n cap a b:Nat} {l:List Int}
theorem B6w {p:Nat} (hv:A6e H g k n l) (hw:Wf H) (hl:l.length≤1048576) (hap:a≤p) (hpb:p < b) (hb:b≤l.length):
  Sh.Call Tryz.prog (knows 8) 176 [.slice (some ⟨g,0,some k⟩) l.length cap,.int .i64 (a:Int),.int .i64 (b:Int),.int .i64 (p:Int)] H
   (fun r H'=>∃ (m:Nat) (al:Bool),r=.tuple #[.int .i64 (m:Int),.bool al]∧a≤m∧m < b∧∃ l':List Int,Mix a b l l'∧∃ y,l'[m]?=some y∧(∀ (q:Nat) x,a≤q→q < m→l'[q]?=some x→A4c x y=true)∧(∀ (q:Nat) x,m < q→q < b→l'[q]?=some x→A4c x y=false)∧A6e H' g k n l'∧Chg (fun y=>y=g) H H'):=by
 refine A5a rfl Tryz.func176 rfl (Nat.le_of_ble_eq_true rfl) ?_
 have hTO:=intTO
 have ja:a < l.length:=by omega
 have jp:p < l.length:=by omega
 have ia:=A1d (g:=g) (k:=k) (cap:=cap) (m:=l.length) (i:=a) (j:=.i64) ja
 have ip:=A1d (g:=g) (k:=k) (cap:=cap) (m:=l.length) (i:=p) (j:=.i64) jp
 have xa:=A8c hv ja
 have xp:=A8c hv jp
 have wa:IntKind.wrap .i64 ((a:Int)+1)=((a+1:Nat):Int):=by rw [wrap64 (by omega) (by omega)]; rfl
 have wb:IntKind.wrap .i64 ((b:Int) - 1)=((b - 1:Nat):Int):=by rw [wrap64 (by omega) (by omega)]; omega
 obtain ⟨K1,H1,e1,e2,hv1,hc1,e5⟩:=A7k hv hw ja jp
 have hm1:Mix a b l (swp l a p):=(Mix.refl l).swap (by omega) (by omega) (by omega) (by omega)
 simp only [↓Sh.dn,sx,Nat.reduceBEq,reduceCtorEq,Nat.reduceEqDiff]
 refine (A4d (by kernel_rfl)).2 ?_
 simp only [↓Sh.dn,sx,Nat.reduceBEq,reduceCtorEq,Nat.reduceEqDiff,ia,ip,xa,xp,A7n,e1,e2,wa,wb]
 have hpa:(swp l a p)[a]?=some l[p]:=by
  rw [swp_get ja jp]
  by_cases h:a=p
  ·rw [if_pos h,List.getElem?_eq_getElem ja]; simp only [h]
  ·rw [if_neg h,if_pos rfl]; exact List.getElem?_eq_getElem jp
 generalize l[p]=pv at hpa xp e1
 generalize hL0:swp l a p=l1 at hpa hm1 hv1
 have hlen:=hm1.length
 have xa:H1.cell ⟨g,a,some k⟩=some (Value.int .i64 pv):=hv1.cell (by simp [hpa])
 have hres:Tryz.f176.results.toList=[.tmp 8,.tmp 9]:=rfl
 have last : ∀ (l1 : List Int) (H' : AH) (i j : Nat), Mix a b l l1 → l1[a]? = some pv → a ≤ j → j < b → (∀ (q : Nat) x, a + 1 ≤ q → q ≤ j → l1[q]? = some x → A4c x pv = true) → (∀ (q : Nat) x, j < q → q < b → l1[q]? = some x → A4c x pv = false) →
     Mix a b l (swp l1 j a) ∧ (swp l1 j a)[j]? = some pv ∧ (∀ (q : Nat) x, a ≤ q → q < j → (swp l1 j a)[q]? = some x → A4c x pv = true) ∧ (∀ (q : Nat) x, j < q → q < b → (swp l1 j a)[q]? = some x → A4c x pv = false) := by
   intro l1 H' i j hm hp hj hjb h1 h2
   have hlen := hm.length
   have jj : j < l1.length := by omega
   have ja : a < l1.length := by omega
   refine ⟨hm.swap (by omega) (by omega) (by omega) (by omega), ?_, fun q x hq1 hq2 hx => ?_, fun q x hq1 hq2 hx => ?_⟩
   · rw [swp_get jj ja]
     by_cases h : j = a
     · rw [if_pos h, h]; exact hp
     · rw [if_neg h, if_pos rfl]; exact hp
   · rw [swp_get jj ja] at hx
     by_cases h : q = a
     · rw [if_pos h] at hx; exact h1 j x (by omega) (Nat.le_refl _) hx
     · rw [if_neg h, if_neg (by omega)] at hx; exact h1 q x (by omega) (by omega) hx
   · rw [swp_get jj ja, if_neg (by omega), if_neg (by omega)] at hx
     exact h2 q x hq1 hq2 hx
 obtain ⟨MF1,hMF1⟩:∃ M:Fr→AH→Prop,M=fun F' H9=>H1=H9∧∃ v:Nat,F'.get 0=some (.slice (some ⟨g,0,some k⟩) l.length cap)∧F'.get 1=some (.int .i64 (a:Int))∧F'.get 10=some (.int .i64 ((v:Nat):Int))∧F'.get 11=some (.int .i64 (((b - 1):Nat):Int))∧(a+1)≤v∧v≤(b - 1)+1∧(∀ (q:Nat) x,(a+1)≤q→q < v→l1[q]?=some x→A4c x pv=true)∧(v≤(b - 1)→∀ x,l1[v]?=some x→A4c x pv=false):=⟨_,rfl⟩
 refine B9r MF1 (by rfl) ?_ ?_
 ·refine A5e (fun m F' H9 => H1 = H9 ∧ ∃ v : Nat, m = (b - 1) + 1 - v ∧ F'.get 0 = some (.slice (some ⟨g, 0, some k⟩) l.length cap) ∧ F'.get 1 = some (.int .i64 (a : Int)) ∧ F'.get 10 = some (.int .i64 ((v : Nat) : Int)) ∧ F'.get 11 = some (.int .i64 (((b - 1) : Nat) : Int)) ∧ (a + 1) ≤ v ∧ v ≤ (b - 1) + 1 ∧ (∀ (q : Nat) x, (a + 1) ≤ q → q < v → l1[q]? = some x → A4c x pv = true)) (m := (b - 1) + 1 - (a + 1))
    ⟨rfl, (a + 1), rfl, by simp only [↓Sh.dn, sx, Nat.reduceBEq, reduceCtorEq, Nat.reduceEqDiff, true_and], by simp only [↓Sh.dn, sx, Nat.reduceBEq, reduceCtorEq, Nat.reduceEqDiff, true_and], by simp only [↓Sh.dn, sx, Nat.reduceBEq, reduceCtorEq, Nat.reduceEqDiff, true_and], by simp only [↓Sh.dn, sx, Nat.reduceBEq, reduceCtorEq, Nat.reduceEqDiff, true_and], by omega, by omega, fun q x h1 h2 => by omega⟩ ?_
  rintro m F' H9 ⟨rfl, v, rfl, g0, g1, gi, gj, h1, h2, h3⟩ k2
  simp only [↓Sh.dn, sx, Nat.reduceBEq, reduceCtorEq, Nat.reduceEqDiff]
  refine (A4d (by kernel_rfl)).2 ?_
  by_cases hle : v ≤ (b - 1)
  · have jv : v < l1.length := by omega
    have iv := A1d (g := g) (k := k) (cap := cap) (m := l.length) (i := v) (j := .i64) (by omega)
    have xv := A8c hv1 jv
    have qv : l1[v]? = some l1[v] := List.getElem?_eq_getElem jv
    have wv : IntKind.wrap .i64 ((v : Int) + 1) = ((v + 1 : Nat) : Int) := by rw [wrap64 (by omega) (by omega)]; rfl
    simp only [↓Sh.dn, sx, Nat.reduceBEq, reduceCtorEq, Nat.reduceEqDiff, g0, g1, gi, gj, A0x, hle, decide_true, iv, ia, xv, xa]
    refine ⟨_, _, A2e, ?_⟩
    cases hlt : A4c l1[v] pv with
    | true =>
      simp only [↓Sh.dn, sx, Nat.reduceBEq, reduceCtorEq, Nat.reduceEqDiff, g0, g1, gi, gj, wv]
      refine k2 ((b - 1) + 1 - (v + 1)) _ _ (by omega) ⟨rfl, v + 1, rfl, by simp only [↓Sh.dn, sx, Nat.reduceBEq, reduceCtorEq, Nat.reduceEqDiff, g0], by simp only [↓Sh.dn, sx, Nat.reduceBEq, reduceCtorEq, Nat.reduceEqDiff, g1], by simp only [↓Sh.dn, sx, Nat.reduceBEq, reduceCtorEq, Nat.reduceEqDiff, gi], by simp only [↓Sh.dn, sx, Nat.reduceBEq, reduceCtorEq, Nat.reduceEqDiff, gj], by omega, by omega, fun q x hq1 hq2 hx => ?_⟩
      · by_cases hq : q = v
        · subst hq; rw [qv] at hx; rw [← Option.some.inj hx]; exact hlt
        · exact h3 q x (by omega) (by omega) hx
    | false =>
      simp only [↓Sh.dn, sx, Nat.reduceBEq, reduceCtorEq, Nat.reduceEqDiff, hMF1, g0, g1, gi, gj]
      exact ⟨v, rfl, h1, h2, h3, fun _ x hx => by rw [qv] at hx; rw [← Option.some.inj hx]; exact hlt⟩
  · simp only [↓Sh.dn, sx, Nat.reduceBEq, reduceCtorEq, Nat.reduceEqDiff, hMF1, g0, g1, gi, gj, A0x, hle, decide_false]
    exact ⟨v, rfl, h1, h2, h3, fun h => absurd h hle⟩
 intro F1 H9 h9
 rw [hMF1] at h9
 obtain ⟨rfl,i1,u0,u1,ui,uj,u5,u6,u7,u8⟩:=h9
 simp only [↓Sh.dn,sx,Nat.reduceBEq,reduceCtorEq,Nat.reduceEqDiff]
 obtain ⟨MF2,hMF2⟩:∃ M:Fr→AH→Prop,M=fun F' H9=>H1=H9∧∃ v:Nat,F'.get 0=some (.slice (some ⟨g,0,some k⟩) l.length cap)∧F'.get 1=some (.int .i64 (a:Int))∧F'.get 10=some (.int .i64 ((i1:Nat):Int))∧F'.get 11=some (.int .i64 ((v:Nat):Int))∧i1≤v+1∧v≤(b - 1)∧(∀ (q:Nat) x,v < q→q≤(b - 1)→l1[q]?=some x→A4c x pv=false)∧(i1≤v→∀ x,l1[v]?=some x→A4c x pv=true):=⟨_,rfl⟩
 refine B9r MF2 (by rfl) ?_ ?_
 ·refine A5e (fun m F' H9 => H1 = H9 ∧ ∃ v : Nat, m = v ∧ F'.get 0 = some (.slice (some ⟨g, 0, some k⟩) l.length cap) ∧ F'.get 1 = some (.int .i64 (a : Int)) ∧ F'.get 10 = some (.int .i64 ((i1 : Nat) : Int)) ∧ F'.get 11 = some (.int .i64 ((v : Nat) : Int)) ∧ i1 ≤ v + 1 ∧ v ≤ (b - 1) ∧ (∀ (q : Nat) x, v < q → q ≤ (b - 1) → l1[q]? = some x → A4c x pv = false)) (m := (b - 1))
    ⟨rfl, (b - 1), rfl, by simp only [↓Sh.dn, sx, Nat.reduceBEq, reduceCtorEq, Nat.reduceEqDiff, u0], by simp only [↓Sh.dn, sx, Nat.reduceBEq, reduceCtorEq, Nat.reduceEqDiff, u1], by simp only [↓Sh.dn, sx, Nat.reduceBEq, reduceCtorEq, Nat.reduceEqDiff, ui], by simp only [↓Sh.dn, sx, Nat.reduceBEq, reduceCtorEq, Nat.reduceEqDiff, uj], by omega, by omega, fun q x h1 h2 => by omega⟩ ?_
  rintro v F' H9 ⟨rfl, _, rfl, g0, g1, gi, gj, h1, h2, h3⟩ k2
  simp only [↓Sh.dn, sx, Nat.reduceBEq, reduceCtorEq, Nat.reduceEqDiff]
  refine (A4d (by kernel_rfl)).2 ?_
  by_cases hle : i1 ≤ v
  · have jv : v < l1.length := by omega
    have iv := A1d (g := g) (k := k) (cap := cap) (m := l.length) (i := v) (j := .i64) (by omega)
    have xv := A8c hv1 jv
    have qv : l1[v]? = some l1[v] := List.getElem?_eq_getElem jv
    have wv : IntKind.wrap .i64 ((v : Int) - 1) = ((v - 1 : Nat) : Int) := by rw [wrap64 (by omega) (by omega)]; omega
    simp only [↓Sh.dn, sx, Nat.reduceBEq, reduceCtorEq, Nat.reduceEqDiff, g0, g1, gi, gj, A0x, hle, decide_true, iv, ia, xv, xa]
    refine ⟨_, _, A2e, ?_⟩
    cases hlt : A4c l1[v] pv with
    | false =>
      simp only [↓Sh.dn, sx, Nat.reduceBEq, reduceCtorEq, Nat.reduceEqDiff, g0, g1, gi, gj, wv]
      refine k2 ((v - 1)) _ _ (by omega) ⟨rfl, v - 1, rfl, by simp only [↓Sh.dn, sx, Nat.reduceBEq, reduceCtorEq, Nat.reduceEqDiff, g0], by simp only [↓Sh.dn, sx, Nat.reduceBEq, reduceCtorEq, Nat.reduceEqDiff, g1], by simp only [↓Sh.dn, sx, Nat.reduceBEq, reduceCtorEq, Nat.reduceEqDiff, gi], by simp only [↓Sh.dn, sx, Nat.reduceBEq, reduceCtorEq, Nat.reduceEqDiff, gj], by omega, by omega, fun q x hq1 hq2 hx => ?_⟩
      · by_cases hq : q = v
        · subst hq; rw [qv] at hx; rw [← Option.some.inj hx]; exact hlt
        · exact h3 q x (by omega) (by omega) hx
    | true =>
      simp only [↓Sh.dn, sx, Nat.reduceBEq, reduceCtorEq, Nat.reduceEqDiff, hMF2, g0, g1, gi, gj]
      exact ⟨v, rfl, h1, h2, h3, fun _ x hx => by rw [qv] at hx; rw [← Option.some.inj hx]; exact hlt⟩
  · simp only [↓Sh.dn, sx, Nat.reduceBEq, reduceCtorEq, Nat.reduceEqDiff, hMF2, g0, g1, gi, gj, A0x, hle, decide_false]
    exact ⟨v, rfl, h1, h2, h3, fun h => absurd h hle⟩
 intro F2 H9 h9
 rw [hMF2] at h9
 obtain ⟨rfl,j1,w0,w1,wi,wj,w5,w6,w7,w8⟩:=h9
 simp only [↓Sh.dn,sx,Nat.reduceBEq,reduceCtorEq,Nat.reduceEqDiff,wi,wj,A4a]
 by_cases hgt:j1 < i1
 ·have jj:j1 < l1.length:=by omega
  have ja1:a < l1.length:=by omega
  have ij:=A1d (g:=g) (k:=k) (cap:=cap) (m:=l.length) (i:=j1) (j:=.i64) (by omega)
  have xj:=A8c hv1 jj
  have xa':=A8c hv1 ja1
  obtain ⟨L1,L2,d1,d2,hv2,hc2,d5⟩:=A7k hv1 hc1.wf jj ja1
  obtain ⟨p1,p2,p3,p4⟩:=last l1 H1 i1 j1 hm1 hpa (by omega) (by omega) (fun q x h1 h2 hx=>u7 q x h1 (by omega) hx) (fun q x h1 h2 hx=>w7 q x h1 (by omega) hx)
  simp only [↓Sh.dn,sx,Nat.reduceBEq,reduceCtorEq,Nat.reduceEqDiff,hgt,decide_true]
  refine (A4d (by kernel_rfl)).2 ?_
  simp only [↓Sh.dn,sx,Nat.reduceBEq,reduceCtorEq,Nat.reduceEqDiff,w0,w1,wi,wj,ij,ia,xj,xa',A7n,d1,d2,hres]
  exact ⟨j1,_,rfl,by omega,by omega,swp l1 j1 a,p1,pv,p2,p3,p4,hv2,hc1.trans hc2⟩
 simp only [↓Sh.dn,sx,Nat.reduceBEq,reduceCtorEq,Nat.reduceEqDiff,hgt,decide_false]
 have hij:i1 < j1:=by
  by_cases h:i1=j1
  ·have h1:=u8 (by omega)
   have h2:=w8 (by omega)
   obtain ⟨x,hx⟩:∃ x,l1[i1]?=some x:=⟨_,List.getElem?_eq_getElem (by omega)⟩
   have a1:=h1 x hx
   have a2:=h2 x (by rw [← h]; exact hx)
   rw [a1] at a2; cases a2
  ·omega
 have ji1:i1 < l1.length:=by omega
 have jj1:j1 < l1.length:=by omega
 have ii:=A1d (g:=g) (k:=k) (cap:=cap) (m:=l.length) (i:=i1) (j:=.i64) (by omega)
 have ij:=A1d (g:=g) (k:=k) (cap:=cap) (m:=l.length) (i:=j1) (j:=.i64) (by omega)
 have xi:=A8c hv1 ji1
 have xj:=A8c hv1 jj1
 have yi:IntKind.wrap .i64 ((i1:Int)+1)=((i1+1:Nat):Int):=by rw [wrap64 (by omega) (by omega)]; rfl
 have yj:IntKind.wrap .i64 ((j1:Int) - 1)=((j1 - 1:Nat):Int):=by rw [wrap64 (by omega) (by omega)]; omega
 obtain ⟨L1,L2,d1,d2,hv2,hc2,d5⟩:=A7k hv1 hc1.wf ji1 jj1
 refine (A4d (by kernel_rfl)).2 ?_
 simp only [↓Sh.dn,sx,Nat.reduceBEq,reduceCtorEq,Nat.reduceEqDiff,w0,w1,wi,wj,ii,ij,xi,xj,A7n,d1,d2,yi,yj]
 have pair : ∀ (l1 : List Int) (i0 i1 j0 j1 : Nat), l1.length = l.length → l1[a]? = some pv → a + 1 ≤ i0 → i0 ≤ i1 → i1 < j1 → j1 ≤ j0 → j0 < b → (∀ (q : Nat) x, a + 1 ≤ q → q < i1 → l1[q]? = some x → A4c x pv = true) → (∀ (q : Nat) x, j1 < q → q < b → l1[q]? = some x → A4c x pv = false) →
     (∀ x, l1[i1]? = some x → A4c x pv = false) → (∀ x, l1[j1]? = some x → A4c x pv = true) → (swp l1 i1 j1)[a]? = some pv ∧ (∀ (q : Nat) x, a + 1 ≤ q → q < i1 + 1 → (swp l1 i1 j1)[q]? = some x → A4c x pv = true) ∧ (∀ (q : Nat) x, j1 - 1 < q → q < b → (swp l1 i1 j1)[q]? = some x → A4c x pv = false) := by
   intro l1 i0 i1 j0 j1 hlen hp h1 h2 h3 h4 h5 hA hB hi hj
   have ji : i1 < l1.length := by omega
   have jj : j1 < l1.length := by omega
   refine ⟨by rw [swp_get ji jj, if_neg (by omega), if_neg (by omega)]; exact hp, fun q x hq1 hq2 hx => ?_, fun q x hq1 hq2 hx => ?_⟩
   · rw [swp_get ji jj, if_neg (by omega)] at hx
     by_cases h : q = i1
     · rw [if_pos h] at hx; exact hj x hx
     · rw [if_neg h] at hx; exact hA q x hq1 (by omega) hx
   · rw [swp_get ji jj] at hx
     by_cases h : q = j1
     · rw [if_pos h] at hx; exact hi x hx
     · rw [if_neg h, if_neg (by omega)] at hx; exact hB q x (by omega) hq2 hx
 obtain ⟨s1,s2,s3⟩:=pair l1 (a+1) i1 (b - 1) j1 (by omega) hpa (Nat.le_refl _) (by omega) hij (by omega) (by omega) u7 (fun q x h1 h2 hx=>w7 q x h1 (by omega) hx) (u8 (by omega)) (w8 (by omega))
 refine A5e (fun m F' H2 => ∃ (i j : Nat) (l1 : List Int), m = j + 1 - i ∧ a + 1 ≤ i ∧ i ≤ j + 1 ∧ j < b ∧ Mix a b l l1 ∧ l1[a]? = some pv ∧ (∀ (q : Nat) x, a + 1 ≤ q → q < i → l1[q]? = some x → A4c x pv = true) ∧ (∀ (q : Nat) x, j < q → q < b → l1[q]? = some x → A4c x pv = false) ∧ A6e H2 g k n l1 ∧ Chg (fun y => y = g) H H2 ∧
     F'.get 0 = some (.slice (some ⟨g, 0, some k⟩) l.length cap) ∧ F'.get 1 = some (.int .i64 (a : Int)) ∧ F'.get 10 = some (.int .i64 ((i : Nat) : Int)) ∧ F'.get 11 = some (.int .i64 ((j : Nat) : Int))) (m := j1 - 1 + 1 - (i1 + 1))
   ⟨i1 + 1, j1 - 1, swp l1 i1 j1, rfl, by omega, by omega, by omega, hm1.swap (by omega) (by omega) (by omega) (by omega), s1, s2, s3, hv2, hc1.trans hc2, by simp only [↓Sh.dn, sx, Nat.reduceBEq, reduceCtorEq, Nat.reduceEqDiff, w0], by simp only [↓Sh.dn, sx, Nat.reduceBEq, reduceCtorEq, Nat.reduceEqDiff, w1], by simp only [↓Sh.dn, sx, Nat.reduceBEq, reduceCtorEq, Nat.reduceEqDiff], by simp only [↓Sh.dn, sx, Nat.reduceBEq, reduceCtorEq, Nat.reduceEqDiff]⟩ ?_
 clear xa xi xj hpa hm1 hv1 hlen ji1 jj1 s1 s2 s3 hv2 d1 d2 u7 u8 w7 w8
 clear hL0
 rintro m F H2 ⟨i0,j0,l1,rfl,hi0,hij0,hj0,hm1,hpa,hA,hB,hv1,hc1,f0,f1,fi,fj⟩ kk
 have hlen:=hm1.length
 have xa:H2.cell ⟨g,a,some k⟩=some (Value.int .i64 pv):=hv1.cell (by simp [hpa])
 simp only [↓Sh.dn,sx,Nat.reduceBEq,reduceCtorEq,Nat.reduceEqDiff]
 obtain ⟨MF3,hMF3⟩:∃ M:Fr→AH→Prop,M=fun F' H9=>H2=H9∧∃ v:Nat,F'.get 0=some (.slice (some ⟨g,0,some k⟩) l.length cap)∧F'.get 1=some (.int .i64 (a:Int))∧F'.get 10=some (.int .i64 ((v:Nat):Int))∧F'.get 11=some (.int .i64 ((j0:Nat):Int))∧i0≤v∧v≤j0+1∧(∀ (q:Nat) x,i0≤q→q < v→l1[q]?=some x→A4c x pv=true)∧(v≤j0→∀ x,l1[v]?=some x→A4c x pv=false):=⟨_,rfl⟩
 refine B9r MF3 (by rfl) ?_ ?_
 ·refine A5e (fun m F' H9 => H2 = H9 ∧ ∃ v : Nat, m = j0 + 1 - v ∧ F'.get 0 = some (.slice (some ⟨g, 0, some k⟩) l.length cap) ∧ F'.get 1 = some (.int .i64 (a : Int)) ∧ F'.get 10 = some (.int .i64 ((v : Nat) : Int)) ∧ F'.get 11 = some (.int .i64 ((j0 : Nat) : Int)) ∧ i0 ≤ v ∧ v ≤ j0 + 1 ∧ (∀ (q : Nat) x, i0 ≤ q → q < v → l1[q]? = some x → A4c x pv = true)) (m := j0 + 1 - i0)
    ⟨rfl, i0, rfl, by simp only [↓Sh.dn, sx, Nat.reduceBEq, reduceCtorEq, Nat.reduceEqDiff, f0], by simp only [↓Sh.dn, sx, Nat.reduceBEq, reduceCtorEq, Nat.reduceEqDiff, f1], by simp only [↓Sh.dn, sx, Nat.reduceBEq, reduceCtorEq, Nat.reduceEqDiff, fi], by simp only [↓Sh.dn, sx, Nat.reduceBEq, reduceCtorEq, Nat.reduceEqDiff, fj], by omega, by omega, fun q x h1 h2 => by omega⟩ ?_
  rintro m F' H9 ⟨rfl, v, rfl, g0, g1, gi, gj, h1, h2, h3⟩ k2
  simp only [↓Sh.dn, sx, Nat.reduceBEq, reduceCtorEq, Nat.reduceEqDiff]
  refine (A4d (by kernel_rfl)).2 ?_
  by_cases hle : v ≤ j0
  · have jv : v < l1.length := by omega
    have iv := A1d (g := g) (k := k) (cap := cap) (m := l.length) (i := v) (j := .i64) (by omega)
    have xv := A8c hv1 jv
    have qv : l1[v]? = some l1[v] := List.getElem?_eq_getElem jv
    have wv : IntKind.wrap .i64 ((v : Int) + 1) = ((v + 1 : Nat) : Int) := by rw [wrap64 (by omega) (by omega)]; rfl
    simp only [↓Sh.dn, sx, Nat.reduceBEq, reduceCtorEq, Nat.reduceEqDiff, g0, g1, gi, gj, A0x, hle, decide_true, iv, ia, xv, xa]
    refine ⟨_, _, A2e, ?_⟩
    cases hlt : A4c l1[v] pv with
    | true =>
      simp only [↓Sh.dn, sx, Nat.reduceBEq, reduceCtorEq, Nat.reduceEqDiff, g0, g1, gi, gj, wv]
      refine k2 (j0 + 1 - (v + 1)) _ _ (by omega) ⟨rfl, v + 1, rfl, by simp only [↓Sh.dn, sx, Nat.reduceBEq, reduceCtorEq, Nat.reduceEqDiff, g0], by simp only [↓Sh.dn, sx, Nat.reduceBEq, reduceCtorEq, Nat.reduceEqDiff, g1], by simp only [↓Sh.dn, sx, Nat.reduceBEq, reduceCtorEq, Nat.reduceEqDiff, gi], by simp only [↓Sh.dn, sx, Nat.reduceBEq, reduceCtorEq, Nat.reduceEqDiff, gj], by omega, by omega, fun q x hq1 hq2 hx => ?_⟩
      · by_cases hq : q = v
        · subst hq; rw [qv] at hx; rw [← Option.some.inj hx]; exact hlt
        · exact h3 q x (by omega) (by omega) hx
    | false =>
      simp only [↓Sh.dn, sx, Nat.reduceBEq, reduceCtorEq, Nat.reduceEqDiff, hMF3, g0, g1, gi, gj]
      exact ⟨v, rfl, h1, h2, h3, fun _ x hx => by rw [qv] at hx; rw [← Option.some.inj hx]; exact hlt⟩
  · simp only [↓Sh.dn, sx, Nat.reduceBEq, reduceCtorEq, Nat.reduceEqDiff, hMF3, g0, g1, gi, gj, A0x, hle, decide_false]
    exact ⟨v, rfl, h1, h2, h3, fun h => absurd h hle⟩
 intro F3 H9 h9
 rw [hMF3] at h9
 obtain ⟨rfl,i2,u0,u1,ui,uj,u5,u6,u7,u8⟩:=h9
 simp only [↓Sh.dn,sx,Nat.reduceBEq,reduceCtorEq,Nat.reduceEqDiff]
 obtain ⟨MF4,hMF4⟩:∃ M:Fr→AH→Prop,M=fun F' H9=>H2=H9∧∃ v:Nat,F'.get 0=some (.slice (some ⟨g,0,some k⟩) l.length cap)∧F'.get 1=some (.int .i64 (a:Int))∧F'.get 10=some (.int .i64 ((i2:Nat):Int))∧F'.get 11=some (.int .i64 ((v:Nat):Int))∧i2≤v+1∧v≤j0∧(∀ (q:Nat) x,v < q→q≤j0→l1[q]?=some x→A4c x pv=false)∧(i2≤v→∀ x,l1[v]?=some x→A4c x pv=true):=⟨_,rfl⟩
 refine B9r MF4 (by rfl) ?_ ?_
 ·refine A5e (fun m F' H9 => H2 = H9 ∧ ∃ v : Nat, m = v ∧ F'.get 0 = some (.slice (some ⟨g, 0, some k⟩) l.length cap) ∧ F'.get 1 = some (.int .i64 (a : Int)) ∧ F'.get 10 = some (.int .i64 ((i2 : Nat) : Int)) ∧ F'.get 11 = some (.int .i64 ((v : Nat) : Int)) ∧ i2 ≤ v + 1 ∧ v ≤ j0 ∧ (∀ (q : Nat) x, v < q → q ≤ j0 → l1[q]? = some x → A4c x pv = false)) (m := j0)
    ⟨rfl, j0, rfl, by simp only [↓Sh.dn, sx, Nat.reduceBEq, reduceCtorEq, Nat.reduceEqDiff, u0], by simp only [↓Sh.dn, sx, Nat.reduceBEq, reduceCtorEq, Nat.reduceEqDiff, u1], by simp only [↓Sh.dn, sx, Nat.reduceBEq, reduceCtorEq, Nat.reduceEqDiff, ui], by simp only [↓Sh.dn, sx, Nat.reduceBEq, reduceCtorEq, Nat.reduceEqDiff, uj], by omega, by omega, fun q x h1 h2 => by omega⟩ ?_
  rintro v F' H9 ⟨rfl, _, rfl, g0, g1, gi, gj, h1, h2, h3⟩ k2
  simp only [↓Sh.dn, sx, Nat.reduceBEq, reduceCtorEq, Nat.reduceEqDiff]
  refine (A4d (by kernel_rfl)).2 ?_
  by_cases hle : i2 ≤ v
  · have jv : v < l1.length := by omega
    have iv := A1d (g := g) (k := k) (cap := cap) (m := l.length) (i := v) (j := .i64) (by omega)
    have xv := A8c hv1 jv
    have qv : l1[v]? = some l1[v] := List.getElem?_eq_getElem jv
    have wv : IntKind.wrap .i64 ((v : Int) - 1) = ((v - 1 : Nat) : Int) := by rw [wrap64 (by omega) (by omega)]; omega
    simp only [↓Sh.dn, sx, Nat.reduceBEq, reduceCtorEq, Nat.reduceEqDiff, g0, g1, gi, gj, A0x, hle, decide_true, iv, ia, xv, xa]
    refine ⟨_, _, A2e, ?_⟩
    cases hlt : A4c l1[v] pv with
    | false =>
      simp only [↓Sh.dn, sx, Nat.reduceBEq, reduceCtorEq, Nat.reduceEqDiff, g0, g1, gi, gj, wv]
      refine k2 ((v - 1)) _ _ (by omega) ⟨rfl, v - 1, rfl, by simp only [↓Sh.dn, sx, Nat.reduceBEq, reduceCtorEq, Nat.reduceEqDiff, g0], by simp only [↓Sh.dn, sx, Nat.reduceBEq, reduceCtorEq, Nat.reduceEqDiff, g1], by simp only [↓Sh.dn, sx, Nat.reduceBEq, reduceCtorEq, Nat.reduceEqDiff, gi], by simp only [↓Sh.dn, sx, Nat.reduceBEq, reduceCtorEq, Nat.reduceEqDiff, gj], by omega, by omega, fun q x hq1 hq2 hx => ?_⟩
      · by_cases hq : q = v
        · subst hq; rw [qv] at hx; rw [← Option.some.inj hx]; exact hlt
        · exact h3 q x (by omega) (by omega) hx
    | true =>
      simp only [↓Sh.dn, sx, Nat.reduceBEq, reduceCtorEq, Nat.reduceEqDiff, hMF4, g0, g1, gi, gj]
      exact ⟨v, rfl, h1, h2, h3, fun _ x hx => by rw [qv] at hx; rw [← Option.some.inj hx]; exact hlt⟩
  · simp only [↓Sh.dn, sx, Nat.reduceBEq, reduceCtorEq, Nat.reduceEqDiff, hMF4, g0, g1, gi, gj, A0x, hle, decide_false]
    exact ⟨v, rfl, h1, h2, h3, fun h => absurd h hle⟩
 intro F4 H9 h9
 rw [hMF4] at h9
 obtain ⟨rfl,j2,w0,w1,wi,wj,w5,w6,w7,w8⟩:=h9
 have hA2:∀ (q:Nat) x,a+1≤q→q < i2→l1[q]?=some x→A4c x pv=true:=by
  intro q x h1 h2 hx
  by_cases h:q < i0
  ·exact hA q x h1 h hx
  ·exact u7 q x (by omega) h2 hx
 have hB2:∀ (q:Nat) x,j2 < q→q < b→l1[q]?=some x→A4c x pv=false:=by
  intro q x h1 h2 hx
  by_cases h:j0 < q
  ·exact hB q x h h2 hx
  ·exact w7 q x h1 (by omega) hx
 simp only [↓Sh.dn,sx,Nat.reduceBEq,reduceCtorEq,Nat.reduceEqDiff,wi,wj,A4a]
 by_cases hgt:j2 < i2
 ·have jj:j2 < l1.length:=by omega
  have ja1:a < l1.length:=by omega
  have ij:=A1d (g:=g) (k:=k) (cap:=cap) (m:=l.length) (i:=j2) (j:=.i64) (by omega)
  have xj:=A8c hv1 jj
  have xa':=A8c hv1 ja1
  obtain ⟨L3,L4,d1,d2,hv2,hc2,d5⟩:=A7k hv1 hc1.wf jj ja1
  obtain ⟨p1,p2,p3,p4⟩:=last l1 H1 i2 j2 hm1 hpa (by omega) (by omega) (fun q x h1 h2 hx=>hA2 q x h1 (by omega) hx) (fun q x h1 h2 hx=>hB2 q x h1 h2 hx)
  simp only [↓Sh.dn,sx,Nat.reduceBEq,reduceCtorEq,Nat.reduceEqDiff,hgt,decide_true]
  refine (A4d (by kernel_rfl)).2 ?_
  simp only [↓Sh.dn,sx,Nat.reduceBEq,reduceCtorEq,Nat.reduceEqDiff,w0,w1,wi,wj,ij,ia,xj,xa',A7n,d1,d2,hres]
  exact ⟨j2,_,rfl,by omega,by omega,swp l1 j2 a,p1,pv,p2,p3,p4,hv2,hc1.trans hc2⟩
 simp only [↓Sh.dn,sx,Nat.reduceBEq,reduceCtorEq,Nat.reduceEqDiff,hgt,decide_false]
 have hij2:i2 < j2:=by
  by_cases h:i2=j2
  ·have h1:=u8 (by omega)
   have h2:=w8 (by omega)
   obtain ⟨x,hx⟩:∃ x,l1[i2]?=some x:=⟨_,List.getElem?_eq_getElem (by omega)⟩
   have a1:=h1 x hx
   have a2:=h2 x (by rw [← h]; exact hx)
   rw [a1] at a2; cases a2
  ·omega
 have ji1:i2 < l1.length:=by omega
 have jj1:j2 < l1.length:=by omega
 have ii2:=A1d (g:=g) (k:=k) (cap:=cap) (m:=l.length) (i:=i2) (j:=.i64) (by omega)
 have ij2:=A1d (g:=g) (k:=k) (cap:=cap) (m:=l.length) (i:=j2) (j:=.i64) (by omega)
 have xi:=A8c hv1 ji1
 have xj:=A8c hv1 jj1
 have yi2:IntKind.wrap .i64 ((i2:Int)+1)=((i2+1:Nat):Int):=by rw [wrap64 (by omega) (by omega)]; rfl
 have yj2:IntKind.wrap .i64 ((j2:Int) - 1)=((j2 - 1:Nat):Int):=by rw [wrap64 (by omega) (by omega)]; omega
 obtain ⟨L3,L4,d1,d2,hv2,hc2,d5⟩:=A7k hv1 hc1.wf ji1 jj1
 obtain ⟨s1,s2,s3⟩:=pair l1 i0 i2 j0 j2 (by omega) hpa hi0 (by omega) hij2 (by omega) (by omega) hA2 hB2 (u8 (by omega)) (w8 (by omega))
 refine (A4d (by kernel_rfl)).2 ?_
 simp only [↓Sh.dn,sx,Nat.reduceBEq,reduceCtorEq,Nat.reduceEqDiff,w0,w1,wi,wj,ii2,ij2,xi,xj,A7n,d1,d2,yi2,yj2]
 exact kk (j2 - 1+1 - (i2+1)) _ _ (by omega) ⟨i2+1,j2 - 1,swp l1 i2 j2,rfl,by omega,by omega,by omega,hm1.swap (by omega) (by omega) (by omega) (by omega),s1,s2,s3,hv2,hc1.trans hc2,by simp only [↓Sh.dn,sx,Nat.reduceBEq,reduceCtorEq,Nat.reduceEqDiff,w0],by simp only [↓Sh.dn,sx,Nat.reduceBEq,reduceCtorEq,Nat.reduceEqDiff,w1],by simp only [↓Sh.dn,sx,Nat.reduceBEq,reduceCtorEq,Nat.reduceEqDiff],by simp only [↓Sh.dn,sx,Nat.reduceBEq,reduceCtorEq,Nat.reduceEqDiff]⟩
theorem A87 {p:Nat} (hv:A6e H g k n l) (hw:Wf H) (hl:l.length≤1048576) (hap:a≤p) (hpb:p < b) (hb:b≤l.length):
  Sh.Call Tryz.prog (knows 8) 175 [.slice (some ⟨g,0,some k⟩) l.length cap,.int .i64 (a:Int),.int .i64 (b:Int),.int .i64 (p:Int)] H
   (fun r H'=>∃ m:Nat,r=.int .i64 (m:Int)∧a < m∧m≤b∧∃ l':List Int,Mix a b l l'∧(∀ (q:Nat) x,a≤q→q < m→l'[q]?=some x→A4c l[p] x=false)∧(∀ (q:Nat) x,m≤q→q < b→l'[q]?=some x→A4c l[p] x=true)∧A6e H' g k n l'∧Chg (fun y=>y=g) H H'):=by
 refine A5a rfl Tryz.func175 rfl (Nat.le_of_ble_eq_true rfl) ?_
 have hTO:=intTO
 have ja:a < l.length:=by omega
 have jp:p < l.length:=by omega
 have ia:=A1d (g:=g) (k:=k) (cap:=cap) (m:=l.length) (i:=a) (j:=.i64) ja
 have ip:=A1d (g:=g) (k:=k) (cap:=cap) (m:=l.length) (i:=p) (j:=.i64) jp
 have xa:=A8c hv ja
 have xp:=A8c hv jp
 have wa:IntKind.wrap .i64 ((a:Int)+1)=((a+1:Nat):Int):=by rw [wrap64 (by omega) (by omega)]; rfl
 have wb:IntKind.wrap .i64 ((b:Int) - 1)=((b - 1:Nat):Int):=by rw [wrap64 (by omega) (by omega)]; omega
 obtain ⟨K1,H1,e1,e2,hv1,hc1,e5⟩:=A7k hv hw ja jp
 have hm1:Mix a b l (swp l a p):=(Mix.refl l).swap (by omega) (by omega) (by omega) (by omega)
 simp only [↓Sh.dn,sx,Nat.reduceBEq,reduceCtorEq,Nat.reduceEqDiff]
 refine (A4d (by kernel_rfl)).2 ?_
 simp only [↓Sh.dn,sx,Nat.reduceBEq,reduceCtorEq,Nat.reduceEqDiff,ia,ip,xa,xp,A7n,e1,e2,wa,wb]
 have hpa:(swp l a p)[a]?=some l[p]:=by
  rw [swp_get ja jp]
  by_cases h:a=p
  ·rw [if_pos h,List.getElem?_eq_getElem ja]; simp only [h]
  ·rw [if_neg h,if_pos rfl]; exact List.getElem?_eq_getElem jp
 generalize l[p]=pv at hpa xp e1 ⊢
 generalize hL0:swp l a p=l0 at hpa hm1 hv1
 have hres:Tryz.f175.results.toList=[.tmp 8]:=rfl
 have pair : ∀ (l1 : List Int) (i1 j1 : Nat), l1.length = l.length → l1[a]? = some pv → a + 1 ≤ i1 → i1 < j1 → j1 < b → (∀ (q : Nat) x, a + 1 ≤ q → q < i1 → l1[q]? = some x → A4c pv x = false) → (∀ (q : Nat) x, j1 < q → q < b → l1[q]? = some x → A4c pv x = true) →
     (∀ x, l1[i1]? = some x → A4c pv x = true) → (∀ x, l1[j1]? = some x → A4c pv x = false) → (swp l1 i1 j1)[a]? = some pv ∧ (∀ (q : Nat) x, a + 1 ≤ q → q < i1 + 1 → (swp l1 i1 j1)[q]? = some x → A4c pv x = false) ∧ (∀ (q : Nat) x, j1 - 1 < q → q < b → (swp l1 i1 j1)[q]? = some x → A4c pv x = true) := by
   intro l1 i1 j1 hlen hp h1 h3 h5 hA hB hi hj
   have ji : i1 < l1.length := by omega
   have jj : j1 < l1.length := by omega
   refine ⟨by rw [swp_get ji jj, if_neg (by omega), if_neg (by omega)]; exact hp, fun q x hq1 hq2 hx => ?_, fun q x hq1 hq2 hx => ?_⟩
   · rw [swp_get ji jj, if_neg (by omega)] at hx
     by_cases h : q = i1
     · rw [if_pos h] at hx; exact hj x hx
     · rw [if_neg h] at hx; exact hA q x hq1 (by omega) hx
   · rw [swp_get ji jj] at hx
     by_cases h : q = j1
     · rw [if_pos h] at hx; exact hi x hx
     · rw [if_neg h, if_neg (by omega)] at hx; exact hB q x (by omega) hq2 hx
 refine A5e (fun m F' H2 => ∃ (i j : Nat) (l1 : List Int), m = j + 1 - i ∧ a + 1 ≤ i ∧ i ≤ j + 1 ∧ j < b ∧ Mix a b l l1 ∧ l1[a]? = some pv ∧ (∀ (q : Nat) x, a + 1 ≤ q → q < i → l1[q]? = some x → A4c pv x = false) ∧ (∀ (q : Nat) x, j < q → q < b → l1[q]? = some x → A4c pv x = true) ∧ A6e H2 g k n l1 ∧ Chg (fun y => y = g) H H2 ∧
     F'.get 0 = some (.slice (some ⟨g, 0, some k⟩) l.length cap) ∧ F'.get 1 = some (.int .i64 (a : Int)) ∧ F'.get 9 = some (.int .i64 ((i : Nat) : Int)) ∧ F'.get 10 = some (.int .i64 ((j : Nat) : Int))) (m := b - 1 + 1 - (a + 1))
   ⟨a + 1, b - 1, l0, rfl, by omega, by omega, by omega, hm1, hpa, fun q x h1 h2 => by omega, fun q x h1 h2 => by omega, hv1, hc1, by simp only [↓Sh.dn, sx, Nat.reduceBEq, reduceCtorEq, Nat.reduceEqDiff], by simp only [↓Sh.dn, sx, Nat.reduceBEq, reduceCtorEq, Nat.reduceEqDiff], by simp only [↓Sh.dn, sx, Nat.reduceBEq, reduceCtorEq, Nat.reduceEqDiff], by simp only [↓Sh.dn, sx, Nat.reduceBEq, reduceCtorEq, Nat.reduceEqDiff]⟩ ?_
 clear xa hpa hm1 hv1
 clear hL0
 rintro m F H2 ⟨i0,j0,l1,rfl,hi0,hij0,hj0,hm1,hpa,hA,hB,hv1,hc1,f0,f1,fi,fj⟩ kk
 have hlen:=hm1.length
 have xa:H2.cell ⟨g,a,some k⟩=some (Value.int .i64 pv):=hv1.cell (by simp [hpa])
 simp only [↓Sh.dn,sx,Nat.reduceBEq,reduceCtorEq,Nat.reduceEqDiff]
 obtain ⟨MF3,hMF3⟩:∃ M:Fr→AH→Prop,M=fun F' H9=>H2=H9∧∃ v:Nat,F'.get 0=some (.slice (some ⟨g,0,some k⟩) l.length cap)∧F'.get 1=some (.int .i64 (a:Int))∧F'.get 9=some (.int .i64 ((v:Nat):Int))∧F'.get 10=some (.int .i64 ((j0:Nat):Int))∧i0≤v∧v≤j0+1∧(∀ (q:Nat) x,i0≤q→q < v→l1[q]?=some x→A4c pv x=false)∧(v≤j0→∀ x,l1[v]?=some x→A4c pv x=true):=⟨_,rfl⟩
 refine B9r MF3 (by rfl) ?_ ?_
 ·refine A5e (fun m F' H9 => H2 = H9 ∧ ∃ v : Nat, m = j0 + 1 - v ∧ F'.get 0 = some (.slice (some ⟨g, 0, some k⟩) l.length cap) ∧ F'.get 1 = some (.int .i64 (a : Int)) ∧ F'.get 9 = some (.int .i64 ((v : Nat) : Int)) ∧ F'.get 10 = some (.int .i64 ((j0 : Nat) : Int)) ∧ i0 ≤ v ∧ v ≤ j0 + 1 ∧ (∀ (q : Nat) x, i0 ≤ q → q < v → l1[q]? = some x → A4c pv x = false)) (m := j0 + 1 - i0)
    ⟨rfl, i0, rfl, by simp only [↓Sh.dn, sx, Nat.reduceBEq, reduceCtorEq, Nat.reduceEqDiff, f0], by simp only [↓Sh.dn, sx, Nat.reduceBEq, reduceCtorEq, Nat.reduceEqDiff, f1], by simp only [↓Sh.dn, sx, Nat.reduceBEq, reduceCtorEq, Nat.reduceEqDiff, fi], by simp only [↓Sh.dn, sx, Nat.reduceBEq, reduceCtorEq, Nat.reduceEqDiff, fj], by omega, by omega, fun q x h1 h2 => by omega⟩ ?_
  rintro m F' H9 ⟨rfl, v, rfl, g0, g1, gi, gj, h1, h2, h3⟩ k2
  simp only [↓Sh.dn, sx, Nat.reduceBEq, reduceCtorEq, Nat.reduceEqDiff]
  refine (A4d (by kernel_rfl)).2 ?_
  by_cases hle : v ≤ j0
  · have jv : v < l1.length := by omega
    have iv := A1d (g := g) (k := k) (cap := cap) (m := l.length) (i := v) (j := .i64) (by omega)
    have xv := A8c hv1 jv
    have qv : l1[v]? = some l1[v] := List.getElem?_eq_getElem jv
    have wv : IntKind.wrap .i64 ((v : Int) + 1) = ((v + 1 : Nat) : Int) := by rw [wrap64 (by omega) (by omega)]; rfl
    simp only [↓Sh.dn, sx, Nat.reduceBEq, reduceCtorEq, Nat.reduceEqDiff, g0, g1, gi, gj, A0x, hle, decide_true, iv, ia, xv, xa]
    refine ⟨_, _, A2e, ?_⟩
    cases hlt : A4c pv l1[v] with
    | false =>
      simp only [↓Sh.dn, sx, Nat.reduceBEq, reduceCtorEq, Nat.reduceEqDiff, g0, g1, gi, gj, wv]
      refine k2 (j0 + 1 - (v + 1)) _ _ (by omega) ⟨rfl, v + 1, rfl, by simp only [↓Sh.dn, sx, Nat.reduceBEq, reduceCtorEq, Nat.reduceEqDiff, g0], by simp only [↓Sh.dn, sx, Nat.reduceBEq, reduceCtorEq, Nat.reduceEqDiff, g1], by simp only [↓Sh.dn, sx, Nat.reduceBEq, reduceCtorEq, Nat.reduceEqDiff, gi], by simp only [↓Sh.dn, sx, Nat.reduceBEq, reduceCtorEq, Nat.reduceEqDiff, gj], by omega, by omega, fun q x hq1 hq2 hx => ?_⟩
      · by_cases hq : q = v
        · subst hq; rw [qv] at hx; rw [← Option.some.inj hx]; exact hlt
        · exact h3 q x (by omega) (by omega) hx
    | true =>
      simp only [↓Sh.dn, sx, Nat.reduceBEq, reduceCtorEq, Nat.reduceEqDiff, hMF3, g0, g1, gi, gj]
      exact ⟨v, rfl, h1, h2, h3, fun _ x hx => by rw [qv] at hx; rw [← Option.some.inj hx]; exact hlt⟩
  · simp only [↓Sh.dn, sx, Nat.reduceBEq, reduceCtorEq, Nat.reduceEqDiff, hMF3, g0, g1, gi, gj, A0x, hle, decide_false]
    exact ⟨v, rfl, h1, h2, h3, fun h => absurd h hle⟩
 intro F3 H9 h9
 rw [hMF3] at h9
 obtain ⟨rfl,i2,u0,u1,ui,uj,u5,u6,u7,u8⟩:=h9
 simp only [↓Sh.dn,sx,Nat.reduceBEq,reduceCtorEq,Nat.reduceEqDiff]
 obtain ⟨MF4,hMF4⟩:∃ M:Fr→AH→Prop,M=fun F' H9=>H2=H9∧∃ v:Nat,F'.get 0=some (.slice (some ⟨g,0,some k⟩) l.length cap)∧F'.get 1=some (.int .i64 (a:Int))∧F'.get 9=some (.int .i64 ((i2:Nat):Int))∧F'.get 10=some (.int .i64 ((v:Nat):Int))∧i2≤v+1∧v≤j0∧(∀ (q:Nat) x,v < q→q≤j0→l1[q]?=some x→A4c pv x=true)∧(i2≤v→∀ x,l1[v]?=some x→A4c pv x=false):=⟨_,rfl⟩
 refine B9r MF4 (by rfl) ?_ ?_
 ·refine A5e (fun m F' H9 => H2 = H9 ∧ ∃ v : Nat, m = v ∧ F'.get 0 = some (.slice (some ⟨g, 0, some k⟩) l.length cap) ∧ F'.get 1 = some (.int .i64 (a : Int)) ∧ F'.get 9 = some (.int .i64 ((i2 : Nat) : Int)) ∧ F'.get 10 = some (.int .i64 ((v : Nat) : Int)) ∧ i2 ≤ v + 1 ∧ v ≤ j0 ∧ (∀ (q : Nat) x, v < q → q ≤ j0 → l1[q]? = some x → A4c pv x = true)) (m := j0)
    ⟨rfl, j0, rfl, by simp only [↓Sh.dn, sx, Nat.reduceBEq, reduceCtorEq, Nat.reduceEqDiff, u0], by simp only [↓Sh.dn, sx, Nat.reduceBEq, reduceCtorEq, Nat.reduceEqDiff, u1], by simp only [↓Sh.dn, sx, Nat.reduceBEq, reduceCtorEq, Nat.reduceEqDiff, ui], by simp only [↓Sh.dn, sx, Nat.reduceBEq, reduceCtorEq, Nat.reduceEqDiff, uj], by omega, by omega, fun q x h1 h2 => by omega⟩ ?_
  rintro v F' H9 ⟨rfl, _, rfl, g0, g1, gi, gj, h1, h2, h3⟩ k2
  simp only [↓Sh.dn, sx, Nat.reduceBEq, reduceCtorEq, Nat.reduceEqDiff]
  refine (A4d (by kernel_rfl)).2 ?_
  by_cases hle : i2 ≤ v
  · have jv : v < l1.length := by omega
    have iv := A1d (g := g) (k := k) (cap := cap) (m := l.length) (i := v) (j := .i64) (by omega)
    have xv := A8c hv1 jv
    have qv : l1[v]? = some l1[v] := List.getElem?_eq_getElem jv
    have wv : IntKind.wrap .i64 ((v : Int) - 1) = ((v - 1 : Nat) : Int) := by rw [wrap64 (by omega) (by omega)]; omega
    simp only [↓Sh.dn, sx, Nat.reduceBEq, reduceCtorEq, Nat.reduceEqDiff, g0, g1, gi, gj, A0x, hle, decide_true, iv, ia, xv, xa]
    refine ⟨_, _, A2e, ?_⟩
    cases hlt : A4c pv l1[v] with
    | true =>
      simp only [↓Sh.dn, sx, Nat.reduceBEq, reduceCtorEq, Nat.reduceEqDiff, g0, g1, gi, gj, wv]
      refine k2 ((v - 1)) _ _ (by omega) ⟨rfl, v - 1, rfl, by simp only [↓Sh.dn, sx, Nat.reduceBEq, reduceCtorEq, Nat.reduceEqDiff, g0], by simp only [↓Sh.dn, sx, Nat.reduceBEq, reduceCtorEq, Nat.reduceEqDiff, g1], by simp only [↓Sh.dn, sx, Nat.reduceBEq, reduceCtorEq, Nat.reduceEqDiff, gi], by simp only [↓Sh.dn, sx, Nat.reduceBEq, reduceCtorEq, Nat.reduceEqDiff, gj], by omega, by omega, fun q x hq1 hq2 hx => ?_⟩
      · by_cases hq : q = v
        · subst hq; rw [qv] at hx; rw [← Option.some.inj hx]; exact hlt
        · exact h3 q x (by omega) (by omega) hx
    | false =>
      simp only [↓Sh.dn, sx, Nat.reduceBEq, reduceCtorEq, Nat.reduceEqDiff, hMF4, g0, g1, gi, gj]
      exact ⟨v, rfl, h1, h2, h3, fun _ x hx => by rw [qv] at hx; rw [← Option.some.inj hx]; exact hlt⟩
  · simp only [↓Sh.dn, sx, Nat.reduceBEq, reduceCtorEq, Nat.reduceEqDiff, hMF4, g0, g1, gi, gj, A0x, hle, decide_false]
    exact ⟨v, rfl, h1, h2, h3, fun h => absurd h hle⟩
 intro F4 H9 h9
 rw [hMF4] at h9
 obtain ⟨rfl,j2,w0,w1,wi,wj,w5,w6,w7,w8⟩:=h9
 have hA2:∀ (q:Nat) x,a+1≤q→q < i2→l1[q]?=some x→A4c pv x=false:=by
  intro q x h1 h2 hx
  by_cases h:q < i0
  ·exact hA q x h1 h hx
  ·exact u7 q x (by omega) h2 hx
 have hB2:∀ (q:Nat) x,j2 < q→q < b→l1[q]?=some x→A4c pv x=true:=by
  intro q x h1 h2 hx
  by_cases h:j0 < q
  ·exact hB q x h h2 hx
  ·exact w7 q x h1 (by omega) hx
 simp only [↓Sh.dn,sx,Nat.reduceBEq,reduceCtorEq,Nat.reduceEqDiff,wi,wj,A4a]
 by_cases hgt:j2 < i2
 ·simp only [↓Sh.dn,sx,Nat.reduceBEq,reduceCtorEq,Nat.reduceEqDiff,hgt,decide_true,wi,hres]
  refine ⟨i2,rfl,by omega,by omega,l1,hm1,fun q x h1 h2 hx=>?_,fun q x h1 h2 hx=>hB2 q x (by omega) h2 hx,hv1,hc1⟩
  by_cases h:q=a
  ·subst h; rw [hpa] at hx; rw [← Option.some.inj hx]; exact hTO.irrefl pv
  ·exact hA2 q x (by omega) h2 hx
 simp only [↓Sh.dn,sx,Nat.reduceBEq,reduceCtorEq,Nat.reduceEqDiff,hgt,decide_false]
 have hij2:i2 < j2:=by
  by_cases h:i2=j2
  ·have h1:=u8 (by omega)
   have h2:=w8 (by omega)
   obtain ⟨x,hx⟩:∃ x,l1[i2]?=some x:=⟨_,List.getElem?_eq_getElem (by omega)⟩
   have a1:=h1 x hx
   have a2:=h2 x (by rw [← h]; exact hx)
   rw [a1] at a2; cases a2
  ·omega
 have ji1:i2 < l1.length:=by omega
 have jj1:j2 < l1.length:=by omega
 have ii2:=A1d (g:=g) (k:=k) (cap:=cap) (m:=l.length) (i:=i2) (j:=.i64) (by omega)
 have ij2:=A1d (g:=g) (k:=k) (cap:=cap) (m:=l.length) (i:=j2) (j:=.i64) (by omega)
 have xi:=A8c hv1 ji1
 have xj:=A8c hv1 jj1
 have yi2:IntKind.wrap .i64 ((i2:Int)+1)=((i2+1:Nat):Int):=by rw [wrap64 (by omega) (by omega)]; rfl
 have yj2:IntKind.wrap .i64 ((j2:Int) - 1)=((j2 - 1:Nat):Int):=by rw [wrap64 (by omega) (by omega)]; omega
 obtain ⟨L3,L4,d1,d2,hv2,hc2,d5⟩:=A7k hv1 hc1.wf ji1 jj1
 obtain ⟨s1,s2,s3⟩:=pair l1 i2 j2 (by omega) hpa (by omega) hij2 (by omega) hA2 hB2 (u8 (by omega)) (w8 (by omega))
 refine (A4d (by kernel_rfl)).2 ?_
 simp only [↓Sh.dn,sx,Nat.reduceBEq,reduceCtorEq,Nat.reduceEqDiff,w0,w1,wi,wj,ii2,ij2,xi,xj,A7n,d1,d2,yi2,yj2]
 exact kk (j2 - 1+1 - (i2+1)) _ _ (by omega) ⟨i2+1,j2 - 1,swp l1 i2 j2,rfl,by omega,by omega,by omega,hm1.swap (by omega) (by omega) (by omega) (by omega),s1,s2,s3,hv2,hc1.trans hc2,by simp only [↓Sh.dn,sx,Nat.reduceBEq,reduceCtorEq,Nat.reduceEqDiff,w0],by simp only [↓Sh.dn,sx,Nat.reduceBEq,reduceCtorEq,Nat.reduceEqDiff,w1],by simp only [↓Sh.dn,sx,Nat.reduceBEq,reduceCtorEq,Nat.reduceEqDiff],by simp only [↓Sh.dn,sx,Nat.reduceBEq,reduceCtorEq,Nat.reduceEqDiff]⟩
end
end Go.Proofs.YtnoengaghabmjaaGreatDoor
/- partialInsertionSortOrdered. -/
namespace Go.Proofs.YtnoengaghabmjaaGreatDoor
open Go Go.Proofs Go.Proofs.Sh
def B5d (a i:Nat) (m:List Int):Prop:=∀ (p:Nat) x y,a≤p→p+1 < i→m[p]?=some x→m[p+1]?=some y→A4c y x=false
def PreInt (a b:Nat) (l:List Int):Prop:=∀ (q:Nat) x y,0 < a→l[a - 1]?=some y→a≤q→q < b→l[q]?=some x→A4c x y=false
theorem PreInt.mix {a b:Nat} {l m:List Int} (h:PreInt a b l) (hm:Mix a b l m) (hb:b≤l.length):PreInt a b m:=by
 intro q x y h0 hy h1 h2 hx
 rw [hm.out (.inl (by omega))] at hy
 exact hm.all (p:=fun x=>A4c x y=false) hb (fun i z hi1 hi2 hz=>h i z y h0 hy hi1 hi2 hz) q x h1 h2 hx
theorem A61 {H:AH} {g k n cap a b:Nat} {l:List Int} (hv:A6e H g k n l) (hw:Wf H) (hl:l.length≤1048576) (hab:a < b) (hb:b≤l.length) (hpre:PreInt a b l):
  Sh.Call Tryz.prog (knows 8) 173 [.slice (some ⟨g,0,some k⟩) l.length cap,.int .i64 (a:Int),.int .i64 (b:Int)] H
   (fun r H'=>∃ bb:Bool,r=.bool bb∧∃ l',Mix a b l l'∧(bb=true→Srt A4c a b l')∧A6e H' g k n l'∧Chg (fun y=>y=g) H H'):=by
 refine A5a rfl Tryz.func173 rfl (Nat.le_of_ble_eq_true rfl) ?_
 have hres:Tryz.f173.results.toList=[.tmp 6]:=rfl
 have hTO:=intTO
 have w1:IntKind.wrap .i64 ((a:Int)+1)=((a+1:Nat):Int):=by rw [wrap64 (by omega) (by omega)]; rfl
 have wba:IntKind.wrap .i64 ((b:Int) - (a:Int))=((b - a:Nat):Int):=by rw [wrap64 (by omega) (by omega)]; omega
 simp only [↓Sh.dn,sx,Nat.reduceBEq,reduceCtorEq,Nat.reduceEqDiff,w1]
 refine A5e (fun m F H' => ∃ (c i : Nat) (l1 : List Int), m = 5 - c ∧ c ≤ 5 ∧ a + 1 ≤ i ∧ i ≤ b ∧ Mix a b l l1 ∧ B5d a i l1 ∧ A6e H' g k n l1 ∧ Chg (fun y => y = g) H H' ∧
     F.get 0 = some (.slice (some ⟨g, 0, some k⟩) l.length cap) ∧ F.get 1 = some (.int .i64 (a : Int)) ∧ F.get 2 = some (.int .i64 (b : Int)) ∧ F.get 7 = some (.int .i64 (i : Int)) ∧ F.get 8 = some (.int .i64 (c : Int))) (m := 5)
   ⟨0, a + 1, l, rfl, by omega, by omega, by omega, .refl l, fun p x y h1 h2 => by omega, hv, Chg.refl hw, by simp only [↓Sh.dn, sx, Nat.reduceBEq, reduceCtorEq, Nat.reduceEqDiff], by simp only [↓Sh.dn, sx, Nat.reduceBEq, reduceCtorEq, Nat.reduceEqDiff], by simp only [↓Sh.dn, sx, Nat.reduceBEq, reduceCtorEq, Nat.reduceEqDiff], by simp only [↓Sh.dn, sx, Nat.reduceBEq, reduceCtorEq, Nat.reduceEqDiff], by simp only [↓Sh.dn, sx, Nat.reduceBEq, reduceCtorEq, Nat.reduceEqDiff]; rfl⟩ ?_
 rintro m F H' ⟨c,i,l1,rfl,hc5,hai,hib,hm,hadj,hv1,hc1,f0,f1,f2,f7,f8⟩ kk
 have hlen:=hm.length
 by_cases hlt:c < 5
 case neg=>
  have d:decide ((c:Int) < 5)=false:=by simp; omega
  simp only [↓Sh.dn,sx,Nat.reduceBEq,reduceCtorEq,Nat.reduceEqDiff,f8,d,hres]
  exact ⟨l1,hm,hv1,hc1⟩
 have d:decide ((c:Int) < 5)=true:=by simp; omega
 simp only [↓Sh.dn,sx,Nat.reduceBEq,reduceCtorEq,Nat.reduceEqDiff,f8,d]
 obtain ⟨M1, hM1⟩ : ∃ M : Fr → AH → Prop, M = fun F' H9 => H' = H9 ∧ ∃ v : Nat, F'.get 0 = some (.slice (some ⟨g, 0, some k⟩) l.length cap) ∧ F'.get 1 = some (.int .i64 (a : Int)) ∧ F'.get 2 = some (.int .i64 (b : Int)) ∧ F'.get 7 = some (.int .i64 (v : Int)) ∧ F'.get 8 = some (.int .i64 (c : Int)) ∧
     i ≤ v ∧ v ≤ b ∧ B5d a v l1 := ⟨_, rfl⟩
 refine B9r M1 (by rfl) ?_ ?_
 ·refine A5e (fun m F' H9 => H' = H9 ∧ ∃ v : Nat, m = b - v ∧ F'.get 0 = some (.slice (some ⟨g, 0, some k⟩) l.length cap) ∧ F'.get 1 = some (.int .i64 (a : Int)) ∧ F'.get 2 = some (.int .i64 (b : Int)) ∧ F'.get 7 = some (.int .i64 (v : Int)) ∧ F'.get 8 = some (.int .i64 (c : Int)) ∧
    i ≤ v ∧ v ≤ b ∧ B5d a v l1) (m := b - i)
    ⟨rfl, i, rfl, by simp only [↓Sh.dn, sx, Nat.reduceBEq, reduceCtorEq, Nat.reduceEqDiff, f0], by simp only [↓Sh.dn, sx, Nat.reduceBEq, reduceCtorEq, Nat.reduceEqDiff, f1], by simp only [↓Sh.dn, sx, Nat.reduceBEq, reduceCtorEq, Nat.reduceEqDiff, f2], by simp only [↓Sh.dn, sx, Nat.reduceBEq, reduceCtorEq, Nat.reduceEqDiff, f7], by simp only [↓Sh.dn, sx, Nat.reduceBEq, reduceCtorEq, Nat.reduceEqDiff, f8], Nat.le_refl _, hib, hadj⟩ ?_
  rintro m F' H9 ⟨rfl, v, rfl, g0, g1, g2, g7, g8, h1, h2, h3⟩ k2
  simp only [↓Sh.dn, sx, Nat.reduceBEq, reduceCtorEq, Nat.reduceEqDiff]
  refine (A4d (by kernel_rfl)).2 ?_
  by_cases hvb : v < b
  · have jv : v < l1.length := by omega
    have jw : v - 1 < l1.length := by omega
    have iv := A1d (g := g) (k := k) (cap := cap) (m := l.length) (i := v) (j := .i64) (by omega)
    have iw := A1d (g := g) (k := k) (cap := cap) (m := l.length) (i := v - 1) (j := .i64) (by omega)
    have xv := A8c hv1 jv
    have xw := A8c hv1 jw
    have wv : IntKind.wrap .i64 ((v : Int) - 1) = ((v - 1 : Nat) : Int) := by rw [wrap64 (by omega) (by omega)]; omega
    have wv2 : IntKind.wrap .i64 ((v : Int) + 1) = ((v + 1 : Nat) : Int) := by rw [wrap64 (by omega) (by omega)]; rfl
    simp only [↓Sh.dn, sx, Nat.reduceBEq, reduceCtorEq, Nat.reduceEqDiff, g0, g1, g2, g7, A4a, hvb, decide_true, wv, iv, iw, xv, xw]
    refine ⟨_, _, A2e, ?_⟩
    cases hq : A4c l1[v] l1[v - 1] with
    | false =>
      simp only [↓Sh.dn, sx, Nat.reduceBEq, reduceCtorEq, Nat.reduceEqDiff, g7, wv2]
      refine k2 (b - (v + 1)) _ _ (by omega) ⟨rfl, v + 1, rfl, by simp only [↓Sh.dn, sx, Nat.reduceBEq, reduceCtorEq, Nat.reduceEqDiff, g0], by simp only [↓Sh.dn, sx, Nat.reduceBEq, reduceCtorEq, Nat.reduceEqDiff, g1], by simp only [↓Sh.dn, sx, Nat.reduceBEq, reduceCtorEq, Nat.reduceEqDiff, g2], by simp only [↓Sh.dn, sx, Nat.reduceBEq, reduceCtorEq, Nat.reduceEqDiff], by simp only [↓Sh.dn, sx, Nat.reduceBEq, reduceCtorEq, Nat.reduceEqDiff, g8], by omega, by omega, fun p x y hp1 hp2 hx hy => ?_⟩
      by_cases hpv : p + 1 = v
      · have e1 : l1[v]? = some l1[v] := List.getElem?_eq_getElem jv
        have e2 : l1[v - 1]? = some l1[v - 1] := List.getElem?_eq_getElem jw
        rw [hpv, e1] at hy
        rw [show p = v - 1 by omega, e2] at hx
        rw [← Option.some.inj hx, ← Option.some.inj hy]; exact hq
      · exact h3 p x y hp1 (by omega) hx hy
    | true =>
      simp only [↓Sh.dn, sx, Nat.reduceBEq, reduceCtorEq, Nat.reduceEqDiff, hM1, g0, g1, g2, g7, g8]
      exact ⟨v, rfl, h1, h2, h3⟩
  · simp only [↓Sh.dn, sx, Nat.reduceBEq, reduceCtorEq, Nat.reduceEqDiff, hM1, g0, g1, g2, g7, g8, A4a, hvb, decide_false]
    exact ⟨v, rfl, h1, h2, h3⟩
 intro F1 H9 h9
 rw [hM1] at h9
 obtain ⟨rfl,v,f0,f1,f2,f7,f8,hiv,hvb,hadj⟩:=h9
 by_cases hend:v=b
 ·have d:decide ((v:Int)=(b:Int))=true:=by simp [hend]
  simp only [↓Sh.dn,sx,Nat.reduceBEq,reduceCtorEq,Nat.reduceEqDiff,f2,f7,d,hres]
  exact ⟨l1,hm,B87 hTO (by rw [← hend]; exact hadj),hv1,hc1⟩
 have d:decide ((v:Int)=(b:Int))=false:=by simp; omega
 simp only [↓Sh.dn,sx,Nat.reduceBEq,reduceCtorEq,Nat.reduceEqDiff,f1,f2,f7,d,wba]
 by_cases h50:b - a < 50
 ·have d:decide (((b - a:Nat):Int) < 50)=true:=by simp; omega
  simp only [↓Sh.dn,sx,Nat.reduceBEq,reduceCtorEq,Nat.reduceEqDiff,d,hres]
  exact ⟨l1,hm,hv1,hc1⟩
 have d:decide (((b - a:Nat):Int) < 50)=false:=by simp; omega
 simp only [↓Sh.dn,sx,Nat.reduceBEq,reduceCtorEq,Nat.reduceEqDiff,d]
 have jv:v < l1.length:=by omega
 have jw:v - 1 < l1.length:=by omega
 have iv:=A1d (g:=g) (k:=k) (cap:=cap) (m:=l.length) (i:=v) (j:=.i64) (by omega)
 have iw:=A1d (g:=g) (k:=k) (cap:=cap) (m:=l.length) (i:=v - 1) (j:=.i64) (by omega)
 have xv:=A8c hv1 jv
 have xw:=A8c hv1 jw
 have wv:IntKind.wrap .i64 ((v:Int) - 1)=((v - 1:Nat):Int):=by rw [wrap64 (by omega) (by omega)]; omega
 have wv2:IntKind.wrap .i64 ((v:Int)+1)=((v+1:Nat):Int):=by rw [wrap64 (by omega) (by omega)]; rfl
 have wva:IntKind.wrap .i64 ((v:Int) - (a:Int))=((v - a:Nat):Int):=by rw [wrap64 (by omega) (by omega)]; omega
 have wbv:IntKind.wrap .i64 ((b:Int) - (v:Int))=((b - v:Nat):Int):=by rw [wrap64 (by omega) (by omega)]; omega
 have wc:IntKind.wrap .i64 ((c:Int)+1)=((c+1:Nat):Int):=by rw [wrap64 (by omega) (by omega)]; rfl
 obtain ⟨L1,L2,d1,d2,hv2,hc2,d5⟩:=A7k hv1 hc1.wf jv jw
 have hm2:Mix a b l (swp l1 v (v - 1)):=hm.swap (by omega) (by omega) (by omega) (by omega)
 refine (A4d (by kernel_rfl)).2 ?_
 simp only [↓Sh.dn,sx,Nat.reduceBEq,reduceCtorEq,Nat.reduceEqDiff,f0,f1,f7,wv,iv,iw,xv,xw,A7n,d1,d2,wva]
 have hA2:∀ (p:Nat) x y,a≤p→p+1 < v→p+1≠v - 1→(swp l1 v (v - 1))[p]?=some x→(swp l1 v (v - 1))[p+1]?=some y→A4c y x=false:=by
  intro p x y h1 h2 h3 hx hy
  rw [swp_get jv jw,if_neg (by omega),if_neg (by omega)] at hx hy
  exact hadj p x y h1 (by omega) hx hy
 have hc12:=hc1.trans hc2
 generalize swp l1 v (v - 1)=l2 at hv2 hm2 hA2
 obtain ⟨M2,hM2⟩:∃ M:Fr→AH→Prop,M=fun F' H9=>∃ l3:List Int,Mix a b l l3∧B5d a v l3∧A6e H9 g k n l3∧Chg (fun y=>y=g) H H9∧F'.get 0=some (.slice (some ⟨g,0,some k⟩) l.length cap)∧F'.get 1=some (.int .i64 (a:Int))∧F'.get 2=some (.int .i64 (b:Int))∧F'.get 7=some (.int .i64 (v:Int))∧F'.get 8=some (.int .i64 (c:Int)):=⟨_,rfl⟩
 refine C3x M2 (by rfl) ?_ ?_
 ·by_cases hva:2≤v - a
  case neg=>
   have d:decide ((2:Int)≤((v - a:Nat):Int))=false:=by simp; omega
   simp only [↓Sh.dn,sx,Nat.reduceBEq,reduceCtorEq,Nat.reduceEqDiff,d,hM2,f0,f1,f2,f7,f8]
   exact ⟨l2,hm2,fun p x y h1 h2 hx hy=>by omega,hv2,hc12⟩
  have d:decide ((2:Int)≤((v - a:Nat):Int))=true:=by simp; omega
  simp only [↓Sh.dn,sx,Nat.reduceBEq,reduceCtorEq,Nat.reduceEqDiff,d,f7,wv]
  refine A5e (fun j F' H9 => ∃ l3 : List Int, a ≤ j ∧ j ≤ v - 1 ∧ Mix a b l l3 ∧ (∀ (p : Nat) x y, a ≤ p → p + 1 < v → p + 1 ≠ j → l3[p]? = some x → l3[p + 1]? = some y → A4c y x = false) ∧ (∀ x y, a < j → j + 1 < v → l3[j - 1]? = some x → l3[j + 1]? = some y → A4c y x = false) ∧ A6e H9 g k n l3 ∧ Chg (fun y => y = g) H H9 ∧
      F'.get 0 = some (.slice (some ⟨g, 0, some k⟩) l.length cap) ∧ F'.get 1 = some (.int .i64 (a : Int)) ∧ F'.get 2 = some (.int .i64 (b : Int)) ∧ F'.get 7 = some (.int .i64 (v : Int)) ∧ F'.get 8 = some (.int .i64 (c : Int)) ∧ F'.get 9 = some (.int .i64 (j : Int))) (m := v - 1)
    ⟨l2, by omega, Nat.le_refl _, hm2, hA2, fun x y h1 h2 => by omega, hv2, hc12, by simp only [↓Sh.dn, sx, Nat.reduceBEq, reduceCtorEq, Nat.reduceEqDiff, f0], by simp only [↓Sh.dn, sx, Nat.reduceBEq, reduceCtorEq, Nat.reduceEqDiff, f1], by simp only [↓Sh.dn, sx, Nat.reduceBEq, reduceCtorEq, Nat.reduceEqDiff, f2], by simp only [↓Sh.dn, sx, Nat.reduceBEq, reduceCtorEq, Nat.reduceEqDiff, f7], by simp only [↓Sh.dn, sx, Nat.reduceBEq, reduceCtorEq, Nat.reduceEqDiff, f8], by simp only [↓Sh.dn, sx, Nat.reduceBEq, reduceCtorEq, Nat.reduceEqDiff]⟩ ?_
  rintro j F' H9 ⟨l3,haj,hjv,hm3,hA,hB,hv3,hc3,g0,g1,g2,g7,g8,g9⟩ k2
  have hlen3:=hm3.length
  have hall:j=a→B5d a v l3:=fun h p x y h1 h2 hx hy=>hA p x y h1 h2 (by omega) hx hy
  by_cases hj0:1≤j
  case neg=>
   have d:decide ((1:Int)≤(j:Int))=false:=by simp; omega
   simp only [↓Sh.dn,sx,Nat.reduceBEq,reduceCtorEq,Nat.reduceEqDiff,g9,d,hM2,g0,g1,g2,g7,g8]
   exact ⟨l3,hm3,hall (by omega),hv3,hc3⟩
  have d:decide ((1:Int)≤(j:Int))=true:=by simp; omega
  have jj:j < l3.length:=by omega
  have jj1:j - 1 < l3.length:=by omega
  have ij:=A1d (g:=g) (k:=k) (cap:=cap) (m:=l.length) (i:=j) (j:=.i64) (by omega)
  have ij1:=A1d (g:=g) (k:=k) (cap:=cap) (m:=l.length) (i:=j - 1) (j:=.i64) (by omega)
  have xj:=A8c hv3 jj
  have xj1:=A8c hv3 jj1
  have q1:l3[j]?=some l3[j]:=List.getElem?_eq_getElem jj
  have q2:l3[j - 1]?=some l3[j - 1]:=List.getElem?_eq_getElem jj1
  have wj:IntKind.wrap .i64 ((j:Int) - 1)=((j - 1:Nat):Int):=by rw [wrap64 (by omega) (by omega)]; omega
  simp only [↓Sh.dn,sx,Nat.reduceBEq,reduceCtorEq,Nat.reduceEqDiff,g9,d]
  refine (A4d (by kernel_rfl)).2 ?_
  simp only [↓Sh.dn,sx,Nat.reduceBEq,reduceCtorEq,Nat.reduceEqDiff,g0,g9,wj,ij,ij1,xj,xj1]
  refine ⟨_,_,A2e,?_⟩
  cases hq:A4c l3[j] l3[j - 1] with
  | false=>
   simp only [↓Sh.dn,sx,Nat.reduceBEq,reduceCtorEq,Nat.reduceEqDiff,hM2,g0,g1,g2,g7,g8]
   refine ⟨l3,hm3,fun p x y h1 h2 hx hy=>?_,hv3,hc3⟩
   by_cases hp:p+1=j
   ·rw [hp,q1] at hy
    rw [show p=j - 1 by omega,q2] at hx
    rw [← Option.some.inj hx,← Option.some.inj hy]; exact hq
   ·exact hA p x y h1 h2 hp hx hy
  | true=>
   have haj':a < j:=by
    by_cases h:j=a
    ·subst h
     have:=hpre.mix hm3 hb j _ _ (by omega) q2 (Nat.le_refl _) hab q1
     rw [this] at hq; cases hq
    ·omega
   obtain ⟨L3,L4,c1,c2,hv4,hc4,c5⟩:=A7k hv3 hc3.wf jj jj1
   simp only [↓Sh.dn,sx,Nat.reduceBEq,reduceCtorEq,Nat.reduceEqDiff]
   refine (A4d (by kernel_rfl)).2 ?_
   simp only [↓Sh.dn,sx,Nat.reduceBEq,reduceCtorEq,Nat.reduceEqDiff,g0,g9,wj,ij,ij1,xj,xj1,A7n,c1,c2]
   refine k2 (j - 1) _ _ (by omega) ⟨swp l3 j (j - 1),by omega,by omega,hm3.swap (by omega) (by omega) (by omega) (by omega),fun p x y h1 h2 h3 hx hy=>?_,fun x y h1 h2 hx hy=>?_,hv4,hc3.trans hc4,by simp only [↓Sh.dn,sx,Nat.reduceBEq,reduceCtorEq,Nat.reduceEqDiff,g0],by simp only [↓Sh.dn,sx,Nat.reduceBEq,reduceCtorEq,Nat.reduceEqDiff,g1],by simp only [↓Sh.dn,sx,Nat.reduceBEq,reduceCtorEq,Nat.reduceEqDiff,g2],by simp only [↓Sh.dn,sx,Nat.reduceBEq,reduceCtorEq,Nat.reduceEqDiff,g7],by simp only [↓Sh.dn,sx,Nat.reduceBEq,reduceCtorEq,Nat.reduceEqDiff,g8],by simp only [↓Sh.dn,sx,Nat.reduceBEq,reduceCtorEq,Nat.reduceEqDiff]⟩
   ·rw [swp_get jj jj1] at hx hy
    by_cases hp1:p+1=j
    ·have hp:p=j - 1:=by omega
     rw [if_pos hp,q1] at hx
     rw [if_neg (by omega),if_pos hp1,q2] at hy
     rw [← Option.some.inj hx,← Option.some.inj hy]
     exact hTO.asymm hq
    ·by_cases hp2:p=j
     ·rw [if_neg (by omega),if_pos hp2,q2] at hx
      rw [if_neg (by omega),if_neg (by omega)] at hy
      rw [← Option.some.inj hx]
      exact hB _ _ haj' (by omega) q2 (by rw [← hp2]; exact hy)
     ·rw [if_neg (by omega),if_neg hp2] at hx
      rw [if_neg (by omega),if_neg (by omega)] at hy
      exact hA p x y h1 h2 hp1 hx hy
   ·rw [swp_get jj jj1] at hx hy
    rw [if_neg (by omega),if_neg (by omega)] at hx
    rw [if_neg (by omega),if_pos (by omega),q2] at hy
    rw [← Option.some.inj hy]
    exact hA (j - 2) _ _ (by omega) (by omega) (by omega) (by rw [show j - 2=j - 1 - 1 by omega]; exact hx) (by rw [show j - 2+1=j - 1 by omega]; exact q2)
 intro F2 H9 h9
 rw [hM2] at h9
 obtain ⟨l3,hm3,hadj3,hv3,hc3,f0,f1,f2,f7,f8⟩:=h9
 simp only [↓Sh.dn,sx,Nat.reduceBEq,reduceCtorEq,Nat.reduceEqDiff,f2,f7,wbv]
 obtain ⟨M3,hM3⟩:∃ M:Fr→AH→Prop,M=fun F' H9=>∃ l3:List Int,Mix a b l l3∧B5d a v l3∧A6e H9 g k n l3∧Chg (fun y=>y=g) H H9∧F'.get 0=some (.slice (some ⟨g,0,some k⟩) l.length cap)∧F'.get 1=some (.int .i64 (a:Int))∧F'.get 2=some (.int .i64 (b:Int))∧F'.get 7=some (.int .i64 (v:Int))∧F'.get 8=some (.int .i64 (c:Int)):=⟨_,rfl⟩
 refine C3x M3 (by rfl) ?_ ?_
 ·by_cases hbv:2≤b - v
  case neg=>
   have d:decide ((2:Int)≤((b - v:Nat):Int))=false:=by simp; omega
   simp only [↓Sh.dn,sx,Nat.reduceBEq,reduceCtorEq,Nat.reduceEqDiff,d,hM3,f0,f1,f2,f7,f8]
   exact ⟨l3,hm3,hadj3,hv3,hc3⟩
  have d:decide ((2:Int)≤((b - v:Nat):Int))=true:=by simp; omega
  simp only [↓Sh.dn,sx,Nat.reduceBEq,reduceCtorEq,Nat.reduceEqDiff,d,f7,wv2]
  refine A5e (fun m F' H9 => ∃ (j : Nat) (l3 : List Int), m = b - j ∧ v + 1 ≤ j ∧ j ≤ b ∧ Mix a b l l3 ∧ B5d a v l3 ∧ A6e H9 g k n l3 ∧ Chg (fun y => y = g) H H9 ∧
      F'.get 0 = some (.slice (some ⟨g, 0, some k⟩) l.length cap) ∧ F'.get 1 = some (.int .i64 (a : Int)) ∧ F'.get 2 = some (.int .i64 (b : Int)) ∧ F'.get 7 = some (.int .i64 (v : Int)) ∧ F'.get 8 = some (.int .i64 (c : Int)) ∧ F'.get 10 = some (.int .i64 (j : Int))) (m := b - (v + 1))
    ⟨v + 1, l3, rfl, Nat.le_refl _, by omega, hm3, hadj3, hv3, hc3, by simp only [↓Sh.dn, sx, Nat.reduceBEq, reduceCtorEq, Nat.reduceEqDiff, f0], by simp only [↓Sh.dn, sx, Nat.reduceBEq, reduceCtorEq, Nat.reduceEqDiff, f1], by simp only [↓Sh.dn, sx, Nat.reduceBEq, reduceCtorEq, Nat.reduceEqDiff, f2], by simp only [↓Sh.dn, sx, Nat.reduceBEq, reduceCtorEq, Nat.reduceEqDiff, f7], by simp only [↓Sh.dn, sx, Nat.reduceBEq, reduceCtorEq, Nat.reduceEqDiff, f8], by simp only [↓Sh.dn, sx, Nat.reduceBEq, reduceCtorEq, Nat.reduceEqDiff]⟩ ?_
  rintro m F' H9 ⟨j,l4,rfl,hvj,hjb,hm4,hadj4,hv4,hc4,g0,g1,g2,g7,g8,g10⟩ k2
  have hlen4:=hm4.length
  by_cases hjb':j < b
  case neg=>
   simp only [↓Sh.dn,sx,Nat.reduceBEq,reduceCtorEq,Nat.reduceEqDiff,g2,g10,A4a,hjb',decide_false,hM3,g0,g1,g7,g8]
   exact ⟨l4,hm4,hadj4,hv4,hc4⟩
  have jj:j < l4.length:=by omega
  have jj1:j - 1 < l4.length:=by omega
  have ij:=A1d (g:=g) (k:=k) (cap:=cap) (m:=l.length) (i:=j) (j:=.i64) (by omega)
  have ij1:=A1d (g:=g) (k:=k) (cap:=cap) (m:=l.length) (i:=j - 1) (j:=.i64) (by omega)
  have xj:=A8c hv4 jj
  have xj1:=A8c hv4 jj1
  have wj:IntKind.wrap .i64 ((j:Int) - 1)=((j - 1:Nat):Int):=by rw [wrap64 (by omega) (by omega)]; omega
  have wj2:IntKind.wrap .i64 ((j:Int)+1)=((j+1:Nat):Int):=by rw [wrap64 (by omega) (by omega)]; rfl
  simp only [↓Sh.dn,sx,Nat.reduceBEq,reduceCtorEq,Nat.reduceEqDiff,g2,g10,A4a,hjb',decide_true]
  refine (A4d (by kernel_rfl)).2 ?_
  simp only [↓Sh.dn,sx,Nat.reduceBEq,reduceCtorEq,Nat.reduceEqDiff,g0,g10,wj,ij,ij1,xj,xj1]
  refine ⟨_,_,A2e,?_⟩
  cases hq:A4c l4[j] l4[j - 1] with
  | false=>
   simp only [↓Sh.dn,sx,Nat.reduceBEq,reduceCtorEq,Nat.reduceEqDiff,hM3,g0,g1,g2,g7,g8]
   exact ⟨l4,hm4,hadj4,hv4,hc4⟩
  | true=>
   obtain ⟨L3,L4,c1,c2,hv5,hc5',c5⟩:=A7k hv4 hc4.wf jj jj1
   simp only [↓Sh.dn,sx,Nat.reduceBEq,reduceCtorEq,Nat.reduceEqDiff]
   refine (A4d (by kernel_rfl)).2 ?_
   simp only [↓Sh.dn,sx,Nat.reduceBEq,reduceCtorEq,Nat.reduceEqDiff,g0,g10,wj,ij,ij1,xj,xj1,A7n,c1,c2,wj2]
   refine k2 (b - (j+1)) _ _ (by omega) ⟨j+1,swp l4 j (j - 1),rfl,by omega,by omega,hm4.swap (by omega) (by omega) (by omega) (by omega),fun p x y h1 h2 hx hy=>?_,hv5,hc4.trans hc5',by simp only [↓Sh.dn,sx,Nat.reduceBEq,reduceCtorEq,Nat.reduceEqDiff,g0],by simp only [↓Sh.dn,sx,Nat.reduceBEq,reduceCtorEq,Nat.reduceEqDiff,g1],by simp only [↓Sh.dn,sx,Nat.reduceBEq,reduceCtorEq,Nat.reduceEqDiff,g2],by simp only [↓Sh.dn,sx,Nat.reduceBEq,reduceCtorEq,Nat.reduceEqDiff,g7],by simp only [↓Sh.dn,sx,Nat.reduceBEq,reduceCtorEq,Nat.reduceEqDiff,g8],by simp only [↓Sh.dn,sx,Nat.reduceBEq,reduceCtorEq,Nat.reduceEqDiff]⟩
   rw [swp_get jj jj1,if_neg (by omega),if_neg (by omega)] at hx hy
   exact hadj4 p x y h1 h2 hx hy
 intro F3 H10 h10
 rw [hM3] at h10
 obtain ⟨l5,hm5,hadj5,hv5,hc5',f0,f1,f2,f7,f8⟩:=h10
 simp only [↓Sh.dn,sx,Nat.reduceBEq,reduceCtorEq,Nat.reduceEqDiff,f8,wc]
 exact kk (5 - (c+1)) _ _ (by omega) ⟨c+1,v,l5,rfl,by omega,by omega,by omega,hm5,hadj5,hv5,hc5',by simp only [↓Sh.dn,sx,Nat.reduceBEq,reduceCtorEq,Nat.reduceEqDiff,f0],by simp only [↓Sh.dn,sx,Nat.reduceBEq,reduceCtorEq,Nat.reduceEqDiff,f1],by simp only [↓Sh.dn,sx,Nat.reduceBEq,reduceCtorEq,Nat.reduceEqDiff,f2],by simp only [↓Sh.dn,sx,Nat.reduceBEq,reduceCtorEq,Nat.reduceEqDiff,f7],by simp only [↓Sh.dn,sx,Nat.reduceBEq,reduceCtorEq,Nat.reduceEqDiff]⟩
end Go.Proofs.YtnoengaghabmjaaGreatDoor
/- pdqsortOrdered. -/
namespace Go.Proofs.YtnoengaghabmjaaGreatDoor
open Go Go.Proofs Go.Proofs.Sh
theorem pdqInt {g k n cap:Nat}:∀ (sz:Nat) {H:AH} {a b:Nat} {l:List Int} {lim:Int},b - a≤sz→A6e H g k n l→Wf H→l.length≤1048576→a≤b→b≤l.length→PreInt a b l→
  Sh.Call Tryz.prog (knows 8) 161 [.slice (some ⟨g,0,some k⟩) l.length cap,.int .i64 (a:Int),.int .i64 (b:Int),.int .i64 lim] H
   (fun r H'=>∃ l',Mix a b l l'∧Srt A4c a b l'∧A6e H' g k n l'∧Chg (fun y=>y=g) H H'):=by
 intro sz
 induction sz using Nat.strongRecOn with
 | _ sz ih=>
 intro H a b l lim hsz hv hw hl hab hb hpre
 refine A5a rfl Tryz.func161 rfl (Nat.le_of_ble_eq_true rfl) ?_
 have hres:Tryz.f161.results.toList=[]:=rfl
 have hTO:=intTO
 simp only [↓Sh.dn,sx,Nat.reduceBEq,reduceCtorEq,Nat.reduceEqDiff]
 refine A5e (fun m F H' => ∃ (a' b' : Nat) (l1 : List Int) (lm : Int) (x8 x9 : Bool), m = b' - a' ∧ a ≤ a' ∧ a' ≤ b' ∧ b' ≤ b ∧ Mix a b l l1 ∧ P3 A4c a a' b' b l1 ∧ PreInt a' b' l1 ∧ A6e H' g k n l1 ∧ Chg (fun y => y = g) H H' ∧
     F.get 0 = some (.slice (some ⟨g, 0, some k⟩) l.length cap) ∧ F.get 1 = some (.int .i64 (a' : Int)) ∧ F.get 2 = some (.int .i64 (b' : Int)) ∧ F.get 3 = some (.int .i64 lm) ∧ F.get 8 = some (.bool x8) ∧ F.get 9 = some (.bool x9)) (m := b - a)
   ⟨a, b, l, lim, true, true, rfl, Nat.le_refl _, hab, Nat.le_refl _, .refl l, fun p q x y h1 h2 h3 h4 => absurd ⟨h1, h3⟩ h4, hpre, hv, Chg.refl hw, by simp only [↓Sh.dn, sx, Nat.reduceBEq, reduceCtorEq, Nat.reduceEqDiff], by simp only [↓Sh.dn, sx, Nat.reduceBEq, reduceCtorEq, Nat.reduceEqDiff], by simp only [↓Sh.dn, sx, Nat.reduceBEq, reduceCtorEq, Nat.reduceEqDiff], by simp only [↓Sh.dn, sx, Nat.reduceBEq, reduceCtorEq, Nat.reduceEqDiff], by simp only [↓Sh.dn, sx, Nat.reduceBEq, reduceCtorEq, Nat.reduceEqDiff], by simp only [↓Sh.dn, sx, Nat.reduceBEq, reduceCtorEq, Nat.reduceEqDiff]⟩ ?_
 rintro m F H' ⟨a',b',l1,lm,x8,x9,rfl,ha',hab',hb',hm,h3,hpr,hv1,hc1,f0,f1,f2,f3,f8,f9⟩ kk
 have hlen:=hm.length
 have hvl:l1.length=l.length:=hlen
 have wba:IntKind.wrap .i64 ((b':Int) - (a':Int))=((b' - a':Nat):Int):=by rw [wrap64 (by omega) (by omega)]; omega
 have fin:∀ {H2:AH} {l2:List Int},Mix a' b' l1 l2→Srt A4c a' b' l2→Mix a b l l2∧Srt A4c a b l2:=fun {H2 l2} h1 h2=>⟨hm.trans (h1.wide ha' hb'),(h3.mix ha' hb' h1 (by omega)).srt hTO h2⟩
 simp only [↓Sh.dn,sx,Nat.reduceBEq,reduceCtorEq,Nat.reduceEqDiff,f1,f2,wba]
 by_cases h12:b' - a'≤12
 ·have d:decide (((b' - a':Nat):Int)≤12)=true:=by simp; omega
  obtain ⟨r,H2,hd,l2,q1,q2,q3,q4⟩:=B2a (cap:=cap) hv1 hc1.wf (by omega) hab' (by omega)
  rw [hvl] at hd
  simp only [↓Sh.dn,sx,Nat.reduceBEq,reduceCtorEq,Nat.reduceEqDiff,d,f0,f1,f2]
  refine ⟨_,_,hd,?_⟩
  simp only [↓Sh.dn,sx,Nat.reduceBEq,reduceCtorEq,Nat.reduceEqDiff,hres]
  exact ⟨l2,(fin (H2:=H2) q1 q2).1,(fin (H2:=H2) q1 q2).2,q3,hc1.trans q4⟩
 have d:decide (((b' - a':Nat):Int)≤12)=false:=by simp; omega
 simp only [↓Sh.dn,sx,Nat.reduceBEq,reduceCtorEq,Nat.reduceEqDiff,d,f3]
 by_cases hlm:lm=0
 ·obtain ⟨r,H2,hd,l2,q1,q2,q3,q4⟩:=B55 (cap:=cap) hv1 hc1.wf (by omega) (by omega:a' < b') (by omega)
  rw [hvl] at hd
  simp only [↓Sh.dn,sx,Nat.reduceBEq,reduceCtorEq,Nat.reduceEqDiff,hlm,decide_true,f0,f1,f2]
  refine ⟨_,_,hd,?_⟩
  simp only [↓Sh.dn,sx,Nat.reduceBEq,reduceCtorEq,Nat.reduceEqDiff,hres]
  exact ⟨l2,(fin (H2:=H2) q1 q2).1,(fin (H2:=H2) q1 q2).2,q3,hc1.trans q4⟩
 simp only [↓Sh.dn,sx,Nat.reduceBEq,reduceCtorEq,Nat.reduceEqDiff,hlm,decide_false,f8]
 obtain ⟨M1,hM1⟩:∃ M:Fr→AH→Prop,M=fun F' H9=>∃ l2:List Int,Mix a' b' l1 l2∧A6e H9 g k n l2∧Chg (fun y=>y=g) H H9∧F'.get 0=some (.slice (some ⟨g,0,some k⟩) l.length cap)∧F'.get 1=some (.int .i64 (a':Int))∧F'.get 2=some (.int .i64 (b':Int))∧F'.get 8=some (.bool x8)∧F'.get 9=some (.bool x9)∧F'.get 10=some (.int .i64 ((b' - a':Nat):Int))∧∃ lm,F'.get 3=some (.int .i64 lm):=⟨_,rfl⟩
 refine C3x M1 (by rfl) ?_ ?_
 ·cases x8 with
  | true=>
   simp only [↓Sh.dn,sx,Nat.reduceBEq,reduceCtorEq,Nat.reduceEqDiff,hM1,f0,f1,f2,f3,f8,f9]
   exact ⟨l1,.refl l1,hv1,hc1,lm,rfl⟩
  | false=>
   obtain ⟨r,H2,hd,l2,q1,q3,q4⟩:=B0a (cap:=cap) hv1 hc1.wf (by omega) (by omega:a'+12 < b') (by omega)
   rw [hvl] at hd
   simp only [↓Sh.dn,sx,Nat.reduceBEq,reduceCtorEq,Nat.reduceEqDiff,f0,f1,f2]
   refine ⟨_,_,hd,?_⟩
   simp only [↓Sh.dn,sx,Nat.reduceBEq,reduceCtorEq,Nat.reduceEqDiff,hM1,f0,f1,f2,f3,f8,f9]
   exact ⟨l2,q1,q3,hc1.trans q4,_,rfl⟩
 intro F1 H1 h9
 rw [hM1] at h9
 obtain ⟨l2,hm2,hv2,hc2,f0,f1,f2,f8,f9,f10,lm2,f3⟩:=h9
 have hlen2:l2.length=l.length:=by rw [hm2.length]; exact hlen
 obtain ⟨r,H2,hd,q,hint,rfl,hq1,hq2,hv2',hk2⟩:=B6h (cap:=cap) hv2 hc2.wf (by omega) (by omega:a'+12 < b') (by omega)
 have hc2':Chg (fun y=>y=g) H H2:=hc2.trans hk2.chg
 rw [hlen2] at hd
 simp only [↓Sh.dn,sx,Nat.reduceBEq,reduceCtorEq,Nat.reduceEqDiff,f0,f1,f2]
 refine ⟨_,_,hd,?_⟩
 simp only [↓Sh.dn,sx,Nat.reduceBEq,reduceCtorEq,Nat.reduceEqDiff]
 obtain ⟨M2,hM2⟩:∃ M:Fr→AH→Prop,M=fun F' H9=>∃ l2:List Int,Mix a' b' l1 l2∧A6e H9 g k n l2∧Chg (fun y=>y=g) H H9∧F'.get 0=some (.slice (some ⟨g,0,some k⟩) l.length cap)∧F'.get 1=some (.int .i64 (a':Int))∧F'.get 2=some (.int .i64 (b':Int))∧F'.get 3=some (.int .i64 lm2)∧F'.get 8=some (.bool x8)∧F'.get 9=some (.bool x9)∧F'.get 10=some (.int .i64 ((b' - a':Nat):Int))∧∃ q:Nat,a'≤q∧q < b'∧F'.get 11=some (.int .i64 (q:Int))∧∃ hint,F'.get 12=some (.int .i64 hint):=⟨_,rfl⟩
 refine C3x M2 (by rfl) ?_ ?_
 ·by_cases hh:hint=2
  ·have e1:IntKind.wrap .i64 ((b':Int) - 1)=((b' - 1:Nat):Int):=by rw [wrap64 (by omega) (by omega)]; omega
   have e2:IntKind.wrap .i64 ((q:Int) - (a':Int))=((q - a':Nat):Int):=by rw [wrap64 (by omega) (by omega)]; omega
   have e3:IntKind.wrap .i64 (((b' - 1:Nat):Int) - ((q - a':Nat):Int))=((b' - 1 - (q - a'):Nat):Int):=by rw [wrap64 (by omega) (by omega)]; omega
   obtain ⟨r,H3,hd3,l3,p1,p2,p3⟩:=B9f (cap:=cap) hv2' hk2.wf (by omega) (by omega:a' < b') (by omega)
   rw [hlen2] at hd3
   simp only [↓Sh.dn,sx,Nat.reduceBEq,reduceCtorEq,Nat.reduceEqDiff,hh,decide_true,f0,f1,f2]
   refine ⟨_,_,hd3,?_⟩
   simp only [↓Sh.dn,sx,Nat.reduceBEq,reduceCtorEq,Nat.reduceEqDiff,hM2,f0,f1,f2,f3,f8,f9,f10,e1,e2,e3]
   exact ⟨l3,hm2.trans p1,p2,hc2'.trans p3,b' - 1 - (q - a'),by omega,by omega,rfl,1,rfl⟩
  ·simp only [↓Sh.dn,sx,Nat.reduceBEq,reduceCtorEq,Nat.reduceEqDiff,hh,decide_false,hM2,f0,f1,f2,f3,f8,f9,f10]
   exact ⟨l2,hm2,hv2',hc2',q,hq1,hq2,rfl,hint,rfl⟩
 intro F2 H3 h9
 rw [hM2] at h9
 obtain ⟨l3,hm3,hv3,hc3,f0,f1,f2,f3,f8,f9,f10,q,hq1,hq2,f11,hint,f12⟩:=h9
 have hlen3:l3.length=l.length:=by rw [hm3.length]; exact hlen
 obtain ⟨M3,hM3⟩:∃ M:Fr→AH→Prop,M=fun F' H9=>H3=H9∧F'.get 0=some (.slice (some ⟨g,0,some k⟩) l.length cap)∧F'.get 1=some (.int .i64 (a':Int))∧F'.get 2=some (.int .i64 (b':Int))∧F'.get 3=some (.int .i64 lm2)∧F'.get 8=some (.bool x8)∧F'.get 9=some (.bool x9)∧F'.get 10=some (.int .i64 ((b' - a':Nat):Int))∧F'.get 11=some (.int .i64 (q:Int))∧∃ bb,F'.get 68=some (.bool bb):=⟨_,rfl⟩
 simp only [↓Sh.wp_seq]
 refine B0v M3 (by rfl) ?_ ?_
 ·cases x8 with
  | false=>
   simp only [↓Sh.dn,sx,Nat.reduceBEq,reduceCtorEq,Nat.reduceEqDiff,hM3,f0,f1,f2,f3,f8,f9,f10,f11,f12]
  | true=>
   cases x9 with
   | false=>
    simp only [↓Sh.dn,sx,Nat.reduceBEq,reduceCtorEq,Nat.reduceEqDiff,hM3,f0,f1,f2,f3,f8,f9,f10,f11,f12]
   | true=>
    simp only [↓Sh.dn,sx,Nat.reduceBEq,reduceCtorEq,Nat.reduceEqDiff,hM3,f0,f1,f2,f3,f8,f9,f10,f11,f12]
 intro F3 H4 h9
 rw [hM3] at h9
 obtain ⟨rfl,f0,f1,f2,f3,f8,f9,f10,f11,bb,f68⟩:=h9
 obtain ⟨N,hN⟩:∃ N:Fr→AH→Prop,N=fun F' H9=>∃ l4:List Int,Mix a' b' l1 l4∧A6e H9 g k n l4∧Chg (fun y=>y=g) H H9∧F'.get 0=some (.slice (some ⟨g,0,some k⟩) l.length cap)∧F'.get 1=some (.int .i64 (a':Int))∧F'.get 2=some (.int .i64 (b':Int))∧F'.get 3=some (.int .i64 lm2)∧F'.get 8=some (.bool x8)∧F'.get 9=some (.bool x9)∧F'.get 10=some (.int .i64 ((b' - a':Nat):Int))∧F'.get 11=some (.int .i64 (q:Int)):=⟨_,rfl⟩
 refine wp_cut N (fun F4 H5 h9=>?_) (fun kont=>?_)
 case refine_2=>
  cases bb with
  | false=>
   refine (A43 (by rw [C8m,f68])).2 (Sh.wp_skip.2 (kont _ _ ?_))
   rw [hN]
   exact ⟨l3,hm3,hv3,hc3,f0,f1,f2,f3,f8,f9,f10,f11⟩
  | true=>
   obtain ⟨r,H5,hd5,b5,rfl,l4,p1,p2,p3,p4⟩:=A61 (cap:=cap) hv3 hc3.wf (by omega) (by omega:a' < b') (by omega) (hpr.mix hm3 (by omega))
   rw [hlen3] at hd5
   simp only [↓Sh.dn,sx,Nat.reduceBEq,reduceCtorEq,Nat.reduceEqDiff,f68,f0,f1,f2]
   refine ⟨_,_,hd5,?_⟩
   cases b5 with
   | true=>
    simp only [↓Sh.dn,sx,Nat.reduceBEq,reduceCtorEq,Nat.reduceEqDiff,hres]
    exact ⟨l4,(fin (H2:=H5) (hm3.trans p1) (p2 rfl)).1,(fin (H2:=H5) (hm3.trans p1) (p2 rfl)).2,p3,hc3.trans p4⟩
   | false=>
    refine (A43 ?_).2 (Sh.wp_skip.2 (kont _ _ ?_))
    ·simp only [↓Sh.dn,sx,Nat.reduceBEq,reduceCtorEq,Nat.reduceEqDiff]
    rw [hN]
    exact ⟨l4,hm3.trans p1,p3,hc3.trans p4,by simp only [↓Sh.dn,sx,Nat.reduceBEq,reduceCtorEq,Nat.reduceEqDiff,f0],by simp only [↓Sh.dn,sx,Nat.reduceBEq,reduceCtorEq,Nat.reduceEqDiff,f1],by simp only [↓Sh.dn,sx,Nat.reduceBEq,reduceCtorEq,Nat.reduceEqDiff,f2],by simp only [↓Sh.dn,sx,Nat.reduceBEq,reduceCtorEq,Nat.reduceEqDiff,f3],by simp only [↓Sh.dn,sx,Nat.reduceBEq,reduceCtorEq,Nat.reduceEqDiff,f8],by simp only [↓Sh.dn,sx,Nat.reduceBEq,reduceCtorEq,Nat.reduceEqDiff,f9],by simp only [↓Sh.dn,sx,Nat.reduceBEq,reduceCtorEq,Nat.reduceEqDiff,f10],by simp only [↓Sh.dn,sx,Nat.reduceBEq,reduceCtorEq,Nat.reduceEqDiff,f11]⟩
 rw [hN] at h9
 clear hN
 obtain ⟨l4,hm4,hv4,hc4,f0,f1,f2,f3,f8,f9,f10,f11⟩:=h9
 have hlen4:l4.length=l.length:=by rw [hm4.length]; exact hlen
 have jq:q < l4.length:=by omega
 have iq:=A1d (g:=g) (k:=k) (cap:=cap) (m:=l.length) (i:=q) (j:=.i64) (by omega)
 have xq:=A8c hv4 jq
 have eq4:l4[q]?=some l4[q]:=List.getElem?_eq_getElem jq
 have hpr4:PreInt a' b' l4:=hpr.mix hm4 (by omega)
 have h34:P3 A4c a a' b' b l4:=h3.mix ha' hb' hm4 (by omega)
 have hm04:Mix a b l l4:=hm.trans (hm4.wide ha' hb')
 obtain ⟨M4,hM4⟩:∃ M:Fr→AH→Prop,M=fun F' H9=>H5=H9∧F'.get 0=some (.slice (some ⟨g,0,some k⟩) l.length cap)∧F'.get 1=some (.int .i64 (a':Int))∧F'.get 2=some (.int .i64 (b':Int))∧F'.get 3=some (.int .i64 lm2)∧F'.get 8=some (.bool x8)∧F'.get 9=some (.bool x9)∧F'.get 10=some (.int .i64 ((b' - a':Nat):Int))∧F'.get 11=some (.int .i64 (q:Int))∧∃ bb,F'.get 87=some (.bool bb)∧(bb=true→0 < a'∧∀ y,l4[a' - 1]?=some y→A4c y l4[q]=false):=⟨_,rfl⟩
 simp only [↓Sh.wp_seq]
 refine B0v M4 (by rfl) ?_ ?_
 ·refine (A4d (by kernel_rfl)).2 ?_
  by_cases h0:0 < a'
  ·have d:decide ((0:Int) < (a':Int))=true:=by simp; omega
   have wa1:IntKind.wrap .i64 ((a':Int) - 1)=((a' - 1:Nat):Int):=by rw [wrap64 (by omega) (by omega)]; omega
   have ja:a' - 1 < l4.length:=by omega
   have ia:=A1d (g:=g) (k:=k) (cap:=cap) (m:=l.length) (i:=a' - 1) (j:=.i64) (by omega)
   have xa:=A8c hv4 ja
   have ea:l4[a' - 1]?=some l4[a' - 1]:=List.getElem?_eq_getElem ja
   simp only [↓Sh.dn,sx,Nat.reduceBEq,reduceCtorEq,Nat.reduceEqDiff,f0,f1,f11,d,wa1,ia,iq,xa,xq]
   refine ⟨_,_,A2e,?_⟩
   cases hq:A4c l4[a' - 1] l4[q] with
   | true=>
    simp only [↓Sh.dn,sx,Nat.reduceBEq,reduceCtorEq,Nat.reduceEqDiff,hM4,f0,f1,f2,f3,f8,f9,f10,f11]
   | false=>
    simp only [↓Sh.dn,sx,Nat.reduceBEq,reduceCtorEq,Nat.reduceEqDiff,hM4,f0,f1,f2,f3,f8,f9,f10,f11]
    refine ⟨h0,fun y hy=>?_⟩
    rw [ea] at hy; rw [← Option.some.inj hy]; exact hq
  ·have d:decide ((0:Int) < (a':Int))=false:=by simp; omega
   simp only [↓Sh.dn,sx,Nat.reduceBEq,reduceCtorEq,Nat.reduceEqDiff,hM4,f0,f1,f2,f3,f8,f9,f10,f11,d]
 intro F5 H6 h9
 rw [hM4] at h9
 obtain ⟨rfl,f0,f1,f2,f3,f8,f9,f10,f11,bb,f87,hbb⟩:=h9
 cases bb with
 | true=>
  obtain ⟨hpos,hy⟩:=hbb rfl
  obtain ⟨r,H7,hd7,m,rfl,hm1,hm2',l5,p1,p2,p3,p4,p5⟩:=A87 (cap:=cap) (p:=q) hv4 hc4.wf (by omega) hq1 hq2 (by omega)
  rw [hlen4] at hd7
  simp only [↓Sh.dn,sx,Nat.reduceBEq,reduceCtorEq,Nat.reduceEqDiff,f87,f0,f1,f2,f11]
  refine ⟨_,_,hd7,?_⟩
  try simp only [↓Sh.dn,sx,Nat.reduceBEq,reduceCtorEq,Nat.reduceEqDiff]
  have hge4:∀ (i:Nat) x,a'≤i→i < b'→l4[i]?=some x→A4c x l4[q]=false:=by
   intro i x h1 h2 hx
   have ja:a' - 1 < l4.length:=by omega
   have ea:l4[a' - 1]?=some l4[a' - 1]:=List.getElem?_eq_getElem ja
   exact hTO.le_trans (hy _ ea) (hpr4 i x _ hpos ea h1 h2 hx)
  have hge:∀ (i:Nat) x,a'≤i→i < b'→l5[i]?=some x→A4c x l4[q]=false:=p1.all (p:=fun x=>A4c x l4[q]=false) (by omega) hge4
  have heq:∀ (i:Nat) x,a'≤i→i < m→l5[i]?=some x→x=l4[q]:=by
   intro i x h1 h2 hx
   rcases hTO.tri x l4[q] with h | h | h
   ·rw [hge i x h1 (by omega) hx] at h; cases h
   ·exact h
   ·rw [p2 i x h1 h2 hx] at h; cases h
  have h35:=h34.mix ha' hb' p1 (by omega)
  refine kk (b' - m) _ _ (by omega) ⟨m,b',l5,lm2,x8,x9,rfl,by omega,by omega,hb',hm04.trans (p1.wide ha' hb'),fun i j x z h1 h2 h3' h4 hx hz=>?_,fun i x y h0 hy' h1 h2 hx=>?_,p4,hc4.trans p5,by simp only [↓Sh.dn,sx,Nat.reduceBEq,reduceCtorEq,Nat.reduceEqDiff,f0],by simp only [↓Sh.dn,sx,Nat.reduceBEq,reduceCtorEq,Nat.reduceEqDiff],by simp only [↓Sh.dn,sx,Nat.reduceBEq,reduceCtorEq,Nat.reduceEqDiff,f2],by simp only [↓Sh.dn,sx,Nat.reduceBEq,reduceCtorEq,Nat.reduceEqDiff,f3],by simp only [↓Sh.dn,sx,Nat.reduceBEq,reduceCtorEq,Nat.reduceEqDiff,f8],by simp only [↓Sh.dn,sx,Nat.reduceBEq,reduceCtorEq,Nat.reduceEqDiff,f9]⟩
  ·by_cases hin:a'≤i∧j < b'
   ·have hx':=heq i x hin.1 (by omega) hx
    by_cases hj:j < m
    ·have hz':=heq j z (by omega) hj hz
     rw [hx',hz']; exact hTO.irrefl _
    ·rw [hx']; exact hTO.asymm (p3 j z (by omega) hin.2 hz)
   ·exact h35 i j x z h1 h2 h3' hin hx hz
  ·have hy2:=heq (m - 1) y (by omega) (by omega) hy'
   rw [hy2]; exact hTO.asymm (p3 i x h1 h2 hx)
 | false=>
  obtain ⟨r,H7,hd7,m,al,rfl,hm1,hm2',l5,p1,y,py,p2,p3,p4,p5⟩:=B6w (cap:=cap) (p:=q) hv4 hc4.wf (by omega) hq1 hq2 (by omega)
  rw [hlen4] at hd7
  have hlen5:l5.length=l.length:=by rw [p1.length]; exact hlen4
  have s1:IntKind.wrap .i64 ((m:Int) - (a':Int))=((m - a':Nat):Int):=by rw [wrap64 (by omega) (by omega)]; omega
  have s2:IntKind.wrap .i64 ((b':Int) - (m:Int))=((b' - m:Nat):Int):=by rw [wrap64 (by omega) (by omega)]; omega
  have s3:Int.tdiv ((b' - a':Nat):Int) 8=(((b' - a') / 8:Nat):Int):=by rw [Int.tdiv_eq_ediv_of_nonneg (by omega)]; rfl
  have s4:IntKind.wrap .i64 (((b' - a') / 8:Nat):Int)=(((b' - a') / 8:Nat):Int):=wrap64 (by omega) (by omega)
  have s5:IntKind.wrap .i64 ((m:Int)+1)=((m+1:Nat):Int):=by rw [wrap64 (by omega) (by omega)]; rfl
  simp only [↓Sh.dn,sx,Nat.reduceBEq,reduceCtorEq,Nat.reduceEqDiff,f87,f0,f1,f2,f11]
  refine ⟨_,_,hd7,?_⟩
  simp only [↓Sh.dn,sx,Nat.reduceBEq,reduceCtorEq,Nat.reduceEqDiff,f1,f2,f10,s1,s2,B25 (show (8:Int)≠0 by decide),s3,s4,A4a]
  have hpr5:PreInt a' b' l5:=hpr4.mix p1 (by omega)
  have h35:=h34.mix ha' hb' p1 (by omega)
  have hm05:=hm04.trans (p1.wide ha' hb')
  have hc5:=hc4.trans p5
  by_cases hlr:m - a' < b' - m
  ·obtain ⟨r,H8,hd8,l6,u1,u2,u3,u4⟩:=ih (m - a') (by omega) (lim:=lm2) (a:=a') (b:=m) (Nat.le_refl _) p4 p5.wf (by omega) hm1 (by omega) (fun i x z h0 hz h1 h2 hx=>hpr5 i x z h0 hz h1 (by omega) hx)
   rw [hlen5] at hd8
   have py6:l6[m]?=some y:=by rw [u1.out (.inr (Nat.le_refl _))]; exact py
   have hpart:=P3.part hTO (h35.mix ha' hb' (u1.wide (Nat.le_refl _) (by omega)) (by omega)) hm1 hm2' py6 (u1.all (p:=fun x=>A4c x y=true) (by omega) (fun i x h1 h2 hx=>p2 i x h1 h2 hx)) (fun i x h1 h2 hx=>p3 i x h1 h2 (by rw [← u1.out (.inr (by omega))]; exact hx))
   simp only [↓Sh.dn,sx,Nat.reduceBEq,reduceCtorEq,Nat.reduceEqDiff,hlr,decide_true,f0,f1,f3]
   refine ⟨_,_,hd8,?_⟩
   try simp only [↓Sh.dn,sx,Nat.reduceBEq,reduceCtorEq,Nat.reduceEqDiff,s5]
   exact kk (b' - (m + 1)) _ _ (by omega) ⟨m + 1, b', l6, lm2, _, al, rfl, by omega, by omega, hb', hm05.trans (u1.wide ha' (by omega)), hpart.1 u2, fun i x z h0 hz h1 h2 hx => by
       rw [show m + 1 - 1 = m by omega, py6] at hz
       rw [← Option.some.inj hz]
       exact p3 i x (by omega) h2 (by rw [← u1.out (.inr (by omega))]; exact hx), u3, hc5.trans u4, by simp only [↓Sh.dn, sx, Nat.reduceBEq, reduceCtorEq, Nat.reduceEqDiff, f0], by simp only [↓Sh.dn, sx, Nat.reduceBEq, reduceCtorEq, Nat.reduceEqDiff], by simp only [↓Sh.dn, sx, Nat.reduceBEq, reduceCtorEq, Nat.reduceEqDiff, f2], by simp only [↓Sh.dn, sx, Nat.reduceBEq, reduceCtorEq, Nat.reduceEqDiff, f3], by simp only [↓Sh.dn, sx, Nat.reduceBEq, reduceCtorEq, Nat.reduceEqDiff]; rfl, by simp only [↓Sh.dn, sx, Nat.reduceBEq, reduceCtorEq, Nat.reduceEqDiff]⟩
  ·obtain ⟨r, H8, hd8, l6, u1, u2, u3, u4⟩ := ih (b' - (m + 1)) (by omega) (lim := lm2) (a := m + 1) (b := b') (Nat.le_refl _) p4 p5.wf (by omega) (by omega) (by omega) (fun i x z h0 hz h1 h2 hx => by
     rw [show m + 1 - 1 = m by omega, py] at hz
     rw [← Option.some.inj hz]
     exact p3 i x (by omega) h2 hx)
   rw [hlen5] at hd8
   have py6 : l6[m]? = some y := by rw [u1.out (.inl (by omega))]; exact py
   have hpart := P3.part hTO (h35.mix ha' hb' (u1.wide (by omega) (Nat.le_refl _)) (by omega)) hm1 hm2' py6 (fun i x h1 h2 hx => p2 i x h1 h2 (by rw [← u1.out (.inl (by omega))]; exact hx)) (fun i x h1 h2 hx => u1.all (p := fun x => A4c x y = false) (by omega) (fun i x h1 h2 hx => p3 i x (by omega) h2 hx) i x (by omega) h2 hx)
   simp only [↓Sh.dn, sx, Nat.reduceBEq, reduceCtorEq, Nat.reduceEqDiff, hlr, decide_false, f0, f1, f2, f3, s5]
   refine ⟨_, _, hd8, ?_⟩
   try simp only [↓Sh.dn, sx, Nat.reduceBEq, reduceCtorEq, Nat.reduceEqDiff]
   exact kk (m - a') _ _ (by omega) ⟨a', m, l6, lm2, _, al, rfl, ha', hm1, by omega, hm05.trans (u1.wide (by omega) hb'), hpart.2 u2, fun i x z h0 hz h1 h2 hx => by
       rw [u1.out (.inl (by omega))] at hz
       rw [u1.out (.inl (by omega))] at hx
       exact hpr5 i x z h0 hz h1 (by omega) hx, u3, hc5.trans u4, by simp only [↓Sh.dn, sx, Nat.reduceBEq, reduceCtorEq, Nat.reduceEqDiff, f0], by simp only [↓Sh.dn, sx, Nat.reduceBEq, reduceCtorEq, Nat.reduceEqDiff, f1], by simp only [↓Sh.dn, sx, Nat.reduceBEq, reduceCtorEq, Nat.reduceEqDiff], by simp only [↓Sh.dn, sx, Nat.reduceBEq, reduceCtorEq, Nat.reduceEqDiff, f3], by simp only [↓Sh.dn, sx, Nat.reduceBEq, reduceCtorEq, Nat.reduceEqDiff]; rfl, by simp only [↓Sh.dn, sx, Nat.reduceBEq, reduceCtorEq, Nat.reduceEqDiff]⟩
end Go.Proofs.YtnoengaghabmjaaGreatDoor
/- slices.Sort. -/
namespace Go.Proofs.YtnoengaghabmjaaGreatDoor
open Go Go.Proofs Go.Proofs.Sh
theorem B3h {H:AH} {v:Value}:Sh.Call Tryz.prog (knows 8) 168 [v,.int .i64 0,.int .i64 0] H (fun r H'=>H'=H):=by
 refine A5a rfl Tryz.func168 rfl (Nat.le_of_ble_eq_true rfl) ?_
 have hres:Tryz.f168.results.toList=[]:=rfl
 have w1:IntKind.wrap .i64 ((0:Int)+1)=1:=rfl
 simp only [↓Sh.dn,sx,Nat.reduceBEq,reduceCtorEq,Nat.reduceEqDiff,w1]
 refine A5e (fun m F H'=>H'=H∧F.get 2=some (.int .i64 0)∧F.get 6=some (.int .i64 1)) (m:=0) ⟨rfl,by simp only [↓Sh.dn,sx,Nat.reduceBEq,reduceCtorEq,Nat.reduceEqDiff],by simp only [↓Sh.dn,sx,Nat.reduceBEq,reduceCtorEq,Nat.reduceEqDiff]⟩ ?_
 rintro m F H' ⟨rfl,f2,f6⟩ kk
 have d:decide ((1:Int) < 0)=false:=rfl
 simp only [↓Sh.dn,sx,Nat.reduceBEq,reduceCtorEq,Nat.reduceEqDiff,f2,f6,d,hres]
theorem B0i {H:AH} {v:Value} {lim:Int}:Sh.Call Tryz.prog (knows 8) 161 [v,.int .i64 0,.int .i64 0,.int .i64 lim] H (fun r H'=>H'=H):=by
 refine A5a rfl Tryz.func161 rfl (Nat.le_of_ble_eq_true rfl) ?_
 have hres:Tryz.f161.results.toList=[]:=rfl
 obtain ⟨r,H1,hd,rfl⟩:=B3h (H:=H) (v:=v)
 have w1:IntKind.wrap .i64 ((0:Int) - 0)=0:=rfl
 have d:decide ((0:Int)≤12)=true:=rfl
 simp only [↓Sh.dn,sx,Nat.reduceBEq,reduceCtorEq,Nat.reduceEqDiff]
 refine A5e (fun m F H'=>H'=H1∧F.get 0=some v∧F.get 1=some (.int .i64 0)∧F.get 2=some (.int .i64 0)) (m:=0) ⟨rfl,by simp only [↓Sh.dn,sx,Nat.reduceBEq,reduceCtorEq,Nat.reduceEqDiff],by simp only [↓Sh.dn,sx,Nat.reduceBEq,reduceCtorEq,Nat.reduceEqDiff],by simp only [↓Sh.dn,sx,Nat.reduceBEq,reduceCtorEq,Nat.reduceEqDiff]⟩ ?_
 rintro m F H' ⟨rfl,f0,f1,f2⟩ kk
 simp only [↓Sh.dn,sx,Nat.reduceBEq,reduceCtorEq,Nat.reduceEqDiff,f0,f1,f2,w1,d]
 refine ⟨_,_,hd,?_⟩
 simp only [↓Sh.dn,sx,Nat.reduceBEq,reduceCtorEq,Nat.reduceEqDiff,hres]
theorem B34 {H:AH} {v:Value} {l:List Int} {ob:Option Nat} (hb:Buf H 1 v (l.map fun x=>[Value.int .i64 x]) ob) (hl:l.length≤1048576) (hw:Wf H):
  Sh.Call Tryz.prog (knows 8) 158 [v] H (fun r H'=>∃ l':List Int,l'.Perm l∧Srt A4c 0 l'.length l'∧Buf H' 1 v (l'.map fun x=>[Value.int .i64 x]) ob∧Chg (fun y=>ob=some y) H H'):=by
 refine A5a rfl Tryz.func158 rfl (Nat.le_of_ble_eq_true rfl) ?_
 have hres:Tryz.f158.results.toList=[]:=rfl
 have hlen:=hb.toSl.len Tryz.underlying86 H
 rw [List.length_map] at hlen
 have wu:IntKind.wrap .u64 (l.length:Int)=(l.length:Int):=A18 (by omega) (by omega)
 obtain ⟨r,H1,hd,rfl,c,rfl,_⟩:=bitsLen (H:=H) (x:=l.length) (by omega)
 simp only [↓Sh.dn,sx,Nat.reduceBEq,reduceCtorEq,Nat.reduceEqDiff,hlen,wu]
 refine ⟨_,_,hd,?_⟩
 cases ob with
 | none=>
  have hl0:l=[]:=by
   generalize hL:(l.map fun x=>[Value.int .i64 x])=L at hb
   cases hb
   simpa using hL
  subst hl0
  obtain ⟨r,H2,hd2,rfl⟩:=B0i (H:=H1) (v:=v) (lim:=(c:Int))
  simp only [↓Sh.dn,sx,Nat.reduceBEq,reduceCtorEq,Nat.reduceEqDiff,List.length_nil,Int.ofNat_zero]
  refine ⟨_,_,hd2,?_⟩
  simp only [↓Sh.dn,sx,Nat.reduceBEq,reduceCtorEq,Nat.reduceEqDiff,hres]
  exact ⟨[],List.Perm.refl _,fun i j x y h1 h2 h3=>by simp at h3,hb,Chg.refl hw⟩
 | some g=>
  obtain ⟨k,cap,n,rfl,hc,hback⟩:=hb.cells
  obtain ⟨r,H2,hd2,l',q1,q2,q3,q4⟩:=pdqInt (cap:=cap) l.length (a:=0) (b:=l.length) (lim:=(c:Int)) (by omega) hc hw hl (Nat.zero_le _) (Nat.le_refl _) (fun q x y h=>absurd h (Nat.lt_irrefl 0))
  simp only [↓Sh.dn,sx,Nat.reduceBEq,reduceCtorEq,Nat.reduceEqDiff]
  refine ⟨_,_,hd2,?_⟩
  simp only [↓Sh.dn,sx,Nat.reduceBEq,reduceCtorEq,Nat.reduceEqDiff,hres]
  exact ⟨l',q1.perm,by rw [q1.length]; exact q2,hback H2 l' q1.length q3,q4.weak fun x hx=>by rw [hx]⟩
end Go.Proofs.YtnoengaghabmjaaGreatDoor
/- sort.Ints. -/
namespace Go.Proofs.YtnoengaghabmjaaGreatDoor
open Go Go.Proofs Go.Proofs.Sh
theorem sortInts {H:AH} {v:Value} {l:List Int} {ob:Option Nat} (hb:Buf H 1 v (l.map fun x=>[.int .i64 x]) ob) (hl:l.length≤1048576) (hw:Wf H):
  Sh.Call Tryz.prog (knows 8) 148 [v] H (fun r H'=>∃ l':List Int,l'.Perm l∧Srt A4c 0 l'.length l'∧Buf H' 1 v (l'.map fun x=>[.int .i64 x]) ob∧Chg (fun y=>ob=some y) H H'):=by
 refine A5a rfl Tryz.func148 rfl (Nat.le_of_ble_eq_true rfl) ?_
 have hres:Tryz.f148.results.toList=[]:=rfl
 obtain ⟨r,H1,hd,hq⟩:=B34 hb hl hw
 simp only [↓Sh.dn,sx,Nat.reduceBEq,reduceCtorEq,Nat.reduceEqDiff]
 refine ⟨_,_,hd,?_⟩
 simp only [↓Sh.dn,sx,Nat.reduceBEq,reduceCtorEq,Nat.reduceEqDiff,hres]
 exact hq
end Go.Proofs.YtnoengaghabmjaaGreatDoor
/- The reference's Close: a set of states with all that empty edges lead to. -/
namespace Go.Proofs.YtnoengaghabmjaaGreatDoor
open Go Go.Proofs Go.Proofs.Sh
theorem C6b {H:AH} {v u ev bv:Value} {vals:List Value} {n:Nat} {E:List (List (ByteArray×Nat))} {ends:List Bool} {L:List Nat} (h:RG H v n E ends ev bv vals) (hL:Sl H u 1 (L.map natC)) (hlt:∀ t∈L,t < n) (hll:L.length≤1073741823) (hw:Wf H):
  Sh.Call Tryz.prog (knows 8) 121 [v,u] H (fun r H'=>SetOut H H' r n (Clo (A3q E A7f) fun s=>s∈L)):=by
 refine A5a rfl Tryz.func121 rfl (Nat.le_of_ble_eq_true rfl) ?_
 have hres:Tryz.f121.results.toList=[.tmp 4]:=rfl
 have hrb:=RBox.of h hw
 have hk1:Kept H (H.new 3 [.int .i64 0,ev,bv]).2:=Kept.new hw 3 _
 have hE:=h.ed.sl.isCell
 have hB:=h.en.isCell
 rw [h.eq]
 simp only [↓Sh.dn,sx,Nat.reduceBEq,reduceCtorEq,Nat.reduceEqDiff,C3w hE hB]
 have e0:H.next≤(H.new 3 [.int .i64 0,ev,bv]).2.next:=Nat.le_succ _
 generalize (H.new 3 [.int .i64 0,ev,bv]).2=H1 at hrb hk1 e0 ⊢
 generalize H.next=gb at hrb e0 ⊢
 have hn1:=h.n1
 have hn2:=h.n2
 have hlenE:∀ H',A7a Tryz.prog .len [80] [ev] H'=some (.int .i64 (n:Int),H'):=fun H'=>by
  rw [h.ed.sl.len Tryz.underlying80,List.length_map,h.ed.len]; unfold A25; rw [List.length_map,h.le]
 have hmk:=mk_81 (H:=H1) (l:=n) (c:=n) (Nat.le_refl _) (by omega)
 have k2:=Kept.new hk1.wf 1 (List.replicate n (.bool false))
 have f2:=Buf.fill hk1.wf (.bool false) (c:=n) (by omega)
 simp only [↓Sh.dn,sx,Nat.reduceBEq,reduceCtorEq,Nat.reduceEqDiff,hrb.c1,hlenE,hmk]
 obtain ⟨os,hos⟩:∃ os,(if n=0 then none else some H1.next)=os:=⟨_,rfl⟩
 rw [hos] at f2
 have hM0:MB (H1.new 1 (List.replicate n (.bool false))).2 H1.next n (.slice (some ⟨H1.next,0,some 0⟩) n n) os (List.replicate n false) []:=by
  refine ⟨Marks.empty n,by rw [List.map_replicate]; exact f2,fun y hy=>?_⟩
  rw [← hos,if_neg (by omega)] at hy
  rw [← Option.some.inj hy]; exact Nat.le_refl _
 generalize (Value.slice (some ⟨H1.next,0,some 0⟩) n n)=sv at hM0 ⊢
 generalize (H1.new 1 (List.replicate n (.bool false))).2=H2 at k2 hM0 ⊢
 refine A6g L.length 7 (List.range' 15 27++[6,7]) (fun i F H'=>Kept H1 H'∧∃ z,F.get 6=some z∧∃ seen out ob,MB H' H1.next n sv os seen out∧LB H' H1.next os z out ob∧(∀ t∈out,t∈L)∧∀ (j t:Nat),j < i→L[j]?=some t→t∈out) (by simp only [↓Sh.dn,sx,Nat.reduceBEq,reduceCtorEq,Nat.reduceEqDiff]) ⟨k2,_,by simp only [↓Sh.dn,sx,Nat.reduceBEq,reduceCtorEq,Nat.reduceEqDiff],_,_,none,hM0,⟨.void none,fun y hy=>by cases hy⟩,fun t ht=>(by cases ht),fun j t hj=>by omega⟩ ?_ ?_
 ·rintro i F H' hi hF f7 ⟨hk,z,f6,seen,out,ob,hM,hl,hsub,hdone⟩ k
  have f1:=hF 1 rfl
  have f5:=hF 5 rfl
  simp only [↓Sh.dn,sx,Nat.reduceBEq,reduceCtorEq,Nat.reduceEqDiff] at f1 f5
  have hL':=hL.grow ((hk1.trans hk).grow hw)
  have hlen:=hL'.len Tryz.underlying86 H'
  rw [List.length_map] at hlen
  obtain ⟨p,hia,hc⟩:=C2j Tryz.underlying86 A3e hL' hi
  have htn:L[i] < n:=hlt _ (List.getElem_mem hi)
  have hget:L[i]?=some L[i]:=List.getElem?_eq_getElem hi
  have hmem:L[i]∈L:=List.getElem_mem hi
  generalize L[i]=t at hc htn hget hmem
  obtain ⟨p2,hia2,hc2⟩:=hM.see Tryz.underlying81 A1x htn
  simp only [↓Sh.dn,sx,Nat.reduceBEq,reduceCtorEq,Nat.reduceEqDiff,f1,f5,f6,f7,A4a,hi,decide_true,hlen,hia,hc,hia2,hc2]
  by_cases hin:t∈out
  ·simp only [↓Sh.dn,sx,Nat.reduceBEq,reduceCtorEq,Nat.reduceEqDiff,hin,decide_true,f7,A7b hi (Nat.le_trans hll (by decide))]
   refine k _ _ (by repeat (first | refine Same.put ?_ rfl | exact Same.rfl' _)) (by simp only [↓Sh.dn,sx,Nat.reduceBEq,reduceCtorEq,Nat.reduceEqDiff]) ⟨hk,z,by simp only [↓Sh.dn,sx,Nat.reduceBEq,reduceCtorEq,Nat.reduceEqDiff,f6],seen,out,ob,hM,hl,hsub,fun j t' hj ht'=>?_⟩
   by_cases hji:j=i
   ·subst hji; rw [hget] at ht'; rw [← Option.some.inj ht']; exact hin
   ·exact hdone j t' (by omega) ht'
  ·obtain ⟨p3,H3,a,cap,w',H4,ob',e1,e2,e3,rfl,e5,e6,e7,e8,e9,e10,e11⟩:=C9c hk hM hl htn hin (by have:=hM.ms.le; omega)
   obtain ⟨p4,hia4,hc4⟩:=C2j Tryz.underlying86 A3e (hL.grow ((hk1.trans e5).grow hw)) hi
   rw [hia] at hia4
   injection hia4 with hq; injection hq with hq; injection hq with hq
   rw [← hq] at hc4
   have:L[i]=t:=Option.some.inj ((List.getElem?_eq_getElem hi).symm.trans hget)
   rw [this] at hc4
   simp only [↓Sh.dn,sx,Nat.reduceBEq,reduceCtorEq,Nat.reduceEqDiff,hin,decide_false,f1,f5,f6,f7,hia,hc,e1,e3,hc4,e6,e7,A7b hi (Nat.le_trans hll (by decide))]
   refine k _ _ (by repeat (first | refine Same.put ?_ rfl | exact Same.rfl' _)) (by simp only [↓Sh.dn,sx,Nat.reduceBEq,reduceCtorEq,Nat.reduceEqDiff]) ⟨e8,_,by simp only [↓Sh.dn,sx,Nat.reduceBEq,reduceCtorEq,Nat.reduceEqDiff],_,_,ob',e9,e10,fun x hx=>?_,fun j t' hj ht'=>?_⟩
   ·rcases List.mem_append.1 hx with h | h
    ·exact hsub x h
    ·rw [List.mem_singleton.1 h]; exact hmem
   ·by_cases hji:j=i
    ·subst hji; rw [hget] at ht'; rw [← Option.some.inj ht']; exact List.mem_append_right _ List.mem_cons_self
    ·exact List.mem_append_left _ (hdone j t' (by omega) ht')
 ·rintro F H' hF f7 ⟨hk,z,f6,seen,out,ob,hM,hl,hsub,hdone⟩
  have f2:=hF 2 rfl
  have f5:=hF 5 rfl
  have f1:=hF 1 rfl
  simp only [↓Sh.dn,sx,Nat.reduceBEq,reduceCtorEq,Nat.reduceEqDiff] at f1 f2 f5
  have hL':=hL.grow ((hk1.trans hk).grow hw)
  have hlen:=hL'.len Tryz.underlying86 H'
  rw [List.length_map] at hlen
  have hLout:∀ t∈L,t∈out:=fun t ht=>by
   obtain ⟨j,hj⟩:=List.mem_iff_getElem?.1 ht
   exact hdone j t (List.getElem?_eq_some_iff.1 hj).1 hj
  simp only [↓Sh.dn,sx,Nat.reduceBEq,reduceCtorEq,Nat.reduceEqDiff,f1,f2,f5,f6,f7,A4a,Nat.lt_irrefl,decide_false,hlen]
  refine A5e (m:=n+1) (fun m F H'=>∃ i,m+i=n+1∧F.get 8=some (.int .i64 (i:Int))∧F.get 2=some (.pointer (some ⟨gb,0,some 0⟩))∧F.get 5=some sv∧Kept H1 H'∧∃ z,F.get 6=some z∧∃ seen out ob,MB H' H1.next n sv os seen out∧LB H' H1.next os z out ob∧i≤out.length∧(∀ t∈L,t∈out)∧(∀ t∈out,Clo (A3q E A7f) (fun s=>s∈L) t)∧∀ s∈out.take i,∀ t,A3q E A7f s t→t∈out) ⟨0,by omega,by simp only [↓Sh.dn,sx,Nat.reduceBEq,reduceCtorEq,Nat.reduceEqDiff]; rfl,by simp only [↓Sh.dn,sx,Nat.reduceBEq,reduceCtorEq,Nat.reduceEqDiff,f2],by simp only [↓Sh.dn,sx,Nat.reduceBEq,reduceCtorEq,Nat.reduceEqDiff,f5],hk,z,by simp only [↓Sh.dn,sx,Nat.reduceBEq,reduceCtorEq,Nat.reduceEqDiff,f6],seen,out,ob,hM,hl,Nat.zero_le _,hLout,fun t ht=>.base (hsub t ht),fun s hs=>by simp at hs⟩ ?_
  clear hk hM hl hsub hdone hLout f1 f2 f5 f6 f7 hL' hlen hF
  clear z seen out ob
  clear F H'
  rintro m F H' ⟨i,hmi,f8,f2,f5,hk,z,f6,seen,out,ob,hM,hl,hio,hLout,hclo,hcl⟩ k
  have hlen:=hl.bf.toSl.len Tryz.underlying86 H'
  rw [List.length_map] at hlen
  have hout:=hM.ms.le
  by_cases hi:i < out.length
  ·simp only [↓Sh.dn,sx,Nat.reduceBEq,reduceCtorEq,Nat.reduceEqDiff,f6,f8,A4a,hi,decide_true,hlen]
   have hsn:out[i] < n:=hM.ms.lt (List.getElem_mem hi)
   have hget:out[i]?=some out[i]:=List.getElem?_eq_getElem hi
   have hcs:Clo (A3q E A7f) (fun s=>s∈L) out[i]:=hclo _ (List.getElem_mem hi)
   generalize out[i]=s at hsn hget hcs
   obtain ⟨r,hr⟩:∃ r,E[s]?=some r:=⟨E[s]'(by rw [h.le]; exact hsn),List.getElem?_eq_getElem _⟩
   have hr':(A25 E)[s]?=some (r.map A4s):=by unfold A25; rw [List.getElem?_map,hr]; rfl
   obtain ⟨hrl,hrt⟩:=h.to s r hr
   obtain ⟨ga,oa,ka,wr,hia,hca,hsr⟩:=(h.ed.grow (hk1.grow hw)).at Tryz.underlying80 A34 hr'
   have hro:∀ {H'},Kept H1 H'→H'.cell ⟨ga,oa,some ka⟩=some wr∧Sl H' wr 2 (r.map A4s)∧A7a Tryz.prog .len [137] [wr] H'=some (.int .i64 (r.length:Int),H'):=fun hk=>by
    have h2:=hsr.grow (hk.grow hk1.wf)
    refine ⟨A9g (hk.grow hk1.wf) hca,h2,?_⟩
    rw [h2.len Tryz.underlying137,List.length_map]
   refine A6g r.length 9 (List.range' 48 44++[6,9,10]) (fun q F'' H''=>Kept H1 H''∧∃ z',F''.get 6=some z'∧∃ seen' out' ob',MB H'' H1.next n sv os seen' out'∧LB H'' H1.next os z' out' ob'∧out'[i]?=some s∧out'.take i=out.take i∧(∀ x∈out,x∈out')∧(∀ t∈out',Clo (A3q E A7f) (fun s=>s∈L) t)∧∀ e∈r.take q,e.1=A7f→e.2∈out') (by simp only [↓Sh.dn,sx,Nat.reduceBEq,reduceCtorEq,Nat.reduceEqDiff]) ⟨hk,z,by simp only [↓Sh.dn,sx,Nat.reduceBEq,reduceCtorEq,Nat.reduceEqDiff,f6],seen,out,ob,hM,hl,hget,rfl,fun x hx=>hx,hclo,fun e he=>by simp at he⟩ ?_ ?_
   ·rintro q F'' H'' hq hF'' f9 ⟨hk'',z',f6',seen',out',ob',hM',hl',hget',htk,hsub,hclo',hed⟩ k2
    have g2:=hF'' 2 rfl
    have g5:=hF'' 5 rfl
    have g8:=hF'' 8 rfl
    simp only [↓Sh.dn,sx,Nat.reduceBEq,reduceCtorEq,Nat.reduceEqDiff,f2,f5,f8] at g2 g5 g8
    obtain ⟨hc1,hs1,hl1⟩:=hro hk''
    have hb1:=hrb.kept hk1.wf hk''
    have hil:i < out'.length:=(List.getElem?_eq_some_iff.1 hget').1
    have hgs:out'[i]=s:=Option.some.inj ((List.getElem?_eq_getElem hil).symm.trans hget')
    obtain ⟨p1,hia1,hcc1⟩:=C2j Tryz.underlying86 A3e hl'.bf.toSl hil
    rw [hgs] at hcc1
    obtain ⟨g',o',k',hia2,hcs2,_⟩:=hs1.at Tryz.underlying137 A6w (i:=q) (x:=A4s r[q]) (by simp [hq]) .i64
    have hrq:r[q]∈r:=List.getElem_mem hq
    have htake:r.take (q+1)=r.take q++[r[q]]:=by rw [List.take_add_one,List.getElem?_eq_getElem hq]; rfl
    generalize r[q]=e at hcs2 hrq htake
    have kn:=Kept.new hk''.wf 2 (A4s e)
    have hk3:=hk''.trans kn
    have hM3:=hM'.kept hk''.wf kn
    have hl3:=hl'.kept hk''.wf kn
    simp only [↓Sh.dn,sx,Nat.reduceBEq,reduceCtorEq,Nat.reduceEqDiff,f6',f9,g2,g5,g8,hb1.c1,hia1,hcc1,hia,hc1,hl1,A4a,hq,decide_true]
    refine (A4d (by kernel_rfl)).2 ?_
    simp only [↓Sh.dn,sx,Nat.reduceBEq,reduceCtorEq,Nat.reduceEqDiff,f6',f9,g2,g5,g8,hb1.c1,hia1,hcc1,hia,hc1,hia2,hcs2,Option.map_some,reZero,C2r,reOver,re0,re1]
    have hnext : ∀ {seen2 : List Bool} {out2 : List Nat} {ob2 : Option Nat} {z2 : Value} {F2 : Fr} {H2 : AH}, Same (List.range' 48 44 ++ [6, 9, 10]) F'' F2 → F2.get 6 = some z2 → F2.get 9 = some (.int .i64 ((q + 1 : Nat) : Int)) → Kept H1 H2 → MB H2 H1.next n sv os seen2 out2 → LB H2 H1.next os z2 out2 ob2 → (out2 = out' ∨ out2 = out' ++ [e.2] ∧ e.1 = A7f) → (e.1 = A7f → e.2 ∈ out2) →
        wp Tryz.prog (knows 8) _ _ F2 H2 := fun {seen2 out2 ob2 z2 F2 H2} a1 a2 a3 a4 a5 a6 a7 a8 => k2 F2 H2 a1 a3 ⟨a4, z2, a2, seen2, out2, ob2, a5, a6, by
          rcases a7 with h | ⟨h, _⟩
          · rw [h]; exact hget'
          · rw [h, List.getElem?_append_left hil]; exact hget', by
          rcases a7 with h | ⟨h, _⟩
          · rw [h]; exact htk
          · rw [h, List.take_append_of_le_length (by omega)]; exact htk, fun x hx => by
          rcases a7 with h | ⟨h, _⟩
          · rw [h]; exact hsub x hx
          · rw [h]; exact List.mem_append_left _ (hsub x hx), fun t ht => by
          rcases a7 with h | ⟨h, he⟩
          · rw [h] at ht; exact hclo' t ht
          · rw [h] at ht
            rcases List.mem_append.1 ht with h2 | h2
            · exact hclo' t h2
            · rw [List.mem_singleton.1 h2]; exact .step hcs ⟨r, hr, by rw [← he]; exact hrq⟩, fun x hx hxe => by
          rw [htake] at hx
          rcases List.mem_append.1 hx with h2 | h2
          · have := hed x h2 hxe
            rcases a7 with h | ⟨h, _⟩
            · rw [h]; exact this
            · rw [h]; exact List.mem_append_left _ this
          · rw [List.mem_singleton.1 h2] at hxe ⊢; exact a8 hxe⟩
    by_cases he:e.1=⟨#[]⟩
    ·obtain ⟨p5,hia5,hc5⟩:=hM3.see Tryz.underlying81 A1x (hrt e hrq)
     by_cases hin:e.2∈out'
     ·simp only [↓Sh.dn,sx,Nat.reduceBEq,reduceCtorEq,Nat.reduceEqDiff,he,decide_true,re1,g5,hia5,hc5,hin,f9,A7b hq (Nat.le_trans hrl (by decide))]
      exact hnext (by repeat (first | refine Same.put ?_ rfl | exact Same.rfl' _)) (by simp only [↓Sh.dn,sx,Nat.reduceBEq,reduceCtorEq,Nat.reduceEqDiff,f6']) (by simp only [↓Sh.dn,sx,Nat.reduceBEq,reduceCtorEq,Nat.reduceEqDiff]) hk3 hM3 hl3 (.inl rfl) fun _=>hin
     ·obtain ⟨p3,H3,a,cap,w',H4,ob2,e1,e2,e3,rfl,e5,e6,e7,e8,e9,e10,e11⟩:=C9c hk3 hM3 hl3 (hrt e hrq) hin (by have:=hM3.ms.le; omega)
      have hre:H3.cell ⟨H''.next,1,some 0⟩=some (.int .i64 (e.2:Int)):=by
       have:=((Sh.Obj.new (H:=H'') 2 (A4s e)).arr.keep (e11.old H''.next (Nat.lt_succ_self _) fun hy=>Nat.lt_irrefl _ (hM'.lt hk''.wf _ hy))).cell 1
       exact this
      simp only [↓Sh.dn,sx,Nat.reduceBEq,reduceCtorEq,Nat.reduceEqDiff,he,decide_true,re1,g5,e1,e2,e3,f6',hre,e6,e7,f9,A7b hq (Nat.le_trans hrl (by decide))]
      exact hnext (by repeat (first | refine Same.put ?_ rfl | exact Same.rfl' _)) (by simp only [↓Sh.dn,sx,Nat.reduceBEq,reduceCtorEq,Nat.reduceEqDiff]) (by simp only [↓Sh.dn,sx,Nat.reduceBEq,reduceCtorEq,Nat.reduceEqDiff]) e8 e9 e10 (.inr ⟨rfl,he⟩) fun _=>List.mem_append_right _ List.mem_cons_self
    ·simp only [↓Sh.dn,sx,Nat.reduceBEq,reduceCtorEq,Nat.reduceEqDiff,he,decide_false,f9,A7b hq (Nat.le_trans hrl (by decide))]
     exact hnext (by repeat (first | refine Same.put ?_ rfl | exact Same.rfl' _)) (by simp only [↓Sh.dn,sx,Nat.reduceBEq,reduceCtorEq,Nat.reduceEqDiff,f6']) (by simp only [↓Sh.dn,sx,Nat.reduceBEq,reduceCtorEq,Nat.reduceEqDiff]) hk3 hM3 hl3 (.inl rfl) fun h=>absurd h he
   ·rintro F'' H'' hF'' f9 ⟨hk'',z',f6',seen',out',ob',hM',hl',hget',htk,hsub,hclo',hed⟩
    have g2:=hF'' 2 rfl
    have g5:=hF'' 5 rfl
    have g8:=hF'' 8 rfl
    simp only [↓Sh.dn,sx,Nat.reduceBEq,reduceCtorEq,Nat.reduceEqDiff,f2,f5,f8] at g2 g5 g8
    obtain ⟨hc1,hs1,hl1⟩:=hro hk''
    have hb1:=hrb.kept hk1.wf hk''
    have hil:i < out'.length:=(List.getElem?_eq_some_iff.1 hget').1
    have hgs:out'[i]=s:=Option.some.inj ((List.getElem?_eq_getElem hil).symm.trans hget')
    obtain ⟨p1,hia1,hcc1⟩:=C2j Tryz.underlying86 A3e hl'.bf.toSl hil
    rw [hgs] at hcc1
    have hout':=hM'.ms.le
    simp only [↓Sh.dn,sx,Nat.reduceBEq,reduceCtorEq,Nat.reduceEqDiff,f6',f9,g2,g5,g8,hb1.c1,hia1,hcc1,hia,hc1,hl1,A4a,Nat.lt_irrefl,decide_false,A7b hil (Nat.le_trans (Nat.le_trans hout' hn2) (by decide))]
    refine k (n+1 - (i+1)) _ _ (by omega) ⟨i+1,by omega,by simp only [↓Sh.dn,sx,Nat.reduceBEq,reduceCtorEq,Nat.reduceEqDiff],by simp only [↓Sh.dn,sx,Nat.reduceBEq,reduceCtorEq,Nat.reduceEqDiff,g2],by simp only [↓Sh.dn,sx,Nat.reduceBEq,reduceCtorEq,Nat.reduceEqDiff,g5],hk'',z',by simp only [↓Sh.dn,sx,Nat.reduceBEq,reduceCtorEq,Nat.reduceEqDiff,f6'],seen',out',ob',hM',hl',hil,fun t ht=>hsub t (hLout t ht),hclo',fun x hx t hg=>?_⟩
    rw [List.take_add_one,hget'] at hx
    rcases List.mem_append.1 hx with hx | hx
    ·rw [htk] at hx
     exact hsub t (hcl x hx t hg)
    ·simp only [Option.toList,List.mem_singleton] at hx
     subst hx
     obtain ⟨r',hr2,hg2⟩:=hg
     rw [hr] at hr2
     rw [← Option.some.inj hr2] at hg2
     exact hed _ (by rw [List.take_length]; exact hg2) rfl
  ·simp only [↓Sh.dn,sx,Nat.reduceBEq,reduceCtorEq,Nat.reduceEqDiff,f6,f8,A4a,hi,decide_false,hlen]
   obtain ⟨rr,H3,hd3,l',hperm,hsrt,hb3,hc3⟩:=sortInts (l:=out.map fun (x:Nat)=>(x:Int)) (by rw [natC_int]; exact hl.bf) (by rw [List.length_map]; omega) hk.wf
   refine ⟨_,_,hd3,?_⟩
   simp only [↓Sh.dn,sx,Nat.reduceBEq,reduceCtorEq,Nat.reduceEqDiff,f6,hres]
   have hl':l'.map (fun x=>[Value.int .i64 x])=(l'.map Int.toNat).map natC:=by
    rw [List.map_map]
    refine List.map_congr_left fun x hx=>?_
    obtain ⟨y,_,rfl⟩:=List.mem_map.1 (hperm.mem_iff.1 hx)
    rfl
   rw [hl'] at hb3
   have hp2:(l'.map Int.toNat).Perm out:=by
    have:=hperm.map Int.toNat
    rw [List.map_map] at this
    have e:out.map (Int.toNat ∘ fun (x:Nat)=>(x:Int))=out:=by
     conv=>rhs; rw [← List.map_id out]
     exact List.map_congr_left fun x _=>rfl
    rw [e] at this; exact this
   refine ⟨hk1.trans (hk.then (Nat.le_refl _) (hc3.weak fun y hy=>(hl.fr y hy).1)),l'.map Int.toNat,ob,hb3,fun y hy=>Nat.le_trans hk1.next (hl.fr y hy).1,hp2.nodup_iff.2 hM.ms.nod,fun t ht=>hM.ms.lt (hp2.mem_iff.1 ht),fun t=>?_⟩
   rw [hp2.mem_iff]
   exact Clo.iff hLout hclo (fun s hs=>hcl s (by rw [List.take_of_length_le (by omega)]; exact hs)) t
end Go.Proofs.YtnoengaghabmjaaGreatDoor
/- The reference's Step, Start, Run, IsEnd. -/
namespace Go.Proofs.YtnoengaghabmjaaGreatDoor
open Go Go.Proofs Go.Proofs.Sh
theorem refIsEnd {H:AH} {v u ev bv:Value} {vals:List Value} {n:Nat} {E:List (List (ByteArray×Nat))} {ends:List Bool} {L:List Nat} (h:RG H v n E ends ev bv vals) (hL:Sl H u 1 (L.map natC)) (hlt:∀ t∈L,t < n) (hll:L.length≤1048576) (hw:Wf H):
  Sh.Call Tryz.prog (knows 8) 55 [v,u] H (fun r H'=>Kept H H'∧r=.bool (L.any fun t=>decide (ends[t]?=some true))):=by
 refine A5a rfl Tryz.func55 rfl (Nat.le_of_ble_eq_true rfl) ?_
 have hres:Tryz.f55.results.toList=[.tmp 4]:=rfl
 have hrb:=RBox.of h hw
 have hk1:Kept H (H.new 3 [.int .i64 0,ev,bv]).2:=Kept.new hw 3 _
 have hE:=h.ed.sl.isCell
 have hB:=h.en.isCell
 rw [h.eq]
 simp only [↓Sh.dn,sx,Nat.reduceBEq,reduceCtorEq,Nat.reduceEqDiff,C3w hE hB]
 generalize (H.new 3 [.int .i64 0,ev,bv]).2=H1 at hrb hk1 ⊢
 generalize H.next=gb at hrb ⊢
 have hL':=hL.grow (hk1.grow hw)
 have hlen:=hL'.len Tryz.underlying86 H1
 rw [List.length_map] at hlen
 refine A6g L.length 5 (List.range' 5 15) (fun i F H'=>H'=H1∧(L.take i).any (fun t=>decide (ends[t]?=some true))=false) (by simp only [↓Sh.dn,sx,Nat.reduceBEq,reduceCtorEq,Nat.reduceEqDiff]) ⟨rfl,rfl⟩ ?_ ?_
 ·rintro i F H' hi hF f5 ⟨rfl,hall⟩ k
  have f1:=hF 1 rfl
  have f2:=hF 2 rfl
  simp only [↓Sh.dn,sx,Nat.reduceBEq,reduceCtorEq,Nat.reduceEqDiff] at f1 f2
  obtain ⟨p,hia,hc⟩:=C2j Tryz.underlying86 A3e hL' hi
  have htn:L[i] < n:=hlt _ (List.getElem_mem hi)
  have hmem:L[i]∈L:=List.getElem_mem hi
  have htake:L.take (i+1)=L.take i++[L[i]]:=by rw [List.take_add_one,List.getElem?_eq_getElem hi]; rfl
  generalize L[i]=t at hc htn hmem htake
  obtain ⟨b,hb⟩:∃ b,ends[t]?=some b:=⟨ends[t]'(by rw [h.ln]; exact htn),List.getElem?_eq_getElem _⟩
  obtain ⟨p2,hia2,hc2⟩:=Sl.elem (s:=1) Tryz.underlying81 A1x hrb.rg.en (i:=t) (u:=.bool b) (by rw [List.getElem?_map,hb]; rfl)
  simp only [↓Sh.dn,sx,Nat.reduceBEq,reduceCtorEq,Nat.reduceEqDiff,f1,f2,f5,A4a,hi,decide_true,hlen]
  first | refine (A4d (by kernel_rfl)).2 ?_ | skip
  simp only [↓Sh.dn,sx,Nat.reduceBEq,reduceCtorEq,Nat.reduceEqDiff,f1,f2,f5,hrb.c2,hia,hc,hia2,hc2]
  cases b with
  | true=>
   have:(L.any fun t=>decide (ends[t]?=some true))=true:=List.any_eq_true.2 ⟨t,hmem,by rw [hb]; rfl⟩
   simp only [↓Sh.dn,sx,Nat.reduceBEq,reduceCtorEq,Nat.reduceEqDiff,hres,this,hk1]
  | false=>
   simp only [↓Sh.dn,sx,Nat.reduceBEq,reduceCtorEq,Nat.reduceEqDiff,f5,wrap_succ hi hll]
   refine k _ _ (by repeat (first | refine Same.put ?_ rfl | exact Same.rfl' _)) (by simp only [↓Sh.dn,sx,Nat.reduceBEq,reduceCtorEq,Nat.reduceEqDiff]) ⟨rfl,?_⟩
   rw [htake,List.any_append,hall]
   simp [hb]
 ·rintro F H' hF f5 ⟨rfl,hall⟩
  have f1:=hF 1 rfl
  simp only [↓Sh.dn,sx,Nat.reduceBEq,reduceCtorEq,Nat.reduceEqDiff] at f1
  rw [List.take_length] at hall
  simp only [↓Sh.dn,sx,Nat.reduceBEq,reduceCtorEq,Nat.reduceEqDiff,f1,f5,A4a,Nat.lt_irrefl,decide_false,hlen,hres,hall,hk1]
theorem refStart {H:AH} {v ev bv:Value} {vals:List Value} {n:Nat} {E:List (List (ByteArray×Nat))} {ends:List Bool} (h:RG H v n E ends ev bv vals) (hw:Wf H):
  Sh.Call Tryz.prog (knows 8) 89 [v] H (fun r H'=>SetOut H H' r n (Clo (A3q E A7f) fun s=>s=0)):=by
 refine A5a rfl Tryz.func89 rfl (Nat.le_of_ble_eq_true rfl) ?_
 have hres:Tryz.f89.results.toList=[.tmp 2]:=rfl
 have hrb:=RBox.of h hw
 have hk1:Kept H (H.new 3 [.int .i64 0,ev,bv]).2:=Kept.new hw 3 _
 have hE:=h.ed.sl.isCell
 have hB:=h.en.isCell
 rw [h.eq]
 simp only [↓Sh.dn,sx,Nat.reduceBEq,reduceCtorEq,Nat.reduceEqDiff,C3w hE hB]
 generalize (H.new 3 [.int .i64 0,ev,bv]).2=H1 at hrb hk1 ⊢
 generalize H.next=gb at hrb ⊢
 have hbs:=A45 (H:=H1) (x:=.int .i64 0) rfl rfl
 have k2:=Kept.new hk1.wf 1 [.int .i64 0]
 have hS:Sl (H1.new 1 [.int .i64 0]).2 (.slice (some ⟨H1.next,0,some 0⟩) 1 1) 1 (([0]:List Nat).map natC):=
  (Buf.fresh (H:=H1) (s:=1) (xs:=[natC 0]) hk1.wf (by intro x hx; rw [List.mem_singleton.1 hx]; rfl) (by simp) 1 rfl).toSl
 have hR:=hrb.rg.kept hk1.wf k2
 obtain ⟨r,H3,hd3,ho⟩:=C6b hR hS (fun t ht=>by rw [List.mem_singleton.1 ht]; exact h.n1) (by decide) k2.wf
 simp only [↓Sh.dn,sx,Nat.reduceBEq,reduceCtorEq,Nat.reduceEqDiff,hrb.c0,hrb.ca,Option.map_some,hbs,A0b]
 refine ⟨_,_,hd3,?_⟩
 simp only [↓Sh.dn,sx,Nat.reduceBEq,reduceCtorEq,Nat.reduceEqDiff,hres]
 exact (ho.pre (hk1.trans k2)).iff fun t=>by simp only [List.mem_singleton]
theorem refStep {H:AH} {v u ev bv:Value} {vals:List Value} {n:Nat} {E:List (List (ByteArray×Nat))} {ends:List Bool} {L:List Nat} {x:ByteArray} (h:RG H v n E ends ev bv vals) (hL:Sl H u 1 (L.map natC)) (hlt:∀ t∈L,t < n) (hll:L.length≤3000) (hw:Wf H):
  Sh.Call Tryz.prog (knows 8) 90 [v,u,.string x] H (fun r H'=>SetOut H H' r n (Clo (A3q E A7f) fun t=>∃ s,s∈L∧A3q E x s t)):=by
 refine A5a rfl Tryz.func90 rfl (Nat.le_of_ble_eq_true rfl) ?_
 have hres:Tryz.f90.results.toList=[.tmp 6]:=rfl
 have hrb:=RBox.of h hw
 have hk1:Kept H (H.new 3 [.int .i64 0,ev,bv]).2:=Kept.new hw 3 _
 have hE:=h.ed.sl.isCell
 have hB:=h.en.isCell
 rw [h.eq]
 simp only [↓Sh.dn,sx,Nat.reduceBEq,reduceCtorEq,Nat.reduceEqDiff,C3w hE hB]
 generalize (H.new 3 [.int .i64 0,ev,bv]).2=H1 at hrb hk1 ⊢
 generalize H.next=gb at hrb ⊢
 have hn2:=h.n2
 refine A6g L.length 8 (List.range' 7 43) (fun i F H'=>Kept H1 H'∧∃ z,F.get 7=some z∧∃ out ob,LB H' H1.next none z out ob∧out.length≤i * 60000∧(∀ t∈out,t < n)∧∀ t,t∈out↔∃ s∈L.take i,A3q E x s t) (by simp only [↓Sh.dn,sx,Nat.reduceBEq,reduceCtorEq,Nat.reduceEqDiff]) ⟨Kept.refl hk1.wf,_,by simp only [↓Sh.dn,sx,Nat.reduceBEq,reduceCtorEq,Nat.reduceEqDiff],[],none,⟨.void none,fun y hy=>by cases hy⟩,by simp,fun t ht=>(by cases ht),fun t=>by simp⟩ ?_ ?_
 ·rintro i F H' hi hF f8 ⟨hk,z,f7,out,ob,hl,hol,hon,hiff⟩ k
  have f1:=hF 1 rfl
  have f2:=hF 2 rfl
  have f3:=hF 3 rfl
  simp only [↓Sh.dn,sx,Nat.reduceBEq,reduceCtorEq,Nat.reduceEqDiff] at f1 f2 f3
  have hL':=fun {H'} (hk:Kept H1 H')=>hL.grow ((hk1.trans hk).grow hw)
  have hlen:=(hL' hk).len Tryz.underlying86 H'
  rw [List.length_map] at hlen
  obtain ⟨p,hia,hc⟩:=C2j Tryz.underlying86 A3e (hL' (Kept.refl hk1.wf)) hi
  have hc':=fun {H'} (hk:Kept H1 H')=>A9g (hk.grow hk1.wf) hc
  have htn:L[i] < n:=hlt _ (List.getElem_mem hi)
  have htake:L.take (i+1)=L.take i++[L[i]]:=by rw [List.take_add_one,List.getElem?_eq_getElem hi]; rfl
  clear hc
  generalize L[i]=s at hc' htn htake
  obtain ⟨r,hr⟩:∃ r,E[s]?=some r:=⟨E[s]'(by rw [h.le]; exact htn),List.getElem?_eq_getElem _⟩
  have hr':(A25 E)[s]?=some (r.map A4s):=by unfold A25; rw [List.getElem?_map,hr]; rfl
  obtain ⟨hrl,hrt⟩:=h.to s r hr
  obtain ⟨ga,oa,ka,wr,hia2,hca,hsr⟩:=(h.ed.grow (hk1.grow hw)).at Tryz.underlying80 A34 hr'
  have hro:∀ {H'},Kept H1 H'→H'.cell ⟨ga,oa,some ka⟩=some wr∧Sl H' wr 2 (r.map A4s)∧A7a Tryz.prog .len [137] [wr] H'=some (.int .i64 (r.length:Int),H'):=fun hk=>by
   have h2:=hsr.grow (hk.grow hk1.wf)
   refine ⟨A9g (hk.grow hk1.wf) hca,h2,?_⟩
   rw [h2.len Tryz.underlying137,List.length_map]
  simp only [↓Sh.dn,sx,Nat.reduceBEq,reduceCtorEq,Nat.reduceEqDiff,f1,f8,A4a,hi,decide_true,hlen]
  refine A6g r.length 9 (List.range' 17 33++[7,9,10]) (fun q F'' H''=>Kept H1 H''∧∃ z',F''.get 7=some z'∧∃ out' ob',LB H'' H1.next none z' out' ob'∧out'.length≤i * 60000+q∧(∀ t∈out',t < n)∧∀ t,t∈out'↔(∃ s∈L.take i,A3q E x s t)∨∃ e∈r.take q,e.1=x∧e.2=t) (by simp only [↓Sh.dn,sx,Nat.reduceBEq,reduceCtorEq,Nat.reduceEqDiff]) ⟨hk,z,by simp only [↓Sh.dn,sx,Nat.reduceBEq,reduceCtorEq,Nat.reduceEqDiff,f7],out,ob,hl,Nat.le_trans hol (Nat.le_add_right _ _),hon,fun t=>by rw [hiff t]; simp⟩ ?_ ?_
  ·rintro q F'' H'' hq hF'' f9 ⟨hk'',z',f7',out',ob',hl',hol',hon',hiff'⟩ k2
   have g1:=hF'' 1 rfl
   have g2:=hF'' 2 rfl
   have g3:=hF'' 3 rfl
   have g8:=hF'' 8 rfl
   simp only [↓Sh.dn,sx,Nat.reduceBEq,reduceCtorEq,Nat.reduceEqDiff,f1,f2,f3,f8] at g1 g2 g3 g8
   obtain ⟨hc1,hs1,hl1⟩:=hro hk''
   have hcc:=hc' hk''
   have hb1:=hrb.kept hk1.wf hk''
   obtain ⟨g',o',k',hia3,hcs2,_⟩:=hs1.at Tryz.underlying137 A6w (i:=q) (x:=A4s r[q]) (by simp [hq]) .i64
   have hrq:r[q]∈r:=List.getElem_mem hq
   have htk:r.take (q+1)=r.take q++[r[q]]:=by rw [List.take_add_one,List.getElem?_eq_getElem hq]; rfl
   generalize r[q]=e at hcs2 hrq htk
   have kn:=Kept.new hk''.wf 2 (A4s e)
   have hk3:=hk''.trans kn
   have hl3:=hl'.kept hk''.wf kn
   simp only [↓Sh.dn,sx,Nat.reduceBEq,reduceCtorEq,Nat.reduceEqDiff,f9,g1,g2,g3,g8,hb1.c1,hia,hcc,hia2,hc1,hl1,A4a,hq,decide_true]
   refine (A4d (by kernel_rfl)).2 ?_
   simp only [↓Sh.dn,sx,Nat.reduceBEq,reduceCtorEq,Nat.reduceEqDiff,f9,g1,g2,g3,g8,hb1.c1,hia,hcc,hia2,hc1,hia3,hcs2,Option.map_some,reZero,C2r,reOver,re0,re1]
   have hj:∀ t,(∃ e'∈r.take (q+1),e'.1=x∧e'.2=t)↔(∃ e'∈r.take q,e'.1=x∧e'.2=t)∨e.1=x∧e.2=t:=fun t=>by
    rw [htk]
    simp only [List.mem_append,List.mem_singleton]
    constructor
    ·rintro ⟨e',h1 | h1,h2⟩
     ·exact .inl ⟨e',h1,h2⟩
     ·subst h1; exact .inr h2
    ·rintro (⟨e',h1,h2⟩ | h2)
     ·exact ⟨e',.inl h1,h2⟩
     ·exact ⟨e,.inr rfl,h2⟩
   by_cases he:e.1=x
   ·obtain ⟨a,cap,w',H4,ob2,rfl,e1,e2,e3,e4,e5⟩:=C8y e.2 hk3 (fun y hy=>by cases hy) hl3 (by omega)
    have hre:=re1 (H:=H'') (e:=e)
    simp only [↓Sh.dn,sx,Nat.reduceBEq,reduceCtorEq,Nat.reduceEqDiff,he,decide_true,f7',f9,re1,e1,e2,A7b hq (Nat.le_trans hrl (by decide))]
    refine k2 _ _ (by repeat (first | refine Same.put ?_ rfl | exact Same.rfl' _)) (by simp only [↓Sh.dn,sx,Nat.reduceBEq,reduceCtorEq,Nat.reduceEqDiff]) ⟨e3,w',by simp only [↓Sh.dn,sx,Nat.reduceBEq,reduceCtorEq,Nat.reduceEqDiff],out'++[e.2],ob2,e4,by rw [List.length_append]; simp; omega,fun t ht=>?_,fun t=>?_⟩
    ·rcases List.mem_append.1 ht with h2 | h2
     ·exact hon' t h2
     ·rw [List.mem_singleton.1 h2]; exact hrt e hrq
    ·rw [hj,List.mem_append,List.mem_singleton,hiff' t]
     constructor
     ·rintro ((h1 | h1) | h1)
      ·exact .inl h1
      ·exact .inr (.inl h1)
      ·exact .inr (.inr ⟨he,h1.symm⟩)
     ·rintro (h1 | h1 | ⟨_,h1⟩)
      ·exact .inl (.inl h1)
      ·exact .inl (.inr h1)
      ·exact .inr h1.symm
   ·simp only [↓Sh.dn,sx,Nat.reduceBEq,reduceCtorEq,Nat.reduceEqDiff,he,decide_false,f9,A7b hq (Nat.le_trans hrl (by decide))]
    refine k2 _ _ (by repeat (first | refine Same.put ?_ rfl | exact Same.rfl' _)) (by simp only [↓Sh.dn,sx,Nat.reduceBEq,reduceCtorEq,Nat.reduceEqDiff]) ⟨hk3,z',by simp only [↓Sh.dn,sx,Nat.reduceBEq,reduceCtorEq,Nat.reduceEqDiff,f7'],out',ob',hl3,by omega,hon',fun t=>?_⟩
    rw [hj,hiff' t]
    simp [he]
  ·rintro F'' H'' hF'' f9 ⟨hk'',z',f7',out',ob',hl',hol',hon',hiff'⟩
   have g1:=hF'' 1 rfl
   have g2:=hF'' 2 rfl
   have g3:=hF'' 3 rfl
   have g8:=hF'' 8 rfl
   simp only [↓Sh.dn,sx,Nat.reduceBEq,reduceCtorEq,Nat.reduceEqDiff,f1,f2,f3,f8] at g1 g2 g3 g8
   obtain ⟨hc1,hs1,hl1⟩:=hro hk''
   have hcc:=hc' hk''
   have hb1:=hrb.kept hk1.wf hk''
   simp only [↓Sh.dn,sx,Nat.reduceBEq,reduceCtorEq,Nat.reduceEqDiff,f9,g1,g2,g3,g8,hb1.c1,hia,hcc,hia2,hc1,hl1,A4a,Nat.lt_irrefl,decide_false,A7b hi (Nat.le_trans hll (by decide))]
   refine k _ _ ?_ (by simp only [↓Sh.dn,sx,Nat.reduceBEq,reduceCtorEq,Nat.reduceEqDiff]) ⟨hk'',z',by simp only [↓Sh.dn,sx,Nat.reduceBEq,reduceCtorEq,Nat.reduceEqDiff,f7'],out',ob',hl',by omega,hon',fun t=>?_⟩
   ·repeat refine Same.put ?_ rfl
    exact Same.trans (by repeat (first | refine Same.put ?_ rfl | exact Same.rfl' _)) (hF''.sub rfl)
   ·rw [hiff' t,htake,List.take_length]
    simp only [List.mem_append,List.mem_singleton]
    constructor
    ·rintro (⟨s',h1,h2⟩ | ⟨e,h1,h2,h3⟩)
     ·exact ⟨s',.inl h1,h2⟩
     ·exact ⟨s,.inr rfl,r,hr,by rw [← h2,← h3]; exact h1⟩
    ·rintro ⟨s',h1 | h1,h2⟩
     ·exact .inl ⟨s',h1,h2⟩
     ·subst h1
      obtain ⟨r',h3,h4⟩:=h2
      rw [hr] at h3
      rw [← Option.some.inj h3] at h4
      exact .inr ⟨_,h4,rfl,rfl⟩
 ·rintro F H' hF f8 ⟨hk,z,f7,out,ob,hl,hol,hon,hiff⟩
  have f1:=hF 1 rfl
  have f3:=hF 3 rfl
  simp only [↓Sh.dn,sx,Nat.reduceBEq,reduceCtorEq,Nat.reduceEqDiff] at f1 f3
  have hL':=hL.grow ((hk1.trans hk).grow hw)
  have hlen:=hL'.len Tryz.underlying86 H'
  rw [List.length_map] at hlen
  rw [List.take_length] at hiff
  have hb1:=hrb.kept hk1.wf hk
  obtain ⟨r,H3,hd3,ho⟩:=C6b hb1.rg hl.bf.toSl hon (by omega) hk.wf
  simp only [↓Sh.dn,sx,Nat.reduceBEq,reduceCtorEq,Nat.reduceEqDiff,f1,f3,f7,f8,A4a,Nat.lt_irrefl,decide_false,hlen,hb1.ca,Option.map_some]
  refine ⟨_,_,hd3,?_⟩
  simp only [↓Sh.dn,sx,Nat.reduceBEq,reduceCtorEq,Nat.reduceEqDiff,hres]
  refine (ho.pre (hk1.trans hk)).iff fun t=>?_
  have:(fun s=>s∈out)=fun t=>∃ s,s∈L∧A3q E x s t:=by
   funext t
   exact propext (hiff t)
  rw [this]
theorem refRun {H:AH} {v u ev bv:Value} {vals:List Value} {n:Nat} {E:List (List (ByteArray×Nat))} {ends:List Bool} {w:List ByteArray} (h:RG H v n E ends ev bv vals) (hu:Sl H u 1 (w.map A2b)) (hwl:w.length≤1048576) (hw:Wf H):
  Sh.Call Tryz.prog (knows 8) 56 [v,u] H (fun r H'=>SetOut H H' r n fun t=>(∀ x∈w,x≠A7f)∧RunS (A3q E A7f) (A3q E) (Clo (A3q E A7f) fun s=>s=0) w t):=by
 refine A5a rfl Tryz.func56 rfl (Nat.le_of_ble_eq_true rfl) ?_
 have hres:Tryz.f56.results.toList=[.tmp 4]:=rfl
 have hrb:=RBox.of h hw
 have hk1:Kept H (H.new 3 [.int .i64 0,ev,bv]).2:=Kept.new hw 3 _
 have hE:=h.ed.sl.isCell
 have hB:=h.en.isCell
 rw [h.eq]
 simp only [↓Sh.dn,sx,Nat.reduceBEq,reduceCtorEq,Nat.reduceEqDiff,C3w hE hB]
 generalize (H.new 3 [.int .i64 0,ev,bv]).2=H1 at hrb hk1 ⊢
 generalize H.next=gb at hrb ⊢
 have hn2:=h.n2
 have hu1:=hu.grow (hk1.grow hw)
 obtain ⟨r0,H2,hd2,hk2,out0,b0,hb0,hf0,hnd0,hlt0,hi0⟩:=refStart hrb.rg hk1.wf
 simp only [↓Sh.dn,sx,Nat.reduceBEq,reduceCtorEq,Nat.reduceEqDiff,hrb.ca,Option.map_some]
 refine ⟨_,_,hd2,?_⟩
 obtain ⟨S0,hS0⟩:∃ S0,(Clo (A3q E A7f) fun s=>s=0)=S0:=⟨_,rfl⟩
 rw [hS0] at hi0 ⊢
 have fin : ∀ {H' : AH} {z : Value} {out : List Nat} {b : Option Nat}, Kept H1 H' → Buf H' 1 z (out.map natC) b → (∀ y, b = some y → H1.next ≤ y) → out.Nodup → (∀ t ∈ out, t < n) → (∀ t, t ∈ out ↔ (∀ x ∈ w, x ≠ A7f) ∧ RunS (A3q E A7f) (A3q E) S0 w t) →
     SetOut H H' z n fun t => (∀ x ∈ w, x ≠ A7f) ∧ RunS (A3q E A7f) (A3q E) S0 w t :=
   fun {H' z out b} a1 a2 a3 a4 a5 a6 => ⟨hk1.trans a1, out, b, a2, fun y hy => Nat.le_trans hk1.next (a3 y hy), a4, a5, a6⟩
 refine A6g w.length 6 (List.range' 9 23++[5,6]) (fun i F H'=>Kept H1 H'∧∃ z,F.get 5=some z∧∃ out b,Buf H' 1 z (out.map natC) b∧(∀ y,b=some y→H1.next≤y)∧out.Nodup∧(∀ t∈out,t < n)∧(∀ x∈w.take i,x≠A7f)∧∀ t,t∈out↔RunS (A3q E A7f) (A3q E) S0 (w.take i) t) (by simp only [↓Sh.dn,sx,Nat.reduceBEq,reduceCtorEq,Nat.reduceEqDiff]) ⟨hk2,r0,by simp only [↓Sh.dn,sx,Nat.reduceBEq,reduceCtorEq,Nat.reduceEqDiff],out0,b0,hb0,hf0,hnd0,hlt0,fun x hx=>by simp at hx,fun t=>by rw [hi0 t]; rfl⟩ ?_ ?_
 ·rintro i F H' hi hF f6 ⟨hk,z,f5,out,b,hb,hfr,hnd,hlt,hno,hiff⟩ k
  have f1:=hF 1 rfl
  have f2:=hF 2 rfl
  simp only [↓Sh.dn,sx,Nat.reduceBEq,reduceCtorEq,Nat.reduceEqDiff] at f1 f2
  have hu':=hu1.grow (hk.grow hk1.wf)
  have hlen:=hu'.len Tryz.underlying22 H'
  rw [List.length_map] at hlen
  have hlen2:=hb.toSl.len Tryz.underlying86 H'
  rw [List.length_map] at hlen2
  have hol:=B7a hnd hlt
  have hb1:=hrb.kept hk1.wf hk
  obtain ⟨p,hia,hc⟩:=Sl.elem (s:=1) Tryz.underlying22 A0m hu' (i:=i) (u:=.string w[i]) (by rw [List.getElem?_map,List.getElem?_eq_getElem hi]; rfl)
  have htake:w.take (i+1)=w.take i++[w[i]]:=by rw [List.take_add_one,List.getElem?_eq_getElem hi]; rfl
  have hmem:w[i]∈w:=List.getElem_mem hi
  generalize w[i]=x at hc htake hmem
  have hpos:decide ((0:Int) < (out.length:Int))=decide (out≠[]):=by cases out <;> simp
  simp only [↓Sh.dn,sx,Nat.reduceBEq,reduceCtorEq,Nat.reduceEqDiff,f1,f5,f6,A4a,hi,decide_true,hlen,hlen2,hpos]
  by_cases ho:out=[]
  ·have ha:w=w.take i++w.drop i:=(List.take_append_drop i w).symm
   simp only [↓Sh.dn,sx,Nat.reduceBEq,reduceCtorEq,Nat.reduceEqDiff,ho,decide_false,decide_true,f5,hres,Bool.not_true]
   refine fin hk hb hfr hnd hlt fun t=>?_
   rw [ho]
   constructor
   ·intro h; cases h
   ·rintro ⟨_,h2⟩
    rw [ha,RunS.append] at h2
    exact absurd h2 (RunS.none (fun s hs=>by have:=(hiff s).2 hs; rw [ho] at this; cases this) t)
  ·simp only [↓Sh.dn,sx,Nat.reduceBEq,reduceCtorEq,Nat.reduceEqDiff,ho,decide_false,decide_true,f1,f6,hia,hc,Bool.not_false]
   by_cases hx:x=⟨#[]⟩
   ·simp only [↓Sh.dn,sx,Nat.reduceBEq,reduceCtorEq,Nat.reduceEqDiff,hx,decide_true,hres]
    exact fin (out:=[]) (b:=none) hk (.void none) (fun y hy=>by cases hy) List.nodup_nil (fun t ht=>by cases ht) fun t=>⟨fun h=>(by cases h),fun h=>absurd hx (h.1 x hmem)⟩
   ·obtain ⟨r,H3,hd3,hk3,out3,b3,hb3,hf3,hnd3,hlt3,hi3⟩:=refStep (x:=x) hb1.rg hb.toSl hlt (by omega) hk.wf
    simp only [↓Sh.dn,sx,Nat.reduceBEq,reduceCtorEq,Nat.reduceEqDiff,hx,decide_false]
    first | refine (A4d (by kernel_rfl)).2 ?_ | skip
    simp only [↓Sh.dn,sx,Nat.reduceBEq,reduceCtorEq,Nat.reduceEqDiff,f1,f2,f5,f6,hb1.ca,Option.map_some,hia,hc]
    refine ⟨_,_,hd3,?_⟩
    simp only [↓Sh.dn,sx,Nat.reduceBEq,reduceCtorEq,Nat.reduceEqDiff,f6,wrap_succ hi hwl]
    refine k _ _ (by repeat (first | refine Same.put ?_ rfl | exact Same.rfl' _)) (by simp only [↓Sh.dn,sx,Nat.reduceBEq,reduceCtorEq,Nat.reduceEqDiff]) ⟨hk.trans hk3,r,by simp only [↓Sh.dn,sx,Nat.reduceBEq,reduceCtorEq,Nat.reduceEqDiff],out3,b3,hb3,fun y hy=>Nat.le_trans hk.next (hf3 y hy),hnd3,hlt3,fun y hy=>?_,fun t=>?_⟩
    ·rw [htake] at hy
     rcases List.mem_append.1 hy with h1 | h1
     ·exact hno y h1
     ·rw [List.mem_singleton.1 h1]; exact hx
    ·rw [hi3 t,htake,RunS.append]
     simp only [RunS]
     have:(fun t=>∃ s,s∈out∧A3q E x s t)=fun t=>∃ s,RunS (A3q E A7f) (A3q E) S0 (w.take i) s∧A3q E x s t:=by
      funext t
      apply propext
      simp only [hiff]
     rw [this]
 ·rintro F H' hF f6 ⟨hk,z,f5,out,b,hb,hfr,hnd,hlt,hno,hiff⟩
  have f1:=hF 1 rfl
  simp only [↓Sh.dn,sx,Nat.reduceBEq,reduceCtorEq,Nat.reduceEqDiff] at f1
  have hu':=hu1.grow (hk.grow hk1.wf)
  have hlen:=hu'.len Tryz.underlying22 H'
  rw [List.length_map] at hlen
  rw [List.take_length] at hno hiff
  simp only [↓Sh.dn,sx,Nat.reduceBEq,reduceCtorEq,Nat.reduceEqDiff,f1,f5,f6,A4a,Nat.lt_irrefl,decide_false,hlen,hres]
  exact fin hk hb hfr hnd hlt fun t=>by rw [hiff t]; exact ⟨fun h=>⟨hno,h⟩,fun h=>h.2⟩
end Go.Proofs.YtnoengaghabmjaaGreatDoor
/- The reference's Above: whether a word is above some word. -/
namespace Go.Proofs.YtnoengaghabmjaaGreatDoor
open Go Go.Proofs Go.Proofs.Sh
theorem C0w {N:NetD} (hok:A0o N):A3q (A27 N)=N.goes:=by
 funext x s t
 apply propext
 unfold A3q A27 NetD.goes
 constructor
 ·rintro ⟨r,h1,h2⟩
  obtain ⟨a,ha,h3,h4⟩:=(A5q h1 _).1 h2
  have:=hok.arc a ha
  injection h4 with h4 h5
  exact ⟨a,ha,h3,h4,by omega⟩
 ·rintro ⟨a,ha,h1,h2,h3⟩
  have:=hok.arc a ha
  have hs:s < N.states.toNat:=by omega
  refine ⟨_,A7h hs,?_⟩
  rw [A5q (A7h hs)]
  exact ⟨a,ha,h1,by rw [h2,h3]; rfl⟩
theorem C4q {N:NetD} (hok:A0o N) (t:Nat):(marksOf EndD.state N.states.toNat N.ends)[t]?=some true↔N.isEnd t:=by
 unfold NetD.isEnd
 constructor
 ·intro h
  have ht:=(List.getElem?_eq_some_iff.1 h).1
  rw [A1j] at ht
  rw [A1q ht] at h
  obtain ⟨e,h1,h2⟩:=List.any_eq_true.1 (Option.some.inj h)
  exact ⟨e,h1,of_decide_eq_true h2⟩
 ·rintro ⟨e,h1,h2⟩
  have:=hok.fin e h1
  rw [A1q (by omega)]
  exact congrArg some (List.any_eq_true.2 ⟨e,h1,decide_eq_true h2⟩)
def A5m (N:NetD) (w:List ByteArray):Prop:=(∀ x∈w,x≠A7f)∧∃ t,N.run w t∧N.isEnd t
theorem veq_rg2 {ev bv:Value} (h1:veq ev ev=true) (h2:veq bv bv=true):veq (.agg #[.int .i64 0,ev,bv]) (.agg #[.int .i64 0,ev,bv])=true:=A42 (by simp only [A7m,A1p,A4e,h1,h2,Bool.and_self])
theorem C8f {H:AH} {v u:Value} {N:NetD} {w:List ByteArray} (h:A3m H v N) (hok:A0o N) (hsm:A5c N) (hu:Sl H u 1 (w.map A2b)) (hwl:w.length≤1048576) (hw:Wf H):
  Sh.Call Tryz.prog (knows 8) 30 [v,u] H (fun r H'=>Kept H H'∧r=.bool (tB (A5m N w))):=by
 refine A5a rfl Tryz.func30 rfl (Nat.le_of_ble_eq_true rfl) ?_
 have hres:Tryz.f30.results.toList=[.tmp 4]:=rfl
 obtain ⟨sg,ar,en,rfl,hsg,har,hen⟩:=h
 have hb1:=NetBox.of (N:=N) hw hsg har hen
 have hk1:Kept H (H.new 4 [sg,.int .i64 N.states,ar,en]).2:=Kept.new hw 4 _
 simp only [↓Sh.dn,sx,Nat.reduceBEq,reduceCtorEq,Nat.reduceEqDiff,A0n hsg.isCell har.isCell hen.isCell]
 generalize H.next=gg at hb1 ⊢
 generalize (H.new 4 [sg,.int .i64 N.states,ar,en]).2=H1 at hb1 hk1 ⊢
 have hu1:=hu.grow (hk1.grow hw)
 obtain ⟨r,H3,hd3,hk3,ev,bv,vals,hR⟩:=C0h hb1.netAt hok hsm hk1.wf
 simp only [↓Sh.dn,sx,Nat.reduceBEq,reduceCtorEq,Nat.reduceEqDiff,hb1.c0,hb1.c1,hb1.c2,hb1.c3,hb1.ca,A3a hb1,A1a hb1,A2a hb1,Option.map_some]
 refine ⟨_,_,hd3,?_⟩
 have hE':=hR.ed.sl.isCell
 have hB':=hR.en.isCell
 have hkn:=Kept.new hk3.wf 3 [.int .i64 0,ev,bv]
 have hbx:=RBox.of hR hk3.wf
 rw [hR.eq] at *
 simp only [↓Sh.dn,sx,Nat.reduceBEq,reduceCtorEq,Nat.reduceEqDiff,C5b,B72 hE' hB',rgOver]
 have hu4:=(hu1.grow (hk3.grow hk1.wf)).grow (hkn.grow hk3.wf)
 generalize H3.next=gb at hbx ⊢
 generalize (H3.new 3 [.int .i64 0,ev,bv]).2=H4 at hbx hkn hu4 ⊢
 obtain ⟨r5,H5,hd5,hk5,out,b,hbf,hfr,hnd,hlt,hiff⟩:=refRun hbx.rg hu4 hwl hkn.wf
 have hbx5:=hbx.kept hkn.wf hk5
 have hol:=B7a hnd hlt
 have hn2:=hR.n2
 obtain ⟨r6,H6,hd6,hk6,rfl⟩:=refIsEnd hbx5.rg hbf.toSl hlt (by omega) hk5.wf
 have hvq:=veq_rg2 hR.ed.sl.veq hR.en.veq
 have s1:=hok.st1
 have hpos:∀ H',A7a Tryz.prog .len [80] [ev] H'=some (.int .i64 (N.states.toNat:Int),H'):=fun H'=>by
  rw [hR.ed.sl.len Tryz.underlying80,List.length_map,hR.ed.len]
  unfold A25
  rw [List.length_map,hR.le]
 have hp:decide ((0:Int) < (N.states.toNat:Int))=true:=decide_eq_true (by omega)
 refine A5v (fl:=[(0,true),(1,false),(2,false),(3,true),(4,true),(5,false),(6,false),(7,true),(8,false),(9,true),(10,true),(11,true)]) (by kernel_rfl) (by kernel_rfl) hkn.wf ?_
 simp only [↓Sh.dn,sx,Nat.reduceBEq,reduceCtorEq,Nat.reduceEqDiff,wpg,A80,isEff,A6c,isRead,A8h,A4e,A6h,A3f,A9d,forall_eq,forall_eq',hbx.ca,hbx.c1,hR.ed.sl.veq,Option.map_some,hvq,hpos,hp]
 refine ⟨_,_,hd5,hk5.wf,hk5.grow hkn.wf,?_⟩
 refine ⟨_,_,hd6,hk6.wf,?_⟩
 simp only [↓Sh.dn,sx,Nat.reduceBEq,reduceCtorEq,Nat.reduceEqDiff,wpg,A80,isEff,A6c,isRead,A8h,A4e,A6h,A3f,A9d,forall_eq,forall_eq',hres]
 refine ⟨((((hk1.trans hk3).trans hkn).trans hk5).trans hk6),?_⟩
 have:(out.any fun t=>decide ((marksOf EndD.state N.states.toNat N.ends)[t]?=some true))=tB (A5m N w):=by
  rw [Bool.eq_iff_iff,A72,List.any_eq_true]
  simp only [decide_eq_true_eq,hiff,C4q hok,C0w hok]
  unfold A5m NetD.run NetD.clo
  constructor
  ·rintro ⟨t,⟨h1,h2⟩,h3⟩; exact ⟨h1,t,h2,h3⟩
  ·rintro ⟨h1,t,h2,h3⟩; exact ⟨t,⟨h1,h2⟩,h3⟩
 rw [this]
end Go.Proofs.YtnoengaghabmjaaGreatDoor
