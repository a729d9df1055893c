/- A part of the proof: LawJoined, TwoIn, JoinErr, JoinEither, LawRelEithers, LaidW. -/
import Derived.Test.YtnoengaghabmjaaGreatDoorMClose3RelEithers10
import Derived.Test.YtnoengaghabmjaaGreatDoorMClose3RelEithers11
import Derived.ProofKit
import Derived.Test.YtnoengaghabmjaaGreatDoorRows
import Derived.Test.YtnoengaghabmjaaGreatDoorProg
import Derived.Deep.DeepHandedRow
import Derived.Deep.DeepWitnessRowRef
import Derived.Lib.LaidIn
import Derived.KernelRfl
set_option linter.unusedVariables false
set_option linter.unusedSimpArgs false
/- What laws about two nets have alike: a net is made of them that holds what it should, or the error is as told. -/
set_option maxHeartbeats 4000000
set_option maxRecDepth 20000
set_option linter.unusedSimpArgs false
set_option linter.unusedVariables false
namespace Go.Proofs.YtnoengaghabmjaaGreatDoor
open Go Go.Proofs Go.Proofs.Sh
theorem A7u {H:AH}:Sh.Call Tryz.prog (knows 8) 8 [] H (fun r H'=>H'=H∧r=.bool true):=⟨_,_,⟨0,rfl⟩,rfl,rfl⟩
def twoV (A B:NetD) (sgA arA enA sgB arB enB ux uy:Value):List Value:=[sgA,.int .i64 A.states,arA,enA,sgB,.int .i64 B.states,arB,enB,ux,uy]
structure TwoAt (H:AH) (A B:NetD) (x y:List ByteArray) (sgA arA enA sgB arB enB ux uy:Value):Prop where
 a1:Sl H sgA 1 (A.sigma.map A0b)
 a2:Sl H arA 5 (A.arcs.map ArcD.cells)
 a3:Sl H enA 2 (A.ends.map EndD.cells)
 b1:Sl H sgB 1 (B.sigma.map A0b)
 b2:Sl H arB 5 (B.arcs.map ArcD.cells)
 b3:Sl H enB 2 (B.ends.map EndD.cells)
 x:Sl H ux 1 (x.map A0b)
 y:Sl H uy 1 (y.map A0b)
section
variable {H H':AH} {A B:NetD} {x y:List ByteArray} {sgA arA enA sgB arB enB ux uy:Value}
theorem TwoAt.kept (h:TwoAt H A B x y sgA arA enA sgB arB enB ux uy) (hw:Wf H) (hk:Kept H H'):TwoAt H' A B x y sgA arA enA sgB arB enB ux uy:=
 ⟨h.a1.grow (hk.grow hw),h.a2.grow (hk.grow hw),h.a3.grow (hk.grow hw),h.b1.grow (hk.grow hw),h.b2.grow (hk.grow hw),h.b3.grow (hk.grow hw),h.x.grow (hk.grow hw),h.y.grow (hk.grow hw)⟩
structure TBox (H:AH) (g:Nat) (A B:NetD) (x y:List ByteArray) (sgA arA enA sgB arB enB ux uy:Value):Prop where
 ar:Arr H g 0 10 (twoV A B sgA arA enA sgB arB enB ux uy)
 at':TwoAt H A B x y sgA arA enA sgB arB enB ux uy
theorem TBox.kept {g:Nat} (h:TBox H g A B x y sgA arA enA sgB arB enB ux uy) (hw:Wf H) (hk:Kept H H'):TBox H' g A B x y sgA arA enA sgB arB enB ux uy:=
 ⟨h.ar.keep (hk.old g (h.ar.lt hw)),h.at'.kept hw hk⟩
theorem TBox.new (h:TwoAt H A B x y sgA arA enA sgB arB enB ux uy) (hw:Wf H):TBox (H.new 10 (twoV A B sgA arA enA sgB arB enB ux uy)).2 H.next A B x y sgA arA enA sgB arB enB ux uy:=
 ⟨(Sh.Obj.new (H:=H) 10 _).arr,h.kept hw (Kept.new hw 10 _)⟩
theorem TBox.cA {g:Nat} (h:TBox H g A B x y sgA arA enA sgB arB enB ux uy):H.cells ⟨g,0,some 0⟩ 4=some [sgA,.int .i64 A.states,arA,enA]:=h.ar.cells (i:=0) (n:=4) (by simp [twoV])
theorem TBox.cB {g:Nat} (h:TBox H g A B x y sgA arA enA sgB arB enB ux uy):H.cells ⟨g,4,some 0⟩ 4=some [sgB,.int .i64 B.states,arB,enB]:=h.ar.cells (i:=4) (n:=4) (by simp [twoV])
theorem TBox.cT {g:Nat} (h:TBox H g A B x y sgA arA enA sgB arB enB ux uy):H.cells ⟨g,0,some 0⟩ 10=some (twoV A B sgA arA enA sgB arB enB ux uy):=h.ar.cells (i:=0) (n:=10) (by simp [twoV])
theorem TBox.c0 {g:Nat} (h:TBox H g A B x y sgA arA enA sgB arB enB ux uy):H.cell ⟨g,0,some 0⟩=some sgA:=h.ar.cell 0
theorem TBox.c8 {g:Nat} (h:TBox H g A B x y sgA arA enA sgB arB enB ux uy):H.cell ⟨g,8,some 0⟩=some ux:=h.ar.cell 8
theorem TBox.c9 {g:Nat} (h:TBox H g A B x y sgA arA enA sgB arB enB ux uy):H.cell ⟨g,9,some 0⟩=some uy:=h.ar.cell 9
def TBox.nA {g:Nat} (h:TBox H g A B x y sgA arA enA sgB arB enB ux uy):A7l H (.agg #[sgA,.int .i64 A.states,arA,enA]) A:=⟨sgA,arA,enA,rfl,h.at'.a1,h.at'.a2,h.at'.a3⟩
def TBox.nB {g:Nat} (h:TBox H g A B x y sgA arA enA sgB arB enB ux uy):A7l H (.agg #[sgB,.int .i64 B.states,arB,enB]) B:=⟨sgB,arB,enB,rfl,h.at'.b1,h.at'.b2,h.at'.b3⟩
theorem C4b (h:TwoAt H A B x y sgA arA enA sgB arB enB ux uy):(twoV A B sgA arA enA sgB arB enB ux uy).all isCell=true:=by
 have hi:∀ n:Int,isCell (.int .i64 n)=true:=fun _=>rfl
 simp [twoV,h.a1.isCell,h.a2.isCell,h.a3.isCell,h.b1.isCell,h.b2.isCell,h.b3.isCell,h.x.isCell,h.y.isCell,hi]
theorem twoNew (h:TwoAt H A B x y sgA arA enA sgB arB enB ux uy):anew Tryz.prog 28 H (.agg (twoV A B sgA arA enA sgB arB enB ux uy).toArray)=some (.pointer (some ⟨H.next,0,some 0⟩),(H.new 10 (twoV A B sgA arA enA sgB arB enB ux uy)).2):=
 A2p (vs:=twoV A B sgA arA enA sgB arB enB ux uy) C6f rfl (C4b h)
theorem two_nets (hw:Wf H) (h:TwoAt H A B x y sgA arA enA sgB arB enB ux uy) (hA:A6c A) (hB:A6c B):
  ∃ H',A4a Tryz.prog 51 2 [(0,.agg #[sgA,.int .i64 A.states,arA,enA]),(1,.agg #[sgB,.int .i64 B.states,arB,enB])] H=some (.slice (some ⟨H.next,0,some 0⟩) 2 2,H')∧Kept H H'∧
   Sl H' (.slice (some ⟨H.next,0,some 0⟩) 2 2) 4 [[sgA,.int .i64 A.states,arA,enA],[sgB,.int .i64 B.states,arB,enB]]∧∀ r∈[[sgA,.int .i64 A.states,arA,enA],[sgB,.int .i64 B.states,arB,enB]],NetRow H' r:=by
 have k:=Kept.new hw 4 [sgA,.int .i64 A.states,arA,enA,sgB,.int .i64 B.states,arB,enB]
 refine ⟨(H.new 4 [sgA,.int .i64 A.states,arA,enA,sgB,.int .i64 B.states,arB,enB]).2,?_,k,(Buf.fresh (H:=H) (s:=4) (xs:=[[sgA,.int .i64 A.states,arA,enA],[sgB,.int .i64 B.states,arB,enB]]) hw (by
  intro x hx
  simp only [List.mem_cons,List.not_mem_nil,or_false] at hx
  rcases hx with rfl | rfl <;> rfl) (by simp) 2 rfl).toSl,fun r hr=>?_⟩
 ·unfold A4a
  have va:∀ xs:Array Value,A7a (.agg xs)=xs.toList:=fun _=>rfl
  have hi:∀ n:Int,isCell (.int .i64 n)=true:=fun _=>rfl
  have hn:(H.new 4 [sgA,.int .i64 A.states,arA,enA,sgB,.int .i64 B.states,arB,enB]).1=⟨H.next,0,some 0⟩:=rfl
  simp only [Tryz.underlying51,A5n,A8y,Option.bind_some,va]
  simp [repl,A1s,va,h.a1.isCell,h.a2.isCell,h.a3.isCell,h.b1.isCell,h.b2.isCell,h.b3.isCell,hi,setCells,A6a,A5b,hn]
 ·simp only [List.mem_cons,List.not_mem_nil,or_false] at hr
  have h':=h.kept hw k
  rcases hr with rfl | rfl
  ·exact ⟨A,sgA,arA,enA,rfl,h'.a1,h'.a2,h'.a3,hA⟩
  ·exact ⟨B,sgB,arB,enB,rfl,h'.b1,h'.b2,h'.b3,hB⟩
end
theorem C4f {H:AH} {A B:NetD} {x y:List ByteArray} {sgA arA enA sgB arB enB ux uy:Value} {kd err:Int} {P:List ByteArray→List ByteArray→Prop}
  (hj:∀ {H:AH} {va vb:Value},A7l H va A→A7l H vb B→Wf H→Sh.Call Tryz.prog (knows 8) 11 [va,vb,.int .i64 kd] H (fun r H'=>JoinOut H H' A.sigma err P r))
  (hr:∀ {H:AH} {va vb:Value},A7l H va A→A7l H vb B→Wf H→Sh.Call Tryz.prog (knows 8) 12 [va,vb,.int .i64 kd] H (fun r H'=>Kept H H'∧r=.int .i64 err))
  (hm:err=0→∀ {H:AH} {va vb ux uy:Value},A7l H va A→A7l H vb B→Sl H ux 1 (x.map A0b)→Sl H uy 1 (y.map A0b)→x.length≤400→y.length≤400→Wf H→Sh.Call Tryz.prog (knows 8) 16 [va,vb,.int .i64 kd,ux,uy] H (fun r H'=>Kept H H'∧r=.bool (tB (P x y))))
  (h:TwoAt H A B x y sgA arA enA sgB arB enB ux uy) (hA:A6c A) (hB:A6c B) (hxl:x.length≤1048576) (hyl:y.length≤1048576) (hw:Wf H):
  Sh.Call Tryz.prog (knows 8) 7 [.agg (twoV A B sgA arA enA sgB arB enB ux uy).toArray,.int .i64 kd] H (fun r H'=>Kept H H'∧r=.bool true):=by
 refine A3b rfl Tryz.func7 rfl (Nat.le_of_ble_eq_true rfl) ?_
 have hres:Tryz.f7.results.toList=[.tmp 4]:=rfl
 have t1:=TBox.new h hw
 have k1:Kept H (H.new 10 (twoV A B sgA arA enA sgB arB enB ux uy)).2:=Kept.new hw 10 _
 simp only [↓Sh.dn,sx,Nat.reduceBEq,reduceCtorEq,Nat.reduceEqDiff,twoNew h]
 generalize H.next=g at t1 ⊢
 generalize (H.new 10 (twoV A B sgA arA enA sgB arB enB ux uy)).2=H1 at t1 k1 ⊢
 obtain ⟨H2,hb2,k2,sl2,row2⟩:=two_nets k1.wf t1.at' hA hB
 obtain ⟨r,H3,hd3,rfl,b,rfl⟩:=lawOver sl2 (by simp) row2
 have t2:=t1.kept k1.wf k2
 have k12:=k1.trans k2
 simp only [↓Sh.dn,sx,Nat.reduceBEq,reduceCtorEq,Nat.reduceEqDiff,t1.cA,t1.cB,t1.c8,t1.c9,Option.map_some,hb2]
 refine ⟨_,_,hd3,?_⟩
 generalize (Value.slice (some ⟨H1.next,0,some 0⟩) 2 2)=lv at hd3 ⊢
 cases b with
 | true=>
  obtain ⟨r,H4,hd4,rfl,rfl⟩:=A7u (H:=H3)
  simp only [↓Sh.dn,sx,Nat.reduceBEq,reduceCtorEq,Nat.reduceEqDiff]
  refine ⟨_,_,hd4,?_⟩
  simp only [↓Sh.dn,sx,Nat.reduceBEq,reduceCtorEq,Nat.reduceEqDiff,hres]
  exact k12
 | false=>
 have hbs:=B8g (P:=Tryz.prog) (H:=H3) Tryz.underlying48 A5v B5k rfl t2.at'.x.isCell t2.at'.y.isCell
 have hJ:=two_jag t2.at'.x t2.at'.y k12.wf
 have km:=Kept.new k12.wf 1 [ux,uy]
 obtain ⟨r,K2,hd2,rfl,rfl⟩:=lawLong hJ (by simp)
 simp only [↓Sh.dn,sx,Nat.reduceBEq,reduceCtorEq,Nat.reduceEqDiff,t2.cA,t2.cB,t2.c8,t2.c9,Option.map_some,hbs]
 refine ⟨_,_,hd2,?_⟩
 have t3:=t2.kept k12.wf km
 have k13:=k12.trans km
 generalize (H3.new 1 [ux,uy]).2=H4 at km t3 k13 ⊢
 cases hlg:[x,y].any fun w=>decide (240 < w.length) with
 | true=>
  obtain ⟨r,H5,hd4,rfl,rfl⟩:=A7u (H:=H4)
  simp only [↓Sh.dn,sx,Nat.reduceBEq,reduceCtorEq,Nat.reduceEqDiff]
  refine ⟨_,_,hd4,?_⟩
  simp only [↓Sh.dn,sx,Nat.reduceBEq,reduceCtorEq,Nat.reduceEqDiff,hres]
  exact k13
 | false=>
 have hx4:x.length≤400∧y.length≤400:=by
  simp only [List.any_cons,List.any_nil,Bool.or_false,Bool.or_eq_false_iff,decide_eq_false_iff_not] at hlg
  omega
 obtain ⟨r5,H5,hd5,k5,mv,rfl,hbad,hok⟩:=hj t3.nA t3.nB k13.wf
 simp only [↓Sh.dn,sx,Nat.reduceBEq,reduceCtorEq,Nat.reduceEqDiff,t3.cA,t3.cB,Option.map_some]
 refine ⟨_,_,hd5,?_⟩
 have t5:=t3.kept k13.wf k5
 have k15:=k13.trans k5
 by_cases hE:err=0
 case neg=>
  have hz:=hbad hE
  unfold A33 at hz
  subst hz
  have k6:=Kept.new k15.wf 4 [.slice none 0 0,.int .i64 0,.slice none 0 0,.slice none 0 0]
  have hb6:=NetBox.of (N:=⟨[],0,[],[]⟩) k15.wf (Sl.nil H5 1) (Sl.nil H5 5) (Sl.nil H5 2)
  simp only [↓Sh.dn,sx,Nat.reduceBEq,reduceCtorEq,Nat.reduceEqDiff,A8b,A6t (H:=(H5.new 4 [.slice none 0 0,.int .i64 0,.slice none 0 0,.slice none 0 0]).2) (sg:=.slice none 0 0) (ar:=.slice none 0 0) (en:=.slice none 0 0) rfl rfl rfl,A7c]
  simp only [] at hb6
  have t6:=t5.kept k15.wf k6
  have k16:=k15.trans k6
  generalize H5.next=gn at hb6 ⊢
  generalize (H5.new 4 [.slice none 0 0,.int .i64 0,.slice none 0 0,.slice none 0 0]).2=H6 at hb6 t6 k6 k16 ⊢
  obtain ⟨r7,H7,hd7,k7,rfl⟩:=hr t6.nA t6.nB k16.wf
  simp only [↓Sh.dn,sx,Nat.reduceBEq,reduceCtorEq,Nat.reduceEqDiff,t6.cA,t6.cB,Option.map_some]
  refine ⟨_,_,hd7,?_⟩
  have hb7:=hb6.kept k16.wf k7
  have k17:=k16.trans k7
  obtain ⟨r8,H8,hd8,k8,rfl⟩:=lawNone k17.wf
  unfold A33 at hd8
  obtain ⟨r9,H9,hd9,rfl,rfl⟩:=A7u (H:=H8)
  simp only [↓Sh.dn,sx,Nat.reduceBEq,reduceCtorEq,Nat.reduceEqDiff,hE,decide_false,eq_self,decide_true,hb7.c0,hb7.c1,hb7.c2,hb7.c3,hb7.ca,A3a hb7,A2a hb7,A1a hb7,Option.map_some]
  refine ⟨_,_,hd8,?_⟩
  simp only [↓Sh.dn,sx,Nat.reduceBEq,reduceCtorEq,Nat.reduceEqDiff]
  refine ⟨_,_,hd9,?_⟩
  simp only [↓Sh.dn,sx,Nat.reduceBEq,reduceCtorEq,Nat.reduceEqDiff,hres]
  exact k17.trans k8
 obtain ⟨M,hM,m1,m2,m3,m4⟩:=hok hE
 obtain ⟨⟨sgM,arM,enM,rfl,z1,z2,z3⟩⟩:=hM H5 fun _ _=>rfl
 have k6:=Kept.new k15.wf 4 [sgM,.int .i64 M.states,arM,enM]
 have hb6:=NetBox.of (N:=M) k15.wf z1 z2 z3
 simp only [↓Sh.dn,sx,Nat.reduceBEq,reduceCtorEq,Nat.reduceEqDiff,A8b,A6t z1.isCell z2.isCell z3.isCell,A7c]
 have t6:=t5.kept k15.wf k6
 have k16:=k15.trans k6
 generalize H5.next=gn at hb6 ⊢
 generalize (H5.new 4 [sgM,.int .i64 M.states,arM,enM]).2=H6 at hb6 t6 k6 k16 ⊢
 obtain ⟨r7,H7,hd7,k7,rfl⟩:=hr t6.nA t6.nB k16.wf
 simp only [↓Sh.dn,sx,Nat.reduceBEq,reduceCtorEq,Nat.reduceEqDiff,t6.cA,t6.cB,Option.map_some]
 refine ⟨_,_,hd7,?_⟩
 have hb7:=hb6.kept k16.wf k7
 have t7:=t6.kept k16.wf k7
 have k17:=k16.trans k7
 subst hE
 have i03:decide ((0:Int)=3)=false:=rfl
 simp only [↓Sh.dn,sx,Nat.reduceBEq,reduceCtorEq,Nat.reduceEqDiff,i03,eq_self,decide_true]
 obtain ⟨r8,H8,hd8,k8,rfl⟩:=hm rfl t7.nA t7.nB t7.at'.x t7.at'.y hx4.1 hx4.2 k17.wf
 have hb8:=hb7.kept k17.wf k8
 have t8:=t7.kept k17.wf k8
 have k18:=k17.trans k8
 have he:tB (P x y)=tB (A2m M x y):=by rw [Bool.eq_iff_iff,A25,A25,m4]
 obtain ⟨r9,H9,hd9,k9,rfl⟩:=lawMade hb8.netAt m1 m2 m3 t8.at'.a1 hA.sg t8.at'.x t8.at'.y hx4.1 hx4.2 he k18.wf
 have k19:=k18.trans k9
 obtain ⟨r10,H10,hd10,rfl,rfl⟩:=A7u (H:=H9)
 have hvqA:veq (.agg #[sgA,.int .i64 A.states,arA,enA]) (.agg #[sgA,.int .i64 A.states,arA,enA])=true:=A53 (by simp only [A8k,A4n,A8d,t7.at'.a1.veq,t7.at'.a2.veq,t7.at'.a3.veq,Bool.and_self])
 have hvqB:veq (.agg #[sgB,.int .i64 B.states,arB,enB]) (.agg #[sgB,.int .i64 B.states,arB,enB])=true:=A53 (by simp only [A8k,A4n,A8d,t7.at'.b1.veq,t7.at'.b2.veq,t7.at'.b3.veq,Bool.and_self])
 have hvqM:veq (.agg #[sgM,.int .i64 M.states,arM,enM]) (.agg #[sgM,.int .i64 M.states,arM,enM])=true:=A53 (by simp only [A8k,A4n,A8d,z1.veq,z2.veq,z3.veq,Bool.and_self])
 have vx:=t7.at'.x.veq
 have vy:=t7.at'.y.veq
 have vs:=t7.at'.a1.veq
 refine A41 (fl:=[(0,true),(1,true),(2,true),(3,false),(4,true),(5,true),(6,false),(7,true),(8,false),(9,true),(10,false),(11,true),(12,false),(13,true),(14,false),(15,true),(16,true),(17,false),(18,true),(19,false),(20,false),(21,true),(22,true),(23,true),(24,true),(25,true),(26,true)]) (by kernel_rfl) (by kernel_rfl) k17.wf ?_
 simp only [↓Sh.dn,sx,Nat.reduceBEq,reduceCtorEq,Nat.reduceEqDiff,wpg,A8z,isEff,A2c,isRead,A1h,A8d,A6h,A1f,A7d,forall_eq,forall_eq',eq_self,decide_true,hb7.c0,hb7.c1,hb7.c2,hb7.c3,hb7.ca,A3a hb7,A2a hb7,A1a hb7,t7.cA,t7.cB,t7.c0,t7.c8,t7.c9,Option.map_some,hvqA,hvqB,hvqM,vx,vy,vs]
 refine ⟨_,_,hd8,k8.wf,k8.grow k17.wf,?_⟩
 refine ⟨_,_,hd9,k9.wf,?_⟩
 simp only [↓Sh.dn,sx,Nat.reduceBEq,reduceCtorEq,Nat.reduceEqDiff,wpg,A8z,isEff,A2c,isRead,A1h,A8d,A6h,A1f,A7d,forall_eq,forall_eq']
 refine ⟨_,_,hd10,k9.wf,?_⟩
 simp only [↓Sh.dn,sx,Nat.reduceBEq,reduceCtorEq,Nat.reduceEqDiff,wpg,A8z,isEff,A2c,isRead,A1h,A8d,A6h,A1f,A7d,forall_eq,forall_eq',hres]
 exact k19
end Go.Proofs.YtnoengaghabmjaaGreatDoor
/- What comes in: two nets and two lists. -/
namespace Go.Proofs.YtnoengaghabmjaaGreatDoor
open Go Go.Proofs Go.Proofs.Sh
theorem ten {c:List Value} (h:c.length=10):∃ a b x y z a' b' x' y' z',c=[a,b,x,y,z,a',b',x',y',z']:=by
 match c,h with
 | [a,b,x,y,z,a',b',x',y',z'],_=>exact ⟨a,b,x,y,z,a',b',x',y',z',rfl⟩
theorem two_in {K:Type} {H:AH} {f:Nat} {v:Value} {d:DataW K} (h:RD Tryz.prog H f 28 (A7a v) d) (hb:Rows.uptoBulk d≤1048576):
  ∃ (A B:NetD) (x y:List ByteArray) (sgA arA enA sgB arB enB ux uy:Value),v=.agg (twoV A B sgA arA enA sgB arB enB ux uy).toArray∧TwoAt H A B x y sgA arA enA sgB arB enB ux uy∧A6c A∧A6c B∧x.length≤1048576∧y.length≤1048576:=by
 obtain ⟨f',ds,rfl,h1,h2,h3⟩:=RD.struct Tryz.underlying28 h
 rw [cells_28] at h1
 obtain ⟨c0,c1,c2,c3,c4,c5,c6,c7,c8,c9,hv⟩:=ten h1
 rw [hv] at h3
 have h2':ds.length=4:=h2
 obtain ⟨d0,e0⟩:=A6j h2' (i:=0) (by omega)
 obtain ⟨d1,e1⟩:=A6j h2' (i:=1) (by omega)
 obtain ⟨d2,e2⟩:=A6j h2' (i:=2) (by omega)
 obtain ⟨d3,e3⟩:=A6j h2' (i:=3) (by omega)
 have g0:=h3 0 _ _ rfl e0
 have g1:=h3 1 _ _ rfl e1
 have g2:=h3 2 _ _ rfl e2
 have g3:=h3 3 _ _ rfl e3
 simp only [B82,B27,List.drop_zero,List.drop_succ_cons,List.take_succ_cons,List.take_zero,List.getElem_toArray,List.getElem_cons_zero,List.getElem_cons_succ] at g0 g1 g2 g3
 have m0:=A9q (List.mem_of_getElem? e0)
 have m1:=A9q (List.mem_of_getElem? e1)
 have m2:=A9q (List.mem_of_getElem? e2)
 have m3:=A9q (List.mem_of_getElem? e3)
 simp only [Rows.uptoBulk] at hb
 obtain ⟨A,⟨nA⟩,sA,_⟩:=net_in (v:=.agg #[c0,c1,c2,c3]) g0 (by omega)
 obtain ⟨B,⟨nB⟩,sB,_⟩:=net_in (v:=.agg #[c4,c5,c6,c7]) g1 (by omega)
 obtain ⟨ux,x,qx,sx',bx⟩:=B8w g2
 obtain ⟨uy,y,qy,sy',by'⟩:=B8w g3
 simp only [List.cons.injEq,and_true] at qx qy
 subst qx qy
 obtain ⟨sgA,arA,enA,eA,a1,a2,a3⟩:=nA
 obtain ⟨sgB,arB,enB,eB,b1,b2,b3⟩:=nB
 simp only [Value.agg.injEq,Array.mk.injEq,List.cons.injEq,and_true] at eA eB
 obtain ⟨rfl,rfl,rfl,rfl⟩:=eA
 obtain ⟨rfl,rfl,rfl,rfl⟩:=eB
 exact ⟨A,B,x,y,_,_,_,_,_,_,_,_,agg_of hv,⟨a1,a2,a3,b1,b2,b3,sx',sy'⟩,sA,sB,by omega,by omega⟩
end Go.Proofs.YtnoengaghabmjaaGreatDoor
/- What the reference finds wrong with two nets. -/
namespace Go.Proofs.YtnoengaghabmjaaGreatDoor
open Go Go.Proofs Go.Proofs.Sh
theorem refJoins {H:AH} {va vb:Value} {A B:NetD} {kd:Int} (hkd:kd=1∨kd=2) (ha:A7l H va A) (hb:A7l H vb B) (hA:A6c A) (hB:A6c B) (hw:Wf H):
  Sh.Call Tryz.prog (knows 8) 12 [va,vb,.int .i64 kd] H (fun r H'=>Kept H H'∧r=.int .i64 (A2e A B)):=by
 refine A3b rfl Tryz.func12 rfl (Nat.le_of_ble_eq_true rfl) ?_
 have hres:Tryz.f12.results.toList=[.tmp 6]:=rfl
 obtain ⟨sgA,arA,enA,rfl,s1,s2,s3⟩:=ha
 obtain ⟨sgB,arB,enB,rfl,t1,t2,t3⟩:=hb
 have bA:=NetBox.of (N:=A) hw s1 s2 s3
 have k1:=Kept.new hw 4 [sgA,.int .i64 A.states,arA,enA]
 have bB:=NetBox.of (N:=B) k1.wf (t1.grow (k1.grow hw)) (t2.grow (k1.grow hw)) (t3.grow (k1.grow hw))
 have k2:=k1.news 4 [sgB,.int .i64 B.states,arB,enB]
 have bA2:=bA.new k1.wf 4 [sgB,.int .i64 B.states,arB,enB]
 simp only [↓Sh.dn,sx,Nat.reduceBEq,reduceCtorEq,Nat.reduceEqDiff,A2n s1.isCell s2.isCell s3.isCell,A2n t1.isCell t2.isCell t3.isCell]
 obtain ⟨H1,hH1⟩:∃ K,(H.new 4 [sgA,.int .i64 A.states,arA,enA]).2=K:=⟨_,rfl⟩
 simp only [hH1] at k1 bB bA k2 bA2 ⊢
 obtain ⟨H2,hH2⟩:∃ K,(H1.new 4 [sgB,.int .i64 B.states,arB,enB]).2=K:=⟨_,rfl⟩
 simp only [hH2] at bB k2 bA2 ⊢
 generalize H.next=gA at bA2 ⊢
 generalize H1.next=gB at bB ⊢
 obtain ⟨r3,H3,hd3,k3,rfl⟩:=B2a bA2.netAt hA k2.wf
 have bA3:=bA2.kept k2.wf k3
 have bB3:=bB.kept k2.wf k3
 have k23:=k2.trans k3
 obtain ⟨r4,H4,hd4,k4,rfl⟩:=B2a bB3.netAt hB k23.wf
 have bA4:=bA3.kept k23.wf k4
 have bB4:=bB3.kept k23.wf k4
 have k24:=k23.trans k4
 obtain ⟨r5,H5,hd5,rfl,rfl⟩:=C6o bA4.hsg bB4.hsg hA.sg hB.sg k24.wf
 have q0:decide (kd=0)=false:=by rcases hkd with rfl | rfl <;> rfl
 simp only [↓Sh.dn,sx,Nat.reduceBEq,reduceCtorEq,Nat.reduceEqDiff,bA2.c0,bA2.c1,bA2.c2,bA2.c3,bA2.ca,A3a bA2,A2a bA2,A1a bA2,Option.map_some]
 refine ⟨_,_,hd3,?_⟩
 by_cases hE:A8g A=0
 case neg=>
  have e1:A2e A B=A8g A:=by unfold A2e A8j; rw [if_pos hE,if_pos hE]
  simp only [↓Sh.dn,sx,Nat.reduceBEq,reduceCtorEq,Nat.reduceEqDiff,hE,decide_false,hres,e1]
  exact k23
 simp only [↓Sh.dn,sx,Nat.reduceBEq,reduceCtorEq,Nat.reduceEqDiff,hE,decide_true,bB3.c0,bB3.c1,bB3.c2,bB3.c3,bB3.ca,A3a bB3,A2a bB3,A1a bB3,Option.map_some]
 refine ⟨_,_,hd4,?_⟩
 by_cases hF:A8g B=0
 case neg=>
  have e1:A2e A B=A8g B:=by unfold A2e A8j; simp only [hE,hF,ne_eq,not_true_eq_false,not_false_eq_true,if_true,if_false]
  simp only [↓Sh.dn,sx,Nat.reduceBEq,reduceCtorEq,Nat.reduceEqDiff,hF,decide_false,hres,e1]
  exact k24
 simp only [↓Sh.dn,sx,Nat.reduceBEq,reduceCtorEq,Nat.reduceEqDiff,hF,decide_true,bA4.c0,bA4.c1,bA4.c2,bA4.c3,bA4.ca,A3a bA4,A2a bA4,A1a bA4,bB4.c0,bB4.c1,bB4.c2,bB4.c3,bB4.ca,A3a bB4,A2a bB4,A1a bB4,Option.map_some]
 refine ⟨_,_,hd5,?_⟩
 by_cases hs:A.sigma=B.sigma
 case neg=>
  have e1:A2e A B=10:=by unfold A2e A8j; simp [hE,hF,hs]
  simp only [↓Sh.dn,sx,Nat.reduceBEq,reduceCtorEq,Nat.reduceEqDiff,hs,decide_false,hres,e1]
  exact k24
 have e1:A2e A B=if A09 A B=true then 3 else 0:=by unfold A2e A8j; simp [hE,hF,hs]
 obtain ⟨okA,_,_⟩:=A8h hE
 obtain ⟨okB,_,_⟩:=A8h hF
 have a1:=okA.st1
 have a2:=okA.st2
 have a3:=okA.ar
 have a4:=okA.en
 have b1:=okB.st1
 have b2:=okB.st2
 have b3:=okB.ar
 have b4:=okB.en
 have w1:IntKind.wrap .i64 (A.states+B.states)=A.states+B.states:=wrap64 (by omega) (by omega)
 have w2:IntKind.wrap .i64 ((A.arcs.length:Int)+(B.arcs.length:Int))=(A.arcs.length:Int)+(B.arcs.length:Int):=wrap64 (by omega) (by omega)
 have w3:IntKind.wrap .i64 ((A.ends.length:Int)+(B.ends.length:Int))=(A.ends.length:Int)+(B.ends.length:Int):=wrap64 (by omega) (by omega)
 have d2:decide ((50000:Int) < (A.arcs.length:Int)+(B.arcs.length:Int))=decide (50000 < A.arcs.length+B.arcs.length):=decide_eq_decide.2 (by omega)
 have d3:decide ((50000:Int) < (A.ends.length:Int)+(B.ends.length:Int))=decide (50000 < A.ends.length+B.ends.length):=decide_eq_decide.2 (by omega)
 have i21:decide ((2:Int)=1)=false:=rfl
 unfold A09 at e1
 cases p1:decide (300 < A.states+B.states) with
 | true=>
  simp only [p1,Bool.true_or,if_true] at e1
  rcases hkd with rfl | rfl <;> simp only [↓Sh.dn,sx,Nat.reduceBEq,reduceCtorEq,Nat.reduceEqDiff,hs,decide_true,q0,bA4.c0,bA4.c1,bA4.c2,bA4.c3,bA4.ca,A3a bA4,A2a bA4,A1a bA4,bB4.c0,bB4.c1,bB4.c2,bB4.c3,bB4.ca,A3a bB4,A2a bB4,A1a bB4,Option.map_some,eq_self,decide_false,i21,w1,p1,hres,e1] <;> exact k24
 | false=>
 cases p2:decide (50000 < A.arcs.length+B.arcs.length) with
 | true=>
  simp only [p1,p2,Bool.true_or,Bool.false_or,if_true] at e1
  rcases hkd with rfl | rfl <;> simp only [↓Sh.dn,sx,Nat.reduceBEq,reduceCtorEq,Nat.reduceEqDiff,hs,decide_true,q0,bA4.c0,bA4.c1,bA4.c2,bA4.c3,bA4.ca,A3a bA4,A2a bA4,A1a bA4,bB4.c0,bB4.c1,bB4.c2,bB4.c3,bB4.ca,A3a bB4,A2a bB4,A1a bB4,Option.map_some,eq_self,decide_false,i21,w1,p1,w2,d2,p2,hres,e1] <;> exact k24
 | false=>
 cases p3:decide (50000 < A.ends.length+B.ends.length) with
 | true=>
  simp only [p1,p2,p3,Bool.true_or,Bool.false_or,if_true] at e1
  rcases hkd with rfl | rfl <;> simp only [↓Sh.dn,sx,Nat.reduceBEq,reduceCtorEq,Nat.reduceEqDiff,hs,decide_true,q0,bA4.c0,bA4.c1,bA4.c2,bA4.c3,bA4.ca,A3a bA4,A2a bA4,A1a bA4,bB4.c0,bB4.c1,bB4.c2,bB4.c3,bB4.ca,A3a bB4,A2a bB4,A1a bB4,Option.map_some,eq_self,decide_false,i21,w1,p1,w2,d2,p2,w3,d3,p3,hres,e1] <;> exact k24
 | false=>
  simp only [p1,p2,p3,Bool.false_or,Bool.false_eq_true,if_false] at e1
  rcases hkd with rfl | rfl <;> simp only [↓Sh.dn,sx,Nat.reduceBEq,reduceCtorEq,Nat.reduceEqDiff,hs,decide_true,q0,bA4.c0,bA4.c1,bA4.c2,bA4.c3,bA4.ca,A3a bA4,A2a bA4,A1a bA4,bB4.c0,bB4.c1,bB4.c2,bB4.c3,bB4.ca,A3a bB4,A2a bB4,A1a bB4,Option.map_some,eq_self,decide_false,i21,w1,p1,w2,d2,p2,w3,d3,p3,hres,e1] <;> exact k24
end Go.Proofs.YtnoengaghabmjaaGreatDoor
/- The law's join of kind Either. -/
namespace Go.Proofs.YtnoengaghabmjaaGreatDoor
open Go Go.Proofs Go.Proofs.Sh
theorem C0a {H:AH} {va vb:Value} {A B:NetD} (ha:A7l H va A) (hb:A7l H vb B) (hA:A6c A) (hB:A6c B) (hw:Wf H):
  Sh.Call Tryz.prog (knows 8) 11 [va,vb,.int .i64 1] H (fun r H'=>JoinOut H H' A.sigma (A2e A B) (fun x y=>A2m A x y∨A2m B x y) r):=by
 refine A3b rfl Tryz.func11 rfl (Nat.le_of_ble_eq_true rfl) ?_
 have hres:Tryz.f11.results.toList=[.cell 6 26,.tmp 7]:=rfl
 obtain ⟨sgA,arA,enA,rfl,s1,s2,s3⟩:=ha
 obtain ⟨sgB,arB,enB,rfl,t1,t2,t3⟩:=hb
 have bA:=NetBox.of (N:=A) hw s1 s2 s3
 have k1:=Kept.new hw 4 [sgA,.int .i64 A.states,arA,enA]
 have bB:=NetBox.of (N:=B) k1.wf (t1.grow (k1.grow hw)) (t2.grow (k1.grow hw)) (t3.grow (k1.grow hw))
 have k2:=k1.news 4 [sgB,.int .i64 B.states,arB,enB]
 have bA2:=bA.new k1.wf 4 [sgB,.int .i64 B.states,arB,enB]
 simp only [↓Sh.dn,sx,Nat.reduceBEq,reduceCtorEq,Nat.reduceEqDiff,A2n s1.isCell s2.isCell s3.isCell,A2n t1.isCell t2.isCell t3.isCell,A8b]
 obtain ⟨H1,hH1⟩:∃ K,(H.new 4 [sgA,.int .i64 A.states,arA,enA]).2=K:=⟨_,rfl⟩
 simp only [hH1] at k1 bB bA k2 bA2 ⊢
 obtain ⟨H2,hH2⟩:∃ K,(H1.new 4 [sgB,.int .i64 B.states,arB,enB]).2=K:=⟨_,rfl⟩
 simp only [hH2] at bB k2 bA2 ⊢
 generalize H.next=gA at bA2 ⊢
 generalize H1.next=gB at bB ⊢
 have sl:Slot (H2.new 4 [.slice none 0 0,.int .i64 0,.slice none 0 0,.slice none 0 0]).2 H2.next:=Slot.new
 have k3:=k2.news 4 [.slice none 0 0,.int .i64 0,.slice none 0 0,.slice none 0 0]
 have bA3:=bA2.new k2.wf 4 [.slice none 0 0,.int .i64 0,.slice none 0 0,.slice none 0 0]
 have bB3:=bB.new k2.wf 4 [.slice none 0 0,.int .i64 0,.slice none 0 0,.slice none 0 0]
 have gol:H.next≤H2.next:=k2.next
 generalize H2.next=go at sl gol ⊢
 generalize (H2.new 4 [.slice none 0 0,.int .i64 0,.slice none 0 0,.slice none 0 0]).2=H3 at sl k3 bA3 bB3 ⊢
 clear bA bA2 bB k1 k2 hH1 hH2 H1 H2 s1 s2 s3 t1 t2 t3
 obtain ⟨r4,H4,hd4,k4,mv,rfl,hbad,hok⟩:=C3j bA3.netAt bB3.netAt hA hB k3.wf
 have i10:decide ((1:Int)=0)=false:=rfl
 have i11:decide ((1:Int)=1)=true:=rfl
 simp only [↓Sh.dn,sx,Nat.reduceBEq,reduceCtorEq,Nat.reduceEqDiff,i10,i11,bA3.c0,bA3.c1,bA3.c2,bA3.c3,bA3.ca,A3a bA3,A2a bA3,A1a bA3,bB3.c0,bB3.c1,bB3.c2,bB3.c3,bB3.ca,A3a bB3,A2a bB3,A1a bB3,Option.map_some,eq_self,decide_true,decide_false]
 refine ⟨_,_,hd4,?_⟩
 have hgl:=sl.lt
 by_cases hE:A2e A B=0
 case neg=>
  have hz:=hbad hE
  unfold A33 at hz
  subst hz
  obtain ⟨Hz,sz,cz,zz,_⟩:=sl.put k4 (a:=.slice none 0 0) (b:=.int .i64 0) (c:=.slice none 0 0) (d:=.slice none 0 0) rfl rfl rfl rfl
  simp only [↓Sh.dn,sx,Nat.reduceBEq,reduceCtorEq,Nat.reduceEqDiff,sz,hres,cz,Option.map_some]
  exact JoinOut.bad ((k3.trans k4).then gol (zz.weak fun y hy=>by omega)) hE
 obtain ⟨M,hM,m1,m2,m3,m4⟩:=hok hE
 obtain ⟨⟨sgM,arM,enM,rfl,z1,z2,z3⟩⟩:=hM H4 fun _ _=>rfl
 obtain ⟨H5,s5,c5,z5,x5⟩:=sl.put k4 z1.isCell (show isCell (.int .i64 M.states)=true from rfl) z2.isCell z3.isCell
 simp only [↓Sh.dn,sx,Nat.reduceBEq,reduceCtorEq,Nat.reduceEqDiff,s5,hres,c5,Option.map_some]
 refine ⟨(k3.trans k4).then gol (z5.weak fun y hy=>by omega),_,rfl,fun h=>absurd hE h,fun _=>⟨M,fun H6 h6=>hM H6 fun y hy=>(h6 y (by have:=k3.next; omega)).trans ?_,m1,m2,m3,m4⟩⟩
 by_cases hyl:y < H4.next
 ·exact z5.old y hyl (by omega)
 ·have q1:=A66 k4.wf (y:=y) (by omega)
  have q2:=A66 z5.wf (y:=y) (by omega)
  rw [q1,q2]
end Go.Proofs.YtnoengaghabmjaaGreatDoor
/- For every two nets, of any kind, and every two lists of texts: what rel.Either makes holds the pair of both lists just if one of the nets holds it, or the error is the reference's. -/
namespace Go.Proofs.YtnoengaghabmjaaGreatDoor
open Go Go.Proofs Go.Proofs.Sh
theorem A95 {A B:NetD} (h:A2e A B=0):A7o A∧A7o B:=by
 unfold A2e at h
 split at h
 ·rename_i h1; exact absurd h h1
 ·rename_i h1
  obtain ⟨h2,h3,_⟩:=B2b (A:=A) (B:=B) (by simpa using h1)
  exact ⟨(A8h h2).1,(A8h h3).1⟩
theorem B4i {H:AH} {A B:NetD} {x y:List ByteArray} {sgA arA enA sgB arB enB ux uy:Value} (h:TwoAt H A B x y sgA arA enA sgB arB enB ux uy) (hA:A6c A) (hB:A6c B) (hxl:x.length≤1048576) (hyl:y.length≤1048576) (hw:Wf H):
  Sh.Call Tryz.prog (knows 8) 4 [.agg (twoV A B sgA arA enA sgB arB enB ux uy).toArray] H (fun r _=>r=.bool true):=by
 refine A3b rfl Tryz.func4 rfl (Nat.le_of_ble_eq_true rfl) ?_
 have hres:Tryz.f4.results.toList=[.tmp 2]:=rfl
 have t1:=TBox.new h hw
 have k1:Kept H (H.new 10 (twoV A B sgA arA enA sgB arB enB ux uy)).2:=Kept.new hw 10 _
 simp only [↓Sh.dn,sx,Nat.reduceBEq,reduceCtorEq,Nat.reduceEqDiff,twoNew h]
 generalize H.next=g at t1 ⊢
 generalize (H.new 10 (twoV A B sgA arA enA sgB arB enB ux uy)).2=H1 at t1 k1 ⊢
 obtain ⟨r2,H2,hd2,k2,rfl⟩:=C4f (kd:=1) (err:=A2e A B) (P:=fun x y=>A2m A x y∨A2m B x y) (fun ha hb hw=>C0a ha hb hA hB hw) (fun ha hb hw=>refJoins (.inl rfl) ha hb hA hB hw)
  (fun hE {_ _ _ _ _} ha hb hx hy h1 h2 hw=>refMade1 ha hb hA hB (A95 hE).1 (A95 hE).2 hx hy h1 h2 hw) t1.at' hA hB hxl hyl k1.wf
 obtain ⟨r3,H3,hd3,rfl,rfl⟩:=A7u (H:=H2)
 simp only [↓Sh.dn,sx,Nat.reduceBEq,reduceCtorEq,Nat.reduceEqDiff,t1.cT,Option.map_some]
 refine ⟨_,_,hd2,?_⟩
 simp only [↓Sh.dn,sx,Nat.reduceBEq,reduceCtorEq,Nat.reduceEqDiff]
 refine ⟨_,_,hd3,?_⟩
 simp only [↓Sh.dn,sx,Nat.reduceBEq,reduceCtorEq,Nat.reduceEqDiff,hres]
theorem lawMain {H:AH} {avs:List Value} {K:Type} {ds:List (DataW K)} (hb:Rows.uptoBulkAll ds≤1048576) (hw:Wf H) (hr:RDs Tryz.prog H [28] avs ds) (hfl:Flat Tryz.prog [28] avs):
  Sh.Call Tryz.prog (knows 8) 4 avs H (fun r _=>r=.bool true):=by
 obtain ⟨v,vs,d,ds,rfl,rfl,⟨f,h1⟩,h2⟩:=hr.cons_inv
 obtain ⟨rfl,rfl⟩:=h2.nil_inv
 simp only [Rows.uptoBulkAll,Nat.add_zero] at hb
 obtain ⟨A,B,x,y,_,_,_,_,_,_,_,_,rfl,h,hA,hB,hxl,hyl⟩:=two_in h1 (by omega)
 exact B4i h hA hB hxl hyl hw
end Go.Proofs.YtnoengaghabmjaaGreatDoor
/- A start at which the variables hold what is laid. -/
namespace Go.Proofs.YtnoengaghabmjaaGreatDoor
open Go Go.Proofs
def laidL:List (String×DataW Unit):=[("math/bits.deBruijn32tab",Rows.laid_math_bits_deBruijn32tab),("math/bits.deBruijn64tab",Rows.laid_math_bits_deBruijn64tab),("internal/strconv.uint64pow10",Rows.laid_internal_strconv_uint64pow10)]
def litsOf:DataW Unit→List Value
 | .agg ds=>ds.map fun d=>match d with
  | .lit (.int k n)=>.int k n
  | _=>.bool false
 | _=>[]
noncomputable def gAt (n:String):Nat:=(Tryz.prog.globalNamed n).getD 0
noncomputable def laidWorld (os:Os):World:=
 let w0:=World.holding Tryz.prog os ⟨#[],#[],[]⟩
 let put (h:Array Obj) (x:String×DataW Unit):Array Obj:=h.modify (gAt x.1) fun
  | .cells _ t frozen=>.cells (litsOf x.2).toArray t frozen
  | o=>o
 { w0 with heap:=laidL.foldl put w0.heap }
theorem laid_met (os:Os) (args:Array Value):laidMetH Tryz.prog laidL ((laidWorld os).forCall (fun _ _=>0) ⟨#[],args,[]⟩).memory:=by
 have h:LaidIn Tryz.prog ((laidWorld os).forCall (fun _ _=>0) ⟨#[],args,[]⟩).memory laidL (laidL.map fun x=>gAt x.1):=LaidIn.of_run _ 8 (by kernel_rfl) (by kernel_rfl) (by kernel_rfl) (by kernel_rfl)
 exact h.met
end Go.Proofs.YtnoengaghabmjaaGreatDoor
