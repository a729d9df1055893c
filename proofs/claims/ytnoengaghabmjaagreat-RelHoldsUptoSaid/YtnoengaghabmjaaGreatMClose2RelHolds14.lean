/- A part of the proof: LawRelHolds. -/
import Derived.Test.YtnoengaghabmjaaGreatMClose2RelHolds12
import Derived.Test.YtnoengaghabmjaaGreatMClose2RelHolds13
import Derived.ProofKit
set_option linter.unusedVariables false
set_option linter.unusedSimpArgs false
/- For every net, of any kind, and all lists of texts: rel.Holds answers what the reference answers. -/
set_option maxHeartbeats 4000000
set_option maxRecDepth 20000
set_option linter.unusedSimpArgs false
set_option linter.unusedVariables false
namespace Go.Proofs.YtnoengaghabmjaaGreat
open Go Go.Proofs Go.Proofs.Sh
theorem A46 {H:AH}:Sh.Call Tryz.prog (knows 10) 10 [] H (fun r H'=>H'=H∧r=.bool true):=⟨_,_,⟨0,rfl⟩,rfl,rfl⟩
theorem boolEq {c b:Bool}:abin Tryz.prog 4 c .eql (.bool b) (.bool b)=some (.bool true):=by
 unfold abin aeq A89 A7e
 simp only [eqT,Tryz.underlying4,cond_true,beq_self_eq_true,Option.map_some]
theorem sizes_el {L:List ByteArray} {m:Nat} (h:B4g L+L.length≤m):L.length≤m∧∀ x∈L,x.size≤m:=⟨by omega,fun x hx=>by have:=B7m hx; omega⟩
theorem one_net {H:AH} {sg ar en:Value} {N:NetD} (hsg:Sl H sg 1 (N.sigma.map A9a)) (har:Sl H ar 5 (N.arcs.map ArcD.cells)) (hen:Sl H en 2 (N.ends.map EndD.cells)) (hsm:A5h N) (hw:Wf H):
  A5a Tryz.prog 52 1 [(0,.agg #[sg,.int .i64 N.states,ar,en])] H=some (.slice (some ⟨H.next,0,some 0⟩) 1 1,(H.new 4 [sg,.int .i64 N.states,ar,en]).2)∧
  Sl (H.new 4 [sg,.int .i64 N.states,ar,en]).2 (.slice (some ⟨H.next,0,some 0⟩) 1 1) 4 [[sg,.int .i64 N.states,ar,en]]∧∀ r∈[[sg,.int .i64 N.states,ar,en]],NetRow (H.new 4 [sg,.int .i64 N.states,ar,en]).2 r:=by
 have hi:isCell (.int .i64 N.states)=true:=rfl
 have hb:=C0b (H:=H) (x:=.agg #[sg,.int .i64 N.states,ar,en]) rfl (by
  show [sg,.int .i64 N.states,ar,en].all isCell=true
  simp [hsg.isCell,har.isCell,hen.isCell,hi])
 have k:=Kept.new hw 4 [sg,.int .i64 N.states,ar,en]
 refine ⟨hb,(Buf.fresh (H:=H) (s:=4) (xs:=[[sg,.int .i64 N.states,ar,en]]) hw (by intro x hx; rw [List.mem_singleton.1 hx]; rfl) (by simp) 1 rfl).toSl,fun r hr=>?_⟩
 rw [List.mem_singleton.1 hr]
 exact ⟨N,sg,ar,en,rfl,hsg.grow (k.grow hw),har.grow (k.grow hw),hen.grow (k.grow hw),hsm⟩
theorem B2r {H:AH} {v ux uy:Value} {N:NetD} {x y:List ByteArray} (h:A8v H v N) (hsm:A5h N) (hx:Sl H ux 1 (x.map A9a)) (hy:Sl H uy 1 (y.map A9a)) (hxl:x.length≤1048576) (hyl:y.length≤1048576) (hxx:∀ z∈x,z.size≤1048576) (hyy:∀ z∈y,z.size≤1048576) (hw:Wf H):
  Sh.Call Tryz.prog (knows 10) 6 [v,ux,uy] H (fun r _=>r=.bool true):=by
 refine A3b rfl Tryz.func6 rfl (Nat.le_of_ble_eq_true rfl) ?_
 have hres:Tryz.f6.results.toList=[.tmp 6]:=rfl
 obtain ⟨sg,ar,en,rfl,hsg,har,hen⟩:=h
 have hb1:=NetBox.of (N:=N) hw hsg har hen
 have hk1:Kept H (H.new 4 [sg,.int .i64 N.states,ar,en]).2:=Kept.new hw 4 _
 simp only [↓Sh.dn,sx,Nat.reduceBEq,reduceCtorEq,Nat.reduceEqDiff,A5q hsg.isCell har.isCell hen.isCell]
 generalize H.next=gg at hb1 ⊢
 generalize (H.new 4 [sg,.int .i64 N.states,ar,en]).2=H1 at hb1 hk1 ⊢
 obtain ⟨n1,n2,n3⟩:=one_net hb1.hsg hb1.har hb1.hen hsm hk1.wf
 have kn:=Kept.new hk1.wf 4 [sg,.int .i64 N.states,ar,en]
 have hb2:=hb1.kept hk1.wf kn
 have hk2:=hk1.trans kn
 obtain ⟨r,K1,hd1,rfl,b,rfl⟩:=lawOver n2 (by simp) n3
 simp only [↓Sh.dn,sx,Nat.reduceBEq,reduceCtorEq,Nat.reduceEqDiff,hb1.c0,hb1.c1,hb1.c2,hb1.c3,hb1.ca,A2a hb1,A1a hb1,A3a hb1,Option.map_some,n1]
 refine ⟨_,_,hd1,?_⟩
 generalize (H1.new 4 [sg,.int .i64 N.states,ar,en]).2=H2 at kn hb2 hk2 ⊢
 have hx2:=hx.grow (hk2.grow hw)
 have hy2:=hy.grow (hk2.grow hw)
 cases b with
 | true=>
  obtain ⟨r,H3,hd3,rfl,rfl⟩:=A46 (H:=H2)
  simp only [↓Sh.dn,sx,Nat.reduceBEq,reduceCtorEq,Nat.reduceEqDiff]
  refine ⟨_,_,hd3,?_⟩
  simp only [↓Sh.dn,sx,Nat.reduceBEq,reduceCtorEq,Nat.reduceEqDiff,hres]
 | false=>
 have hbs:=B9e (P:=Tryz.prog) (H:=H2) Tryz.underlying30 A3t A88 rfl hx2.isCell hy2.isCell
 have hJ:=B06 hx2 hy2 hk2.wf
 have km:=Kept.new hk2.wf 1 [ux,uy]
 obtain ⟨r,K2,hd2,rfl,rfl⟩:=lawLong hJ (by simp)
 simp only [↓Sh.dn,sx,Nat.reduceBEq,reduceCtorEq,Nat.reduceEqDiff,hbs]
 refine ⟨_,_,hd2,?_⟩
 have hb3:=hb2.kept hk2.wf km
 have hk3:=hk2.trans km
 generalize (H2.new 1 [ux,uy]).2=H3 at km hb3 hk3 ⊢
 cases hlg:[x,y].any fun w=>decide (240 < w.length) with
 | true=>
  obtain ⟨r,H4,hd3,rfl,rfl⟩:=A46 (H:=H3)
  simp only [↓Sh.dn,sx,Nat.reduceBEq,reduceCtorEq,Nat.reduceEqDiff]
  refine ⟨_,_,hd3,?_⟩
  simp only [↓Sh.dn,sx,Nat.reduceBEq,reduceCtorEq,Nat.reduceEqDiff,hres]
 | false=>
 obtain ⟨r4,H4,hd4,hk4,rfl⟩:=relHolds hb3.netAt hsm (hx.grow (hk3.grow hw)) (hy.grow (hk3.grow hw)) hxl hyl hxx hyy hk3.wf
 have hb4:=hb3.kept hk3.wf hk4
 have hk04:=hk3.trans hk4
 obtain ⟨r5,H5,hd5,hk5,rfl⟩:=refHolds hb4.netAt hsm (hx.grow (hk04.grow hw)) (hy.grow (hk04.grow hw)) hxl hyl hxx hyy hk04.wf
 have hb5:=hb4.kept hk04.wf hk5
 have hk05:=hk04.trans hk5
 obtain ⟨r6,H6,hd6,hk6,rfl⟩:=A95 hb5.netAt hsm hk05.wf
 have hb6:=hb5.kept hk05.wf hk6
 have hk06:=hk05.trans hk6
 obtain ⟨r7,H7,hd7,hk7,rfl⟩:=B7j hb6.netAt hsm hk06.wf
 obtain ⟨r8,H8,hd8,rfl,rfl⟩:=A46 (H:=H7)
 have hvq:veq (.agg #[sg,.int .i64 N.states,ar,en]) (.agg #[sg,.int .i64 N.states,ar,en])=true:=B5f (by simp only [A0z,A24,A2i,hsg.veq,har.veq,hen.veq,Bool.and_self])
 simp only [↓Sh.dn,sx,Nat.reduceBEq,reduceCtorEq,Nat.reduceEqDiff,hb3.c0,hb3.c1,hb3.c2,hb3.c3,hb3.ca,A2a hb3,A1a hb3,A3a hb3,Option.map_some]
 refine ⟨_,_,hd4,?_⟩
 simp only [↓Sh.dn,sx,Nat.reduceBEq,reduceCtorEq,Nat.reduceEqDiff,hb4.c0,hb4.c1,hb4.c2,hb4.c3,hb4.ca,A2a hb4,A1a hb4,A3a hb4,Option.map_some]
 refine ⟨_,_,hd5,?_⟩
 simp only [↓Sh.dn,sx,Nat.reduceBEq,reduceCtorEq,Nat.reduceEqDiff]
 refine A74 (fl:=[(0,true),(1,true),(2,true),(3,true),(4,true),(5,true),(6,true),(7,true),(8,true),(9,false),(11,false),(10,false),(12,true),(13,true),(14,true),(15,true),(16,true),(17,true),(18,true)]) (by kernel_rfl) (by kernel_rfl) hk05.wf ?_
 simp only [↓Sh.dn,sx,Nat.reduceBEq,reduceCtorEq,Nat.reduceEqDiff,wpg,B0a,isEff,A0d,isRead,A3l,A2i,A8l,A1j,A0h,forall_eq,forall_eq',boolEq,hb5.c0,hb5.c1,hb5.c2,hb5.c3,hb5.ca,A2a hb5,A1a hb5,A3a hb5,hb6.c0,hb6.c1,hb6.c2,hb6.c3,hb6.ca,A2a hb6,A1a hb6,A3a hb6,Option.map_some,hvq,eq_self,decide_true]
 refine ⟨_,_,hd6,hk6.wf,hk6.grow hk05.wf,?_⟩
 refine ⟨_,_,hd7,hk7.wf,?_⟩
 simp only [↓Sh.dn,sx,Nat.reduceBEq,reduceCtorEq,Nat.reduceEqDiff,wpg,B0a,isEff,A0d,isRead,A3l,A2i,A8l,A1j,A0h,forall_eq,forall_eq',eq_self,decide_true]
 refine ⟨_,_,hd8,hk7.wf,?_⟩
 simp only [↓Sh.dn,sx,Nat.reduceBEq,reduceCtorEq,Nat.reduceEqDiff,wpg,B0a,isEff,A0d,isRead,A3l,A2i,A8l,A1j,A0h,forall_eq,forall_eq',hres]
theorem C5e {H:AH} {vs:List Value} {K:Type} {d:DataW K} {ts:List Nat} {j:Nat} {v:Value} {f:Nat} (hfl:Flat Tryz.prog ts vs) (ht:ts[j]?=some 22) (hv:vs[j]?=some v) (h:RD Tryz.prog H f 22 (A8a v) d) (hb:Rows.uptoBulk d≤1048576):
  ∃ w:List ByteArray,Sl H v 1 (w.map A9a)∧w.length≤1048576∧∀ x∈w,x.size≤1048576:=by
 obtain ⟨u,L,hu,hsl,hLb⟩:=C4d h
 obtain ⟨hl,hx⟩:=sizes_el (L:=L) (m:=1048576) (by omega)
 have hv2:v=u:=by
  cases v with
  | agg cs=>
   have:=hfl j _ _ ht hv
   unfold B6y at this
   rw [Tryz.underlying22] at this
   cases this
  | _=>exact List.head_eq_of_cons_eq hu
 subst hv2
 exact ⟨L,hsl,hl,hx⟩
theorem lawMain {H:AH} {avs:List Value} {K:Type} {ds:List (DataW K)} (hb:Rows.uptoBulkAll ds≤1048576) (hw:Wf H) (hr:RDs Tryz.prog H [26,22,22] avs ds) (hfl:Flat Tryz.prog [26,22,22] avs):
  Sh.Call Tryz.prog (knows 10) 6 avs H (fun r _=>r=.bool true):=by
 obtain ⟨v,vs,d,ds,rfl,rfl,⟨f,h1⟩,h2⟩:=hr.cons_inv
 obtain ⟨v2,vs,d2,ds,rfl,rfl,⟨f2,h3⟩,h4⟩:=h2.cons_inv
 obtain ⟨v3,vs,d3,ds,rfl,rfl,⟨f3,h5⟩,h6⟩:=h4.cons_inv
 obtain ⟨rfl,rfl⟩:=h6.nil_inv
 simp only [Rows.uptoBulkAll,Nat.add_zero] at hb
 obtain ⟨N,⟨hn⟩,hsm,hsz⟩:=net_in h1 (by omega)
 obtain ⟨x,hx,hxl,hxx⟩:=C5e hfl (j:=1) rfl rfl h3 (by omega)
 obtain ⟨y,hy,hyl,hyy⟩:=C5e hfl (j:=2) rfl rfl h5 (by omega)
 exact B2r hn hsm hx hy hxl hyl hxx hyy hw
end Go.Proofs.YtnoengaghabmjaaGreat
