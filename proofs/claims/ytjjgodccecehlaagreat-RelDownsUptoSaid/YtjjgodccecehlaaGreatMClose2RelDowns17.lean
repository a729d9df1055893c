/- A part of the proof: LawNet, LawRelDowns. -/
import Derived.Test.YtjjgodccecehlaaGreatMClose2RelDowns15
import Derived.Test.YtjjgodccecehlaaGreatMClose2RelDowns16
import Derived.ProofKit
set_option linter.unusedVariables false
set_option linter.unusedSimpArgs false
/- What laws about a net and words have alike. -/
set_option maxHeartbeats 4000000
set_option maxRecDepth 20000
namespace Go.Proofs.YtjjgodccecehlaaGreat
open Go Go.Proofs Go.Proofs.Sh
theorem B6k{H:AH}:Sh.Call Tryz.prog (knows 7) 7 [] H (fun r H'=>H'=H∧r=.bool true):=⟨_,_,⟨0,rfl⟩,rfl,rfl⟩
theorem sizes_el{L:List ByteArray}{m:Nat}(h:B0v L+L.length≤m):L.length≤m∧∀x∈L,x.size≤m:=⟨by omega,fun x hx=>by have:=B49 hx;omega⟩
theorem one_net{H:AH}{sg ar en:Value}{N:NetD}(hsg:Sl H sg 1 (N.sigma.map A7a))(har:Sl H ar 5 (N.arcs.map ArcD.cells))(hen:Sl H en 2 (N.ends.map EndD.cells))(hsm:A3g N)(hw:Wf H):
  A5a Tryz.prog 43 1 [(0,.agg #[sg,.int .i64 N.states,ar,en])] H=some (.slice (some ⟨H.next,0,some 0⟩) 1 1,(H.new 4 [sg,.int .i64 N.states,ar,en]).2)∧
  Sl (H.new 4 [sg,.int .i64 N.states,ar,en]).2 (.slice (some ⟨H.next,0,some 0⟩) 1 1) 4 [[sg,.int .i64 N.states,ar,en]]∧∀r∈[[sg,.int .i64 N.states,ar,en]],NetRow (H.new 4 [sg,.int .i64 N.states,ar,en]).2 r:=by
 have hi:isCell (.int .i64 N.states)=true:=rfl;have hb:=C53 (H:=H) (x:=.agg #[sg,.int .i64 N.states,ar,en]) rfl (by
  show [sg,.int .i64 N.states,ar,en].all isCell=true;simp[hsg.isCell,har.isCell,hen.isCell,hi])
 have k:=Kept.new hw 4 [sg,.int .i64 N.states,ar,en];refine⟨hb,(Buf.fresh (H:=H) (s:=4) (xs:=[[sg,.int .i64 N.states,ar,en]]) hw (by intro x hx;rw[List.mem_singleton.1 hx];rfl) (by simp) 1 rfl).toSl,fun r hr=>?_⟩;rw[List.mem_singleton.1 hr];exact⟨N,sg,ar,en,rfl,hsg.grow (k.grow hw),har.grow (k.grow hw),hen.grow (k.grow hw),hsm⟩
theorem strs_of{H:AH}{vs:List Value}{K:Type}{d:DataW K}{ts:List Nat}{j:Nat}{v:Value}{f:Nat}(hfl:Flat Tryz.prog ts vs)(ht:ts[j]?=some 22)(hv:vs[j]?=some v)(h:RD Tryz.prog H f 22 (A6a v) d)(hb:Rows.uptoBulk d≤1048576):
  ∃w:List ByteArray,Sl H v 1 (w.map A7a)∧w.length≤1048576∧∀x∈w,x.size≤1048576:=by
 obtain⟨u,L,hu,hsl,hLb⟩:=C6y h;obtain⟨hl,hx⟩:=sizes_el (L:=L) (m:=1048576) (by omega);have hv2:v=u:=by
  cases v with
  | agg cs=>
   have:=hfl j _ _ ht hv;unfold B70 at this;rw[Tryz.underlying22]at this;cases this
  | _=>exact List.head_eq_of_cons_eq hu
 subst hv2;exact⟨L,hsl,hl,hx⟩
theorem one_jag{H:AH}{u:Value}{x:List ByteArray}(hu:Sl H u 1 (x.map A7a))(hw:Wf H):JagR (H.new 1 [u]).2 (.slice (some ⟨H.next,0,some 0⟩) 1 1) 1 ([x].map fun w=>w.map A7a) [u]:=by
 have k:=Kept.new hw 1 [u];refine⟨(Buf.fresh (H:=H) (s:=1) (xs:=[[u]]) hw (by intro x hx;rw[List.mem_singleton.1 hx];rfl) (by simp) 1 rfl).toSl,rfl,fun i w' r h1 h2=>?_⟩
 match i with
 | 0=>
  simp only[List.map_cons,List.map_nil,List.getElem?_cons_zero,Option.some.injEq]at h1 h2;subst h1 h2;exact hu.grow (k.grow hw)
 | i+1=>simp at h1
theorem C0x{H:AH}{u:Value}(hu:isCell u=true):A5a Tryz.prog 30 1 [(0,u)] H=some (.slice (some ⟨H.next,0,some 0⟩) 1 1,(H.new 1 [u]).2):=by
 have hbs:=B9y (H:=H) (x:=u) (by rw[A4b hu];rfl) (by rw[A4b hu];simp[hu]);rw[A4b hu]at hbs;exact hbs
theorem C1e{H:AH}{v ux:Value}{N:NetD}{x:List ByteArray}{most:Int}(h:A8v H v N)(hsm:A3g N)(hx:Sl H ux 1 (x.map A7a))(hxl:x.length≤1048576)(hxx:∀z∈x,z.size≤1048576)(hw:Wf H):
  Sh.Call Tryz.prog (knows 7) 3 [v,ux,.int .i64 most] H (fun r _=>r=.bool true):=by
 refine A3a rfl Tryz.func3 rfl (Nat.le_of_ble_eq_true rfl) ?_;have hres:Tryz.f3.results.toList=[.tmp 6]:=rfl;obtain⟨sg,ar,en,rfl,hsg,har,hen⟩:=h;have hb1:=NetBox.of (N:=N) hw hsg har hen;have hk1:Kept H (H.new 4 [sg,.int .i64 N.states,ar,en]).2:=Kept.new hw 4 _;simp only[↓Sh.dn,sx,Nat.reduceEqDiff,A3u hsg.isCell har.isCell hen.isCell];generalize H.next=gg at hb1 ⊢;generalize (H.new 4 [sg,.int .i64 N.states,ar,en]).2=H1 at hb1 hk1 ⊢;obtain⟨n1,n2,n3⟩:=one_net hb1.hsg hb1.har hb1.hen hsm hk1.wf;have kn:=Kept.new hk1.wf 4 [sg,.int .i64 N.states,ar,en];have hb2:=hb1.kept hk1.wf kn;have hk2:=hk1.trans kn;obtain⟨r,K1,hd1,rfl,b,rfl⟩:=lawOver n2 (by simp) n3;simp only[sx,hb1.ca,n1];refine⟨_,_,hd1,?_⟩;generalize (H1.new 4 [sg,.int .i64 N.states,ar,en]).2=H2 at kn hb2 hk2 ⊢;have hx2:=hx.grow (hk2.grow hw);cases b with
 | true=>
  obtain⟨r,H3,hd3,rfl,rfl⟩:=B6k (H:=H2);simp only[↓Sh.dn,sx,Nat.reduceEqDiff];refine⟨_,_,hd3,?_⟩;simp only[sx,hres]
 | false=>
 have hbs:=C0x (H:=H2) hx2.isCell;have hJ:=one_jag hx2 hk2.wf;have km:=Kept.new hk2.wf 1 [ux];obtain⟨r,K2,hd2,rfl,rfl⟩:=lawLong hJ (by simp);simp only[↓Sh.dn,sx,Nat.reduceEqDiff,hbs];refine⟨_,_,hd2,?_⟩;have hb3:=hb2.kept hk2.wf km;have hk3:=hk2.trans km;generalize (H2.new 1 [ux]).2=H3 at km hb3 hk3 ⊢;cases hlg:[x].any fun w=>decide (240<w.length) with
 | true=>
  obtain⟨r,H4,hd3,rfl,rfl⟩:=B6k (H:=H3);simp only[↓Sh.dn,sx];refine⟨_,_,hd3,?_⟩;simp only[sx,hres]
 | false=>
 obtain⟨r4,H4,hd4,k4,lv,rfl,vs,hJ4⟩:=relDown (most:=most) hb3.netAt hsm (hx.grow (hk3.grow hw)) hxl hxx hk3.wf;have hb4:=hb3.kept hk3.wf k4;have hk4:=hk3.trans k4;obtain⟨r5,H5,hd5,k5,lw,rfl,ws,hJ5⟩:=C8y (most:=most) hb4.netAt hsm (hx.grow (hk4.grow hw)) hxl hxx hk4.wf;have hb5:=hb4.kept hk4.wf k5;have hk5:=hk4.trans k5;obtain⟨s1,s2⟩:=A64 (N:=N) (x:=x) (most:=most) (S:=A3k N x);generalize A0f N x most (A3k N x)=o1 at hJ4 hJ5 s1 s2 hd4 hd5;obtain⟨r6,H6,hd6,e6,rfl⟩:=B5g (b:=o1.2.1) (hJ4.grow (k5.grow hk4.wf)) hJ5 (by omega) (fun w hw=>by have:=s2 w hw;omega) hk5.wf;rw[e6]at hd6;obtain⟨r7,H7,hd7,k7,lv2,rfl,vs2,hJ7⟩:=relUp (most:=most) hb5.netAt hsm (hx.grow (hk5.grow hw)) hxl hxx hk5.wf;have hb7:=hb5.kept hk5.wf k7;have hk7:=hk5.trans k7;obtain⟨r8,H8,hd8,k8,lw2,rfl,ws2,hJ8⟩:=refUp (most:=most) hb7.netAt hsm (hx.grow (hk7.grow hw)) hxl hxx hk7.wf;have hk8:=hk7.trans k8;obtain⟨s3,s4⟩:=A64 (N:=N) (x:=x) (most:=most) (S:=fun y=>A3k N y x);generalize A0f N x most (fun y=>A3k N y x)=o2 at hJ7 hJ8 s3 s4 hd7 hd8;obtain⟨r9,H9,hd9,e9,rfl⟩:=B5g (b:=o2.2.1) (hJ7.grow (k8.grow hk7.wf)) hJ8 (by omega) (fun w hw=>by have:=s4 w hw;omega) hk8.wf;rw[e9]at hd9;obtain⟨r10,H10,hd10,e10,rfl⟩:=B6k (H:=H8);rw[e10]at hd10;simp only[↓Sh.dn,sx,Nat.reduceEqDiff,hb3.ca];refine⟨_,_,hd4,?_⟩;simp only[sx,hb4.ca];refine⟨_,_,hd5,?_⟩;simp only[sx];refine⟨_,_,hd6,?_⟩;simp only[↓Sh.dn,sx,Nat.reduceEqDiff,eq_self,decide_true,hb5.ca];refine⟨_,_,hd7,?_⟩;simp only[sx,hb7.ca];refine⟨_,_,hd8,?_⟩;simp only[sx];refine⟨_,_,hd9,?_⟩;simp only[↓Sh.dn,sx,Nat.reduceEqDiff,eq_self,decide_true];refine⟨_,_,hd10,?_⟩;simp only[sx,hres]
theorem lawMain{H:AH}{avs:List Value}{K:Type}{ds:List (DataW K)}(hb:Rows.uptoBulkAll ds≤1048576)(hw:Wf H)(hr:RDs Tryz.prog H [26,22,3] avs ds)(hfl:Flat Tryz.prog [26,22,3] avs):
  Sh.Call Tryz.prog (knows 7) 3 avs H (fun r _=>r=.bool true):=by
 obtain⟨v,vs,d,ds,rfl,rfl,⟨f,h1⟩,h2⟩:=hr.cons_inv;obtain⟨v2,vs,d2,ds,rfl,rfl,⟨f2,h3⟩,h4⟩:=h2.cons_inv;obtain⟨v3,vs,d3,ds,rfl,rfl,⟨f3,h5⟩,h6⟩:=h4.cons_inv;obtain⟨rfl,rfl⟩:=h6.nil_inv;simp only[Rows.uptoBulkAll,Nat.add_zero]at hb;obtain⟨N,⟨hn⟩,hsm,hsz⟩:=net_in h1 (by omega);obtain⟨x,hx,hxl,hxx⟩:=strs_of hfl (j:=1) rfl rfl h3 (by omega);obtain⟨n,hc,_,_⟩:=B9k h5;have hv3:v3=.int .i64 n:=by
  cases v3 with
  | agg cs=>
   have:=hfl 2 _ _ rfl rfl;unfold B70 at this;rw[Tryz.underlying3]at this;cases this
  | _=>exact List.head_eq_of_cons_eq hc
 subst hv3;exact C1e hn hsm hx hxl hxx hw
end Go.Proofs.YtjjgodccecehlaaGreat
