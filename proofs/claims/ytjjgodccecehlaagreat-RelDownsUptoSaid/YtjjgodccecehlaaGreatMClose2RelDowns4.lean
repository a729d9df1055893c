/- A part of the proof: RefArcs, RefImageG, RefRev, Marks, RefSpread, RefAlive. -/
import Derived.Test.YtjjgodccecehlaaGreatMClose2RelDowns2
import Derived.Test.YtjjgodccecehlaaGreatMClose2RelDowns1
import Derived.Test.YtjjgodccecehlaaGreatMClose2RelDowns3
set_option linter.unusedVariables false
set_option linter.unusedSimpArgs false
/- The reference's arcsOf, endsOf, over: a net by its states, and places in a word. -/
set_option maxHeartbeats 4000000
set_option maxRecDepth 20000
namespace Go.Proofs.YtjjgodccecehlaaGreat
open Go Go.Proofs Go.Proofs.Sh
def labT(x:ByteArray):Option ByteArray:=if x=A0b then none else some x
def A2w(w:List ByteArray)(i:Nat)(s:ByteArray):Nat×Bool:=if s=A0b then (i,true) else if w[i]?=some s then (i+1,true) else (i,false)
theorem B8h{w:List ByteArray}{i j:Nat}{s:ByteArray}:B4y w i (labT s) j↔(A2w w i s).2=true∧(A2w w i s).1=j:=by
 unfold B4y labT A2w;by_cases h:s=A0b
 ·rw[if_pos h,if_pos h];simp[eq_comm]
 ·rw[if_neg h,if_neg h]
  by_cases h2:w[i]?=some s
  ·rw[if_pos h2];simp[h2,eq_comm]
  ·rw[if_neg h2];simp[h2]
theorem refOver{H:AH}{v:Value}{w:List ByteArray}{i:Nat}{s:ByteArray}(hv:Sl H v 1 (w.map A7a))(hi:i≤1048576):
  Sh.Call Tryz.prog (knows 7) 49 [v,.int .i64 (i:Int),.string s] H (fun r H'=>H'=H∧r=.tuple #[.int .i64 ((A2w w i s).1:Int),.bool (A2w w i s).2]):=by
 refine A3a rfl Tryz.func49 rfl (Nat.le_of_ble_eq_true rfl) ?_;have hres:Tryz.f49.results.toList=[.tmp 6,.tmp 7]:=rfl;have hlen:=fun H'=>hv.len Tryz.underlying22 H';simp only[List.length_map]at hlen;have e0:(⟨#[]⟩:ByteArray)=A0b:=rfl;by_cases h:s=A0b
 ·simp only[↓Sh.dn,sx,Nat.reduceEqDiff,e0,h,decide_true,hres]
  unfold A2w;rw[if_pos rfl]
 ·simp only[↓Sh.dn,sx,reduceCtorEq,Nat.reduceEqDiff,e0,h,decide_false,hlen,A1a]
  by_cases hl:i<w.length
  ·obtain⟨p,i1,c1⟩:=Sl.elem (s:=1) Tryz.underlying22 A4i hv (i:=i) (u:=.string w[i]) (by rw[List.getElem?_map,List.getElem?_eq_getElem hl];rfl)
   have hg:w[i]?=some w[i]:=List.getElem?_eq_getElem hl;generalize w[i]=x at c1 hg;by_cases h2:x=s
   ·have hw1:IntKind.wrap .i64 ((i:Int)+1)=((i+1:Nat):Int):=by rw[wrap64 (by omega) (by omega)];omega
    simp only[↓Sh.dn,sx,reduceCtorEq,Nat.reduceEqDiff,hl,decide_true,i1,c1,h2,hw1,hres];unfold A2w;rw[if_neg h,if_pos (by rw[hg,h2])]
   ·simp only[↓Sh.dn,sx,reduceCtorEq,Nat.reduceEqDiff,hl,decide_true,i1,c1,h2,decide_false,hres]
    unfold A2w;rw[if_neg h,if_neg (by rw[hg];simpa using h2)]
  ·simp only[↓Sh.dn,sx,Nat.reduceEqDiff,hl,decide_false,hres]
   unfold A2w;rw[if_neg h,if_neg (by rw[List.getElem?_eq_none (by omega)];simp)]
def imgL(x:List ByteArray)(a:ArcD)(q:Nat):List (ArcD×Nat):=((List.range q).filter fun j=>(A2w x j a.inn).2).map fun j=>(a,j)
def A0g(x:List ByteArray)(l:List ArcD):List (ArcD×Nat):=l.flatMap fun a=>imgL x a (x.length+1)
def imgK(x:List ByteArray)(p:ArcD×Nat):Int:=p.1.fr*((x.length+1:Nat):Int)+p.2
def imgF(x:List ByteArray)(p:ArcD×Nat):ByteArray×Nat:=(p.1.out,p.1.to.toNat*(x.length+1)+(A2w x p.2 p.1.inn).1)
def A2j(N:NetD)(x:List ByteArray)(l:List (ArcD×Nat)):List (List (ByteArray×Nat)):=rowsOf (imgK x) (imgF x) (N.states.toNat*(x.length+1)) l
def imgC(N:NetD)(x:List ByteArray)(l:List (ArcD×Nat)):List (List (List Value)):=rowsOf (imgK x) (fun p=>A0i (imgF x p)) (N.states.toNat*(x.length+1)) l
def C19(x:List ByteArray)(e:EndD):Int:=e.state*((x.length+1:Nat):Int)+(x.length:Int)
def imgM(N:NetD)(x:List ByteArray)(l:List EndD):List Bool:=marksOf (C19 x) (N.states.toNat*(x.length+1)) l
theorem B88(x:List ByteArray)(a:ArcD)(q:Nat):imgL x a (q+1)=imgL x a q++(if (A2w x q a.inn).2=true then [(a,q)] else []):=by
 unfold imgL;rw[List.range_succ,List.filter_append,List.map_append]
 congr 1
 rw[List.filter_cons];split<;>simp
theorem C8e(x:List ByteArray)(l:List ArcD)(a:ArcD):A0g x (l++[a])=A0g x l++imgL x a (x.length+1):=by
 unfold A0g;rw[List.flatMap_append];simp
theorem B1w(x:List ByteArray){j:Nat}(s:ByteArray)(hj:j<x.length+1)(h:(A2w x j s).2=true):(A2w x j s).1<x.length+1:=by
 have:=B4w (B8h.2 ⟨h,rfl⟩) (by omega);omega
theorem C4g{x:List ByteArray}{w:Nat}(k:Int):∀(l:List ArcD),((A0g x l).filter fun p=>decide (imgK x p=k)).length≤l.length
 | []=>by simp[A0g]
 | a :: l=>by
  have h1:=C4g (x:=x) (w:=w) k l;have e:A0g x (a :: l)=imgL x a (x.length+1)++A0g x l:=rfl;have h2:∀q,((imgL x a q).filter fun p=>decide (imgK x p=k)).length≤if ∃j:Nat,j<q∧a.fr*((x.length+1:Nat):Int)+(j:Int)=k then 1 else 0:=fun q=>by
   induction q with
   | zero=>simp[imgL]
   | succ q ih=>
    rw[B88,List.filter_append,List.length_append];by_cases hk:a.fr*((x.length+1:Nat):Int)+(q:Int)=k
    ·have hno:¬∃j:Nat,j<q∧a.fr*((x.length+1:Nat):Int)+(j:Int)=k:=by rintro⟨j,h3,h4⟩;omega
     rw[if_neg hno]at ih;rw[if_pos (show ∃j:Nat,j<q+1∧a.fr*((x.length+1:Nat):Int)+(j:Int)=k from⟨q,by omega,hk⟩)];have:((if (A2w x q a.inn).2=true then [(a,q)] else []).filter fun p=>decide (imgK x p=k)).length≤1:=by
      refine Nat.le_trans (List.length_filter_le _ _) ?_;split<;>simp
     omega
    ·have h5 : ((if (A2w x q a.inn).2 = true then [(a, q)] else []).filter fun p => decide (imgK x p = k)) = [] := by
       split
       · rw[List.filter_cons, if_neg (by unfold imgK;simp only[decide_eq_true_eq];exact hk)];rfl
       · rfl
     rw[h5, List.length_nil, Nat.add_zero];by_cases hex : ∃j : Nat, j<q ∧ a.fr*((x.length + 1 : Nat) : Int) + (j : Int) = k
     · rw[if_pos hex]at ih
       obtain⟨j, h3, h4⟩ := hex;rw[if_pos (show ∃j : Nat, j<q + 1 ∧ a.fr*((x.length + 1 : Nat) : Int) + (j : Int) = k from⟨j, by omega, h4⟩)];exact ih
     · rw[if_neg hex]at ih
       omega
  have h3:((imgL x a (x.length+1)).filter fun p=>decide (imgK x p=k)).length≤1:=Nat.le_trans (h2 _) (by split<;>omega);rw[e,List.filter_append,List.length_append,List.length_cons];omega
theorem mul_lt{s n w j:Nat}(hs:s<n)(hj:j<w):s*w+j<n*w:=by
 have:(s+1)*w≤n*w:=Nat.mul_le_mul hs (Nat.le_refl _);rw[Nat.add_mul,Nat.one_mul]at this;omega
theorem C43{H:AH}{v ux:Value}{N:NetD}{x:List ByteArray}(h:A8v H v N)(hok:A1q N)(hsm:A3g N)(hx:Sl H ux 1 (x.map A7a))(hxl:x.length≤240)(hn3:N.states≤300)(hw:Wf H):
  Sh.Call Tryz.prog (knows 7) 21 [v,ux] H (fun r H'=>Kept H H'∧∃ev bv vals,RG H' r (N.states.toNat*(x.length+1)) (A2j N x (A0g x N.arcs)) (imgM N x N.ends) ev bv vals):=by
 refine A3a rfl Tryz.func21 rfl (Nat.le_of_ble_eq_true rfl) ?_;have hres:Tryz.f21.results.toList=[.cell 4 60]:=rfl;obtain⟨sg,ar,en,rfl,hsg,har,hen⟩:=h;have hb1:=NetBox.of (N:=N) hw hsg har hen;have hk1:Kept H (H.new 4 [sg,.int .i64 N.states,ar,en]).2:=Kept.new hw 4 _;have h1:=hok.st1;obtain⟨n,hn⟩:∃n:Nat,N.states=(n:Int):=⟨N.states.toNat,by omega⟩
 have hnn:N.states.toNat=n:=by omega
 obtain⟨w,hww⟩:∃w,x.length+1=w:=⟨_,rfl⟩
 have hnw:n*w≤72300:=Nat.le_trans (Nat.mul_le_mul (show n≤300 by omega) (show w≤241 by omega)) (by decide);simp only[↓Sh.dn,sx,Nat.reduceEqDiff,A3u hsg.isCell har.isCell hen.isCell,rgZero];have hnx:H.next<(H.new 4 [sg,.int .i64 N.states,ar,en]).2.next:=Nat.lt_succ_self _;have e0:∀y,(H.new 4 [sg,.int .i64 N.states,ar,en]).2.next≤y→H.next≤y:=fun y hy=>Nat.le_trans (Nat.le_succ _) hy;generalize H.next=gg at hb1 hnx ⊢;generalize (H.new 4 [sg,.int .i64 N.states,ar,en]).2=H1 at hb1 hk1 hnx e0 ⊢;have hb2:=hb1.new hk1.wf 3 [.int .i64 0,.slice none 0 0,.slice none 0 0];have hk2:=hk1.news 3 [.int .i64 0,.slice none 0 0,.slice none 0 0];have o0:=Sh.Obj.new (H:=H1) 3 [.int .i64 0,.slice none 0 0,.slice none 0 0];have x2:H1.next<(H1.new 3 [.int .i64 0,.slice none 0 0,.slice none 0 0]).2.next:=Nat.lt_succ_self _;generalize H1.next=go at o0 x2 e0 ⊢;generalize (H1.new 3 [.int .i64 0,.slice none 0 0,.slice none 0 0]).2=H2 at hb2 hk2 o0 x2 ⊢;obtain⟨r,H3,hd3,hk3,ev,bv,rfl,g1,hg1,g2,hg2,hj,hbf⟩:=newGraph (n:=n*w) (by omega) hk2.wf;have hlx:∀H',A4a Tryz.prog .len [22] [ux] H'=some (.int .i64 (x.length:Int),H'):=fun H'=>by rw[hx.len Tryz.underlying22 H',List.length_map]
 have w1:IntKind.wrap .i64 ((x.length:Int)+1)=(w:Int):=by rw[wrap64 (by omega) (by omega)];omega
 have hcm:∀s:Nat,s≤300→IntKind.wrap .i64 ((s:Int)*(w:Int))=((s*w:Nat):Int):=fun s hs=>by
  have:s*w≤300*241:=Nat.mul_le_mul hs (by omega);rw[←Int.natCast_mul,wrap64 (by omega) (by omega)]
 have hca:∀s j:Nat,s≤300→j≤241→IntKind.wrap .i64 (((s*w:Nat):Int)+(j:Int))=((s*w+j:Nat):Int):=fun s j hs hj=>by
  have:s*w≤300*241:=Nat.mul_le_mul hs (by omega);rw[wrap64 (by omega) (by omega)];omega
 simp only[sx,hlx,w1,hb2.c1,hn,hcm n (by omega)];refine⟨_,_,hd3,?_⟩;have hb3:=hb2.kept hk2.wf hk3;have ic1:=hj.top.isCell;have ic2:=hbf.isCell;simp only[sx,C37 ic1 ic2,rgOver];obtain⟨m,hm⟩:∃m,n*w=m:=⟨_,rfl⟩
 have hmm:N.states.toNat*(x.length+1)=m:=by rw[hnn,hww,hm]
 rw[hm]at hj hbf hnw;have og:=(Sh.Obj.new (H:=H3) 3 [.int .i64 0,ev,bv]).arr;have kn:=Kept.new hk3.wf 3 [.int .i64 0,ev,bv];have xg:H3.next<(H3.new 3 [.int .i64 0,ev,bv]).2.next:=Nat.lt_succ_self _;have hj4:=hj.kept hk3.wf kn;have hbf4:=hbf.kept hk3.wf kn;have hk4:=hk3.trans kn;have hx3:=hk3.next;obtain⟨ot,hot⟩:∃ot,(if m=0 then none else some g1)=ot:=⟨_,rfl⟩
 obtain⟨ob,hob⟩:∃ob,(if m=0 then none else some g2)=ob:=⟨_,rfl⟩
 have lob:∀y,ob=some y→y=g2:=by
  intro y h;rw[←hob]at h;by_cases h0:m=0
  ·rw[if_pos h0]at h;cases h
  ·rw[if_neg h0]at h;exact(Option.some.inj h).symm
 have lot:∀y,JIn ot (List.replicate m none) y→y=g1:=by
  rintro y (h|⟨i,h⟩)
  ·rw[←hot]at h
   by_cases h0:m=0
   ·rw[if_pos h0]at h;cases h
   ·rw[if_neg h0]at h;exact(Option.some.inj h).symm
  ·rw[List.getElem?_replicate]at h
   split at h<;>cases h
 rw[hot]at hj4;rw[hob]at hbf4;have lb:=fun y h=>hbf.lt hk3.wf y (by rw[hob];exact h);have lj:=fun y h=>hj.lt hk3.wf y (by rw[hot];exact h);generalize H3.next=gb at og xg hx3 lb lj ⊢;generalize (H3.new 3 [.int .i64 0,ev,bv]).2=H4 at og xg hj4 hbf4 hk4 ⊢;have hc0:imgC N x []=List.replicate m []:=by unfold imgC;rw[A04,hmm]
 have hx2:=hx.grow (hk2.grow hw);have hsmA:=hsm.ar;refine A5c N.arcs.length 7 (List.range' 7 5++List.range' 21 56) (fun i F H'=>Kept H2 H'∧Arr H' gb 0 3 [.int .i64 0,ev,bv]∧Buf H' 1 bv (List.replicate m [.bool false]) ob∧∃vals obs,Jag H' ev ot 2 vals (imgC N x (A0g x (N.arcs.take i))) obs∧∀y,JIn ot obs y→H2.next≤y∧y≠gb∧ob≠some y) (by simp only[sx]) ⟨hk4,og,hbf4,_,_,by
  rw[List.take_zero];unfold A0g;rw[List.flatMap_nil,hc0];exact hj4,fun y hy=>by
   have e1:=lot y hy;have e2:=lj y hy;exact⟨by omega,by omega,fun h=>by have:=lob y h;omega⟩⟩ ?_ ?_
 ·rintro i F H' hlt hF f7 ⟨hk,hog,hbb,vals,obs,hJ,hin⟩ k
  have f1:=hF 1 rfl;have f2:=hF 2 rfl;have f5:=hF 5 rfl;have f6:=hF 6 rfl;simp only[sx,Nat.reduceEqDiff]at f1 f2 f5 f6;have hb':=hb2.kept hk2.wf hk;obtain⟨qa,oa,ka,hia,hc,_⟩:=hb'.har.at Tryz.underlying23 A7q (i:=i) (x:=N.arcs[i].cells) (by simp[hlt]) .i64;have htake:N.arcs.take (i+1)=N.arcs.take i++[N.arcs[i]]:=by rw[List.take_add_one,List.getElem?_eq_getElem hlt];rfl
  obtain⟨k0,k1,k2,k3,k4,k5⟩:=hok.arc _ (List.getElem_mem hlt);have kn5:=Kept.new hk.wf 5 (N.arcs[i].cells);generalize N.arcs[i]=a at kn5 hc htake k0 k1 k2 k3 k4 k5;obtain⟨s,hs⟩:∃s:Nat,a.fr=(s:Int):=⟨a.fr.toNat,by omega⟩
  obtain⟨t,ht⟩:∃t:Nat,a.to=(t:Int):=⟨a.to.toNat,by omega⟩
  have oa5:=(Sh.Obj.new (H:=H') 5 a.cells).arr;have x5:H'.next<(H'.new 5 a.cells).2.next:=Nat.lt_succ_self _;have hk5:=hk.trans kn5;have hJ5:=hJ.kept hk.wf kn5;have hog5:=hog.keep (kn5.old gb (hog.lt hk.wf));have hbb5:=hbb.kept hk.wf kn5;have hin5:∀y,JIn ot obs y→H2.next≤y∧y≠gb∧y≠H'.next∧ob≠some y:=fun y hy=>⟨(hin y hy).1,(hin y hy).2.1,fun h=>by have:=hJ.lt hk.wf y hy;omega,(hin y hy).2.2⟩
  simp only[↓Sh.dn,sx,Nat.reduceEqDiff,hb'.c2,A2o hb',f2,f7,A1a,hlt,decide_true,hia,hc,A18,A51,A67];generalize H'.next=g8 at oa5 x5 hin5 ⊢;generalize (H'.new 5 a.cells).2=H5 at oa5 x5 hk5 hJ5 hog5 hbb5 ⊢;clear hJ hog hbb hin kn5;refine A5c w 9 (List.range' 9 3++List.range' 33 44) (fun q F H'=>Kept H2 H'∧Arr H' gb 0 3 [.int .i64 0,ev,bv]∧Arr H' g8 0 5 a.cells∧Buf H' 1 bv (List.replicate m [.bool false]) ob∧∃vals obs,Jag H' ev ot 2 vals (imgC N x (A0g x (N.arcs.take i)++imgL x a q)) obs∧∀y,JIn ot obs y→H2.next≤y∧y≠gb∧y≠g8∧ob≠some y) (by simp only[sx]) ⟨hk5,hog5,oa5,hbb5,vals,obs,by unfold imgL;simpa using hJ5,hin5⟩ ?_ ?_
  ·rintro q F2 H6 hq hF2 f9 ⟨hk6,hog6,oa6,hbb6,vals,obs,hJ6,hin6⟩ k2
   have g1':=hF2 1 rfl;have g2:=hF2 2 rfl;have g5:=hF2 5 rfl;have g6:=hF2 6 rfl;have g8':=hF2 8 rfl;simp only[sx,Nat.reduceEqDiff,f1,f2,f5,f6]at g1' g2 g5 g6 g8';have c0:H6.cell ⟨g8,0,some 0⟩=some (.int .i64 (s:Int)):=by have:=oa6.cell 0;rw[←hs];exact this
   have c1:H6.cell ⟨g8,1,some 0⟩=some (.string a.inn):=oa6.cell 1;have c2:H6.cell ⟨g8,2,some 0⟩=some (.string a.out):=oa6.cell 2;have c3:H6.cell ⟨g8,3,some 0⟩=some (.int .i64 (t:Int)):=by have:=oa6.cell 3;rw[←ht];exact this
   obtain⟨r7,H7,hd7,rfl,rfl⟩:=refOver (i:=q) (s:=a.inn) (hx2.grow (hk6.grow hk2.wf)) (by omega);have hsnoc:=B88 x a q;simp only[↓Sh.dn,sx,Nat.reduceEqDiff,g1',g5,g8',f9,A1a,hq,decide_true,c1];refine⟨_,_,hd7,?_⟩;obtain⟨⟨kk,b⟩,hkb⟩:∃e,A2w x q a.inn=e:=⟨_,rfl⟩
   have wq:=A2a hq (by omega);rw[hkb]at hsnoc;simp only[sx,hkb];cases b with
   | false=>
    rw[if_neg (by simp),List.append_nil]at hsnoc;simp only[↓Sh.dn,sx,Nat.reduceEqDiff,f9,wq];exact k2 _ _ (by repeat (first|refine Same.put ?_ rfl|exact Same.rfl' _)) (by simp only[sx]) ⟨hk6,hog6,oa6,hbb6,vals,obs,by rw[hsnoc];exact hJ6,hin6⟩
   | true=>
    rw[if_pos rfl]at hsnoc;have hkk:kk<w:=by have:=B1w x (j:=q) a.inn (by omega) (by rw[hkb]);rw[hkb]at this;omega
    have hsn:s*w+q<m:=by rw[←hm];exact mul_lt (by omega) hq
    have hrow:=A8h (key:=imgK x) (f:=fun p=>A0i (imgF x p)) (l:=A0g x (N.arcs.take i)++imgL x a q) (n:=N.states.toNat*(x.length+1)) (s:=s*w+q) (by rw[hmm];exact hsn);have hrl:(((A0g x (N.arcs.take i)++imgL x a q).filter fun p=>decide (imgK x p=((s*w+q:Nat):Int))).map fun p=>A0i (imgF x p)).length≤17179869183:=by
     rw[List.length_map,List.filter_append,List.length_append];have h1:=C4g (x:=x) (w:=w) ((s*w+q:Nat):Int) (N.arcs.take i);have h2:((imgL x a q).filter fun p=>decide (imgK x p=((s*w+q:Nat):Int))).length≤q:=Nat.le_trans (List.length_filter_le _ _) (by unfold imgL;rw[List.length_map];exact Nat.le_trans (List.length_filter_le _ _) (by simp));have h3:(N.arcs.take i).length≤1048576:=by rw[List.length_take];omega
     omega
    have hF0:imgF x (a,q)=(a.out,t*w+kk):=by
     unfold imgF;simp only[hkb,hww,ht,Int.toNat_natCast]
    have hkey:imgK x (a,q)=((s*w+q:Nat):Int):=by
     unfold imgK;simp only[hs,hww,Int.natCast_add,Int.natCast_mul]
    obtain⟨ba,cap,w',H8,H9,o',p,e1,e2,e3,e4,e5,e6,e7,e8,e9⟩:=hJ6.pushAt Tryz.underlying57 A3r hk6.wf hrow (x:=A0i (imgF x (a,q))) rfl;have bl:A3s Tryz.prog 88 [(0,.string a.out),(1,.int .i64 ((t*w+kk:Nat):Int))]=some (.agg (A0i (imgF x (a,q))).toArray):=by
     rw[hF0];exact bld_88 (v0:=.string a.out) (v1:=.int .i64 ((t*w+kk:Nat):Int)) rfl rfl
    have hbs:=B87 (H:=H7) (x:=.agg (A0i (imgF x (a,q))).toArray) rfl rfl;have ha:=C27 (H:=H7) (base:=ba) (len:=_) (cap:=cap) (x:=A0i (imgF x (a,q))) rfl hrl;rw[e1]at ha;have hgj:¬JIn ot obs gb:=fun h=>(hin6 gb h).2.1 rfl;have hg8j:¬JIn ot obs g8:=fun h=>(hin6 g8 h).2.2.1 rfl;have cg:H7.cell ⟨gb,1,some 0⟩=some ev:=hog6.cell 1;have cg8:H8.cell ⟨gb,1,some 0⟩=some ev:=(hog6.keep (e7.old gb (hog6.lt hk6.wf) hgj)).cell 1;have c08:H8.cell ⟨g8,0,some 0⟩=some (.int .i64 (s:Int)):=by have:=(oa6.keep (e7.old g8 (oa6.lt hk6.wf) hg8j)).cell 0;rw[←hs];exact this
    have st:A0e Tryz.prog 86 H8 w' (.pointer (some p))=some H9:=by rw[A0c A3r e8,e4]
    have va:∀xs:Array Value,A6a (.agg xs)=xs.toList:=fun _=>rfl;have hav:=hJ6.top.veq;simp only[va]at hbs;have m1:=hcm s (by omega);have m2:=hca s q (by omega) (by omega);have m3:=hcm t (by omega);have m4:=hca t kk (by omega) (by omega)
    try simp only[↓Sh.dn,sx]
    refine A1u (fl:=[(0,[]),(1,[]),(2,[]),(3,[]),(4,[]),(5,[]),(6,[]),(7,[]),(8,[]),(9,[]),(10,[]),(11,[]),(12,[]),(13,[]),(14,[]),(15,[]),(16,[]),(17,[]),(18,[]),(19,[]),(20,[]),(21,[]),(22,[]),(23,[]),(24,[]),(25,[]),(26,[]),(27,[]),(28,[3,1]),(29,[]),(30,[])]) (by kernel_rfl) (by kernel_rfl) (by kernel_rfl) ?_;simp only[↓Sh.dn,sx,Nat.reduceEqDiff,wpr,again,A2e,A9q,forall_eq',g5,g6,g8',f9,cg,cg8,c0,c08,c2,c3,m1,m2,m3,m4,e2,e3,hav,bl,hbs,ha,st,wq];refine k2 _ _ (by repeat (first|refine Same.put ?_ rfl|exact Same.rfl' _)) (by simp only[sx]) ⟨hk6.then (Nat.le_refl _) (e6.weak fun y hy=>(hin6 y hy).1),hog6.keep (e6.old gb (hog6.lt hk6.wf) hgj),oa6.keep (e6.old g8 (oa6.lt hk6.wf) hg8j),hbb6.chg hk6.wf e6 (fun y hy h=>(hin6 y h).2.2.2 hy),vals.set (s*w+q) w',obs.set (s*w+q) o',?_,?_⟩
    ·rw[hsnoc,←List.append_assoc]
     unfold imgC;rw[A9x (by rw[hmm];exact hsn) hkey];exact e5
    ·intro y hy
     rcases e9 y hy with h|h
     ·exact hin6 y h
     ·have q1:=hk6.next
      have q2:=hog6.lt hk6.wf;have q3:=oa6.lt hk6.wf;exact⟨by omega,by omega,by omega,fun h2=>by have:=hbb6.lt hk6.wf y h2;omega⟩
  ·rintro F2 H6 hF2 f9 ⟨hk6,hog6,oa6,hbb6,vals,obs,hJ6,hin6⟩
   have g5:=hF2 5 rfl;have g7:=hF2 7 rfl;simp only[sx,Nat.reduceEqDiff,f5,f7]at g5 g7;simp only[↓Sh.dn,sx,Nat.reduceBEq,Nat.reduceEqDiff,g5,g7,f9,A1a,Nat.lt_irrefl,decide_false,A2a hlt (by omega)];refine k _ _ ?_ (by simp only[sx]) ⟨hk6,hog6,hbb6,vals,obs,by rw[htake,C8e,hww];exact hJ6,fun y hy=>⟨(hin6 y hy).1,(hin6 y hy).2.1,(hin6 y hy).2.2.2⟩⟩
   repeat refine Same.put ?_ rfl
   exact Same.trans (by repeat (first|refine Same.put ?_ rfl|exact Same.rfl' _)) (hF2.sub rfl)
 ·rintro F H' hF f7 ⟨hk,hog,hbb,vals,obs,hJ,hin⟩
  have f1:=hF 1 rfl;have f2:=hF 2 rfl;have f4:=hF 4 rfl;have f5:=hF 5 rfl;have f6:=hF 6 rfl;simp only[sx,Nat.reduceEqDiff]at f1 f2 f4 f5 f6;rw[List.take_length]at hJ;have hb':=hb2.kept hk2.wf hk;simp only[↓Sh.dn,sx,Nat.reduceEqDiff,hb'.c2,A2o hb',f2,f7,A1a,Nat.lt_irrefl,decide_false];have hmk:∀b:Bool,∀m:Nat,(List.replicate m b).map A6l=List.replicate m [.bool b]:=fun b m=>by simp[A6l]
  refine A5c N.ends.length 12 (List.range' 77 21++[12]) (fun i F H'=>Kept H2 H'∧Arr H' gb 0 3 [.int .i64 0,ev,bv]∧Buf H' 1 bv ((imgM N x (N.ends.take i)).map A6l) ob∧Jag H' ev ot 2 vals (imgC N x (A0g x N.arcs)) obs) (by simp only[sx]) ⟨hk,hog,by rw[List.take_zero];unfold imgM;rw[B43,hmm,hmk];exact hbb,hJ⟩ ?_ ?_
  ·rintro i F' H' hlt hF' f12 ⟨hk,hog,hbb,hJ⟩ k
   have g1:=hF' 1 rfl;have g2:=hF' 2 rfl;have g5:=hF' 5 rfl;have g6:=hF' 6 rfl;simp only[sx,Nat.reduceEqDiff,f1,f2,f5,f6]at g1 g2 g5 g6;have hb':=hb2.kept hk2.wf hk;obtain⟨q,o,kk,hia,hc,hcc⟩:=hb'.hen.at Tryz.underlying24 A7v (i:=i) (x:=N.ends[i].cells) (by simp[hlt]) .i64;have hcs:=hcc 0 _ rfl;simp only[Nat.add_zero]at hcs;clear hcc;have htake:N.ends.take (i+1)=N.ends.take i++[N.ends[i]]:=by rw[List.take_add_one,List.getElem?_eq_getElem hlt];rfl
   obtain⟨k0,k1⟩:=hok.fin _ (List.getElem_mem hlt);generalize N.ends[i]=e at hc hcs htake k0 k1;obtain⟨s,hs⟩:∃s:Nat,e.state=(s:Int):=⟨e.state.toNat,by omega⟩
   rw[hs]at hcs;have hsn:s*w+x.length<m:=by rw[←hm];exact mul_lt (by omega) (by omega)
   have hn2:H'.cell ⟨gb,2,some 0⟩=some bv:=hog.cell 2;obtain⟨p,H6,ia,e1,e2,e3,e4⟩:=Buf.set (P:=Tryz.prog) hbb hk.wf (i:=s*w+x.length) (x:=A6l true) (by unfold imgM;rw[List.length_map,A2l,hmm];exact hsn) rfl;have ia2:=ia Tryz.underlying58 A1k (j:=.i64);have st:A0e Tryz.prog 4 H' (.bool true) (.pointer (some p))=some H6:=by rw[A0c A1k rfl];exact e1
   have m1:=hcm s (by omega);have m2:=hca s x.length (by omega) (by omega);simp only[↓Sh.dn,sx,Nat.reduceEqDiff,hb'.c3,A4t hb',g2,f12,A1a,hlt,decide_true]
   first|refine(A9a (by kernel_rfl)).2 ?_|skip
   simp only[↓Sh.dn,sx,Nat.reduceEqDiff,hb'.c3,g1,g2,g5,g6,f12,hn2,hia,hcs,hlx,m1,m2,ia2,st,wrap_succ hlt hsm.en];refine k _ _ (by repeat (first|refine Same.put ?_ rfl|exact Same.rfl' _)) (by simp only[sx]) ⟨hk.then (Nat.le_refl _) (e3.weak fun y hy=>by have:=lob y hy;omega),hog.keep (e3.old gb (hog.lt hk.wf) (fun hy=>by have:=lb gb hy;omega)),?_,hJ.chg hk.wf e3 fun y hy h=>(hin y hy).2.2 h⟩;have hkey:C19 x e=((s*w+x.length:Nat):Int):=by
    unfold C19;simp only[hs,hww,Int.natCast_add,Int.natCast_mul]
   unfold imgM at e2 ⊢;rw[htake,B95 (by rw[hmm];exact hsn) hkey,List.map_set];exact e2
  ·rintro F' H' hF' f12 ⟨hk,hog,hbb,hJ⟩
   have g2:=hF' 2 rfl;have g4:=hF' 4 rfl;have g6:=hF' 6 rfl;simp only[sx,Nat.reduceEqDiff,f2,f4,f6]at g2 g4 g6;rw[List.take_length]at hbb;have hb':=hb2.kept hk2.wf hk;have o0':Sh.Obj H' go 3 [.int .i64 0,.slice none 0 0,.slice none 0 0] true:=by
    unfold Sh.Obj at o0 ⊢;rw[hk.old go x2];exact o0
   obtain⟨H6,st,o3,c3⟩:=rgOut (ev:=ev) (bv:=bv) hk.wf _ _ _ o0' ic1 ic2;have hca2:=hog.cells (i:=0) (n:=3) (by simp);have hcr:=o3.cells (i:=0) (n:=3) (by simp);simp only[↓Sh.dn,sx,Nat.reduceEqDiff,hb'.c3,A4t hb',g2,g4,g6,f12,A1a,Nat.lt_irrefl,decide_false,hca2,List.drop_zero,List.take_succ_cons,List.take_zero,st,hres,hcr];have hJ6:=(hJ.chg hk.wf c3 fun y hy e=>by have:=(hin y hy).1;omega).read;have hb6:=(hbb.chg hk.wf c3 fun y hy e=>by have:=lob y hy;omega).toSl;have er:A9h (A2j N x (A0g x N.arcs))=imgC N x (A0g x N.arcs):=by unfold A9h A2j imgC rowsOf;simp[Function.comp_def]
   have hm1:1≤m:=by rw[←hm];exact Nat.mul_pos (by omega) (by omega)
   rw[←hn];refine⟨(hk2.trans hk).then (e0 go (Nat.le_refl _)) (c3.weak fun y hy=>by omega),ev,bv,vals,rfl,by rw[er];exact hJ6,hb6,by unfold A2j;rw[A7e],by unfold imgM;rw[A2l],by rw[hnn,hww,hm];exact hm1,by rw[hnn,hww,hm];omega,fun s r hr=>⟨?_,fun e he=>?_⟩⟩
   ·have hs:=(List.getElem?_eq_some_iff.1 hr).1
    unfold A2j at hr hs;rw[A7e]at hs;rw[A8h hs]at hr;rw[←Option.some.inj hr,List.length_map];exact Nat.le_trans (C4g (w:=w) _ _) hok.ar
   ·unfold A2j at hr
    obtain⟨⟨a,j⟩,ha,_,rfl⟩:=(A1p hr e).1 he;unfold A0g at ha;obtain⟨a',ha1,ha2⟩:=List.mem_flatMap.1 ha;unfold imgL at ha2;obtain⟨j',ha3,ha4⟩:=List.mem_map.1 ha2;obtain⟨ha5,ha6⟩:=List.mem_filter.1 ha3;obtain⟨z1,z2⟩:=Prod.mk.inj ha4;rw[z1]at ha1 ha6;rw[z2]at ha5 ha6;obtain⟨_,_,h9,h10,_⟩:=hok.arc a ha1;have h11:a.to.toNat<N.states.toNat:=by omega
    have h8:=B1w x (j:=j) a.inn (List.mem_range.1 ha5) ha6;show a.to.toNat*(x.length+1)+(A2w x j a.inn).1<N.states.toNat*(x.length+1);exact mul_lt h11 h8
theorem A73{H:AH}{v ev bv:Value}{vals:List Value}{n:Nat}{E:List (List (ByteArray×Nat))}{ends:List Bool}(h:RG H v n E ends ev bv vals)(hw:Wf H):
  Sh.Call Tryz.prog (knows 7) 50 [v] H (fun r H'=>Kept H H'∧∃R ot vals obs,Jag H' r ot 2 vals (A9h R) obs∧(∀y,JIn ot obs y→H.next≤y)∧R.length=n∧(∀r∈R,r.length≤6000000000∧∀e∈r,e.2<n)∧∀x t s,A3e R x t s↔A3e E x s t):=by
 refine A3a rfl Tryz.func50 rfl (Nat.le_of_ble_eq_true rfl) ?_;have hres:Tryz.f50.results.toList=[.tmp 2]:=rfl;have hrb:=RBox.of h hw;have hk1:Kept H (H.new 3 [.int .i64 0,ev,bv]).2:=Kept.new hw 3 _;have hE:=h.ed.sl.isCell;have hB:=h.en.isCell;rw[h.eq];simp only[↓Sh.dn,sx,Nat.reduceEqDiff,B28 hE hB];have e0:∀y,(H.new 3 [.int .i64 0,ev,bv]).2.next≤y→H.next≤y:=fun y hy=>Nat.le_trans (Nat.le_succ _) hy;obtain⟨gb,hgb⟩:∃gb,H.next=gb:=⟨_,rfl⟩
 rw[hgb]at hrb;generalize (H.new 3 [.int .i64 0,ev,bv]).2=H1 at hrb hk1 e0 ⊢;have hn1:=h.n1;have hn2:=h.n2;have hlenE:∀H',A4a Tryz.prog .len [57] [ev] H'=some (.int .i64 (n:Int),H'):=fun H'=>by
  rw[h.ed.sl.len Tryz.underlying57,List.length_map,h.ed.len];unfold A9h;rw[List.length_map,h.le]
 have hmk:=mk_57 (H:=H1) (l:=n) (c:=n) (Nat.le_refl _) (by omega);have k2:=Kept.new hk1.wf 1 (List.replicate n (.slice none 0 0));have jg:=Jag.make hk1.wf 2 (n:=n) (by omega);simp only[sx,hgb,hrb.c1,hlenE,hmk];obtain⟨ot,hot⟩:∃ot,(if n=0 then none else some H1.next)=ot:=⟨_,rfl⟩
 rw[hot]at jg;have lot:∀y,JIn ot (List.replicate n none) y→H1.next≤y:=by
  rintro y (hy|⟨i,hy⟩)
  ·rw[←hot,if_neg (by omega)]at hy
   rw[←Option.some.inj hy];exact Nat.le_refl _
  ·rw[List.getElem?_replicate]at hy
   split at hy<;>cases hy
 generalize (Value.slice (some ⟨H1.next,0,some 0⟩) n n)=rv at jg ⊢;generalize (H1.new 1 (List.replicate n (.slice none 0 0))).2=H2 at k2 jg ⊢;have hrc0:A9h (List.replicate n ([]:List (ByteArray×Nat)))=List.replicate n []:=by simp[A9h]
 rw[←hrc0]at jg;refine A5c n 4 (List.range' 4 47) (fun i F H'=>Kept H1 H'∧∃R vals obs,Jag H' rv ot 2 vals (A9h R) obs∧(∀y,JIn ot obs y→H1.next≤y)∧R.length=n∧(∀r∈R,r.length≤i*60000∧∀e∈r,e.2<n)∧∀x t s,A3e R x t s↔s<i∧A3e E x s t) (by simp only[sx]) ⟨k2,_,_,_,jg,lot,by simp,fun r hr=>by rw[List.eq_of_mem_replicate hr];simp,fun x t s=>by
  constructor
  ·rintro⟨r,h1,h2⟩
   rw[List.getElem?_replicate]at h1;split at h1
   ·rw[←Option.some.inj h1]at h2;cases h2
   ·cases h1
  ·rintro⟨h1,_⟩;exact absurd h1 (Nat.not_lt_zero _)⟩ ?_ ?_
 ·rintro i F H' hi hF f4 ⟨hk,R,vs,obs,hJ,hin,hRl,hRr,hiff⟩ k
  have f1:=hF 1 rfl;have f3:=hF 3 rfl;simp only[sx,Nat.reduceEqDiff]at f1 f3;obtain⟨r,hr⟩:∃r,E[i]?=some r:=⟨E[i]'(by rw[h.le];exact hi),List.getElem?_eq_getElem _⟩
  have hr':(A9h E)[i]?=some (r.map A0i):=by unfold A9h;rw[List.getElem?_map,hr];rfl
  obtain⟨hrl,hrt⟩:=h.to i r hr;obtain⟨ga,oa,ka,wr,hia2,hca,hsr⟩:=(h.ed.grow (hk1.grow hw)).at Tryz.underlying57 A3r hr';have hro:∀{H'},Kept H1 H'→H'.cell ⟨ga,oa,some ka⟩=some wr∧Sl H' wr 2 (r.map A0i)∧A4a Tryz.prog .len [86] [wr] H'=some (.int .i64 (r.length:Int),H'):=fun hk=>by
   have h2:=hsr.grow (hk.grow hk1.wf);refine⟨A8b (hk.grow hk1.wf) hca,h2,?_⟩;rw[h2.len Tryz.underlying86,List.length_map]
  have hb1:=hrb.kept hk1.wf hk;simp only[↓Sh.dn,sx,Nat.reduceEqDiff,f1,f4,hb1.c1,A1a,hi,decide_true,hlenE];refine A5c r.length 5 (List.range' 18 33++[5,6]) (fun q F'' H''=>Kept H1 H''∧∃R vals obs,Jag H'' rv ot 2 vals (A9h R) obs∧(∀y,JIn ot obs y→H1.next≤y)∧R.length=n∧(∀r∈R,r.length≤i*60000+q∧∀e∈r,e.2<n)∧∀x t s,A3e R x t s↔s<i∧A3e E x s t∨s=i∧(x,t)∈r.take q) (by simp only[sx]) ⟨hk,R,vs,obs,hJ,hin,hRl,fun r hr=>⟨Nat.le_trans (hRr r hr).1 (Nat.le_add_right _ _),(hRr r hr).2⟩,fun x t s=>by rw[hiff];simp⟩ ?_ ?_
  ·rintro q F'' H'' hq hF'' f5 ⟨hk'',R,vs,obs,hJ,hin,hRl,hRr,hiff⟩ k2
   have g1:=hF'' 1 rfl;have g3:=hF'' 3 rfl;have g4:=hF'' 4 rfl;simp only[sx,Nat.reduceEqDiff,f1,f3,f4]at g1 g3 g4;obtain⟨hc1,hs1,hl1⟩:=hro hk'';have hb1:=hrb.kept hk1.wf hk'';obtain⟨g',o',k',hia3,hcs2,_⟩:=hs1.at Tryz.underlying86 A5t (i:=q) (x:=A0i r[q]) (by simp[hq]) .i64;have hrq:r[q]∈r:=List.getElem_mem hq;have htk:r.take (q+1)=r.take q++[r[q]]:=by rw[List.take_add_one,List.getElem?_eq_getElem hq];rfl
   generalize r[q]=e at hcs2 hrq htk;have kn:=Kept.new hk''.wf 2 (A0i e);have hk3:=hk''.trans kn;have hJ3:=hJ.kept hk''.wf kn;have hnj:¬JIn ot obs H''.next:=fun h=>by have:=hJ.lt hk''.wf _ h;omega
   obtain⟨ro,hro2⟩:∃ro,R[e.2]?=some ro:=⟨R[e.2]'(by rw[hRl];exact hrt e hrq),List.getElem?_eq_getElem _⟩
   have hrow:(A9h R)[e.2]?=some (ro.map A0i):=by unfold A9h;rw[List.getElem?_map,hro2];rfl
   obtain⟨hrol,hrot⟩:=hRr ro (List.mem_of_getElem? hro2);obtain⟨ba,cap,w',H5,H6,oo,p,e1,e2,e3,e4,e5,e6,e7,e8,e9⟩:=hJ3.pushAt Tryz.underlying57 A3r hk3.wf hrow (x:=A0i (e.1,i)) rfl;rw[List.length_map]at e1 e3;have bl:A3s Tryz.prog 88 [(0,.string e.1),(1,.int .i64 (i:Int))]=some (.agg (A0i (e.1,i)).toArray):=bld_88 (v0:=.string e.1) (v1:=.int .i64 (i:Int)) rfl rfl;have hbs:=B87 (H:=(H''.new 2 (A0i e)).2) (x:=.agg (A0i (e.1,i)).toArray) rfl rfl;have ha:=C27 (H:=(H''.new 2 (A0i e)).2) (base:=ba) (len:=ro.length) (cap:=cap) (x:=A0i (e.1,i)) rfl (by omega);rw[e1]at ha;have c5:=((Sh.Obj.new (H:=H'') 2 (A0i e)).arr.keep (e7.old H''.next (Nat.lt_succ_self _) hnj)).cell 1;have c5':(A0i e)[1]?=some (.int .i64 (e.2:Int)):=rfl;rw[c5']at c5;have st:A0e Tryz.prog 86 H5 w' (.pointer (some p))=some H6:=by rw[A0c A3r e8,e4]
   have va:∀xs:Array Value,A6a (.agg xs)=xs.toList:=fun _=>rfl;have hav:=hJ3.top.veq;simp only[va]at hbs;simp only[↓Sh.dn,sx,Nat.reduceEqDiff,f5,g1,g4,hb1.c1,hia2,hc1,hl1,hia3,hcs2,A1a,hq,decide_true,C4q,B8x,C2i];refine A1u (fl:=[(0,[]),(1,[]),(2,[]),(3,[]),(4,[]),(5,[]),(6,[]),(7,[]),(8,[]),(9,[]),(10,[]),(11,[]),(12,[]),(13,[2]),(14,[]),(15,[])]) (by kernel_rfl) (by kernel_rfl) (by kernel_rfl) ?_;simp only[↓Sh.dn,sx,Nat.reduceEqDiff,wpr,again,A2e,A9q,forall_eq',f5,g3,g4,re0,re1,e2,e3,bl,hbs,ha,c5,st,A2a hq (Nat.le_trans hrl (by decide))];have hrs:A9h (R.set e.2 (ro++[(e.1,i)]))=(A9h R).set e.2 (ro.map A0i++[A0i (e.1,i)]):=by unfold A9h;rw[List.map_set];simp
   refine k2 _ _ (by repeat (first|refine Same.put ?_ rfl|exact Same.rfl' _)) (by simp only[sx]) ⟨hk3.then (Nat.le_refl _) (e6.weak fun y hy=>hin y hy),R.set e.2 (ro++[(e.1,i)]),_,_,by rw[hrs];exact e5,fun y hy=>?_,by rw[List.length_set];exact hRl,fun r' hr'=>?_,fun x t s=>?_⟩
   ·rcases e9 y hy with h1|h1
    ·exact hin y h1
    ·exact Nat.le_trans hk3.next h1
   ·rcases List.mem_or_eq_of_mem_set hr' with h1|h1
    ·have:=hRr r' h1;exact⟨by omega,this.2⟩
    ·rw[h1]
     refine⟨by rw[List.length_append];simp;omega,fun e' he'=>?_⟩;rcases List.mem_append.1 he' with h2|h2
     ·exact hrot e' h2
     ·rw[List.mem_singleton.1 h2];exact hi
   ·rw[C1t hro2,hiff,htk,List.mem_append,List.mem_singleton]
    constructor
    ·rintro((h1|⟨h1,h2⟩)|⟨h1,h2,h3⟩)
     ·exact .inl h1
     ·exact .inr ⟨h1,.inl h2⟩
     ·exact .inr ⟨h3,.inr (by rw[h1,h2])⟩
    ·rintro(h1|⟨h1,h2|h2⟩)
     ·exact .inl (.inl h1)
     ·exact .inl (.inr ⟨h1,h2⟩)
     ·exact .inr ⟨by rw[←h2],by rw[←h2],h1⟩
  ·rintro F'' H'' hF'' f5 ⟨hk'',R,vs,obs,hJ,hin,hRl,hRr,hiff⟩
   have g1:=hF'' 1 rfl;have g3:=hF'' 3 rfl;have g4:=hF'' 4 rfl;simp only[sx,Nat.reduceEqDiff,f1,f3,f4]at g1 g3 g4;obtain⟨hc1,hs1,hl1⟩:=hro hk'';have hb1:=hrb.kept hk1.wf hk'';rw[List.take_length]at hiff;simp only[↓Sh.dn,sx,Nat.reduceBEq,Nat.reduceEqDiff,f5,g1,g4,hb1.c1,hia2,hc1,hl1,A1a,Nat.lt_irrefl,decide_false,A2a hi (Nat.le_trans hn2 (by decide))];refine k _ _ ?_ (by simp only[sx]) ⟨hk'',R,vs,obs,hJ,hin,hRl,fun r' hr'=>?_,fun x t s=>?_⟩
   ·repeat refine Same.put ?_ rfl
    exact Same.trans (by repeat (first|refine Same.put ?_ rfl|exact Same.rfl' _)) (hF''.sub rfl)
   ·have:=hRr r' hr';exact⟨by omega,this.2⟩
   ·rw[hiff]
    constructor
    ·rintro(⟨h1,h2⟩|⟨h1,h2⟩)
     ·exact⟨by omega,h2⟩
     ·exact⟨by omega,r,by rw[h1];exact hr,h2⟩
    ·rintro⟨h1,h2⟩
     by_cases hs:s=i
     ·subst hs
      obtain⟨r',h3,h4⟩:=h2;rw[hr]at h3;exact .inr ⟨rfl,by rw[Option.some.inj h3];exact h4⟩
     ·exact .inl ⟨by omega,h2⟩
 ·rintro F H' hF f4 ⟨hk,R,vs,obs,hJ,hin,hRl,hRr,hiff⟩
  have f1:=hF 1 rfl;have f3:=hF 3 rfl;simp only[sx,Nat.reduceEqDiff]at f1 f3;have hb1:=hrb.kept hk1.wf hk;simp only[↓Sh.dn,sx,Nat.reduceEqDiff,f1,f3,f4,hb1.c1,A1a,Nat.lt_irrefl,decide_false,hlenE,hres];refine⟨hk1.trans hk,R,ot,vs,obs,hJ,fun y hy=>by rw[←hgb];exact e0 y (hin y hy),hRl,fun r hr=>⟨by have:=(hRr r hr).1;omega,(hRr r hr).2⟩,fun x t s=>?_⟩;rw[hiff];constructor
  ·exact fun h=>h.2
  ·rintro⟨r,h1,h2⟩
   exact⟨by rw[←h.le];exact(List.getElem?_eq_some_iff.1 h1).1,r,h1,h2⟩
theorem B8l{H1 H':AH}{z:Value}{os ob:Option Nat}{l:List Nat}(t:Nat)(hk:Kept H1 H')(ho:∀y,os=some y→y<H'.next)(hl:LB H' H1.next os z l ob)(hn:l.length≤17179869183):
  ∃ a cap w' H4 ob', z = .slice a l.length cap ∧ A5a Tryz.prog 71 1 [(0, .int .i64 (t : Int))] H' = some (.slice (some ⟨H'.next, 0, some 0⟩) 1 1, (H'.new 1 [.int .i64 (t : Int)]).2) ∧
      A4a Tryz.prog .append [71, 71] [.slice a l.length cap, .slice (some ⟨H'.next, 0, some 0⟩) 1 1] (H'.new 1 [.int .i64 (t : Int)]).2 = some (w', H4) ∧
      Kept H1 H4 ∧ LB H4 H1.next os w' (l ++ [t]) ob' ∧ Chg (fun y => ob = some y) H' H4 := by
 obtain⟨a,cap,w',H4,ob',rfl,k1,k2,k3,k4⟩:=hl.push hk.next ho hk.wf t;have ha:=B7j (H:=H') (base:=a) (len:=l.length) (cap:=cap) (x:=natC t) rfl hn;rw[k1]at ha;exact⟨a,cap,w',H4,ob',rfl,A4p (H:=H') (x:=.int .i64 (t:Int)) rfl rfl,ha,hk.then (Nat.le_refl _) (k3.weak fun y hy=>(hl.fr y hy).1),k2,k3⟩
theorem C9i{base:Nat}{H':AH}{z:Value}{os ob:Option Nat}{l:List Nat}(t:Nat)(hb:base≤H'.next)(hw:Wf H')(ho:∀y,os=some y→y<H'.next)(hl:LB H' base os z l ob)(hn:l.length≤17179869183):
  ∃ a cap w' H4 ob', z = .slice a l.length cap ∧ A5a Tryz.prog 71 1 [(0, .int .i64 (t : Int))] H' = some (.slice (some ⟨H'.next, 0, some 0⟩) 1 1, (H'.new 1 [.int .i64 (t : Int)]).2) ∧
      A4a Tryz.prog .append [71, 71] [.slice a l.length cap, .slice (some ⟨H'.next, 0, some 0⟩) 1 1] (H'.new 1 [.int .i64 (t : Int)]).2 = some (w', H4) ∧
      LB H4 base os w' (l ++ [t]) ob' ∧ Chg (fun y => ob = some y) H' H4 := by
 obtain⟨a,cap,w',H4,ob',rfl,k1,k2,k3,k4⟩:=hl.push hb ho hw t;have ha:=B7j (H:=H') (base:=a) (len:=l.length) (cap:=cap) (x:=natC t) rfl hn;rw[k1]at ha;exact⟨a,cap,w',H4,ob',rfl,A4p (H:=H') (x:=.int .i64 (t:Int)) rfl rfl,ha,k2,k3⟩
theorem C3y{H1 H':AH}{n:Nat}{sv:Value}{os:Option Nat}{seen:List Bool}{out:List Nat}{t:Nat}(hk:Kept H1 H')(hM:MB H' H1.next n sv os seen out)(ht:t<n)(hnt:t∉out):
  ∃p H3,A7b Tryz.prog 58 sv (.int .i64 (t:Int))=some (.pointer (some p))∧H'.cell p=some (.bool false)∧A0e Tryz.prog 4 H' (.bool true) (.pointer (some p))=some H3∧Kept H1 H3∧MB H3 H1.next n sv os (seen.set t true) (out++[t])∧Chg (fun y=>os=some y) H' H3:=by
 obtain⟨p,H3,e1,e2,e3,e4,e5,e6⟩:=hM.set Tryz.underlying58 A1k hk.wf ht hnt;exact⟨p,H3,e1,e2,by rw[A0c A1k rfl];exact e3,hk.then (Nat.le_refl _) (e5.weak hM.fr),e4,e5⟩
theorem B2c {H1 H' : AH} {n : Nat} {sv z : Value} {os ob : Option Nat} {seen : List Bool} {out l : List Nat} {t : Nat} (hk : Kept H1 H') (hM : MB H' H1.next n sv os seen out) (hl : LB H' H1.next os z l ob) (ht : t < n) (hnt : t ∉ out) (hn : l.length ≤ 17179869183) :
      ∃p H3 a cap w' H4 ob', A7b Tryz.prog 58 sv (.int .i64 (t : Int)) = some (.pointer (some p)) ∧ H'.cell p = some (.bool false) ∧ A0e Tryz.prog 4 H' (.bool true) (.pointer (some p)) = some H3 ∧ z = .slice a l.length cap ∧ Kept H1 H3 ∧
        A5a Tryz.prog 71 1 [(0, .int .i64 (t : Int))] H3 = some (.slice (some ⟨H3.next, 0, some 0⟩) 1 1, (H3.new 1 [.int .i64 (t : Int)]).2) ∧
        A4a Tryz.prog .append [71, 71] [.slice a l.length cap, .slice (some ⟨H3.next, 0, some 0⟩) 1 1] (H3.new 1 [.int .i64 (t : Int)]).2 = some (w', H4) ∧
        Kept H1 H4 ∧ MB H4 H1.next n sv os (seen.set t true) (out ++ [t]) ∧ LB H4 H1.next os w' (l ++ [t]) ob' ∧ Chg (fun y => os = some y) H' H3 := by
  obtain⟨p, H3, e1, e2, e3, e4, e5, e6⟩ := C3y hk hM ht hnt;have hl3 := hl.chg hk.wf e6 fun y h => h;obtain⟨a, cap, w', H4, ob', k0, k1, k2, k3, k4, k5⟩ := B8l t e4 (e5.lt e4.wf) hl3 hn;exact⟨p, H3, a, cap, w', H4, ob', e1, e2, e3, k0, e4, k1, k2, k3, e5.chg e4.wf k5 (fun y hy h => (hl3.fr y hy).2 h), k4, e6⟩
def A6s(R:List (List (ByteArray×Nat)))(em:Bool)(s t:Nat):Prop:=∃x,A3e R x s t∧(em=true→x=A0b)
theorem B5y{n:Nat}{seen:List Bool}(hl:seen.length=n):Marks n seen ((List.range n).filter fun t=>decide (seen[t]?=some true)):=by
 refine⟨hl,List.Pairwise.filter _ List.nodup_range,fun t=>?_⟩;rw[List.mem_filter,List.mem_range,decide_eq_true_eq];constructor
 ·intro h;exact⟨by rw[←hl];exact(List.getElem?_eq_some_iff.1 h).1,h⟩
 ·exact fun h=>h.2
theorem C6u{H1 H:AH}{rv mv:Value}{os:Option Nat}{vals:List Value}{n:Nat}{R:List (List (ByteArray×Nat))}{seen:List Bool}{em:Bool}
  (hk:Kept H1 H) (hJ':∀{H'},Chg (fun y=>os=some y) H H'→JagR H' rv 2 (A9h R) vals) (hRl:R.length=n) (hRr:∀r∈R,r.length≤6000000000∧∀e∈r,e.2<n) (hb:Buf H 1 mv (seen.map A6l) os) (hfr:∀y,os=some y→H1.next≤y) (hsl:seen.length=n) (hn:n≤100000):
  Sh.Call Tryz.prog (knows 7) 51 [rv,mv,.bool em] H (fun _ H'=>Chg (fun y=>os=some y) H H'∧∃seen':List Bool,Buf H' 1 mv (seen'.map A6l) os∧seen'.length=n∧∀t:Nat,seen'[t]?=some true↔Clo (A6s R em) (fun s=>seen[s]?=some true) t):=by
 refine A3a rfl Tryz.func51 rfl (Nat.le_of_ble_eq_true rfl) ?_;have hres:Tryz.f51.results.toList=[]:=rfl;have hw:=hk.wf;have hM0:MB H H1.next n mv os seen ((List.range n).filter fun t=>decide (seen[t]?=some true)):=⟨B5y hsl,hb,hfr⟩
 have hlenM:∀H',A4a Tryz.prog .len [58] [mv] H'=some (.int .i64 (n:Int),H'):=fun H'=>by
  rw[hb.toSl.len Tryz.underlying58,List.length_map,hsl]
 have hlos:=hM0.lt hw;simp only[↓Sh.dn,sx];refine A5c n 7 (List.range' 6 19) (fun i F H'=>Kept H H'∧∃z,F.get 6=some z∧∃ob,LB H' H.next os z ((List.range i).filter fun t=>decide (seen[t]?=some true)) ob) (by simp only[sx]) ⟨Kept.refl hw,_,by simp only[sx,Nat.reduceEqDiff],none,⟨.void none,fun y hy=>by cases hy⟩⟩ ?_ ?_
 ·rintro i F H' hi hF f7 ⟨hk',z,f6,ob,hl⟩ k
  have f1:=hF 1 rfl;simp only[sx,Nat.reduceEqDiff]at f1;obtain⟨b,hb1⟩:∃b,seen[i]?=some b:=⟨seen[i]'(by omega),List.getElem?_eq_getElem _⟩
  obtain⟨p,hia,hc⟩:=Sl.elem (s:=1) Tryz.underlying58 A1k (hb.toSl.grow (hk'.grow hw)) (i:=i) (u:=.bool b) (by rw[List.getElem?_map,hb1];rfl);have hrange:(List.range (i+1)).filter (fun t=>decide (seen[t]?=some true))=(List.range i).filter (fun t=>decide (seen[t]?=some true))++(if b=true then [i] else []):=by
   rw[List.range_succ,List.filter_append]
   congr 1
   cases b<;>simp[hb1]
  have hll:((List.range i).filter fun t=>decide (seen[t]?=some true)).length≤17179869183:=Nat.le_trans (List.length_filter_le _ _) (by rw[List.length_range];omega);simp only[↓Sh.dn,sx,Nat.reduceEqDiff,f1,f7,A1a,hi,decide_true,hlenM,hia,hc];cases b with
  | true=>
   obtain⟨a,cap,w',H4,ob2,rfl,e1,e2,e3,e4⟩:=C9i i hk'.next hk'.wf (fun y hy=>Nat.lt_of_lt_of_le (hlos y hy) hk'.next) hl hll;simp only[↓Sh.dn,sx,Nat.reduceEqDiff,f6,f7,e1,e2,A2a hi (Nat.le_trans hn (by decide))];refine k _ _ (by repeat (first|refine Same.put ?_ rfl|exact Same.rfl' _)) (by simp only[sx]) ⟨hk'.then (Nat.le_refl _) (e4.weak fun y hy=>(hl.fr y hy).1),w',by simp only[sx,Nat.reduceEqDiff],ob2,by rw[hrange];exact e3⟩
  | false=>
   simp only[↓Sh.dn,sx,Nat.reduceEqDiff,f7,A2a hi (Nat.le_trans hn (by decide))];refine k _ _ (by repeat (first|refine Same.put ?_ rfl|exact Same.rfl' _)) (by simp only[sx]) ⟨hk',z,by simp only[sx,Nat.reduceEqDiff,f6],ob,by rw[hrange];simpa using hl⟩
 ·rintro F H' hF f7 ⟨hk',z,f6,ob,hl⟩
  have f0:=hF 0 rfl;have f1:=hF 1 rfl;have f2:=hF 2 rfl;simp only[sx,reduceCtorEq,Nat.reduceEqDiff]at f0 f1 f2;simp only[↓Sh.dn,sx,Nat.reduceEqDiff,f1,f7,A1a,Nat.lt_irrefl,decide_false,hlenM];refine A5b (m:=n+1) (fun m F H'=>∃i,m+i=n+1∧F.get 8=some (.int .i64 (i:Int))∧F.get 0=some rv∧F.get 1=some mv∧F.get 2=some (.bool em)∧Chg (fun y=>os=some y) H H'∧∃z,F.get 6=some z∧∃seen' out ob,MB H' H1.next n mv os seen' out∧LB H' H.next os z out ob∧i≤out.length∧(∀t,seen[t]?=some true→t∈out)∧(∀t∈out,Clo (A6s R em) (fun s=>seen[s]?=some true) t)∧∀s∈out.take i,∀t,A6s R em s t→t∈out) ⟨0,by omega,by simp only[sx];rfl,by simp only[sx,reduceCtorEq,f0],by simp only[sx,Nat.reduceEqDiff,f1],by simp only[sx,Nat.reduceEqDiff,f2],hk'.chg,z,by simp only[sx,Nat.reduceEqDiff,f6],seen,_,ob,hM0.kept hw hk',hl,Nat.zero_le _,fun t ht=>(hM0.ms.iff t).1 ht,fun t ht=>.base ((hM0.ms.iff t).2 ht),fun s hs=>by simp at hs⟩ ?_;clear hk' hl f0 f1 f2 f6 f7 hF;clear z ob;clear F H';rintro m F H' ⟨i,hmi,f8,f0,f1,f2,hk',z,f6,seen',out,ob,hM,hl,hio,hLout,hclo,hcl⟩ k;have hkk:∀{H'},Chg (fun y=>os=some y) H H'→Kept H1 H':=fun hc=>hk.then (Nat.le_refl _) (hc.weak hfr);have hlen:=hl.bf.toSl.len Tryz.underlying71 H';rw[List.length_map]at hlen;have hout:=hM.ms.le;by_cases hi:i<out.length
  ·simp only[↓Sh.dn,sx,Nat.reduceEqDiff,f6,f8,A1a,hi,decide_true,hlen]
   have hsn:out[i]<n:=hM.ms.lt (List.getElem_mem hi);have hget:out[i]?=some out[i]:=List.getElem?_eq_getElem hi;have hcs:Clo (A6s R em) (fun s=>seen[s]?=some true) out[i]:=hclo _ (List.getElem_mem hi);generalize out[i]=s at hsn hget hcs;obtain⟨r,hr⟩:∃r,R[s]?=some r:=⟨R[s]'(by rw[hRl];exact hsn),List.getElem?_eq_getElem _⟩
   have hr':(A9h R)[s]?=some (r.map A0i):=by unfold A9h;rw[List.getElem?_map,hr];rfl
   obtain⟨hrl,hrt⟩:=hRr r (List.mem_of_getElem? hr);refine A5c r.length 9 (List.range' 31 46++[6,9,10]) (fun q F'' H''=>Chg (fun y=>os=some y) H H''∧∃z',F''.get 6=some z'∧∃seen' out' ob',MB H'' H1.next n mv os seen' out'∧LB H'' H.next os z' out' ob'∧out'[i]?=some s∧out'.take i=out.take i∧(∀x∈out,x∈out')∧(∀t∈out',Clo (A6s R em) (fun s=>seen[s]?=some true) t)∧∀e∈r.take q,(em=true→e.1=A0b)→e.2∈out') (by simp only[sx]) ⟨hk',z,by simp only[sx,Nat.reduceEqDiff,f6],seen',out,ob,hM,hl,hget,rfl,fun x hx=>hx,hclo,fun e he=>by simp at he⟩ ?_ ?_
   ·rintro q F'' H'' hq hF'' f9 ⟨hk'',z',f6',seen',out',ob',hM',hl',hget',htk,hsub,hclo',hed⟩ k2
    have g0:=hF'' 0 rfl;have g1:=hF'' 1 rfl;have g2:=hF'' 2 rfl;have g8:=hF'' 8 rfl;simp only[sx,reduceCtorEq,Nat.reduceEqDiff,f0,f1,f2,f8]at g0 g1 g2 g8;obtain⟨ga,oa,ka,wr,hia,hc1,hs1⟩:=(hJ' hk'').at Tryz.underlying57 A3r hr';have hl1:=hs1.len Tryz.underlying86 H'';rw[List.length_map]at hl1;have hil:i<out'.length:=(List.getElem?_eq_some_iff.1 hget').1;have hgs:out'[i]=s:=Option.some.inj ((List.getElem?_eq_getElem hil).symm.trans hget');obtain⟨p1,hia1,hcc1⟩:=A13 Tryz.underlying71 A2c hl'.bf.toSl hil;rw[hgs]at hcc1;obtain⟨g',o',k',hia2,hcs2,_⟩:=hs1.at Tryz.underlying86 A5t (i:=q) (x:=A0i r[q]) (by simp[hq]) .i64;have hrq:r[q]∈r:=List.getElem_mem hq;have htake:r.take (q+1)=r.take q++[r[q]]:=by rw[List.take_add_one,List.getElem?_eq_getElem hq];rfl
    generalize r[q]=e at hcs2 hrq htake;have kn:=Kept.new hk''.wf 2 (A0i e);have hk3:=hk''.trans (kn.chg (X:=fun y=>os=some y));have hM3:=hM'.kept hk''.wf kn;have hl3:=hl'.kept hk''.wf kn;simp only[↓Sh.dn,sx,reduceCtorEq,Nat.reduceEqDiff,f6',f9,g0,g1,g8,hia1,hcc1,hia,hc1,hl1,hia2,hcs2,A1a,hq,decide_true,C4q,B8x,C2i,re1]
    have hnext : ∀ {seen2 : List Bool} {out2 : List Nat} {ob2 : Option Nat} {z2 : Value} {F2 : Fr} {H2 : AH}, Same (List.range' 31 46 ++ [6, 9, 10]) F'' F2 → F2.get 6 = some z2 → F2.get 9 = some (.int .i64 ((q + 1 : Nat) : Int)) → Chg (fun y => os = some y) H H2 → MB H2 H1.next n mv os seen2 out2 → LB H2 H.next os z2 out2 ob2 → (out2 = out' ∨ out2 = out' ++ [e.2] ∧ (em = true → e.1 = A0b)) → ((em = true → e.1 = A0b) → e.2 ∈ out2) →
        wp Tryz.prog (knows 7) _ _ F2 H2 := fun{seen2 out2 ob2 z2 F2 H2} a1 a2 a3 a4 a5 a6 a7 a8 => k2 F2 H2 a1 a3 ⟨a4, z2, a2, seen2, out2, ob2, a5, a6, by
          rcases a7 with h|⟨h, _⟩
          · rw[h];exact hget'
          · rw[h, List.getElem?_append_left hil];exact hget', by
          rcases a7 with h|⟨h, _⟩
          · rw[h];exact htk
          · rw[h, List.take_append_of_le_length (by omega)];exact htk, fun x hx => by
          rcases a7 with h|⟨h, _⟩
          · rw[h];exact hsub x hx
          · rw[h];exact List.mem_append_left _ (hsub x hx), fun t ht => by
          rcases a7 with h|⟨h, he⟩
          · rw[h]at ht;exact hclo' t ht
          · rw[h]at ht
            rcases List.mem_append.1 ht with h2|h2
            · exact hclo' t h2
            · rw[List.mem_singleton.1 h2];exact .step hcs ⟨e.1, ⟨r, hr, hrq⟩, he⟩, fun x hx hxe => by
          rw[htake]at hx;rcases List.mem_append.1 hx with h2|h2
          · have := hed x h2 hxe
            rcases a7 with h|⟨h, _⟩
            · rw[h];exact this
            · rw[h];exact List.mem_append_left _ this
          · rw[List.mem_singleton.1 h2]at hxe ⊢;exact a8 hxe⟩
    have hrl':r.length≤4611686018427387904:=Nat.le_trans hrl (by decide);by_cases hin:e.2∈out'
    ·obtain⟨p5,hia5,hc5⟩:=hM3.see Tryz.underlying58 A1k (hrt e hrq)
     simp only[↓Sh.dn,sx,Nat.reduceEqDiff,hia5,hc5,hin,decide_true,f9,A2a hq hrl'];exact hnext (by repeat (first|refine Same.put ?_ rfl|exact Same.rfl' _)) (by simp only[sx,Nat.reduceEqDiff,f6']) (by simp only[sx]) hk3 hM3 hl3 (.inl rfl) fun _=>hin
    ·have hkk3:=hkk hk3
     obtain⟨p3,H3,e1,e2,e3,e4,e5,e6⟩:=C3y hkk3 hM3 (hrt e hrq) hin;have hout':=hM3.ms.le;obtain⟨a,cap,w',H4,ob2,rfl,e7,e8,e9,e10⟩:=C9i e.2 (Nat.le_trans hk3.next e6.next) e4.wf (e5.lt e4.wf) (hl3.chg hk3.wf e6 fun y h=>h) (by omega);have hk4:Chg (fun y=>os=some y) H H4:=(hk3.trans e6).then e10 fun y hy hlt=>by have:=(hl3.fr y hy).1;omega
     have hM4:=e5.chg e4.wf e10 (fun y hy h=>(hl3.fr y hy).2 h);have hre:H3.cell ⟨H''.next,1,some 0⟩=some (.int .i64 (e.2:Int)):=by
      have:=((Sh.Obj.new (H:=H'') 2 (A0i e)).arr.keep (e6.old H''.next (Nat.lt_succ_self _) fun hy=>Nat.lt_irrefl _ (hM'.lt hk''.wf _ hy))).cell 1;exact this
     cases em with
     | false=>
      simp only[↓Sh.dn,sx,Nat.reduceEqDiff,re1,g1,g2,e1,e2,e3,f6',hre,e7,e8,f9,A2a hq hrl'];exact hnext (by repeat (first|refine Same.put ?_ rfl|exact Same.rfl' _)) (by simp only[sx,Nat.reduceEqDiff]) (by simp only[sx]) hk4 hM4 e9 (.inr ⟨rfl,fun h=>by cases h⟩) fun _=>List.mem_append_right _ List.mem_cons_self
     | true=>
      by_cases he:e.1=⟨#[]⟩
      ·simp only[↓Sh.dn,sx,Nat.reduceEqDiff,re1,re0,g1,g2,he,decide_true,e1,e2,e3,f6',hre,e7,e8,f9,A2a hq hrl']
       exact hnext (by repeat (first|refine Same.put ?_ rfl|exact Same.rfl' _)) (by simp only[sx,Nat.reduceEqDiff]) (by simp only[sx]) hk4 hM4 e9 (.inr ⟨rfl,fun _=>he⟩) fun _=>List.mem_append_right _ List.mem_cons_self
      ·simp only[↓Sh.dn,sx,Nat.reduceEqDiff,re0,g2,he,decide_false,e1,e2,f9,A2a hq hrl']
       exact hnext (by repeat (first|refine Same.put ?_ rfl|exact Same.rfl' _)) (by simp only[sx,Nat.reduceEqDiff,f6']) (by simp only[sx]) hk3 hM3 hl3 (.inl rfl) fun h=>absurd (h rfl) he
   ·rintro F'' H'' hF'' f9 ⟨hk'',z',f6',seen',out',ob',hM',hl',hget',htk,hsub,hclo',hed⟩
    have g0:=hF'' 0 rfl;have g1:=hF'' 1 rfl;have g2:=hF'' 2 rfl;have g8:=hF'' 8 rfl;simp only[sx,reduceCtorEq,Nat.reduceEqDiff,f0,f1,f2,f8]at g0 g1 g2 g8;obtain⟨ga,oa,ka,wr,hia,hc1,hs1⟩:=(hJ' hk'').at Tryz.underlying57 A3r hr';have hl1:=hs1.len Tryz.underlying86 H'';rw[List.length_map]at hl1;have hil:i<out'.length:=(List.getElem?_eq_some_iff.1 hget').1;have hgs:out'[i]=s:=Option.some.inj ((List.getElem?_eq_getElem hil).symm.trans hget');obtain⟨p1,hia1,hcc1⟩:=A13 Tryz.underlying71 A2c hl'.bf.toSl hil;rw[hgs]at hcc1;have hout':=hM'.ms.le;simp only[↓Sh.dn,sx,Nat.reduceBEq,reduceCtorEq,Nat.reduceEqDiff,f6',f9,g0,g8,hia1,hcc1,hia,hc1,hl1,A1a,Nat.lt_irrefl,decide_false,A2a hil (Nat.le_trans (Nat.le_trans hout' hn) (by decide))];refine k (n+1-(i+1)) _ _ (by omega) ⟨i+1,by omega,by simp only[sx],by simp only[sx,reduceCtorEq,g0],by simp only[sx,Nat.reduceEqDiff,g1],by simp only[sx,Nat.reduceEqDiff,g2],hk'',z',by simp only[sx,Nat.reduceEqDiff,f6'],seen',out',ob',hM',hl',hil,fun t ht=>hsub t (hLout t ht),hclo',fun x hx t hg=>?_⟩;rw[List.take_add_one,hget']at hx;rcases List.mem_append.1 hx with hx|hx
    ·rw[htk]at hx
     exact hsub t (hcl x hx t hg)
    ·simp only[Option.toList,List.mem_singleton]at hx
     subst hx;obtain⟨y,⟨r',hr2,hg2⟩,hye⟩:=hg;rw[hr]at hr2;rw[←Option.some.inj hr2]at hg2;exact hed _ (by rw[List.take_length];exact hg2) hye
  ·simp only[↓Sh.dn,sx,Nat.reduceEqDiff,f6,f8,A1a,hi,decide_false,hlen,hres]
   refine⟨hk',seen',hM.bf,hM.ms.len,fun t=>?_⟩;rw[hM.ms.iff];exact Clo.iff hLout hclo (fun s hs=>hcl s (by rw[List.take_of_length_le (by omega)];exact hs)) t
theorem B3f{H1 H:AH}{rv mv:Value}{ot os:Option Nat}{vals:List Value}{obs:List (Option Nat)}{n:Nat}{R:List (List (ByteArray×Nat))}{seen:List Bool}{em:Bool}
  (hk:Kept H1 H) (hJ:Jag H rv ot 2 vals (A9h R) obs) (hRl:R.length=n) (hRr:∀r∈R,r.length≤6000000000∧∀e∈r,e.2<n) (hb:Buf H 1 mv (seen.map A6l) os) (hfr:∀y,os=some y→H1.next≤y) (hsep:∀y,os=some y→¬JIn ot obs y) (hsl:seen.length=n) (hn:n≤100000):
  Sh.Call Tryz.prog (knows 7) 51 [rv,mv,.bool em] H (fun _ H'=>Chg (fun y=>os=some y) H H'∧∃seen':List Bool,Buf H' 1 mv (seen'.map A6l) os∧seen'.length=n∧∀t:Nat,seen'[t]?=some true↔Clo (A6s R em) (fun s=>seen[s]?=some true) t):=C6u hk (fun hc=>(hJ.chg hk.wf hc fun y hy h=>hsep y h hy).read) hRl hRr hb hfr hsl hn
theorem refAlive{H:AH}{v ev bv:Value}{vals:List Value}{n:Nat}{E:List (List (ByteArray×Nat))}{ends:List Bool}(h:RG H v n E ends ev bv vals)(hw:Wf H):
  Sh.Call Tryz.prog (knows 7) 92 [v] H (fun r H'=>Kept H H'∧∃B:List Bool,Sl H' r 1 (B.map A6l)∧B.length=n∧∀t:Nat,B[t]?=some true↔Clo (fun s t=>∃x,A3e E x t s) (fun s=>ends[s]?=some true) t):=by
 refine A3a rfl Tryz.func92 rfl (Nat.le_of_ble_eq_true rfl) ?_;have hres:Tryz.f92.results.toList=[.tmp 2]:=rfl;have hrb:=RBox.of h hw;have hk1:Kept H (H.new 3 [.int .i64 0,ev,bv]).2:=Kept.new hw 3 _;have hE:=h.ed.sl.isCell;have hB:=h.en.isCell;rw[h.eq];simp only[↓Sh.dn,sx,Nat.reduceEqDiff,B28 hE hB];generalize (H.new 3 [.int .i64 0,ev,bv]).2=H1 at hrb hk1 ⊢;generalize H.next=gb at hrb ⊢;have hs1:=hrb.rg.en;obtain⟨v',H2,b',e1,e2,e3,e4⟩:=(Buf.void (H:=H1) (s:=1) none).append hk1.wf (xs:=ends.map A6l) (by intro x hx;obtain⟨b,_,rfl⟩:=List.mem_map.1 hx;rfl);have happ:=app_58 (base:=none) (len:=0) (cap:=0) (hs1.srcKind Tryz.underlying58) hs1.newCells (by rw[List.length_map,h.ln];have:=h.n2;omega);rw[e1]at happ;have hk2:Kept H1 H2:=e3.kept fun g hg h=>by cases h
 rw[List.nil_append]at e2;have hos:∀y,b'=some y→H1.next≤y∧y<H2.next:=by
  intro y hy;rcases e4 with h4|⟨h4,h5⟩
  ·rw[h4]at hy;cases hy
  ·rw[h4]at hy;rw[←Option.some.inj hy];exact⟨Nat.le_refl _,h5⟩
 have hrb2:=hrb.kept hk1.wf hk2;obtain⟨rv,H3,hd3,hk3,R,ot,vs,obs,hJ,hin,hRl,hRr,hRg⟩:=A73 hrb2.rg hk2.wf;have hk13:=hk2.trans hk3;have hb3:=e2.kept hk2.wf hk3;obtain⟨rr,H4,hd4,hc4,seen,hb4,hsl,hiff⟩:=B3f (em:=false) hk13 hJ hRl hRr hb3 (fun y hy=>(hos y hy).1) (fun y hy hj=>by have:=hin y hj;have:=(hos y hy).2;omega) h.ln h.n2;simp only[sx,hrb.c2,happ];simp only[sx,hrb2.ca];refine⟨_,_,hd3,?_⟩;refine⟨_,_,hd4,?_⟩;simp only[sx,hres];refine⟨hk1.trans (hk13.then (Nat.le_refl _) (hc4.weak fun y hy=>(hos y hy).1)),seen,hb4.toSl,hsl,fun t=>?_⟩;rw[hiff];have:A6s R false=fun s t=>∃x,A3e E x t s:=by
  funext s t
  apply propext;unfold A6s;simp[hRg]
 rw[this]
theorem refKeptB{H:AH}{u bv:Value}{n:Nat}{B:List Bool}{L:List Nat}(hL:Sl H u 1 (L.map natC))(hB:Sl H bv 1 (B.map A6l))(hBl:B.length=n)(hlt:∀t∈L,t<n)(hll:L.length≤1048576)(hw:Wf H):
  Sh.Call Tryz.prog (knows 7) 89 [u,bv] H (fun r H'=>Kept H H'∧∃b,Buf H' 1 r ((L.filter fun t=>decide (B[t]?=some true)).map natC) b∧∀y,b=some y→H.next≤y):=by
 refine A3a rfl Tryz.func89 rfl (Nat.le_of_ble_eq_true rfl) ?_;have hres:Tryz.f89.results.toList=[.tmp 4]:=rfl;simp only[↓Sh.dn,sx];have hlen:=fun H'=>hL.len Tryz.underlying71 H';simp only[List.length_map]at hlen;refine A5c L.length 6 (List.range' 5 22) (fun i F H'=>Kept H H'∧∃z,F.get 5=some z∧∃ob,LB H' H.next none z ((L.take i).filter fun t=>decide (B[t]?=some true)) ob) (by simp only[sx]) ⟨Kept.refl hw,_,by simp only[sx,Nat.reduceEqDiff],none,⟨.void none,fun y hy=>by cases hy⟩⟩ ?_ ?_
 ·rintro i F H' hi hF f6 ⟨hk,z,f5,ob,hl⟩ k
  have f0:=hF 0 rfl;have f1:=hF 1 rfl;simp only[sx,reduceCtorEq,Nat.reduceEqDiff]at f0 f1;have hL':=hL.grow (hk.grow hw);obtain⟨p,hia,hc⟩:=A13 Tryz.underlying71 A2c hL' hi;have htn:L[i]<n:=hlt _ (List.getElem_mem hi);have htake:L.take (i+1)=L.take i++[L[i]]:=by rw[List.take_add_one,List.getElem?_eq_getElem hi];rfl
  generalize L[i]=t at hc htn htake;obtain⟨b,hb⟩:∃b,B[t]?=some b:=⟨B[t]'(by rw[hBl];exact htn),List.getElem?_eq_getElem _⟩
  obtain⟨p2,hia2,hc2⟩:=Sl.elem (s:=1) Tryz.underlying58 A1k (hB.grow (hk.grow hw)) (i:=t) (u:=.bool b) (by rw[List.getElem?_map,hb];rfl);have hfl:(L.take (i+1)).filter (fun t=>decide (B[t]?=some true))=(L.take i).filter (fun t=>decide (B[t]?=some true))++(if b=true then [t] else []):=by
   rw[htake,List.filter_append]
   congr 1
   cases b<;>simp[hb]
  have hle:((L.take i).filter fun t=>decide (B[t]?=some true)).length≤17179869183:=Nat.le_trans (List.length_filter_le _ _) (by rw[List.length_take];omega);simp only[↓Sh.dn,sx,reduceCtorEq,Nat.reduceEqDiff,f0,f1,f6,A1a,hi,decide_true,hlen,hia,hc,hia2,hc2];cases b with
  | true=>
   obtain⟨a,cap,w',H4,ob2,rfl,e1,e2,e3,e4,e5⟩:=B8l t hk (fun y hy=>by cases hy) hl hle;simp only[↓Sh.dn,sx,reduceCtorEq,Nat.reduceEqDiff,f0,f5,f6,hia,hc,e1,e2,wrap_succ hi hll];exact k _ _ (by repeat (first|refine Same.put ?_ rfl|exact Same.rfl' _)) (by simp only[sx]) ⟨e3,w',by simp only[sx,Nat.reduceEqDiff],ob2,by rw[hfl];exact e4⟩
  | false=>
   simp only[↓Sh.dn,sx,Nat.reduceEqDiff,f6,wrap_succ hi hll];exact k _ _ (by repeat (first|refine Same.put ?_ rfl|exact Same.rfl' _)) (by simp only[sx]) ⟨hk,z,by simp only[sx,Nat.reduceEqDiff,f5],ob,by rw[hfl];simpa using hl⟩
 ·rintro F H' hF f6 ⟨hk,z,f5,ob,hl⟩
  have f0:=hF 0 rfl;simp only[sx,reduceCtorEq]at f0;rw[List.take_length]at hl;simp only[↓Sh.dn,sx,reduceCtorEq,Nat.reduceEqDiff,f0,f5,f6,A1a,Nat.lt_irrefl,decide_false,hlen,hres];exact⟨hk,ob,hl.bf,fun y hy=>(hl.fr y hy).1⟩
end Go.Proofs.YtjjgodccecehlaaGreat
