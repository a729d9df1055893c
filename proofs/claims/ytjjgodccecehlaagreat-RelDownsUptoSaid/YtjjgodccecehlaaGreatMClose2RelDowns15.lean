/- A part of the proof: AbovePair, DownP, RefDownP, RelWords, PutEnd, GraphStar, TurnP, RefTurn, RefDown, LawRelKit, IsOver, DataIn. -/
import Derived.Test.YtjjgodccecehlaaGreatMClose2RelDowns13
import Derived.Test.YtjjgodccecehlaaGreatMClose2RelDowns11
import Derived.Test.YtjjgodccecehlaaGreatMClose2RelDowns14
import Derived.Test.YtjjgodccecehlaaGreatMClose2RelDowns9
import Derived.Test.YtjjgodccecehlaaGreatMClose2RelDowns4
import Derived.Test.YtjjgodccecehlaaGreatMClose2RelDowns2
import Derived.Test.YtjjgodccecehlaaGreatMClose2RelDowns1
import Derived.Test.YtjjgodccecehlaaGreatMClose2RelDowns10
import Derived.Test.YtjjgodccecehlaaGreatRows
set_option linter.unusedVariables false
set_option linter.unusedSimpArgs false
/- A word that is above some word of an acceptor is a pair with itself. -/
set_option maxHeartbeats 4000000
set_option maxRecDepth 20000
namespace Go.Proofs.YtjjgodccecehlaaGreat
open Go Go.Proofs Go.Proofs.Sh
theorem B76{x:ByteArray}:labT x=none↔x=A0b:=by
 unfold labT;split<;>simp_all
theorem B32{x y:ByteArray}(hy:y≠A0b):labT x=some y↔x=y:=by
 unfold labT;split
 ·rename_i h
  subst h;exact⟨fun h=>(by cases h),fun h=>absurd h.symm hy⟩
 ·simp
noncomputable def A9t(N:NetD)(S:List ByteArray→Prop):List (List ByteArray):=B7n N.sigma S 60
def A9s(N:NetD)(S:List ByteArray→Prop):Prop:=∃w:List ByteArray,60<w.length∧(∀x∈w,x∈N.sigma)∧S w
noncomputable def A0f(N:NetD)(x:List ByteArray)(most:Int)(S:List ByteArray→Prop):List (List ByteArray)×Bool×Int:=
 if A9j N≠0 then ([],false,A9j N) else if A8k x≠0 then ([],false,A8k x) else if most<1∨200<most then ([],false,1) else if 300<N.states then ([],false,3) else A7i (A9t N S) (A9s N S) most.toNat
theorem B1q{N:NetD}{x:List ByteArray}{most:Int}{S:List ByteArray→Prop}(h1:A9j N=0)(h2:A8k x=0)(h3:¬(most<1∨200<most))(h4:¬300<N.states):A0f N x most S=A7i (A9t N S) (A9s N S) most.toNat:=by
 unfold A0f;rw[if_neg (by simpa using h1),if_neg (by simpa using h2),if_neg h3,if_neg h4]
theorem A64{N:NetD}{x:List ByteArray}{most:Int}{S:List ByteArray→Prop}:(A0f N x most S).1.length≤200∧∀w∈(A0f N x most S).1,w.length≤60:=by
 have hall:∀w∈A9t N S,w.length≤60:=fun w hw=>(B09.1 hw).1.1;have nil:∀b:Bool×Int,(([],b):List (List ByteArray)×Bool×Int).1.length≤200∧∀w∈(([],b):List (List ByteArray)×Bool×Int).1,w.length≤60:=fun b=>⟨Nat.zero_le _,fun w hw=>by cases hw⟩
 unfold A0f;split
 ·exact nil _
 ·split
  ·exact nil _
  ·split
   ·exact nil _
   ·split
    ·exact nil _
    ·unfold A7i
     split
     ·exact⟨by simp only[List.length_take];omega,fun w hw=>hall w (List.mem_of_mem_take hw)⟩
     ·split
      ·split
       ·exact nil _
       ·exact⟨by simp only;omega,hall⟩
      ·exact⟨by simp only;omega,hall⟩
theorem B7u{N:NetD}{S:List ByteArray→Prop}{most:Nat}(h:∀w,¬S w):A7i (A9t N S) (A9s N S) most=([],false,0):=by
 have e1:A9t N S=[]:=List.eq_nil_iff_forall_not_mem.2 fun w hw=>h w (B09.1 hw).2;have e2:tB (A9s N S)=false:=by
  rw[Bool.eq_false_iff];intro h2;obtain⟨w,_,_,h3⟩:=A3z.1 h2;exact h w h3
 unfold A7i;rw[e1,e2];simp
theorem rangeSig(sigma:List ByteArray):(List.range sigma.length).map (fun k=>sigma.getD k A0b)=sigma:=by
 refine List.ext_getElem? fun i=>?_;rw[List.getElem?_map];by_cases h:i<sigma.length
 ·rw[List.getElem?_range h,List.getElem?_eq_getElem h]
  simp[List.getD,List.getElem?_eq_getElem h]
 ·rw[List.getElem?_eq_none (by simp;omega),List.getElem?_eq_none (by omega)];rfl
theorem sigShort{N:NetD}(hok:A1q N):N.sigma.length≤40:=by
 have h:=hok.sig;unfold A0l at h;split at h
 ·cases h
 ·rename_i h1
  simp only[Bool.or_eq_true,decide_eq_true_eq,not_or]at h1;omega
theorem B7g{sigma:List ByteArray}{u:List Nat}(hu:∀k∈u,k<sigma.length):∀x∈textOf sigma u,x∈sigma:=fun x hx=>by
 obtain⟨k,hk,rfl⟩:=List.mem_map.1 hx;have:=hu k hk;simp only[List.getD,List.getElem?_eq_getElem this,Option.getD_some];exact List.getElem_mem _
theorem B23{sigma:List ByteArray}(ha:Asc sigma){u:List Nat}(hu:∀k∈u,k<sigma.length):(textOf sigma u).map (ixN sigma)=u:=by
 unfold textOf;rw[List.map_map]
 conv=>rhs;rw[←List.map_id u]
 refine List.map_congr_left fun k hk=>?_;have:=hu k hk;simp only[Function.comp,List.getD,List.getElem?_eq_getElem this,Option.getD_some,id];unfold ixN;rw[A80 ha (List.getElem?_eq_getElem this)];rfl
theorem B92{sigma:List ByteArray}:∀{w:List ByteArray},(∀x∈w,x∈sigma)→∃u:List Nat,(∀k∈u,k<sigma.length)∧textOf sigma u=w
 | [],_=>⟨[],(fun k hk=>by cases hk),rfl⟩
 | x :: w,h=>by
  obtain⟨u,h3,h4⟩:=B92 fun y hy=>h y (List.mem_cons_of_mem _ hy)
  obtain⟨k,hk⟩:=List.mem_iff_getElem?.1 (h x List.mem_cons_self);have hkl:=(List.getElem?_eq_some_iff.1 hk).1;refine⟨k :: u,fun j hj=>?_,?_⟩
  ·rcases List.mem_cons.1 hj with rfl|hj
   ·exact hkl
   ·exact h3 j hj
  ·show sigma.getD k A0b :: textOf sigma u=x :: w
   rw[h4];simp[List.getD,hk]
theorem acc_rows{R:List (List GE)}{es:List Int}(hl:∀r∈R,∀e∈r,e.2.1=e.2.2.1)(u:List Nat):
  accS (A5e R fun k=>k<0) (fun(k:Nat)=>A5e R fun x=>x=(k:Int)) (fun s=>0<es.getD s 0) (Clo (A5e R fun k=>k<0) fun s=>s=0) u↔RelP (A8m R) (endP es) u u:=by
 have e0:(A5e R fun k=>k<0)=fun s t=>∃b,A8m R s none b t:=funext fun s=>funext fun t=>propext (by
  unfold A5e A8m;constructor
  ·rintro⟨r,h1,e,h2,h3,h4⟩;exact⟨_,r,h1,e,h2,h3,by unfold labN;rw[if_pos h4],rfl⟩
  ·rintro⟨b,r,h1,e,h2,h3,h4,_⟩
   refine⟨r,h1,e,h2,h3,?_⟩;unfold labN at h4;split at h4
   ·assumption
   ·cases h4)
 have e1:(fun(k:Nat)=>A5e R fun x=>x=(k:Int))=fun k s t=>∃b,A8m R s (some k) b t:=funext fun k=>funext fun s=>funext fun t=>propext (by
  unfold A5e A8m;constructor
  ·rintro⟨r,h1,e,h2,h3,h4⟩;exact⟨_,r,h1,e,h2,h3,by unfold labN;rw[h4,if_neg (by omega)];rfl,rfl⟩
  ·rintro⟨b,r,h1,e,h2,h3,h4,_⟩
   refine⟨r,h1,e,h2,h3,?_⟩;unfold labN at h4;split at h4
   ·cases h4
   ·have:=Option.some.inj h4
    omega)
 have hal:∀s a b t,A8m R s a b t→a=b:=by
  rintro s a b t ⟨r,h1,e,h2,_,rfl,rfl⟩;rw[hl r (List.mem_of_getElem? h1) e h2]
 unfold accS RelP;rw[e0,e1];constructor
 ·rintro⟨t,h1,h2⟩
  obtain⟨s,rfl,y,h3⟩:=B3d.1 h1;have:=B1z hal h3;subst this;exact⟨t,h2,h3⟩
 ·rintro⟨t,h2,h3⟩
  exact⟨t,B3d.2 ⟨0,rfl,u,h3⟩,h2⟩
section
variable {N:NetD} {x:List ByteArray} {f:GE→Int×Int} {R:List (List GE)} {es cs:List Int} {m:Nat} {S:List ByteArray→Prop}
theorem C8d(hI:ImgW N x f R es cs m)(hS:∀u:List Nat,(∀k∈u,k<N.sigma.length)→(RelP (A8m (A2p f (A1l N))) (endP (A8j N N.ends)) (x.map (ixN N.sigma)) u↔S (textOf N.sigma u))){u:List Nat}(hu:∀k∈u,k<N.sigma.length):
  accS (A5e R fun k=>k<0) (fun(k:Nat)=>A5e R fun x=>x=(k:Int)) (fun s=>0<es.getD s 0) (Clo (A5e R fun k=>k<0) fun s=>s=0) u↔S (textOf N.sigma u):=by
 rw[acc_rows hI.like,hI.rel,←hS u hu];exact⟨fun h=>h.2,fun h=>⟨rfl,h⟩⟩
theorem C15(hI:ImgW N x f R es cs m)(hS:∀u:List Nat,(∀k∈u,k<N.sigma.length)→(RelP (A8m (A2p f (A1l N))) (endP (A8j N N.ends)) (x.map (ixN N.sigma)) u↔S (textOf N.sigma u))):
  (A8l N.sigma.length R es 61).map (textOf N.sigma)=A9t N S:=by
 unfold A9t
 conv=>rhs;rw[←rangeSig N.sigma]
 rw[C7v];have:B7n (List.range N.sigma.length) (fun u=>S (u.map fun k=>N.sigma.getD k A0b)) 60=A8l N.sigma.length R es 61:=
  B9g fun u hu=>(C8d hI hS fun k hk=>List.mem_range.1 (hu k hk)).symm
 rw[this];rfl
theorem img_long(hI:ImgW N x f R es cs m)(hS:∀u:List Nat,(∀k∈u,k<N.sigma.length)→(RelP (A8m (A2p f (A1l N))) (endP (A8j N N.ends)) (x.map (ixN N.sigma)) u↔S (textOf N.sigma u))):
  (∃j,60<j∧exP R es j 0)↔A9s N S:=by
 constructor
 ·rintro⟨j,h1,h2⟩
  obtain⟨w,⟨h3,h4⟩,h5⟩:=A62 (A:=fun(k:Nat)=>A5e R fun x=>x=(k:Int)) (q:=fun k=>k<N.sigma.length) (fun s t hst=>by
   obtain⟨r,k1,e,k2,k3,k4⟩:=hst;have:=(hI.to r (List.mem_of_getElem? k1) e k2).2.1;exact⟨e.2.1.toNat,by omega,r,k1,e,k2,k3,by omega⟩) (S:=Clo (A5e R fun k=>k<0) fun s=>s=0) (fun a b h1 h2=>.step h1 h2) ⟨0,.base rfl,h2⟩
  exact⟨textOf N.sigma w,by unfold textOf;rw[List.length_map];omega,B7g h4,(C8d hI hS h4).1 h5⟩
 ·rintro⟨w,h1,h2,h3⟩
  obtain⟨u,hu,rfl⟩:=B92 h2;obtain⟨s,h4,h5⟩:=A6q (any:=A5e R fun x=>0≤x) C54 ((C8d hI hS hu).2 h3);exact⟨u.length,by unfold textOf at h1;rw[List.length_map]at h1;exact h1,A0v h4 h5⟩
end
theorem C7z{N:NetD}(hok:A1q N){x:List ByteArray}(hx:∀z∈x,z∈N.sigma)(u:List Nat)(hu:∀k∈u,k<N.sigma.length):RelP (A8m (A2p fStr (A1l N))) (endP (A8j N N.ends)) (x.map (ixN N.sigma)) u↔A3k N x (textOf N.sigma u):=by
 rw[turn_str,B9s hok,B23 hok.asc hu];exact⟨fun h=>⟨⟨hx,B7g hu⟩,h⟩,fun h=>h.2⟩
theorem turnSwap(E:List (List GE))(F:Nat→Prop)(u v:List Nat):RelP (A8m (A2p C09 E)) F u v↔RelP (A8m E) F v u:=by
 unfold RelP;refine exists_congr fun t=>and_congr Iff.rfl ⟨fun h=>h.swap fun s a b t hs=>?_,fun h=>h.swap fun s a b t hs=>?_⟩
 ·obtain⟨r,h1,e,h2,h3,h4,h5⟩:=B5r.1 hs
  exact⟨r,h1,e,h2,h3,h5,h4⟩
 ·obtain⟨r,h1,e,h2,h3,h4,h5⟩:=hs
  exact B5r.2 ⟨r,h1,e,h2,h3,h5,h4⟩
theorem C9z{N:NetD}(hok:A1q N){x:List ByteArray}(hx:∀z∈x,z∈N.sigma)(u:List Nat)(hu:∀k∈u,k<N.sigma.length):RelP (A8m (A2p C09 (A1l N))) (endP (A8j N N.ends)) (x.map (ixN N.sigma)) u↔A3k N (textOf N.sigma u) x:=by
 rw[turnSwap,B9s hok,B23 hok.asc hu];exact⟨fun h=>⟨⟨B7g hu,hx⟩,h⟩,fun h=>h.2⟩
def edA(E:List (List (ByteArray×Nat))):Arcs Nat ByteArray:=fun s a b t=>a=b∧∃z,labT z=b∧A3e E z s t
theorem acc_ed{E:List (List (ByteArray×Nat))}{fin:Nat→Prop}{y:List ByteArray}:accS (A3e E A0b) (symE E) fin (Clo (A3e E A0b) fun s=>s=0) y↔RelP (edA E) fin y y:=by
 have e0:A3e E A0b=fun s t=>∃b,edA E s none b t:=funext fun s=>funext fun t=>propext (by
  constructor
  ·intro h;exact⟨none,rfl,A0b,B76.2 rfl,h⟩
  ·rintro⟨b,rfl,z,hz,h⟩
   rw[B76.1 hz]at h;exact h)
 have e1:symE E=fun x s t=>∃b,edA E s (some x) b t:=funext fun x=>funext fun s=>funext fun t=>propext (by
  unfold symE;constructor
  ·rintro⟨hx,h⟩;exact⟨some x,rfl,x,(B32 hx).2 rfl,h⟩
  ·rintro⟨b,rfl,z,hz,h⟩
   have hx:x≠A0b:=by
    rintro rfl;unfold labT at hz;split at hz
    ·cases hz
    ·rename_i h1;exact h1 (Option.some.inj hz)
   rw[(B32 hx).1 hz]at h;exact⟨hx,h⟩)
 have hal:∀s a b t,edA E s a b t→a=b:=fun s a b t h=>h.1;unfold accS RelP;rw[e1,e0];constructor
 ·rintro⟨t,h1,h2⟩
  obtain⟨s,rfl,z,h3⟩:=B3d.1 h1;have:=B1z hal h3;subst this;exact⟨t,h2,h3⟩
 ·rintro⟨t,h2,h3⟩
  exact⟨t,B3d.2 ⟨0,rfl,y,h3⟩,h2⟩
theorem C71{w i j s t:Nat}(hi:i<w)(hj:j<w)(h:s*w+i=t*w+j):s=t∧i=j:=by
 have h1:(s*w+i)/w=s:=by rw[Nat.mul_comm,Nat.mul_add_div (by omega),Nat.div_eq_of_lt hi];omega
 have h2:(t*w+j)/w=t:=by rw[Nat.mul_comm,Nat.mul_add_div (by omega),Nat.div_eq_of_lt hj];omega
 rw[h]at h1;have h3:s=t:=by omega
 subst h3;exact⟨rfl,by omega⟩
theorem A68{x:List ByteArray}{l:List ArcD}{a:ArcD}{j:Nat}:(a,j)∈A0g x l↔a∈l∧j<x.length+1∧(A2w x j a.inn).2=true:=by
 unfold A0g imgL;rw[List.mem_flatMap];constructor
 ·rintro⟨b,h1,h2⟩
  obtain⟨k,h3,h4⟩:=List.mem_map.1 h2;obtain⟨h5,h6⟩:=List.mem_filter.1 h3;obtain⟨rfl,rfl⟩:=Prod.mk.inj h4;exact⟨h1,List.mem_range.1 h5,h6⟩
 ·rintro⟨h1,h2,h3⟩
  exact⟨a,h1,List.mem_map.2 ⟨j,List.mem_filter.2 ⟨List.mem_range.2 h2,h3⟩,rfl⟩⟩
theorem B6r(x:List ByteArray):∀l:List ArcD,(A0g x l).length≤l.length*(x.length+1)
 | []=>by simp[A0g]
 | a :: l=>by
  have ih:=B6r x l;have h1:(imgL x a (x.length+1)).length≤x.length+1:=by
   unfold imgL;rw[List.length_map];exact Nat.le_trans (List.length_filter_le _ _) (by simp)
  show (imgL x a (x.length+1)++A0g x l).length≤_;rw[List.length_append,List.length_cons,Nat.succ_mul];omega
section
variable {N:NetD} {x:List ByteArray}
theorem B7z(hok:A1q N){i s:Nat}(hi:i≤x.length)(hs:s<N.states.toNat)(a b:Option ByteArray)(k:Nat):
  edA (A2j N x (A0g x N.arcs)) (s*(x.length+1)+i) a b k↔∃j t,k=t*(x.length+1)+j∧t<N.states.toNat∧j≤x.length∧imgA (A78 N) x (i,s) a b (j,t):=by
 constructor
 ·rintro⟨rfl,z,hz,r,hr,hm⟩
  obtain⟨⟨c,j⟩,h1,h2,h3⟩:=(A1p hr _).1 hm;obtain⟨h4,h5,h6⟩:=A68.1 h1;obtain⟨q1,q2,q3,q4,_⟩:=hok.arc c h4;obtain⟨s',hs'⟩:∃s':Nat,c.fr=(s':Int):=⟨c.fr.toNat,by omega⟩
  unfold imgK at h2;simp only[hs']at h2;have h2':s'*(x.length+1)+j=s*(x.length+1)+i:=by
   have:((s'*(x.length+1)+j:Nat):Int)=((s*(x.length+1)+i:Nat):Int):=by rw[←h2];simp only[Int.natCast_add,Int.natCast_mul]
   exact Int.ofNat.inj this
  obtain⟨rfl,rfl⟩:=C71 h5 (by omega) h2';obtain⟨h7,h8⟩:=Prod.mk.inj h3;have hlt:=B1w x (j:=j) c.inn h5 h6;exact⟨(A2w x j c.inn).1,c.to.toNat,h8.symm,by omega,by omega,rfl,labT c.inn,⟨c,h4,hs',rfl,by rw[←hz,←h7],by simp only;omega⟩,B8h.2 ⟨h6,rfl⟩⟩
 ·rintro⟨j,t,rfl,ht,hj,h1,c0,⟨c,h2,h3,h4,h5,h6⟩,h7⟩
  simp only at h1 h3 h5 h6 h7;subst h4;obtain⟨h8,h9⟩:=B8h.1 h7;have hlt:s*(x.length+1)+i<N.states.toNat*(x.length+1):=mul_lt hs (by omega);have hr:=A8h (key:=imgK x) (f:=imgF x) (l:=A0g x N.arcs) hlt;refine⟨h1,c.out,h5,_,hr,(A1p hr _).2 ⟨(c,i),A68.2 ⟨h2,by omega,h8⟩,?_,?_⟩⟩
  ·unfold imgK
   simp only[h3,Int.natCast_add,Int.natCast_mul]
  ·unfold imgF
   simp only[h9];rw[h6,Int.toNat_natCast]
theorem C4j(hok:A1q N){i s:Nat}(hi:i≤x.length)(hs:s<N.states.toNat):(imgM N x N.ends)[s*(x.length+1)+i]?=some true↔i=x.length∧N.isEnd s:=by
 have hlt:s*(x.length+1)+i<N.states.toNat*(x.length+1):=mul_lt hs (by omega);unfold imgM NetD.isEnd;rw[A9w hlt,Option.some.injEq,List.any_eq_true];constructor
 ·rintro⟨e,h1,h2⟩
  have h2:=of_decide_eq_true h2;obtain⟨q1,q2⟩:=hok.fin e h1;obtain⟨s',hs'⟩:∃s':Nat,e.state=(s':Int):=⟨e.state.toNat,by omega⟩
  unfold C19 at h2;rw[hs']at h2;have h2':s'*(x.length+1)+x.length=s*(x.length+1)+i:=by
   have:((s'*(x.length+1)+x.length:Nat):Int)=((s*(x.length+1)+i:Nat):Int):=by rw[←h2];simp only[Int.natCast_add,Int.natCast_mul]
   exact Int.ofNat.inj this
  obtain⟨rfl,h4⟩:=C71 (by omega) (by omega) h2';exact⟨h4.symm,e,h1,hs'⟩
 ·rintro⟨rfl,e,h1,h2⟩
  refine⟨e,h1,decide_eq_true ?_⟩;unfold C19;rw[h2];simp only[Int.natCast_add,Int.natCast_mul]
theorem imgR_rel(hok:A1q N)(y:List ByteArray):RelP (edA (A2j N x (A0g x N.arcs))) (fun s=>(imgM N x N.ends)[s]?=some true) y y↔A3k N x y:=by
 have hn:0<N.states.toNat:=by have:=hok.st1;omega
 have g0:(0:Nat)*(x.length+1)+0=0:=by simp
 have hi:=C28 (A:=A78 N) (F:=N.isEnd) x y y;have hp:A3k N x y↔∃t,N.isEnd t∧Sh.Way (imgA (A78 N) x) (0,0) y y (x.length,t):=by
  rw[hi];exact⟨fun h=>⟨rfl,h⟩,fun h=>h.2⟩
 rw[hp];constructor
 ·rintro⟨k,h1,h2⟩
  rw[←g0]at h2;obtain⟨⟨j,t⟩,rfl,⟨h3,h4⟩,h5⟩:=Way.pull (A:=imgA (A78 N) x) (g:=fun p:Nat×Nat=>p.2*(x.length+1)+p.1) (Q:=fun p=>p.1≤x.length∧p.2<N.states.toNat) (fun p a b k hp hb=>by
   obtain⟨j,t,h3,h4,h5,h6⟩:=(B7z hok hp.1 hp.2 a b k).1 hb;exact⟨(j,t),h3,⟨h5,h4⟩,h6⟩) (s:=(0,0)) h2 ⟨Nat.zero_le _,hn⟩
  obtain⟨h6,h7⟩:=(C4j hok h3 h4).1 h1;subst h6;exact⟨t,h7,h5⟩
 ·rintro⟨t,h1,h2⟩
  have ht:t<N.states.toNat:=by
   obtain⟨e,h3,h4⟩:=h1;have:=hok.fin e h3;omega
  have h3:=B21 (B:=edA (A2j N x (A0g x N.arcs))) (g:=fun p:Nat×Nat=>p.2*(x.length+1)+p.1) (Q:=fun p=>p.1≤x.length∧p.2<N.states.toNat) (fun p a b q hp hb=>by
   have hq:q.1≤x.length∧q.2<N.states.toNat:=by
    obtain⟨_,c,⟨d,h4,_,_,_,h5⟩,h6⟩:=hb;have:=hok.arc d h4;exact⟨B4w h6 hp.1,by omega⟩
   exact⟨hq,(B7z hok hp.1 hp.2 a b _).2 ⟨q.1,q.2,rfl,hq.2,hq.1,hb⟩⟩) h2 ⟨Nat.zero_le _,hn⟩
  simp only[g0]at h3;exact⟨_,(C4j hok (Nat.le_refl _) ht).2 ⟨rfl,h1⟩,h3⟩
theorem B3u(hok:A1q N)(y:List ByteArray):accS (A3e (A2j N x (A0g x N.arcs)) A0b) (symE (A2j N x (A0g x N.arcs))) (fun s=>(imgM N x N.ends)[s]?=some true) (Clo (A3e (A2j N x (A0g x N.arcs)) A0b) fun s=>s=0) y↔A3k N x y:=by
 rw[acc_ed,imgR_rel hok]
theorem imgR_all(hok:A1q N):A9i N.sigma (A2j N x (A0g x N.arcs)) (imgM N x N.ends) 61=A9t N (A3k N x):=
 B9g fun u hu=>B3u hok u
theorem C4h(hok:A1q N)(z:ByteArray)(s t:Nat)(h:A3e (A2j N x (A0g x N.arcs)) z s t):z=A0b∨z∈N.sigma:=by
 obtain⟨r,hr,hm⟩:=h;obtain⟨⟨c,j⟩,h1,h2,h3⟩:=(A1p hr _).1 hm;obtain⟨h7,h8⟩:=Prod.mk.inj h3;rw[←h7];exact(hok.arc c (A68.1 h1).1).2.2.2.2.2
theorem C7x(hok:A1q N):A3o (A3e (A2j N x (A0g x N.arcs)) A0b) (anyE (A2j N x (A0g x N.arcs))) (fun s=>(imgM N x N.ends)[s]?=some true) 61 0↔A9s N (A3k N x):=by
 rw[A63];constructor
 ·rintro⟨j,hj⟩
  obtain⟨w,⟨h1,h2⟩,h3⟩:=A62 (A:=symE (A2j N x (A0g x N.arcs))) (q:=fun z=>z∈N.sigma) (fun s t ⟨z,hz,h⟩=>⟨z,(C4h hok z s t h).resolve_left hz,hz,h⟩) (S:=Clo (A3e (A2j N x (A0g x N.arcs)) A0b) fun s=>s=0) (fun a b h1 h2=>.step h1 h2) ⟨0,.base rfl,hj⟩;exact⟨w,by omega,h2,(B3u hok w).1 h3⟩
 ·rintro⟨w,h1,h2,h3⟩
  obtain⟨s,h4,h5⟩:=A6q (any:=anyE (A2j N x (A0g x N.arcs))) B8w ((B3u hok w).2 h3);exact⟨w.length-61,by rw[show 61+(w.length-61)=w.length by omega];exact A0v h4 h5⟩
theorem C5t(hok:A1q N)(hx:x.length≤60):((A2j N x (A0g x N.arcs)).map List.length).sum≤16000000:=by
 have h1:((A2j N x (A0g x N.arcs)).map List.length).sum≤(A0g x N.arcs).length:=C2t;have h2:=B6r x N.arcs;have h3:N.arcs.length*(x.length+1)≤60000*61:=Nat.mul_le_mul hok.ar (by omega);omega
end
def C03(H H':AH)(r:Value)(o:List (List ByteArray)×Bool×Int):Prop:=Kept H H'∧∃lv,r=.tuple #[lv,.bool o.2.1,.int .i64 o.2.2]∧∃vs,JagR H' lv 1 (o.1.map strRow) vs
theorem A5s{H:AH}:∃vs,JagR H (.slice none 0 0) 1 (([]:List (List ByteArray)).map strRow) vs:=⟨[],Sl.nil _ _,rfl,fun i w r hi=>by simp at hi⟩
theorem C0i{H:AH}{v ux:Value}{N:NetD}{x:List ByteArray}{most:Int}{fid:Nat}(f:GE→Int×Int)(S:List ByteArray→Prop)(hp:∀{H:AH} (e:GE),Wf H→Sh.Call Tryz.prog (knows 7) fid [.agg (A6c e).toArray] H (fun r H'=>Kept H H'∧r=.tuple #[.int .i64 (f e).1,.int .i64 (f e).2]))
  (hf:∀{m:Int} (e:GE),0≤m→e.2.1<m→e.2.2.1<m→(f e).1<m∧(f e).2<m)
  (hS:A1q N→(∀z∈x,z∈N.sigma)→∀u:List Nat,(∀k∈u,k<N.sigma.length)→(RelP (A8m (A2p f (A1l N))) (endP (A8j N N.ends)) (x.map (ixN N.sigma)) u↔S (textOf N.sigma u)))
  (hS0:A1q N→∀w,S w→∀z∈x,z∈N.sigma)
  (h:A8v H v N) (hsm:A3g N) (hx:Sl H ux 1 (x.map A7a)) (hxl:x.length≤1048576) (hxx:∀z∈x,z.size≤1048576) (hw:Wf H):
  Sh.Call Tryz.prog (knows 7) 17 [v,ux,.int .i64 most,.agg #[.func (.func fid) #[] #[]]] H (fun r H'=>C03 H H' r (A0f N x most S)):=by
 refine A3a rfl Tryz.func17 rfl (Nat.le_of_ble_eq_true rfl) ?_;have hres:Tryz.f17.results.toList=[.tmp 8,.tmp 9,.tmp 10]:=rfl;obtain⟨sg,ar,en,rfl,hsg,har,hen⟩:=h;have hb1:=NetBox.of (N:=N) hw hsg har hen;have k1:Kept H (H.new 4 [sg,.int .i64 N.states,ar,en]).2:=Kept.new hw 4 _;simp only[↓Sh.dn,sx,Nat.reduceEqDiff,A3u hsg.isCell har.isCell hen.isCell];generalize H.next=gg at hb1 ⊢;generalize (H.new 4 [sg,.int .i64 N.states,ar,en]).2=H1 at hb1 k1 ⊢;have hc:isCell (Value.func (.func fid) #[] #[])=true:=rfl;have ks:=Kept.new k1.wf 1 [Value.func (.func fid) #[] #[]];have cs2:(H1.new 1 [Value.func (.func fid) #[] #[]]).2.cells ⟨H1.next,0,some 0⟩ 1=some [Value.func (.func fid) #[] #[]]:=(Sh.Obj.new (H:=H1) 1 _).cells (i:=0) (n:=1) (by simp);have hb2:=hb1.kept k1.wf ks;have k2:=k1.trans ks;simp only[sx,B7m hc];generalize H1.next=gs at cs2 ⊢;generalize (H1.new 1 [Value.func (.func fid) #[] #[]]).2=H2 at cs2 hb2 k2 ks ⊢;obtain⟨r4,H4,hd4,k4,rfl⟩:=C0a hb2.netAt hsm k2.wf;simp only[sx,hb2.ca];refine⟨_,_,hd4,?_⟩;have k24:=k2.trans k4;by_cases hE:A9j N=0
 case neg=>
  have e1:A0f N x most S=([],false,A9j N):=by unfold A0f;rw[if_pos hE]
  simp only[↓Sh.dn,sx,Nat.reduceEqDiff,hE,decide_false,hres,e1];exact⟨k24,_,rfl,A5s⟩
 obtain⟨okN,_,_⟩:=A3t hE;obtain⟨r5,H5,hd5,k5,rfl⟩:=symsWord (hx.grow (k24.grow hw)) hxl hxx k24.wf;have k25:=k24.trans k5;have k45:=k4.trans k5;simp only[↓Sh.dn,sx,Nat.reduceEqDiff,hE,decide_true];refine⟨_,_,hd5,?_⟩;by_cases hX:A8k x=0
 case neg=>
  have e1:A0f N x most S=([],false,A8k x):=by unfold A0f;rw[if_neg (by simpa using hE),if_pos hX]
  simp only[↓Sh.dn,sx,Nat.reduceEqDiff,hX,decide_false,hres,e1];exact⟨k25,_,rfl,A5s⟩
 have hb5:=hb2.kept k2.wf k45;have cs5:=A0n (k45.grow k2.wf) cs2;simp only[↓Sh.dn,sx,Nat.reduceEqDiff,hX,decide_true];by_cases h1:most<1
 ·have e1:A0f N x most S=([],false,1):=by unfold A0f;rw[if_neg (by simpa using hE),if_neg (by simpa using hX),if_pos (.inl h1)]
  simp only[↓Sh.dn,sx,Nat.reduceEqDiff,h1,decide_true,hres,e1];exact⟨k25,_,rfl,A5s⟩
 by_cases h2:200<most
 ·have e1:A0f N x most S=([],false,1):=by unfold A0f;rw[if_neg (by simpa using hE),if_neg (by simpa using hX),if_pos (.inr h2)]
  simp only[↓Sh.dn,sx,Nat.reduceEqDiff,h1,h2,decide_false,decide_true,hres,e1];exact⟨k25,_,rfl,A5s⟩
 by_cases h3:300<N.states
 ·have e1:A0f N x most S=([],false,3):=by unfold A0f;rw[if_neg (by simpa using hE),if_neg (by simpa using hX),if_neg (by omega),if_pos h3]
  simp only[↓Sh.dn,sx,Nat.reduceEqDiff,h1,h2,decide_false,hb5.c1,h3,decide_true,hres,e1];exact⟨k25,_,rfl,A5s⟩
 have e1:=B1q (S:=S) hE hX (show ¬(most<1∨200<most) by omega) h3;have hx60:=C3m hX;have a1:=okN.st1;have hsz:(x.length+1)*N.states.toNat≤100000:=Nat.le_trans (Nat.mul_le_mul (show x.length+1≤61 by omega) (show N.states.toNat≤300 by omega)) (by decide);obtain⟨r7,H7,hd7,k7,hno,hyes⟩:=relImgW f hp hf hb5.netAt hsm hE (hx.grow (k25.grow hw)) hx60 hsz k25.wf;have k27:=k25.trans k7;simp only[↓Sh.dn,sx,Nat.reduceEqDiff,h1,h2,h3,decide_false,hb5.c1,hb5.ca,cs5];refine⟨_,_,hd7,?_⟩;cases hax:x.all (A3n N.sigma) with
 | false=>
  have hr:=hno hax;subst hr;have e2:A7i (A9t N S) (A9s N S) most.toNat=([],false,0):=B7u fun w hw=>by
   have:=hS0 okN w hw;rw[Bool.eq_false_iff]at hax;exact hax (List.all_eq_true.2 fun z hz=>A3h.2 (this z hz))
  simp only[↓Sh.dn,sx,Nat.reduceEqDiff,hres,e1,e2];exact⟨k27,_,rfl,A5s⟩
 | true=>
  obtain⟨g,rfl,X,R,es,cs,m,hX7,hI⟩:=hyes hax;have hxm:∀z∈x,z∈N.sigma:=fun z hz=>A3h.1 (List.all_eq_true.1 hax z hz);have hS':=hS okN hxm;obtain⟨sv,av,ev,cv,vals,hR⟩:=hX7.read;have hPG:PG H7 g m 60000 R es sv av ev cv vals N.sigma cs:=⟨hR,hI.le,hI.ln,hI.n1,Nat.le_trans hI.n2 hsz,fun s r hr=>⟨hI.row r (List.mem_of_getElem? hr),fun e he=>(hI.to r (List.mem_of_getElem? hr) e he).1⟩⟩
  obtain⟨mm,rfl⟩:∃mm:Nat,most=(mm:Int):=⟨most.toNat,by omega⟩
  obtain⟨r8,H8,hd8,k8,lv,rfl,vs,hJ⟩:=C7s (most:=mm) hPG (fun s r hr e he=>(hI.to r (List.mem_of_getElem? hr) e he).2.1) (by have:=sigShort okN;omega) (by omega) (by omega) k7.wf;rw[C15 hI hS',propext (img_long hI hS')]at hJ hd8;simp only[↓Sh.dn,sx,Nat.reduceEqDiff];refine⟨_,_,hd8,?_⟩;rw[Int.toNat_natCast]at e1;simp only[sx,Nat.reduceEqDiff,hres,e1];exact⟨k27.trans k8,lv,rfl,vs,hJ⟩
theorem relDown{H:AH}{v ux:Value}{N:NetD}{x:List ByteArray}{most:Int}(h:A8v H v N)(hsm:A3g N)(hx:Sl H ux 1 (x.map A7a))(hxl:x.length≤1048576)(hxx:∀z∈x,z.size≤1048576)(hw:Wf H):
  Sh.Call Tryz.prog (knows 7) 8 [v,ux,.int .i64 most] H (fun r H'=>C03 H H' r (A0f N x most (A3k N x))):=by
 refine A3a rfl Tryz.func8 rfl (Nat.le_of_ble_eq_true rfl) ?_;have hres:Tryz.f8.results.toList=[.tmp 6,.tmp 7,.tmp 8]:=rfl;obtain⟨sg,ar,en,rfl,hsg,har,hen⟩:=h;have hb1:=NetBox.of (N:=N) hw hsg har hen;have k1:Kept H (H.new 4 [sg,.int .i64 N.states,ar,en]).2:=Kept.new hw 4 _;simp only[↓Sh.dn,sx,A3u hsg.isCell har.isCell hen.isCell];generalize H.next=gg at hb1 ⊢;generalize (H.new 4 [sg,.int .i64 N.states,ar,en]).2=H1 at hb1 k1 ⊢;obtain⟨r2,H2,hd2,k2,rfl⟩:=B7v k1.wf;have hb2:=hb1.kept k1.wf k2;obtain⟨r3,H3,hd3,k3,lv,rfl,vs,hJ⟩:=C0i (most:=most) fStr (A3k N x) (fun e hw=>B90 hw) (fun e _ h1 h2=>⟨h1,h2⟩) (fun ok hm u hu=>C7z ok hm u hu) (fun ok w hp=>(B7f ok hp).1) hb2.netAt hsm (hx.grow ((k1.trans k2).grow hw)) hxl hxx (k1.trans k2).wf;have hvqN:veq (.agg #[sg,.int .i64 N.states,ar,en]) (.agg #[sg,.int .i64 N.states,ar,en])=true:=B5e (by simp only[A4z,A35,A9q,hsg.veq,har.veq,hen.veq,Bool.and_self]);have hvx:=hx.veq;refine A05 (fl:=[(0,false),(1,true),(2,true),(3,false),(4,true),(5,true),(6,true),(7,true),(8,true),(9,true),(10,true)]) (by kernel_rfl) (by kernel_rfl) k1.wf ?_;simp only[↓Sh.dn,sx,reduceCtorEq,Nat.reduceEqDiff,wpg,C8b,isEff,A2e,isRead,forall_eq',hb1.ca,hvqN];refine⟨_,_,hd2,k2.wf,k2.grow k1.wf,?_⟩;refine⟨_,_,hd3,k3.wf,?_⟩;simp only[sx,Nat.reduceEqDiff,hres];exact⟨(k1.trans k2).trans k3,lv,rfl,vs,hJ⟩
theorem relUp{H:AH}{v ux:Value}{N:NetD}{x:List ByteArray}{most:Int}(h:A8v H v N)(hsm:A3g N)(hx:Sl H ux 1 (x.map A7a))(hxl:x.length≤1048576)(hxx:∀z∈x,z.size≤1048576)(hw:Wf H):
  Sh.Call Tryz.prog (knows 7) 11 [v,ux,.int .i64 most] H (fun r H'=>C03 H H' r (A0f N x most fun y=>A3k N y x)):=by
 refine A3a rfl Tryz.func11 rfl (Nat.le_of_ble_eq_true rfl) ?_;have hres:Tryz.f11.results.toList=[.tmp 6,.tmp 7,.tmp 8]:=rfl;obtain⟨sg,ar,en,rfl,hsg,har,hen⟩:=h;have hb1:=NetBox.of (N:=N) hw hsg har hen;have k1:Kept H (H.new 4 [sg,.int .i64 N.states,ar,en]).2:=Kept.new hw 4 _;simp only[↓Sh.dn,sx,A3u hsg.isCell har.isCell hen.isCell];generalize H.next=gg at hb1 ⊢;generalize (H.new 4 [sg,.int .i64 N.states,ar,en]).2=H1 at hb1 k1 ⊢;obtain⟨r2,H2,hd2,k2,rfl⟩:=C99 k1.wf;have hb2:=hb1.kept k1.wf k2;obtain⟨r3,H3,hd3,k3,lv,rfl,vs,hJ⟩:=C0i (most:=most) C09 (fun y=>A3k N y x) (fun e hw=>sideTurn hw) (fun e _ h1 h2=>⟨h2,h1⟩) (fun ok hm u hu=>C9z ok hm u hu) (fun ok w hp=>(B7f ok hp).2) hb2.netAt hsm (hx.grow ((k1.trans k2).grow hw)) hxl hxx (k1.trans k2).wf;have hvqN:veq (.agg #[sg,.int .i64 N.states,ar,en]) (.agg #[sg,.int .i64 N.states,ar,en])=true:=B5e (by simp only[A4z,A35,A9q,hsg.veq,har.veq,hen.veq,Bool.and_self]);have hvx:=hx.veq;refine A05 (fl:=[(0,false),(1,true),(2,true),(3,false),(4,true),(5,true),(6,true),(7,true),(8,true),(9,true),(10,true)]) (by kernel_rfl) (by kernel_rfl) k1.wf ?_;simp only[↓Sh.dn,sx,reduceCtorEq,Nat.reduceEqDiff,wpg,C8b,isEff,A2e,isRead,forall_eq',hb1.ca,hvqN];refine⟨_,_,hd2,k2.wf,k2.grow k1.wf,?_⟩;refine⟨_,_,hd3,k3.wf,?_⟩;simp only[sx,Nat.reduceEqDiff,hres];exact⟨(k1.trans k2).trans k3,lv,rfl,vs,hJ⟩
section
variable {E:List (List GE)} {ends costs:List Int} {n:Nat}
end
def B2l(a:ArcD):ArcD:={ a with inn:=a.out,out:=a.inn }
def A20(N:NetD):NetD:={ N with arcs:=N.arcs.map B2l }
theorem B8z{N:NetD}(s:Nat)(a b:Option ByteArray)(t:Nat):A78 (A20 N) s a b t↔A78 N s b a t:=by
 unfold A78 A20;constructor
 ·rintro⟨c,hc,h1,h2,h3,h4⟩
  obtain⟨c0,h5,rfl⟩:=List.mem_map.1 hc;exact⟨c0,h5,h1,h3,h2,h4⟩
 ·rintro⟨c,hc,h1,h2,h3,h4⟩
  exact⟨B2l c,List.mem_map.2 ⟨c,hc,rfl⟩,h1,h3,h2,h4⟩
theorem C72{N:NetD}(x y:List ByteArray):A3k (A20 N) x y↔A3k N y x:=by
 unfold A3k RelP;refine exists_congr fun t=>and_congr Iff.rfl ⟨fun h=>?_,fun h=>?_⟩
 ·exact h.swap fun s a b t hs=>(B8z _ _ _ _).1 hs
 ·exact h.swap fun s a b t hs=>(B8z _ _ _ _).2 hs
section
variable {α:Type} {A:Arcs Nat α} {F:Nat→Prop}
end
section
variable {N:NetD}
end
theorem C2v{N:NetD}(h:A3g N):A3g (A20 N):=⟨h.sg,by unfold A20;simp only[List.length_map];exact h.ar,h.en,h.sx⟩
theorem B4z{H:AH}{v:Value}{N:NetD}(h:A8v H v N)(hsm:A3g N)(hw:Wf H):
  Sh.Call Tryz.prog (knows 7) 25 [v] H (fun r H'=>Kept H H'∧Nonempty (A8v H' r (A20 N))):=by
 refine A3a rfl Tryz.func25 rfl (Nat.le_of_ble_eq_true rfl) ?_;have hres:Tryz.f25.results.toList=[.cell 2 26]:=rfl;obtain⟨sg,ar,en,rfl,hsg,har,hen⟩:=h;have hb1:=NetBox.of (N:=N) hw hsg har hen;have hk1:Kept H (H.new 4 [sg,.int .i64 N.states,ar,en]).2:=Kept.new hw 4 _;simp only[↓Sh.dn,sx,Nat.reduceEqDiff,A3u hsg.isCell har.isCell hen.isCell,netZero];generalize H.next=gg at hb1 ⊢;generalize (H.new 4 [sg,.int .i64 N.states,ar,en]).2=H1 at hb1 hk1 ⊢;have sl:Slot (H1.new 4 [.slice none 0 0,.int .i64 0,.slice none 0 0,.slice none 0 0]).2 H1.next:=Slot.new;have k3:=hk1.news 4 [.slice none 0 0,.int .i64 0,.slice none 0 0,.slice none 0 0];have hb3:=hb1.new hk1.wf 4 [.slice none 0 0,.int .i64 0,.slice none 0 0,.slice none 0 0];have gol:H.next≤H1.next:=hk1.next;generalize H1.next=go at sl gol ⊢;generalize (H1.new 4 [.slice none 0 0,.int .i64 0,.slice none 0 0,.slice none 0 0]).2=H3 at sl k3 hb3 ⊢;clear hb1 hk1 H1;have va:∀xs:Array Value,A6a (.agg xs)=xs.toList:=fun _=>rfl;have isg:=hb3.hsg.isCell;have ien:=hb3.hen.isCell;have bq:A3s Tryz.prog 26 [(0,sg),(1,.int .i64 N.states),(3,en)]=some (.agg #[sg,.int .i64 N.states,.slice none 0 0,en]):=by
  have hci:isCell (.int .i64 N.states)=true:=rfl;refine A6m (pl:=[(0,1),(1,1),(2,1),(3,1)]) Tryz.underlying26 B0g (by kernel_rfl) ?_;simp[A12,va,A4b isg,A4b hci,A4b ien,isg,hci,ien,setCells,A3c]
 have kn:=Kept.new k3.wf 4 [sg,.int .i64 N.states,.slice none 0 0,en];have ob:=(Sh.Obj.new (H:=H3) 4 [sg,.int .i64 N.states,.slice none 0 0,en]).arr;have xb:H3.next<(H3.new 4 [sg,.int .i64 N.states,.slice none 0 0,en]).2.next:=Nat.lt_succ_self _;simp only[sx,hb3.c0,hb3.c1,hb3.c3,bq,netStore (H:=(H3.new 4 [.slice none 0 0,.int .i64 0,.slice none 0 0,.slice none 0 0]).2) (sg:=sg) (ar:=.slice none 0 0) (en:=en) isg rfl ien,netOver];obtain⟨base,hbase⟩:∃b,H3.next=b:=⟨_,rfl⟩
 rw[hbase]at ob xb
 try simp only[hbase]
 generalize (H3.new 4 [sg,.int .i64 N.states,.slice none 0 0,en]).2=H4 at kn ob xb ⊢;have hsa:=hsm.ar;refine A5c N.arcs.length 4 (List.range' 13 24++[4,5]) (fun i F H'=>Kept H3 H'∧∃av oa,Arr H' base 0 4 [sg,.int .i64 N.states,av,en]∧Buf H' 5 av (((N.arcs.take i).map B2l).map ArcD.cells) oa∧∀y,oa=some y→base<y) (by simp only[sx]) ⟨kn,_,none,ob,.void none,fun y hy=>by cases hy⟩ ?_ ?_
 ·rintro i F H' hi hF f4 ⟨hk,av,oa,hA,hB,hoa⟩ k
  have f1:=hF 1 rfl;have f3:=hF 3 rfl;simp only[sx,Nat.reduceEqDiff]at f1 f3;have hb':=hb3.kept k3.wf hk;obtain⟨g,o,kk,hia,hc,_⟩:=hb'.har.at Tryz.underlying23 A7q (i:=i) (x:=N.arcs[i].cells) (by simp[hi]) .i64;have htk:N.arcs.take (i+1)=N.arcs.take i++[N.arcs[i]]:=by rw[List.take_add_one,List.getElem?_eq_getElem hi];rfl
  generalize N.arcs[i]=a at hc htk;have kn5:=Kept.new hk.wf 5 a.cells;have o5:=(Sh.Obj.new (H:=H') 5 a.cells).arr;have hgl:=hA.lt hk.wf;have hx':=hk.next;obtain⟨H6,w6,ar6,v6,z6⟩:=o5.write kn5.wf (i:=1) (vs:=[.string a.out]) (by simp[ArcD.cells]);obtain⟨H7,w7,ar7,v7,z7⟩:=ar6.write z6.wf (i:=2) (vs:=[.string a.inn]) (by simp[ArcD.cells,setCells]);have sc7:setCells (setCells a.cells 1 [.string a.out]) 2 [.string a.inn]=(B2l a).cells:=rfl;rw[sc7]at ar7;have s6:A0e Tryz.prog 9 (H'.new 5 a.cells).2 (.string a.out) (.pointer (some ⟨H'.next,1,some 0⟩))=some H6:=by rw[A0c A4i rfl,w6]
  have s7:A0e Tryz.prog 9 H6 (.string a.inn) (.pointer (some ⟨H'.next,2,some 0⟩))=some H7:=by rw[A0c A4i rfl,w7]
  have ca7:H7.cells ⟨H'.next,0,some 0⟩ 5=some (B2l a).cells:=ar7.cells (i:=0) (n:=5) (by simp[ArcD.cells]);have z67:Chg (fun y=>y=H'.next) (H'.new 5 a.cells).2 H7:=z6.trans z7;have hk7:Kept H' H7:=kn5.then (Nat.le_refl _) (z67.weak fun y hy=>by omega);have hA7:=hA.keep (hk7.old base hgl);have hB7:=hB.kept hk.wf hk7;have c2:=hA7.cell 2;have c2':H7.cell ⟨base,2,some 0⟩=some av:=c2;obtain⟨b,cap,av8,H8,oa8,rfl,e1,e2,e3,e4⟩:=hB7.push hk7.wf (x:=(B2l a).cells) rfl;rw[List.length_map,List.length_map,List.length_take_of_le (Nat.le_of_lt hi)]at e1 c2';have hbs:=D3b (H:=H7) (x:=.agg (B2l a).cells.toArray) rfl rfl;simp only[va]at hbs;have ha:=app1_23 (H:=H7) (base:=b) (len:=i) (cap:=cap) (x:=(B2l a).cells) rfl (by omega);rw[e1]at ha;have hgl7:=hA7.lt hk7.wf;have hA8:=hA7.keep (e3.old base hgl7 fun hy=>by have:=hoa base hy;omega);obtain⟨H9,w9,ar9,v9,z9⟩:=hA8.write e3.wf (i:=2) (vs:=[av8]) (by simp);have sc9:∀z:Value,setCells [sg,.int .i64 N.states,z,en] 2 [av8]=[sg,.int .i64 N.states,av8,en]:=fun _=>rfl;rw[sc9]at ar9;have s9:A0e Tryz.prog 23 H8 av8 (.pointer (some ⟨base,2,some 0⟩))=some H9:=by rw[A0c C1w e2.isCell,w9]
  have e4':∀y,oa8=some y→base<y:=fun y hy=>by
   rcases e4 y hy with h1|h1
   ·exact hoa y h1
   ·have:=hk7.next;omega
  simp only[↓Sh.dn,sx,Nat.reduceEqDiff,f1,f3,f4,hb'.c2,A2o hb',A1a,hi,decide_true,hia,hc,A18,A51,A67,arc1,arc2,s6,s7,ca7,c2',hbs,ha,s9,A2a hi (by omega)];refine k _ _ (by repeat (first|refine Same.put ?_ rfl|exact Same.rfl' _)) (by simp only[sx]) ⟨((hk.trans hk7).then (Nat.le_refl _) (e3.weak fun y hy=>by have:=hoa y hy;omega)).then (Nat.le_refl _) (z9.weak fun y hy=>by omega),av8,oa8,ar9,?_,e4'⟩;rw[htk,List.map_append,List.map_append];exact e2.chg e3.wf z9 fun y hy h=>by have:=e4' y hy;omega
 ·rintro F H' hF f4 ⟨hk,av,oa,hA,hB,hoa⟩
  have f1:=hF 1 rfl;have f2:=hF 2 rfl;have f3:=hF 3 rfl;simp only[sx,Nat.reduceEqDiff]at f1 f2 f3;have hb':=hb3.kept k3.wf hk;rw[List.take_length]at hB;have ca:H'.cells ⟨base,0,some 0⟩ 4=some [sg,.int .i64 N.states,av,en]:=hA.cells (i:=0) (n:=4) (by simp);obtain⟨H5,s5,c5,z5,x5⟩:=sl.put hk isg (show isCell (.int .i64 N.states)=true from rfl) hB.isCell ien;have hgl:=sl.lt;have hk5:Kept H H5:=(k3.trans hk).then gol (z5.weak fun y hy=>by omega);simp only[↓Sh.dn,sx,Nat.reduceEqDiff,f1,f2,f3,f4,hb'.c2,A2o hb',A1a,Nat.lt_irrefl,decide_false,ca,s5,hres,c5];have hB5:=hB.chg hk.wf z5 fun y hy h=>by have:=hoa y hy;omega
  exact⟨hk5,⟨⟨sg,av,en,rfl,hsg.grow (hk5.grow hw),hB5.toSl,hen.grow (hk5.grow hw)⟩⟩⟩
theorem C7g(p q:ArcD→Bool)(h:∀a,p (B2l a)=q a):∀l:List ArcD,(l.map B2l).any p=l.any q
 | []=>rfl
 | a :: l=>by rw[List.map_cons,List.any_cons,List.any_cons,h,C7g p q h l]
theorem C2a(N:NetD):A9j (A20 N)=A9j N:=by
 have e1:(A20 N).arcs.any (A2h (A20 N))=N.arcs.any (A2h N):=by
  refine C7g _ _ (fun a=>?_) _;unfold A2h A5j A20 B2l;simp only[Bool.or_assoc];rw[Bool.or_comm (!decide (a.out=⟨#[]⟩)&&!A3n N.sigma a.out)]
 have e2:A2g (A20 N)=A2g N:=by
  unfold A2g;rw[e1];unfold A2n A20;simp only[List.length_map];rfl
 have e3:NetD.free (A20 N)=NetD.free N:=by
  unfold NetD.free A20;simp only[List.all_map];rfl
 unfold A9j;rw[e2,e3]
theorem C0z(N:NetD)(x:List ByteArray)(most:Int):A0f (A20 N) x most (A3k (A20 N) x)=A0f N x most fun y=>A3k N y x:=by
 have e:A3k (A20 N) x=fun y=>A3k N y x:=funext fun y=>propext (C72 x y);unfold A0f;rw[C2a,e];rfl
theorem C8y{H:AH}{v ux:Value}{N:NetD}{x:List ByteArray}{most:Int}(h:A8v H v N)(hsm:A3g N)(hx:Sl H ux 1 (x.map A7a))(hxl:x.length≤1048576)(hxx:∀z∈x,z.size≤1048576)(hw:Wf H):
  Sh.Call Tryz.prog (knows 7) 9 [v,ux,.int .i64 most] H (fun r H'=>C03 H H' r (A0f N x most (A3k N x))):=by
 refine A3a rfl Tryz.func9 rfl (Nat.le_of_ble_eq_true rfl) ?_;have hres:Tryz.f9.results.toList=[.tmp 6,.tmp 7,.tmp 8]:=rfl;obtain⟨sg,ar,en,rfl,hsg,har,hen⟩:=h;have hb2:=NetBox.of (N:=N) hw hsg har hen;have k2:Kept H (H.new 4 [sg,.int .i64 N.states,ar,en]).2:=Kept.new hw 4 _;simp only[↓Sh.dn,sx,Nat.reduceEqDiff,A3u hsg.isCell har.isCell hen.isCell];generalize H.next=gg at hb2 ⊢;generalize (H.new 4 [sg,.int .i64 N.states,ar,en]).2=H2 at hb2 k2 ⊢;obtain⟨r4,H4,hd4,k4,rfl⟩:=C34 hb2.netAt hsm k2.wf;simp only[sx,hb2.ca];refine⟨_,_,hd4,?_⟩;have k24:=k2.trans k4;by_cases hE:A9j N=0
 case neg=>
  have e1:A0f N x most (A3k N x)=([],false,A9j N):=by unfold A0f;rw[if_pos hE]
  simp only[↓Sh.dn,sx,Nat.reduceEqDiff,hE,decide_false,hres,e1];exact⟨k24,_,rfl,A5s⟩
 obtain⟨okN,_,_⟩:=A3t hE;obtain⟨r5,H5,hd5,k5,rfl⟩:=refWord (hx.grow (k24.grow hw)) hxl hxx k24.wf;have k25:=k24.trans k5;have k45:=k4.trans k5;simp only[↓Sh.dn,sx,Nat.reduceEqDiff,hE,decide_true];refine⟨_,_,hd5,?_⟩;by_cases hX:A8k x=0
 case neg=>
  have e1:A0f N x most (A3k N x)=([],false,A8k x):=by unfold A0f;rw[if_neg (by simpa using hE),if_pos hX]
  simp only[↓Sh.dn,sx,Nat.reduceEqDiff,hX,decide_false,hres,e1];exact⟨k25,_,rfl,A5s⟩
 have hb5:=hb2.kept k2.wf k45;simp only[↓Sh.dn,sx,Nat.reduceEqDiff,hX,decide_true];by_cases h1:most<1
 ·have e1:A0f N x most (A3k N x)=([],false,1):=by unfold A0f;rw[if_neg (by simpa using hE),if_neg (by simpa using hX),if_pos (.inl h1)]
  simp only[↓Sh.dn,sx,Nat.reduceEqDiff,h1,decide_true,hres,e1];exact⟨k25,_,rfl,A5s⟩
 by_cases h2:200<most
 ·have e1:A0f N x most (A3k N x)=([],false,1):=by unfold A0f;rw[if_neg (by simpa using hE),if_neg (by simpa using hX),if_pos (.inr h2)]
  simp only[↓Sh.dn,sx,Nat.reduceEqDiff,h1,h2,decide_false,decide_true,hres,e1];exact⟨k25,_,rfl,A5s⟩
 by_cases h3:300<N.states
 ·have e1:A0f N x most (A3k N x)=([],false,3):=by unfold A0f;rw[if_neg (by simpa using hE),if_neg (by simpa using hX),if_neg (by omega),if_pos h3]
  simp only[↓Sh.dn,sx,Nat.reduceEqDiff,h1,h2,decide_false,hb5.c1,h3,decide_true,hres,e1];exact⟨k25,_,rfl,A5s⟩
 have e1:=B1q (S:=A3k N x) hE hX (show ¬(most<1∨200<most) by omega) h3;have hx60:=C3m hX;obtain⟨r7,H7,hd7,k7,ev,bv,vals,hR⟩:=C43 hb5.netAt okN hsm (hx.grow (k25.grow hw)) (by omega) (by omega) k25.wf;obtain⟨mm,rfl⟩:∃mm:Nat,most=(mm:Int):=⟨most.toNat,by omega⟩
 obtain⟨r8,H8,hd8,k8,lv,rfl,vs,hJ⟩:=C1c (most:=mm) hR (C5t okN hx60) okN.asc (C4h okN) (B0r okN) (by omega) (by omega) k7.wf;rw[imgR_all okN,propext (C7x okN)]at hJ hd8;obtain⟨ho1,ho2⟩:=C4d (A9t N (A3k N x)) (A9s N (A3k N x)) mm;rw[Int.toNat_natCast,ho1]at e1;simp only[↓Sh.dn,sx,Nat.reduceEqDiff,h1,h2,h3,decide_false,hb5.c1,hb5.ca];refine⟨_,_,hd7,?_⟩;refine⟨_,_,hd8,?_⟩;have kk:=(k25.trans k7).trans k8;cases hlg:(A4h (A9t N (A3k N x)) (A9s N (A3k N x)) mm).2.2 with
 | true=>
  obtain⟨q1,q2⟩:=ho2 hlg;rw[hlg,q1,q2,if_pos rfl]at e1;simp only[↓Sh.dn,sx,Nat.reduceEqDiff,hres,e1];exact⟨kk,_,rfl,A5s⟩
 | false=>
  rw[hlg,if_neg (by simp)]at e1;simp only[↓Sh.dn,sx,Nat.reduceEqDiff,hres,e1];exact⟨kk,lv,rfl,vs,hJ⟩
theorem refUp{H:AH}{v ux:Value}{N:NetD}{x:List ByteArray}{most:Int}(h:A8v H v N)(hsm:A3g N)(hx:Sl H ux 1 (x.map A7a))(hxl:x.length≤1048576)(hxx:∀z∈x,z.size≤1048576)(hw:Wf H):
  Sh.Call Tryz.prog (knows 7) 12 [v,ux,.int .i64 most] H (fun r H'=>C03 H H' r (A0f N x most fun y=>A3k N y x)):=by
 refine A3a rfl Tryz.func12 rfl (Nat.le_of_ble_eq_true rfl) ?_;have hres:Tryz.f12.results.toList=[.tmp 6,.tmp 7,.tmp 8]:=rfl;obtain⟨sg,ar,en,rfl,hsg,har,hen⟩:=h;have hb1:=NetBox.of (N:=N) hw hsg har hen;have k1:Kept H (H.new 4 [sg,.int .i64 N.states,ar,en]).2:=Kept.new hw 4 _;simp only[↓Sh.dn,sx,Nat.reduceEqDiff,A3u hsg.isCell har.isCell hen.isCell];generalize H.next=gg at hb1 ⊢;generalize (H.new 4 [sg,.int .i64 N.states,ar,en]).2=H1 at hb1 k1 ⊢;obtain⟨r2,H2,hd2,k2,⟨hn2⟩⟩:=B4z hb1.netAt hsm k1.wf;obtain⟨r3,H3,hd3,k3,hr3⟩:=C8y (most:=most) hn2 (C2v hsm) (hx.grow ((k1.trans k2).grow hw)) hxl hxx (k1.trans k2).wf;rw[C0z]at hr3;obtain⟨lv,rfl,vs,hJ⟩:=hr3;have hvqN:veq (.agg #[sg,.int .i64 N.states,ar,en]) (.agg #[sg,.int .i64 N.states,ar,en])=true:=B5e (by simp only[A4z,A35,A9q,hsg.veq,har.veq,hen.veq,Bool.and_self]);have hvx:=hx.veq;simp only[sx,hb1.ca];refine⟨_,_,hd2,?_⟩;refine⟨_,_,hd3,?_⟩;simp only[sx,Nat.reduceEqDiff,hres];exact⟨(k1.trans k2).trans k3,lv,rfl,vs,hJ⟩
theorem boolSame{c b:Bool}:abin Tryz.prog 4 c .eql (.bool b) (.bool b)=some (.bool true):=by
 unfold abin aeq B1y A6g;simp only[eqT,Tryz.underlying4,cond_true,beq_self_eq_true,Option.map_some]
theorem B5g{H:AH}{v u:Value}{l:List (List ByteArray)}{b:Bool}{vs ws:List Value}(hl:JagR H v 1 (l.map strRow) vs)(hm:JagR H u 1 (l.map strRow) ws)(hll:l.length≤1048576)(hx:∀w∈l,w.length≤1048576)(hw:Wf H):
  Sh.Call Tryz.prog (knows 7) 10 [v,u,.bool b,.bool b] H (fun r H'=>H'=H∧r=.bool true):=by
 refine A3a rfl Tryz.func10 rfl (Nat.le_of_ble_eq_true rfl) ?_;have hres:Tryz.f10.results.toList=[.tmp 8]:=rfl;obtain⟨r6,H6,hd6,e6,rfl⟩:=B63 hl hm hll hx hw;rw[e6]at hd6;simp only[↓Sh.dn,sx,reduceCtorEq,Nat.reduceEqDiff];refine⟨_,_,hd6,?_⟩;simp only[↓Sh.dn,sx,Nat.reduceEqDiff,boolSame,hres]
theorem lawLong{H:AH}{v:Value}{ws:List (List ByteArray)}{vs:List Value}(h:JagR H v 1 (ws.map fun w=>w.map A7a) vs)(hl:ws.length≤1048576):
  Sh.Call Tryz.prog (knows 7) 6 [v] H (fun r H'=>H'=H∧r=.bool (ws.any fun w=>decide (240<w.length))):=by
 refine A3a rfl Tryz.func6 rfl (Nat.le_of_ble_eq_true rfl) ?_;have hres:Tryz.f6.results.toList=[.tmp 2]:=rfl;have hlen:∀H',A4a Tryz.prog .len [30] [v] H'=some (.int .i64 (ws.length:Int),H'):=fun H'=>by
  rw[h.sl.len Tryz.underlying30,List.length_map,h.len,List.length_map]
 simp only[↓Sh.dn,sx];refine A5c ws.length 3 (List.range' 3 14) (fun i F H'=>H'=H∧∀w∈ws.take i,¬240<w.length) (by simp only[sx]) ⟨rfl,by simp⟩ ?_ ?_
 ·rintro i F H' hi hF f3 ⟨rfl,hall⟩ k
  have f0:=hF 0 rfl;simp only[sx,reduceCtorEq]at f0;obtain⟨g1,o1,q1,w1,i1,c1,s1⟩:=h.at Tryz.underlying30 A6t (i:=i) (r:=ws[i].map A7a) (by rw[List.getElem?_map,List.getElem?_eq_getElem hi];rfl);have htk:ws.take (i+1)=ws.take i++[ws[i]]:=by rw[List.take_add_one,List.getElem?_eq_getElem hi];rfl
  have hm:ws[i]∈ws:=List.getElem_mem hi;generalize ws[i]=w at s1 htk hm;have hlw:=s1.len Tryz.underlying22 H';simp only[List.length_map]at hlw;have d:decide ((240:Int)<(w.length:Int))=decide (240<w.length):=decide_eq_decide.2 (by omega);by_cases hd:240<w.length
  ·have:(ws.any fun w=>decide (240<w.length))=true:=List.any_eq_true.2 ⟨w,hm,decide_eq_true hd⟩
   simp only[↓Sh.dn,sx,reduceCtorEq,Nat.reduceEqDiff,f0,f3,hlen,A1a,hi,decide_true,i1,c1,hlw,d,hd,hres,this]
  ·simp only[↓Sh.dn,sx,reduceCtorEq,Nat.reduceEqDiff,f0,f3,hlen,A1a,hi,decide_true,i1,c1,hlw,d,hd,decide_false,A2a hi (by omega)]
   refine k _ _ (by repeat (first|refine Same.put ?_ rfl|exact Same.rfl' _)) (by simp only[sx]) ⟨rfl,fun u hu=>?_⟩;rw[htk]at hu;rcases List.mem_append.1 hu with h2|h2
   ·exact hall u h2
   ·rw[List.mem_singleton.1 h2];exact hd
 ·rintro F H' hF f3 ⟨rfl,hall⟩
  have f0:=hF 0 rfl;simp only[sx,reduceCtorEq]at f0;rw[List.take_length]at hall;have:(ws.any fun w=>decide (240<w.length))=false:=by
   rw[List.any_eq_false];intro w hw;rw[decide_eq_true_eq];exact hall w hw
  simp only[↓Sh.dn,sx,reduceCtorEq,Nat.reduceEqDiff,f0,f3,hlen,A1a,Nat.lt_irrefl,decide_false,hres,this]
def NetRow(H:AH)(r:List Value):Prop:=∃(N:NetD) (sg ar en:Value),r=[sg,.int .i64 N.states,ar,en]∧Sl H sg 1 (N.sigma.map A7a)∧Sl H ar 5 (N.arcs.map ArcD.cells)∧Sl H en 2 (N.ends.map EndD.cells)∧A3g N
theorem lawOver{H:AH}{v:Value}{rows:List (List Value)}(h:Sl H v 4 rows)(hl:rows.length≤1048576)(hr:∀r∈rows,NetRow H r):
  Sh.Call Tryz.prog (knows 7) 5 [v] H (fun r H'=>H'=H∧∃b,r=.bool b):=by
 refine A3a rfl Tryz.func5 rfl (Nat.le_of_ble_eq_true rfl) ?_;have hres:Tryz.f5.results.toList=[.tmp 2]:=rfl;have hlen:∀H',A4a Tryz.prog .len [43] [v] H'=some (.int .i64 (rows.length:Int),H'):=fun H'=>h.len Tryz.underlying43 H';simp only[↓Sh.dn,sx];refine A5c rows.length 4 (List.range' 3 100) (fun i F H'=>H'=H∧∃n,F.get 3=some (.int .i64 n)) (by simp only[sx]) ⟨rfl,0,by simp only[sx,Nat.reduceEqDiff]⟩ ?_ ?_
 ·rintro i F H' hi hF f4 ⟨rfl,n,f3⟩ k
  have f0:=hF 0 rfl;simp only[sx,reduceCtorEq]at f0;obtain⟨g1,o1,q1,i1,_,c1⟩:=h.at Tryz.underlying43 A0u (i:=i) (List.getElem?_eq_getElem hi) .i64;obtain⟨N,sg,ar,en,hrow,hsg,har,hen,hsm⟩:=hr _ (List.getElem_mem hi);have d0:=c1 0 sg (by rw[hrow];rfl);have d2:=c1 2 ar (by rw[hrow];rfl);have d3:=c1 3 en (by rw[hrow];rfl);simp only[Nat.add_zero]at d0;have l0:=fun H'=>hsg.len Tryz.underlying22 H';have l2:=fun H'=>har.len Tryz.underlying23 H';have l3:=fun H'=>hen.len Tryz.underlying24 H';simp only[List.length_map]at l0 l2 l3;have hs0:=hsm.sg;have hs2:=hsm.ar;simp only[↓Sh.dn,sx,reduceCtorEq,Nat.reduceEqDiff,f0,f4,hlen,A1a,hi,decide_true,i1,d0,l0];have e0:decide ((400:Int)<(N.sigma.length:Int))=decide (400<N.sigma.length):=decide_eq_decide.2 (by omega);have e2:decide ((120000:Int)<(N.arcs.length:Int))=decide (120000<N.arcs.length):=decide_eq_decide.2 (by omega);have e3:decide ((120000:Int)<(N.ends.length:Int))=decide (120000<N.ends.length):=decide_eq_decide.2 (by omega);cases h0:decide (400<N.sigma.length) with
  | true=>simp only[↓Sh.dn,sx,Nat.reduceEqDiff,e0,h0,hres]
  | false=>
  cases h2:decide (120000<N.arcs.length) with
  | true=>simp only[↓Sh.dn,sx,reduceCtorEq,Nat.reduceEqDiff,e0,h0,f0,f4,i1,d2,l2,e2,h2,hres]
  | false=>
  cases h3:decide (120000<N.ends.length) with
  | true=>simp only[↓Sh.dn,sx,reduceCtorEq,Nat.reduceEqDiff,e0,h0,f0,f4,i1,d2,l2,e2,h2,d3,l3,e3,h3,hres]
  | false=>
  simp only[↓Sh.dn,sx,reduceCtorEq,Nat.reduceEqDiff,e0,h0,f0,f4,i1,d2,l2,e2,h2,d3,l3,e3,h3];refine A5c N.sigma.length 5 (List.range' 38 21++[3,5]) (fun q F2 H2=>H2=H'∧∃n,F2.get 3=some (.int .i64 n)) (by simp only[sx]) ⟨rfl,n,by simp only[sx,Nat.reduceEqDiff,f3]⟩ ?_ ?_
  ·rintro q F2 H2 hq hF2 f5 ⟨rfl,n2,g3⟩ k2
   have g0:=hF2 0 rfl;have g4:=hF2 4 rfl;simp only[sx,reduceCtorEq,Nat.reduceEqDiff,f0,f4]at g0 g4;obtain⟨p2,j2,e2'⟩:=Sl.elem (s:=1) Tryz.underlying22 A4i hsg (i:=q) (u:=.string N.sigma[q]) (by rw[List.getElem?_map,List.getElem?_eq_getElem hq];rfl);simp only[↓Sh.dn,sx,reduceCtorEq,Nat.reduceEqDiff,g0,g3,g4,f5,i1,d0,l0,A1a,hq,decide_true,j2,e2',A2a hq (by omega)];exact k2 _ _ (by repeat (first|refine Same.put ?_ rfl|exact Same.rfl' _)) (by simp only[sx]) ⟨rfl,_,by simp only[sx,Nat.reduceEqDiff];rfl⟩
  ·rintro F2 H2 hF2 f5 ⟨rfl,n2,g3⟩
   have g0:=hF2 0 rfl;have g4:=hF2 4 rfl;simp only[sx,reduceCtorEq,Nat.reduceEqDiff,f0,f4]at g0 g4;simp only[↓Sh.dn,sx,Nat.reduceBEq,reduceCtorEq,Nat.reduceEqDiff,g0,g4,f5,i1,d0,l0,A1a,Nat.lt_irrefl,decide_false];refine A5b (m:=N.arcs.length) (fun m F3 H3=>H3=H2∧Same (List.range' 38 61++[3,6]) F2 F3∧∃q n,m+q=N.arcs.length∧F3.get 6=some (.int .i64 ((q:Nat):Int))∧F3.get 3=some (.int .i64 n)) ⟨rfl,(by repeat (first|refine Same.put ?_ rfl|exact Same.rfl' _)),0,n2,by omega,by simp only[sx];rfl,by simp only[sx,Nat.reduceEqDiff,g3]⟩ ?_;rintro m F3 H3 ⟨rfl,hS,q,n3,hmq,e6,e3'⟩ k3;have u0:=hS 0 rfl;have u4:=hS 4 rfl;simp only[g0,g4]at u0 u4;have wi:=A2a hi (by omega);have fin:Same (List.range' 3 100) F F3:=by
    refine Same.trans ?_ (hS.sub rfl);refine Same.trans ?_ (hF2.sub rfl);exact(by repeat (first|refine Same.put ?_ rfl|exact Same.rfl' _))
   by_cases hq:q<N.arcs.length
   ·cases hn:decide (n3≤240000) with
    | false=>
     simp only[↓Sh.dn,sx,Nat.reduceBEq,reduceCtorEq,Nat.reduceEqDiff,u0,u4,e6,e3',i1,d2,l2,A1a,hq,decide_true,hn,wi];refine k _ _ ?_ (by simp only[sx]) ⟨rfl,n3,by simp only[sx,Nat.reduceEqDiff,e3']⟩
     repeat refine Same.put ?_ rfl
     exact fin
    | true=>
     obtain⟨ga,oa,ka,ja,_,ca⟩:=har.at Tryz.underlying23 A7q (i:=q) (x:=N.arcs[q].cells) (by simp[hq]) .i64;have x1:=ca 1 (.string N.arcs[q].inn) rfl;have x2:=ca 2 (.string N.arcs[q].out) rfl;simp only[↓Sh.dn,sx,reduceCtorEq,Nat.reduceEqDiff,u0,u4,e6,e3',i1,d2,l2,A1a,hq,decide_true,hn,ja,x1,x2,A2a hq (by omega)];refine k3 (N.arcs.length-(q+1)) _ _ (by omega) ⟨rfl,?_,q+1,_,by omega,by simp only[sx],by simp only[sx,Nat.reduceEqDiff];rfl⟩
     repeat refine Same.put ?_ rfl
     exact hS
   ·have hd:decide (q<N.arcs.length)=false:=decide_eq_false hq
    simp only[↓Sh.dn,sx,Nat.reduceBEq,reduceCtorEq,Nat.reduceEqDiff,u0,u4,e6,i1,d2,l2,A1a,hd,wi];refine k _ _ ?_ (by simp only[sx]) ⟨rfl,n3,by simp only[sx,Nat.reduceEqDiff,e3']⟩
    repeat refine Same.put ?_ rfl
    exact fin
 ·rintro F H' hF f4 ⟨rfl,n,f3⟩
  have f0:=hF 0 rfl;simp only[sx,reduceCtorEq]at f0;simp only[↓Sh.dn,sx,reduceCtorEq,Nat.reduceEqDiff,f0,f3,f4,hlen,A1a,Nat.lt_irrefl,decide_false,hres]
def B0v(l:List ByteArray):Nat:=(l.map fun s=>s.size).sum
section
variable {K:Type}
theorem bulk_pos:∀(d:DataW K),1≤Rows.uptoBulk d
 | .lit l=>by cases l<;>simp[Rows.uptoBulk]
 | .nil=>by simp[Rows.uptoBulk]
 | .ptr d=>by simp[Rows.uptoBulk]
 | .slice a b=>by simp[Rows.uptoBulk]
 | .agg a=>by simp[Rows.uptoBulk]
 | .iface n d=>by simp[Rows.uptoBulk]
 | .map es=>by simp[Rows.uptoBulk]
 | .held h=>by simp[Rows.uptoBulk]
theorem B6w:∀(ds:List (DataW K)),ds.length≤Rows.uptoBulkAll ds
 | []=>Nat.zero_le _
 | d :: ds=>by
  have:=bulk_pos d;have:=B6w ds;simp only[Rows.uptoBulkAll,List.length_cons];omega
theorem B1d:∀{ds:List (DataW K)} {d:DataW K},d∈ds→Rows.uptoBulk d≤Rows.uptoBulkAll ds
 | d :: ds,x,h=>by
  simp only[Rows.uptoBulkAll];rcases List.mem_cons.1 h with rfl|h
  ·omega
  ·have:=B1d h;omega
theorem B6t{α β:Type}{f:α→β}:∀{l:List β},(∀x∈l,∃a,x=f a)→∃L:List α,l=L.map f
 | [],_=>⟨[],rfl⟩
 | x :: l,h=>by
  obtain⟨a,rfl⟩:=h x List.mem_cons_self;obtain⟨L,rfl⟩:=B6t (l:=l) fun y hy=>h y (List.mem_cons_of_mem _ hy)
  exact⟨a :: L,rfl⟩
theorem C6f{α:Type}{enc:α→List Value}{H:AH}{f t e s:Nat}{cs:List Value}{d:DataW K}(R:α→DataW K→Prop)(hu:Tryz.prog.underlying t=some (.slice e))(hs:Tryz.prog.cellsOf e=s)
  (hR:∀f x y,RD Tryz.prog H f e x y→∃a,x=enc a∧R a y) (h:RD Tryz.prog H f t cs d):
  ∃u,∃L:List α,∃ds,cs=[u]∧Sl H u s (L.map enc)∧L.length=ds.length∧(∀(i:Nat) a y,L[i]?=some a→ds[i]?=some y→enc a=enc a→∃a',enc a'=enc a∧R a' y)∧Rows.uptoBulkAll ds<Rows.uptoBulk d:=by
 obtain⟨l,ds,⟨u,rfl,hsl⟩,hlen,hel,hd⟩:=RD.slice hu hs h;have hget:∀(i:Nat) x,l[i]?=some x→∃y a,ds[i]?=some y∧x=enc a∧R a y:=by
  intro i x hx;have hi:=(List.getElem?_eq_some_iff.1 hx).1;have hy:ds[i]?=some (ds[i]'(by omega)):=List.getElem?_eq_getElem (by omega);obtain⟨f',hf⟩:=hel i x _ hx hy;obtain⟨a,h1,h2⟩:=hR f' x _ hf;exact⟨_,a,hy,h1,h2⟩
 obtain⟨L,rfl⟩:=B6t (f:=enc) (l:=l) fun x hx=>by
  obtain⟨i,hi⟩:=List.mem_iff_getElem?.1 hx;obtain⟨y,a,_,h2,_⟩:=hget i x hi;exact⟨a,h2⟩
 refine⟨u,L,ds,rfl,hsl,by simpa using hlen,fun i a y ha hy _=>?_,?_⟩
 ·obtain⟨y',a',h1,h2,h3⟩:=hget i (enc a) (by simp[ha])
  rw[hy]at h1;injection h1 with h1
  subst h1;exact⟨a',h2.symm,h3⟩
 ·rcases hd with⟨rfl,rfl⟩|⟨sp,rfl⟩
  ·simp[Rows.uptoBulk,Rows.uptoBulkAll]
  ·simp only[Rows.uptoBulk];omega
theorem C40{H:AH}{f:Nat}{x:List Value}{y:DataW K}(h:RD Tryz.prog H f 9 x y):∃s,x=A7a s∧y=.lit (.string s.data.toList):=RD.str Tryz.underlying9 h
theorem B9k{H:AH}{f:Nat}{x:List Value}{y:DataW K}(h:RD Tryz.prog H f 3 x y):∃n,x=[.int .i64 n]∧-9223372036854775808≤n∧n<9223372036854775808:=RD.int Tryz.underlying3 h
theorem B64:∀{L:List ByteArray} {ds:List (DataW K)},L.length=ds.length→(∀(i:Nat) a y,L[i]?=some a→ds[i]?=some y→y=.lit (.string a.data.toList))→Rows.uptoBulkAll ds=B0v L+L.length
 | [],[],_,_=>rfl
 | [],_ :: _,h,_=>by simp at h
 | _ :: _,[],h,_=>by simp at h
 | a :: L,d :: ds,h,hr=>by
  have h0:=hr 0 a d rfl rfl;have ih:=B64 (L:=L) (ds:=ds) (by simpa using h) fun i a y h1 h2=>hr (i+1) a y (by simpa using h1) (by simpa using h2);subst h0;have e:a.data.toList.length=a.size:=by rw[Array.length_toList];rfl
  simp only[Rows.uptoBulkAll,Rows.uptoBulk,ih,B0v,List.map_cons,List.sum_cons,List.length_cons,e];omega
theorem C4f{a b:ByteArray}(h:A7a a=A7a b):a=b:=by
 simp only[A7a,List.cons.injEq,Value.string.injEq,and_true]at h;exact h
theorem C6y{H:AH}{f:Nat}{cs:List Value}{d:DataW K}(h:RD Tryz.prog H f 22 cs d):∃u,∃L:List ByteArray,cs=[u]∧Sl H u 1 (L.map A7a)∧B0v L+L.length<Rows.uptoBulk d:=by
 obtain⟨u,L,ds,h1,h2,h3,h4,h5⟩:=C6f (enc:=A7a) (fun s y=>y=.lit (.string s.data.toList)) Tryz.underlying22 C5w (fun f x y hf=>C40 hf) h;refine⟨u,L,h1,h2,?_⟩;rw[←B64 h3 fun i a y ha hy=>by
  obtain⟨a',e,hr⟩:=h4 i a y ha hy rfl;rw[←C4f e];exact hr]
 exact h5
theorem B49{L:List ByteArray}{x:ByteArray}(h:x∈L):x.size≤B0v L:=by
 induction L with
 | nil=>cases h
 | cons a L ih=>
  simp only[B0v,List.map_cons,List.sum_cons]at ih ⊢;rcases List.mem_cons.1 h with rfl|h
  ·omega
  ·have:=ih h;omega
theorem four{c:List Value}(h:c.length=4):∃a b x y,c=[a,b,x,y]:=by
 match c,h with
 | [a,b,x,y],_=>exact⟨a,b,x,y,rfl⟩
theorem five{c:List Value}(h:c.length=5):∃a b x y z,c=[a,b,x,y,z]:=by
 match c,h with
 | [a,b,x,y,z],_=>exact⟨a,b,x,y,z,rfl⟩
theorem two{c:List Value}(h:c.length=2):∃a b,c=[a,b]:=by
 match c,h with
 | [a,b],_=>exact⟨a,b,rfl⟩
theorem A7p{ds:List (DataW K)}{n i:Nat}(h:ds.length=n)(hi:i<n):∃x,ds[i]?=some x:=⟨ds[i]'(by omega),List.getElem?_eq_getElem (by omega)⟩
theorem arc_in{H:AH}{f:Nat}{x:List Value}{y:DataW K}(h:RD Tryz.prog H f 45 x y):∃a:ArcD,x=a.cells∧True:=by
 ·obtain⟨f',ds,rfl,h1,h2,h3⟩:=RD.struct Tryz.underlying45 h
  rw[C9j]at h1;obtain⟨a,b,c,d,e,rfl⟩:=five h1;have h2':ds.length=5:=h2;obtain⟨d0,e0⟩:=A7p h2' (i:=0) (by omega);obtain⟨d1,e1⟩:=A7p h2' (i:=1) (by omega);obtain⟨d2,e2⟩:=A7p h2' (i:=2) (by omega);obtain⟨d3,e3⟩:=A7p h2' (i:=3) (by omega);obtain⟨d4,e4⟩:=A7p h2' (i:=4) (by omega);have g0:=h3 0 _ _ rfl e0;have g1:=h3 1 _ _ rfl e1;have g2:=h3 2 _ _ rfl e2;have g3:=h3 3 _ _ rfl e3;have g4:=h3 4 _ _ rfl e4;simp only[B89,C5w,List.drop_zero,List.drop_succ_cons,List.take_succ_cons,List.take_zero,List.getElem_toArray,List.getElem_cons_zero,List.getElem_cons_succ]at g0 g1 g2 g3 g4;obtain⟨n0,q0,_⟩:=B9k g0;obtain⟨s1,q1,_⟩:=C40 g1;obtain⟨s2,q2,_⟩:=C40 g2;obtain⟨n3,q3,_⟩:=B9k g3;obtain⟨n4,q4,_⟩:=B9k g4;simp only[A7a,List.cons.injEq,and_true]at q0 q1 q2 q3 q4;subst q0 q1 q2 q3 q4;exact⟨⟨n0,s1,s2,n3,n4⟩,rfl,trivial⟩
theorem end_in{H:AH}{f:Nat}{x:List Value}{y:DataW K}(h:RD Tryz.prog H f 47 x y):∃a:EndD,x=a.cells∧True:=by
 ·obtain⟨f',ds,rfl,h1,h2,h3⟩:=RD.struct Tryz.underlying47 h
  rw[C0k]at h1;obtain⟨a,b,rfl⟩:=two h1;have h2':ds.length=2:=h2;obtain⟨d0,e0⟩:=A7p h2' (i:=0) (by omega);obtain⟨d1,e1⟩:=A7p h2' (i:=1) (by omega);have g0:=h3 0 _ _ rfl e0;have g1:=h3 1 _ _ rfl e1;simp only[B89,List.drop_zero,List.drop_succ_cons,List.take_succ_cons,List.take_zero,List.getElem_toArray,List.getElem_cons_zero,List.getElem_cons_succ]at g0 g1;obtain⟨n0,q0,_⟩:=B9k g0;obtain⟨n1,q1,_⟩:=B9k g1;simp only[List.cons.injEq,and_true]at q0 q1;subst q0 q1;exact⟨⟨n0,n1⟩,rfl,trivial⟩
theorem agg_of{v:Value}{a b:Value}{l:List Value}(h:A6a v=a :: b :: l):v=.agg (a :: b :: l).toArray:=by
 cases v<;>simp only[A6a]at h<;>try (cases h;done)
 rw[←h]
theorem net_in{H:AH}{f:Nat}{v:Value}{d:DataW K}(h:RD Tryz.prog H f 26 (A6a v) d)(hb:Rows.uptoBulk d≤1048576):∃N:NetD,Nonempty (A8v H v N)∧A3g N∧B0v N.sigma≤1048576:=by
 ·obtain⟨f',ds,rfl,h1,h2,h3⟩:=RD.struct Tryz.underlying26 h
  rw[cells_26]at h1;obtain⟨a,b,c,e,hv⟩:=four h1;rw[hv]at h3;have h2':ds.length=4:=h2;obtain⟨d0,e0⟩:=A7p h2' (i:=0) (by omega);obtain⟨d1,e1⟩:=A7p h2' (i:=1) (by omega);obtain⟨d2,e2⟩:=A7p h2' (i:=2) (by omega);obtain⟨d3,e3⟩:=A7p h2' (i:=3) (by omega);have g0:=h3 0 _ _ rfl e0;have g1:=h3 1 _ _ rfl e1;have g2:=h3 2 _ _ rfl e2;have g3:=h3 3 _ _ rfl e3;simp only[B89,cells_22,cells_23,cells_24,List.drop_zero,List.drop_succ_cons,List.take_succ_cons,List.take_zero,List.getElem_toArray,List.getElem_cons_zero,List.getElem_cons_succ]at g0 g1 g2 g3;obtain⟨u0,L0,q0,s0,b0⟩:=C6y g0;obtain⟨n1,q1,_⟩:=B9k g1;obtain⟨u2,L2,ds2,q2,s2,k2,_,b2⟩:=C6f (enc:=ArcD.cells) (fun _ _=>True) Tryz.underlying23 C9j (fun f x y hf=>arc_in hf) g2;obtain⟨u3,L3,ds3,q3,s3,k3,_,b3⟩:=C6f (enc:=EndD.cells) (fun _ _=>True) Tryz.underlying24 C0k (fun f x y hf=>end_in hf) g3;simp only[List.cons.injEq,and_true]at q0 q1 q2 q3;subst q0 q1 q2 q3;have m0:=B1d (List.mem_of_getElem? e0);have m2:=B1d (List.mem_of_getElem? e2);have m3:=B1d (List.mem_of_getElem? e3);have l2:=B6w ds2;have l3:=B6w ds3;simp only[Rows.uptoBulk]at hb;refine⟨⟨L0,n1,L2,L3⟩,⟨⟨a,c,e,agg_of hv,s0,s2,s3⟩⟩,⟨?_,?_,?_,fun x hx=>?_⟩,?_⟩
  ·show L0.length≤_;omega
  ·show L2.length≤_;omega
  ·show L3.length≤_;omega
  ·have:=B49 hx;show x.size≤_;have h':x.size≤B0v L0:=this;omega
  ·show B0v L0≤_;omega
end
end Go.Proofs.YtjjgodccecehlaaGreat
