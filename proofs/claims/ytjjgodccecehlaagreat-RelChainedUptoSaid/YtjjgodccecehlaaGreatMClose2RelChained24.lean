/- A part of the proof: AbovePair, DownP, RelWords, GraphHolds, RelHolds. -/
import Derived.Test.YtjjgodccecehlaaGreatMClose2RelChained22
import Derived.Test.YtjjgodccecehlaaGreatMClose2RelChained12
import Derived.Test.YtjjgodccecehlaaGreatMClose2RelChained14
import Derived.Test.YtjjgodccecehlaaGreatMClose2RelChained23
import Derived.Test.YtjjgodccecehlaaGreatMClose2RelChained20
import Derived.Test.YtjjgodccecehlaaGreatMClose2RelChained10
import Derived.Test.YtjjgodccecehlaaGreatMClose2RelChained13
import Derived.Test.YtjjgodccecehlaaGreatMClose2RelChained11
set_option linter.unusedVariables false
set_option linter.unusedSimpArgs false
/- A word that is above some word of an acceptor is a pair with itself. -/
set_option maxHeartbeats 4000000
set_option maxRecDepth 20000
namespace Go.Proofs.YtjjgodccecehlaaGreat
open Go Go.Proofs Go.Proofs.Sh
noncomputable def A7p(N:NetD)(S:List ByteArray→Prop):List (List ByteArray):=B3m N.sigma S 60
def A9t(N:NetD)(S:List ByteArray→Prop):Prop:=∃w:List ByteArray,60<w.length∧(∀x∈w,x∈N.sigma)∧S w
noncomputable def A5c(N:NetD)(x:List ByteArray)(most:Int)(S:List ByteArray→Prop):List (List ByteArray)×Bool×Int:=
 if A9f N≠0 then ([],false,A9f N) else if A2h x≠0 then ([],false,A2h x) else if most<1∨200<most then ([],false,1) else if 300<N.states then ([],false,3) else A4g (A7p N S) (A9t N S) most.toNat
theorem C8s{N:NetD}{x:List ByteArray}{most:Int}{S:List ByteArray→Prop}(h1:A9f N=0)(h2:A2h x=0)(h3:¬(most<1∨200<most))(h4:¬300<N.states):A5c N x most S=A4g (A7p N S) (A9t N S) most.toNat:=by
 unfold A5c;rw[if_neg (by simpa using h1),if_neg (by simpa using h2),if_neg h3,if_neg h4]
theorem A78{N:NetD}{x:List ByteArray}{most:Int}{S:List ByteArray→Prop}:(A5c N x most S).1.length≤200∧∀w∈(A5c N x most S).1,w.length≤60:=by
 have hall:∀w∈A7p N S,w.length≤60:=fun w hw=>(A4z.1 hw).1.1;have nil:∀b:Bool×Int,(([],b):List (List ByteArray)×Bool×Int).1.length≤200∧∀w∈(([],b):List (List ByteArray)×Bool×Int).1,w.length≤60:=fun b=>⟨Nat.zero_le _,fun w hw=>by cases hw⟩
 unfold A5c;split
 ·exact nil _
 ·split
  ·exact nil _
  ·split
   ·exact nil _
   ·split
    ·exact nil _
    ·unfold A4g
     split
     ·exact⟨by simp only[List.length_take];omega,fun w hw=>hall w (List.mem_of_mem_take hw)⟩
     ·split
      ·split
       ·exact nil _
       ·exact⟨by simp only;omega,hall⟩
      ·exact⟨by simp only;omega,hall⟩
theorem B1w{N:NetD}{S:List ByteArray→Prop}{most:Nat}(h:∀w,¬S w):A4g (A7p N S) (A9t N S) most=([],false,0):=by
 have e1:A7p N S=[]:=List.eq_nil_iff_forall_not_mem.2 fun w hw=>h w (A4z.1 hw).2;have e2:tB (A9t N S)=false:=by
  rw[Bool.eq_false_iff];intro h2;obtain⟨w,_,_,h3⟩:=A4u.1 h2;exact h w h3
 unfold A4g;rw[e1,e2];simp
theorem rangeSig(sigma:List ByteArray):(List.range sigma.length).map (fun k=>sigma.getD k A4n)=sigma:=by
 refine List.ext_getElem? fun i=>?_;rw[List.getElem?_map];by_cases h:i<sigma.length
 ·rw[List.getElem?_range h,List.getElem?_eq_getElem h]
  simp[List.getD,List.getElem?_eq_getElem h]
 ·rw[List.getElem?_eq_none (by simp;omega),List.getElem?_eq_none (by omega)];rfl
theorem sigShort{N:NetD}(hok:A0n N):N.sigma.length≤40:=by
 have h:=hok.sig;unfold A0k at h;split at h
 ·cases h
 ·rename_i h1
  simp only[Bool.or_eq_true,decide_eq_true_eq,not_or]at h1;omega
theorem B32{sigma:List ByteArray}{u:List Nat}(hu:∀k∈u,k<sigma.length):∀x∈textOf sigma u,x∈sigma:=fun x hx=>by
 obtain⟨k,hk,rfl⟩:=List.mem_map.1 hx;have:=hu k hk;simp only[List.getD,List.getElem?_eq_getElem this,Option.getD_some];exact List.getElem_mem _
theorem C57{sigma:List ByteArray}(ha:Asc sigma){u:List Nat}(hu:∀k∈u,k<sigma.length):(textOf sigma u).map (ixN sigma)=u:=by
 unfold textOf;rw[List.map_map]
 conv=>rhs;rw[←List.map_id u]
 refine List.map_congr_left fun k hk=>?_;have:=hu k hk;simp only[Function.comp,List.getD,List.getElem?_eq_getElem this,Option.getD_some,id];unfold ixN;rw[A4w ha (List.getElem?_eq_getElem this)];rfl
theorem B80{sigma:List ByteArray}:∀{w:List ByteArray},(∀x∈w,x∈sigma)→∃u:List Nat,(∀k∈u,k<sigma.length)∧textOf sigma u=w
 | [],_=>⟨[],(fun k hk=>by cases hk),rfl⟩
 | x :: w,h=>by
  obtain⟨u,h3,h4⟩:=B80 fun y hy=>h y (List.mem_cons_of_mem _ hy)
  obtain⟨k,hk⟩:=List.mem_iff_getElem?.1 (h x List.mem_cons_self);have hkl:=(List.getElem?_eq_some_iff.1 hk).1;refine⟨k :: u,fun j hj=>?_,?_⟩
  ·rcases List.mem_cons.1 hj with rfl|hj
   ·exact hkl
   ·exact h3 j hj
  ·show sigma.getD k A4n :: textOf sigma u=x :: w
   rw[h4];simp[List.getD,hk]
theorem acc_rows{R:List (List GE)}{es:List Int}(hl:∀r∈R,∀e∈r,e.2.1=e.2.2.1)(u:List Nat):
  accS (A1e R fun k=>k<0) (fun(k:Nat)=>A1e R fun x=>x=(k:Int)) (fun s=>0<es.getD s 0) (Clo (A1e R fun k=>k<0) fun s=>s=0) u↔RelP (A5f R) (endP es) u u:=by
 have e0:(A1e R fun k=>k<0)=fun s t=>∃b,A5f R s none b t:=funext fun s=>funext fun t=>propext (by
  unfold A1e A5f;constructor
  ·rintro⟨r,h1,e,h2,h3,h4⟩;exact⟨_,r,h1,e,h2,h3,by unfold labN;rw[if_pos h4],rfl⟩
  ·rintro⟨b,r,h1,e,h2,h3,h4,_⟩
   refine⟨r,h1,e,h2,h3,?_⟩;unfold labN at h4;split at h4
   ·assumption
   ·cases h4)
 have e1:(fun(k:Nat)=>A1e R fun x=>x=(k:Int))=fun k s t=>∃b,A5f R s (some k) b t:=funext fun k=>funext fun s=>funext fun t=>propext (by
  unfold A1e A5f;constructor
  ·rintro⟨r,h1,e,h2,h3,h4⟩;exact⟨_,r,h1,e,h2,h3,by unfold labN;rw[h4,if_neg (by omega)];rfl,rfl⟩
  ·rintro⟨b,r,h1,e,h2,h3,h4,_⟩
   refine⟨r,h1,e,h2,h3,?_⟩;unfold labN at h4;split at h4
   ·cases h4
   ·have:=Option.some.inj h4
    omega)
 have hal:∀s a b t,A5f R s a b t→a=b:=by
  rintro s a b t ⟨r,h1,e,h2,_,rfl,rfl⟩;rw[hl r (List.mem_of_getElem? h1) e h2]
 unfold accS RelP;rw[e0,e1];constructor
 ·rintro⟨t,h1,h2⟩
  obtain⟨s,rfl,y,h3⟩:=C5d.1 h1;have:=C21 hal h3;subst this;exact⟨t,h2,h3⟩
 ·rintro⟨t,h2,h3⟩
  exact⟨t,C5d.2 ⟨0,rfl,u,h3⟩,h2⟩
section
variable {N:NetD} {x:List ByteArray} {f:GE→Int×Int} {R:List (List GE)} {es cs:List Int} {m:Nat} {S:List ByteArray→Prop}
theorem C8e(hI:ImgW N x f R es cs m)(hS:∀u:List Nat,(∀k∈u,k<N.sigma.length)→(RelP (A5f (A5q f (A8f N))) (endP (A1h N N.ends)) (x.map (ixN N.sigma)) u↔S (textOf N.sigma u))){u:List Nat}(hu:∀k∈u,k<N.sigma.length):
  accS (A1e R fun k=>k<0) (fun(k:Nat)=>A1e R fun x=>x=(k:Int)) (fun s=>0<es.getD s 0) (Clo (A1e R fun k=>k<0) fun s=>s=0) u↔S (textOf N.sigma u):=by
 rw[acc_rows hI.like,hI.rel,←hS u hu];exact⟨fun h=>h.2,fun h=>⟨rfl,h⟩⟩
theorem C5z(hI:ImgW N x f R es cs m)(hS:∀u:List Nat,(∀k∈u,k<N.sigma.length)→(RelP (A5f (A5q f (A8f N))) (endP (A1h N N.ends)) (x.map (ixN N.sigma)) u↔S (textOf N.sigma u))):
  (A8k N.sigma.length R es 61).map (textOf N.sigma)=A7p N S:=by
 unfold A7p
 conv=>rhs;rw[←rangeSig N.sigma]
 rw[D6c];have:B3m (List.range N.sigma.length) (fun u=>S (u.map fun k=>N.sigma.getD k A4n)) 60=A8k N.sigma.length R es 61:=
  B59 fun u hu=>(C8e hI hS fun k hk=>List.mem_range.1 (hu k hk)).symm
 rw[this];rfl
theorem img_long(hI:ImgW N x f R es cs m)(hS:∀u:List Nat,(∀k∈u,k<N.sigma.length)→(RelP (A5f (A5q f (A8f N))) (endP (A1h N N.ends)) (x.map (ixN N.sigma)) u↔S (textOf N.sigma u))):
  (∃j,60<j∧exP R es j 0)↔A9t N S:=by
 constructor
 ·rintro⟨j,h1,h2⟩
  obtain⟨w,⟨h3,h4⟩,h5⟩:=B8f (A:=fun(k:Nat)=>A1e R fun x=>x=(k:Int)) (q:=fun k=>k<N.sigma.length) (fun s t hst=>by
   obtain⟨r,k1,e,k2,k3,k4⟩:=hst;have:=(hI.to r (List.mem_of_getElem? k1) e k2).2.1;exact⟨e.2.1.toNat,by omega,r,k1,e,k2,k3,by omega⟩) (S:=Clo (A1e R fun k=>k<0) fun s=>s=0) (fun a b h1 h2=>.step h1 h2) ⟨0,.base rfl,h2⟩
  exact⟨textOf N.sigma w,by unfold textOf;rw[List.length_map];omega,B32 h4,(C8e hI hS h4).1 h5⟩
 ·rintro⟨w,h1,h2,h3⟩
  obtain⟨u,hu,rfl⟩:=B80 h2;obtain⟨s,h4,h5⟩:=A54 (any:=A1e R fun x=>0≤x) C86 ((C8e hI hS hu).2 h3);exact⟨u.length,by unfold textOf at h1;rw[List.length_map]at h1;exact h1,B0c h4 h5⟩
end
theorem C49{N:NetD}(hok:A0n N){x:List ByteArray}(hx:∀z∈x,z∈N.sigma)(u:List Nat)(hu:∀k∈u,k<N.sigma.length):RelP (A5f (A5q fStr (A8f N))) (endP (A1h N N.ends)) (x.map (ixN N.sigma)) u↔A3j N x (textOf N.sigma u):=by
 rw[turn_str,C3q hok,C57 hok.asc hu];exact⟨fun h=>⟨⟨hx,B32 hu⟩,h⟩,fun h=>h.2⟩
def ToldW(H H':AH)(r:Value)(o:List (List ByteArray)×Bool×Int):Prop:=Kept H H'∧∃lv,r=.tuple #[lv,.bool o.2.1,.int .i64 o.2.2]∧∃vs,JagR H' lv 1 (o.1.map strRow) vs
theorem B4b{H:AH}:∃vs,JagR H (.slice none 0 0) 1 (([]:List (List ByteArray)).map strRow) vs:=⟨[],Sl.nil _ _,rfl,fun i w r hi=>by simp at hi⟩
theorem relWords{H:AH}{v ux:Value}{N:NetD}{x:List ByteArray}{most:Int}{fid:Nat}(f:GE→Int×Int)(S:List ByteArray→Prop)(hp:∀{H:AH} (e:GE),Wf H→Sh.Call Tryz.prog (knows 7) fid [.agg (A9a e).toArray] H (fun r H'=>Kept H H'∧r=.tuple #[.int .i64 (f e).1,.int .i64 (f e).2]))
  (hf:∀{m:Int} (e:GE),0≤m→e.2.1<m→e.2.2.1<m→(f e).1<m∧(f e).2<m)
  (hS:A0n N→(∀z∈x,z∈N.sigma)→∀u:List Nat,(∀k∈u,k<N.sigma.length)→(RelP (A5f (A5q f (A8f N))) (endP (A1h N N.ends)) (x.map (ixN N.sigma)) u↔S (textOf N.sigma u)))
  (hS0:A0n N→∀w,S w→∀z∈x,z∈N.sigma)
  (h:A6v H v N) (hsm:A0f N) (hx:Sl H ux 1 (x.map A6b)) (hxl:x.length≤1048576) (hxx:∀z∈x,z.size≤1048576) (hw:Wf H):
  Sh.Call Tryz.prog (knows 7) 17 [v,ux,.int .i64 most,.agg #[.func (.func fid) #[] #[]]] H (fun r H'=>ToldW H H' r (A5c N x most S)):=by
 refine A5a rfl Tryz.func17 rfl (Nat.le_of_ble_eq_true rfl) ?_;have hres:Tryz.f17.results.toList=[.tmp 8,.tmp 9,.tmp 10]:=rfl;obtain⟨sg,ar,en,rfl,hsg,har,hen⟩:=h;have hb1:=NetBox.of (N:=N) hw hsg har hen;have k1:Kept H (H.new 4 [sg,.int .i64 N.states,ar,en]).2:=Kept.new hw 4 _;simp only[↓Sh.dn,sx,Nat.reduceEqDiff,A9y hsg.isCell har.isCell hen.isCell];generalize H.next=gg at hb1 ⊢;generalize (H.new 4 [sg,.int .i64 N.states,ar,en]).2=H1 at hb1 k1 ⊢;have hc:isCell (Value.func (.func fid) #[] #[])=true:=rfl;have ks:=Kept.new k1.wf 1 [Value.func (.func fid) #[] #[]];have cs2:(H1.new 1 [Value.func (.func fid) #[] #[]]).2.cells ⟨H1.next,0,some 0⟩ 1=some [Value.func (.func fid) #[] #[]]:=(Sh.Obj.new (H:=H1) 1 _).cells (i:=0) (n:=1) (by simp);have hb2:=hb1.kept k1.wf ks;have k2:=k1.trans ks;simp only[sx,B2u hc];generalize H1.next=gs at cs2 ⊢;generalize (H1.new 1 [Value.func (.func fid) #[] #[]]).2=H2 at cs2 hb2 k2 ks ⊢;obtain⟨r4,H4,hd4,k4,rfl⟩:=A35 hb2.netAt hsm k2.wf;simp only[sx,hb2.ca];refine⟨_,_,hd4,?_⟩;have k24:=k2.trans k4;by_cases hE:A9f N=0
 case neg=>
  have e1:A5c N x most S=([],false,A9f N):=by unfold A5c;rw[if_pos hE]
  simp only[↓Sh.dn,sx,Nat.reduceEqDiff,hE,decide_false,hres,e1];exact⟨k24,_,rfl,B4b⟩
 obtain⟨okN,_,_⟩:=A7h hE;obtain⟨r5,H5,hd5,k5,rfl⟩:=C1h (hx.grow (k24.grow hw)) hxl hxx k24.wf;have k25:=k24.trans k5;have k45:=k4.trans k5;simp only[↓Sh.dn,sx,Nat.reduceEqDiff,hE,decide_true];refine⟨_,_,hd5,?_⟩;by_cases hX:A2h x=0
 case neg=>
  have e1:A5c N x most S=([],false,A2h x):=by unfold A5c;rw[if_neg (by simpa using hE),if_pos hX]
  simp only[↓Sh.dn,sx,Nat.reduceEqDiff,hX,decide_false,hres,e1];exact⟨k25,_,rfl,B4b⟩
 have hb5:=hb2.kept k2.wf k45;have cs5:=A8l (k45.grow k2.wf) cs2;simp only[↓Sh.dn,sx,Nat.reduceEqDiff,hX,decide_true];by_cases h1:most<1
 ·have e1:A5c N x most S=([],false,1):=by unfold A5c;rw[if_neg (by simpa using hE),if_neg (by simpa using hX),if_pos (.inl h1)]
  simp only[↓Sh.dn,sx,Nat.reduceEqDiff,h1,decide_true,hres,e1];exact⟨k25,_,rfl,B4b⟩
 by_cases h2:200<most
 ·have e1:A5c N x most S=([],false,1):=by unfold A5c;rw[if_neg (by simpa using hE),if_neg (by simpa using hX),if_pos (.inr h2)]
  simp only[↓Sh.dn,sx,Nat.reduceEqDiff,h1,h2,decide_false,decide_true,hres,e1];exact⟨k25,_,rfl,B4b⟩
 by_cases h3:300<N.states
 ·have e1:A5c N x most S=([],false,3):=by unfold A5c;rw[if_neg (by simpa using hE),if_neg (by simpa using hX),if_neg (by omega),if_pos h3]
  simp only[↓Sh.dn,sx,Nat.reduceEqDiff,h1,h2,decide_false,hb5.c1,h3,decide_true,hres,e1];exact⟨k25,_,rfl,B4b⟩
 have e1:=C8s (S:=S) hE hX (show ¬(most<1∨200<most) by omega) h3;have hx60:=word_len hX;have a1:=okN.st1;have hsz:(x.length+1)*N.states.toNat≤100000:=Nat.le_trans (Nat.mul_le_mul (show x.length+1≤61 by omega) (show N.states.toNat≤300 by omega)) (by decide);obtain⟨r7,H7,hd7,k7,hno,hyes⟩:=relImgW f hp hf hb5.netAt hsm hE (hx.grow (k25.grow hw)) hx60 hsz k25.wf;have k27:=k25.trans k7;simp only[↓Sh.dn,sx,Nat.reduceEqDiff,h1,h2,h3,decide_false,hb5.c1,hb5.ca,cs5];refine⟨_,_,hd7,?_⟩;cases hax:x.all (A7r N.sigma) with
 | false=>
  have hr:=hno hax;subst hr;have e2:A4g (A7p N S) (A9t N S) most.toNat=([],false,0):=B1w fun w hw=>by
   have:=hS0 okN w hw;rw[Bool.eq_false_iff]at hax;exact hax (List.all_eq_true.2 fun z hz=>A9g.2 (this z hz))
  simp only[↓Sh.dn,sx,Nat.reduceEqDiff,hres,e1,e2];exact⟨k27,_,rfl,B4b⟩
 | true=>
  obtain⟨g,rfl,X,R,es,cs,m,hX7,hI⟩:=hyes hax;have hxm:∀z∈x,z∈N.sigma:=fun z hz=>A9g.1 (List.all_eq_true.1 hax z hz);have hS':=hS okN hxm;obtain⟨sv,av,ev,cv,vals,hR⟩:=hX7.read;have hPG:PG H7 g m 60000 R es sv av ev cv vals N.sigma cs:=⟨hR,hI.le,hI.ln,hI.n1,Nat.le_trans hI.n2 hsz,fun s r hr=>⟨hI.row r (List.mem_of_getElem? hr),fun e he=>(hI.to r (List.mem_of_getElem? hr) e he).1⟩⟩
  obtain⟨mm,rfl⟩:∃mm:Nat,most=(mm:Int):=⟨most.toNat,by omega⟩
  obtain⟨r8,H8,hd8,k8,lv,rfl,vs,hJ⟩:=C8u (most:=mm) hPG (fun s r hr e he=>(hI.to r (List.mem_of_getElem? hr) e he).2.1) (by have:=sigShort okN;omega) (by omega) (by omega) k7.wf;rw[C5z hI hS',propext (img_long hI hS')]at hJ hd8;simp only[↓Sh.dn,sx,Nat.reduceEqDiff];refine⟨_,_,hd8,?_⟩;rw[Int.toNat_natCast]at e1;simp only[sx,Nat.reduceEqDiff,hres,e1];exact⟨k27.trans k8,lv,rfl,vs,hJ⟩
theorem C2e{H:AH}{v ux:Value}{N:NetD}{x:List ByteArray}{most:Int}(h:A6v H v N)(hsm:A0f N)(hx:Sl H ux 1 (x.map A6b))(hxl:x.length≤1048576)(hxx:∀z∈x,z.size≤1048576)(hw:Wf H):
  Sh.Call Tryz.prog (knows 7) 8 [v,ux,.int .i64 most] H (fun r H'=>ToldW H H' r (A5c N x most (A3j N x))):=by
 refine A5a rfl Tryz.func8 rfl (Nat.le_of_ble_eq_true rfl) ?_;have hres:Tryz.f8.results.toList=[.tmp 6,.tmp 7,.tmp 8]:=rfl;obtain⟨sg,ar,en,rfl,hsg,har,hen⟩:=h;have hb1:=NetBox.of (N:=N) hw hsg har hen;have k1:Kept H (H.new 4 [sg,.int .i64 N.states,ar,en]).2:=Kept.new hw 4 _;simp only[↓Sh.dn,sx,A9y hsg.isCell har.isCell hen.isCell];generalize H.next=gg at hb1 ⊢;generalize (H.new 4 [sg,.int .i64 N.states,ar,en]).2=H1 at hb1 k1 ⊢;obtain⟨r2,H2,hd2,k2,rfl⟩:=B4u k1.wf;have hb2:=hb1.kept k1.wf k2;obtain⟨r3,H3,hd3,k3,lv,rfl,vs,hJ⟩:=relWords (most:=most) fStr (A3j N x) (fun e hw=>B37 hw) (fun e _ h1 h2=>⟨h1,h2⟩) (fun ok hm u hu=>C49 ok hm u hu) (fun ok w hp=>(A5s ok hp).1) hb2.netAt hsm (hx.grow ((k1.trans k2).grow hw)) hxl hxx (k1.trans k2).wf;have hvqN:veq (.agg #[sg,.int .i64 N.states,ar,en]) (.agg #[sg,.int .i64 N.states,ar,en])=true:=A0x (by simp only[A1k,A7m,A3h,hsg.veq,har.veq,hen.veq,Bool.and_self]);have hvx:=hx.veq;refine A6u (fl:=[(0,false),(1,true),(2,true),(3,false),(4,true),(5,true),(6,true),(7,true),(8,true),(9,true),(10,true)]) (by kernel_rfl) (by kernel_rfl) k1.wf ?_;simp only[↓Sh.dn,sx,reduceCtorEq,Nat.reduceEqDiff,wpg,B7m,isEff,A2d,isRead,forall_eq',hb1.ca,hvqN];refine⟨_,_,hd2,k2.wf,k2.grow k1.wf,?_⟩;refine⟨_,_,hd3,k3.wf,?_⟩;simp only[sx,Nat.reduceEqDiff,hres];exact⟨(k1.trans k2).trans k3,lv,rfl,vs,hJ⟩
theorem fillU{H:AH}(hw:Wf H){c:Nat}(hc:c≤17179869184):Buf (H.new 1 (List.replicate c (.int .u64 0))).2 1 (.slice (some ⟨H.next,0,some 0⟩) c c) ((List.replicate c 0).map u64C) (if c=0 then none else some H.next):=by
 have:=Buf.fill hw (.int .u64 0) hc;rw[List.map_replicate];exact this
theorem ifNext{c:Nat}{h:Nat}:∀y,(if c=0 then none else some h)=some y→y=h:=by
 intro y hy;by_cases h0:c=0
 ·rw[if_pos h0]at hy;cases hy
 ·rw[if_neg h0]at hy;exact(Option.some.inj hy).symm
def preL(A:Arcs Nat Nat)(x y:List Nat):Nat→Nat×Nat→Prop
 | 0=>fun p=>p=(0,0)
 | i+1=>fun b=>∃a,B2m (laE A y) (laA A x y) (fun p=>p=(0,0)) i a∧laA A x y i a b
theorem C7q{A:Arcs Nat Nat}{x y:List Nat}(i:Nat)(p:Nat×Nat):B2m (laE A y) (laA A x y) (fun p=>p=(0,0)) i p↔Cl (laE A y) (preL A x y i) p:=by
 cases i<;>exact Iff.rfl
theorem B8k{n:Nat}{p:Nat×Nat}:¬A4h (List.replicate n 0) p:=by
 rintro⟨m,h1,h2⟩;rw[List.getElem?_replicate]at h1;split at h1
 ·rw[←Option.some.inj h1]at h2;simp at h2
 ·cases h1
theorem B8r{l:List Nat}{s m:Nat}(hs:s<l.length){p:Nat×Nat}:A4h (l.set s m) p↔(p.1=s∧m.testBit p.2=true)∨(p.1≠s∧A4h l p):=by
 unfold A4h;rw[List.getElem?_set];by_cases h:s=p.1
 ·rw[if_pos h,if_pos hs]
  simp[h]
 ·rw[if_neg h]
  simp[Ne.symm h]
theorem C9q{H:AH}{g n:Nat}{E:List (List (Nat×Int×Int×Int))}{ends:List Int}{sv av ev cv u v:Value}{vals:List Value}{sigma:List ByteArray}{costs:List Int}{x y:List Nat}(h:PG H g n 60000 E ends sv av ev cv vals sigma costs)(hu:Sl H u 1 (x.map natC))(hv:Sl H v 1 (y.map natC))(hx:x.length≤60)(hy:y.length≤60)
  (hys:∀k∈y,k<sigma.length) (hsl:sigma.length≤1048576) (hout:∀(s:Nat) r,E[s]?=some r→∀e∈r,e.2.2.1<(sigma.length:Int)) (hw:Wf H):
  Sh.Call Tryz.prog (knows 7) 34 [.pointer (some ⟨g,0,some 0⟩),u,v] H (fun r H'=>Kept H H'∧r=.bool (tB (∃t,0<ends.getD t 0∧Sh.Way (A5f E) 0 x y t))):=by
 refine A5a rfl Tryz.func34 rfl (Nat.le_of_ble_eq_true rfl) ?_;have hres:Tryz.f34.results.toList=[.tmp 6]:=rfl;have hn1:=h.n1;have hn2:=h.n2;have c0:=h.gr.arr.cell 0;have hls:=fun H'=>h.gr.sg.len Tryz.underlying22 H';simp only[List.length_map]at hls;have mk0:=D7c (H:=H) (l:=sigma.length) (c:=sigma.length) (Nat.le_refl _) (by omega);have k1:=Kept.new hw 1 (List.replicate sigma.length (.int .u64 0));have b1:=fillU hw (c:=sigma.length) (by omega);have hc0:H.cell ⟨g,0,some 0⟩=some sv:=c0;simp only[↓Sh.dn,sx,reduceCtorEq,Nat.reduceEqDiff,hc0,hls,mk0];obtain⟨ow,how⟩:∃o,(if sigma.length=0 then none else some H.next)=o:=⟨_,rfl⟩
 have hown:∀y,ow=some y→y=H.next:=fun y hy=>ifNext (c:=sigma.length) y (by rw[how];exact hy);rw[how]at b1;have k1n:H.next<(H.new 1 (List.replicate sigma.length (.int .u64 0))).2.next:=Nat.lt_succ_self _;generalize (Value.slice (some ⟨H.next,0,some 0⟩) sigma.length sigma.length)=wv at b1 ⊢;generalize (H.new 1 (List.replicate sigma.length (.int .u64 0))).2=H1 at k1 b1 k1n ⊢;have nz:anew Tryz.prog 120 H1 (.slice none 0 0)=some (.pointer (some ⟨H1.next,0,some 0⟩),(H1.new 1 [.slice none 0 0]).2):=A4x C9o rfl;have st1:A7d Tryz.prog 120 (H1.new 1 [.slice none 0 0]).2 wv (.pointer (some ⟨H1.next,0,some 0⟩))=some (H1.new 1 [wv]).2:=by rw[A9b C9o b1.isCell];exact A3l rfl
 have k2:=Kept.new k1.wf 1 [wv];have a2:Arr (H1.new 1 [wv]).2 H1.next 0 1 [wv]:=(Sh.Obj.new (H:=H1) 1 [wv]).arr;have b2:=b1.kept k1.wf k2;have k12:=k1.trans k2;have k2n:H1.next<(H1.new 1 [wv]).2.next:=Nat.lt_succ_self _;have hlv:=fun H'=>hv.len Tryz.underlying71 H';simp only[List.length_map]at hlv;simp only[sx,nz,st1,hlv];obtain⟨gw,hgw⟩:∃y,H1.next=y:=⟨_,rfl⟩
 rw[hgw]at a2 k2n;simp only[hgw];have hgw1:H.next<gw:=by rw[←hgw];exact k1n
 generalize (H1.new 1 [wv]).2=H2 at k12 a2 b2 k2n ⊢;clear k2 st1 nz b1 mk0;refine A0d y.length 28 (List.range' 28 14++[8,9]) (fun i F H'=>Kept H H'∧Arr H' gw 0 1 [wv]∧∃W:List Nat,Buf H' 1 wv (W.map u64C) ow∧W.length=sigma.length∧∀(k m:Nat),W[k]?=some m→∀j,m.testBit j=true↔j<i∧y[j]?=some k) (by simp only[sx])
  ⟨k12,a2,List.replicate sigma.length 0,b2,by simp,fun k m hm j=>?_⟩ ?_ ?_
 ·rw[List.getElem?_replicate]at hm
  split at hm
  ·rw[←Option.some.inj hm];simp
  ·cases hm
 ·rintro i F H' hi hF f28 ⟨hk,ha,W,hb,hWl,hW⟩ k
  have f7:=hF 7 rfl;have f26:=hF 26 rfl;have f27:=hF 27 rfl;simp only[sx,Nat.reduceEqDiff]at f7 f26 f27;have hv':=hv.grow (hk.grow hw);obtain⟨p1,i1,c1⟩:=B2w Tryz.underlying71 A1c hv' hi;have hgi:y[i]?=some y[i]:=List.getElem?_eq_getElem hi;have hks:=hys _ (List.getElem_mem hi);generalize y[i]=s at c1 hgi hks;have hgs:W[s]?=some W[s]:=List.getElem?_eq_getElem (by omega);obtain⟨p2,i2,c2⟩:=Sl.elem (s:=1) Tryz.underlying120 A8i hb.toSl (i:=s) (u:=.int .u64 (W[s]:Int)) (by rw[List.getElem?_map,hgs];rfl);have hwm:=hW s _ hgs;generalize W[s]=m at hgs c2 hwm;have hwi:within 60 m:=fun j hj=>by have:=((hwm j).1 hj).1;omega
  have hp:(2:Nat)^i<m64:=by
   have:(2:Nat)^i≤2^60:=Nat.pow_le_pow_right (by decide) (by omega);have e:(2:Nat)^60=1152921504606846976:=rfl;unfold m64;omega
  have hor:=or64 (P:=Tryz.prog) (t:=121) (c:=false) (hwi.lt64 (Nat.le_refl _)) hp;have hsh:=pow64 (P:=Tryz.prog) (t:=121) (c:=true) (j:=i) (by omega) (k:=.i64);obtain⟨p6,H6,ia6,w6,z6,c6,n6⟩:=Buf.set (P:=Tryz.prog) hb hk.wf (i:=s) (x:=u64C (m ||| 2^i)) (by simp;omega) rfl;have ia6':=ia6 Tryz.underlying120 A8i (j:=.i64);have st6:A7d Tryz.prog 121 H' (.int .u64 ((m ||| 2^i:Nat):Int)) (.pointer (some p6))=some H6:=by rw[A9b A8i rfl];exact w6
  have hca:H'.cell ⟨gw,0,some 0⟩=some wv:=ha.cell 0;rw[i2]at ia6';injection ia6' with e6;injection e6 with e6;injection e6 with e6
  rw[←e6]at st6;simp only[↓Sh.dn,sx,Nat.reduceEqDiff,f26,f27,f28,A2a,hi,decide_true,i1,c1];refine(A7c (by kernel_rfl)).2 ?_;simp only[↓Sh.dn,sx,Nat.reduceEqDiff,f7,f28,hca,i2,c2,hsh,hor,st6,A1a hi (by omega)];refine k _ _ (by repeat (first|refine Same.put ?_ rfl|exact Same.rfl' _)) (by simp only[sx]) ⟨hk.then (Nat.le_refl _) (c6.weak fun v hv=>by rw[hown v hv];exact Nat.le_refl _),ha.keep (c6.old gw (ha.lt hk.wf) fun hv=>by have:=hown gw hv;omega),W.set s (m ||| 2^i),by rw[List.map_set];exact z6,by rw[List.length_set,hWl],fun k' m' hm' j=>?_⟩;rw[List.getElem?_set]at hm';by_cases hsk:s=k'
  ·subst hsk
   rw[if_pos rfl,if_pos (by omega)]at hm';rw[←Option.some.inj hm',Nat.testBit_or,Bool.or_eq_true,hwm,bit_pow];constructor
   ·rintro(⟨h1,h2⟩|h1)
    ·exact⟨by omega,h2⟩
    ·rw[h1];exact⟨by omega,hgi⟩
   ·rintro⟨h1,h2⟩
    by_cases hji:j=i
    ·exact .inr hji
    ·exact .inl ⟨by omega,h2⟩
  ·rw[if_neg hsk]at hm'
   rw[hW k' m' hm' j];constructor
   ·rintro⟨h1,h2⟩;exact⟨by omega,h2⟩
   ·rintro⟨h1,h2⟩
    refine⟨?_,h2⟩;by_cases hji:j=i
    ·subst hji;rw[hgi]at h2;exact absurd (Option.some.inj h2) hsk
    ·omega
 ·rintro F H3 hF f28 ⟨hk3,ha,W,hb,hWl,hW⟩
  have f0:=hF 0 rfl;have f1:=hF 1 rfl;have f2:=hF 2 rfl;have f7:=hF 7 rfl;have f27:=hF 27 rfl;simp only[sx,reduceCtorEq,Nat.reduceEqDiff]at f0 f1 f2 f7 f27;have hpl:A02 W y:=fun k m hm j=>by
   rw[hW k m hm];exact⟨fun h=>h.2,fun h=>⟨(List.getElem?_eq_some_iff.1 h).1,h⟩⟩
  have hp3:=h.kept hw hk3;have hca:H3.cell ⟨gw,0,some 0⟩=some wv:=ha.cell 0;have cA:=hp3.gr.arr.cell 1;have hcA:H3.cell ⟨g,1,some 0⟩=some av:=cA;have hlA:∀H',A3a Tryz.prog .len [101] [av] H'=some (.int .i64 (n:Int),H'):=fun H'=>by
   rw[h.gr.jag.sl.len Tryz.underlying101,List.length_map,h.gr.jag.len];unfold A8b;rw[List.length_map,h.le]
  have mk1:=D7c (H:=H3) (l:=n) (c:=n) (Nat.le_refl _) (by omega);have k4:=Kept.new hk3.wf 1 (List.replicate n (.int .u64 0));have b4:=fillU hk3.wf (c:=n) (by omega);rw[if_neg (by omega)]at b4;generalize (Value.slice (some ⟨H3.next,0,some 0⟩) n n)=z0 at mk1 b4;generalize (H3.new 1 (List.replicate n (.int .u64 0))).2=H4 at mk1 k4 b4;obtain⟨p5,H5,ia5,w5,z5,c5,n5⟩:=Buf.set (P:=Tryz.prog) b4 k4.wf (i:=0) (x:=u64C 1) (by simp;omega) rfl;have ia5':A4b Tryz.prog 120 z0 (.int .i64 0)=some (.pointer (some p5)):=ia5 Tryz.underlying120 A8i (j:=.i64);have st5:A7d Tryz.prog 121 H4 (.int .u64 1) (.pointer (some p5))=some H5:=by rw[A9b A8i rfl];exact w5
  rw[←List.map_set]at z5;have hk5:Kept H3 H5:=k4.then (Nat.le_refl _) (c5.weak fun v hv=>by rw[←Option.some.inj hv];exact Nat.le_refl _);simp only[↓Sh.dn,sx,reduceCtorEq,Nat.reduceEqDiff,f0,f7,f27,f28,A2a,Nat.lt_irrefl,decide_false,hcA,hlA,mk1,ia5',st5];have hlx:=fun H'=>hu.len Tryz.underlying71 H';simp only[List.length_map]at hlx;have hlv2:=fun H'=>hv.len Tryz.underlying71 H';simp only[List.length_map]at hlv2;have hoW:∀(s:Nat) r,E[s]?=some r→∀e∈r,e.2.2.1<(W.length:Int):=fun s r hr e he=>by rw[hWl];exact hout s r hr e he
  refine A8d (m:=x.length) (fun m F H'=>∃i,m+i=x.length∧F.get 12=some (.int .i64 (i:Int))∧F.get 0=some (.pointer (some ⟨g,0,some 0⟩))∧F.get 1=some u∧F.get 2=some v∧F.get 10=some (.func (.func 73) #[] #[.pointer (some ⟨gw,0,some 0⟩)])∧Kept H3 H'∧∃z now ob,F.get 11=some z∧Buf H' 1 z (now.map u64C) ob∧(∀v,ob=some v→H3.next≤v)∧now.length=n∧(∀m∈now,within y.length m)∧∀p,A4h now p↔preL (A5f E) x y i p)
   ⟨0,rfl,by simp only[sx];rfl,by simp only[sx,reduceCtorEq,f0],by simp only[sx,Nat.reduceEqDiff,f1],by simp only[sx,Nat.reduceEqDiff,f2],by simp only[sx,Nat.reduceEqDiff],hk5,z0,(List.replicate n 0).set 0 1,_,by simp only[sx,Nat.reduceEqDiff],z5,fun v hv=>by rw[←Option.some.inj hv];exact Nat.le_refl _,by simp,fun m hm=>?_,fun p=>?_⟩ ?_
  ·rcases List.mem_or_eq_of_mem_set hm with h1|h1
   ·rw[List.eq_of_mem_replicate h1];intro j hj;simp at hj
   ·rw[h1];intro j hj;rw[C97.1 hj];exact Nat.zero_le _
  ·rw[B8r (by simp;omega),C97]
   show _↔p=(0,0)
   constructor
   ·rintro(⟨h1,h2⟩|⟨_,h2⟩)
    ·exact Prod.ext h1 h2
    ·exact absurd h2 B8k
   ·rintro rfl;exact .inl ⟨rfl,rfl⟩
  clear z5 hk5 st5 ia5' ia5 w5 c5 n5 b4 k4 mk1 f0 f1 f2 f7 f27 f28 hF hcA cA;clear F H5 H4 z0;rintro m F H' ⟨i,hmi,f12,f0,f1,f2,f10,hk,z,now,ob,f11,hz,hob,hnl,hwi,hbits⟩ k;obtain⟨r6,H6,hd6,hk6,now',hz6,hnl6,hwi6,hcl6⟩:=C4d hp3 hk3.wf hca hb.toSl hpl hy hoW hk hz hob hnl hwi;have hlay:∀p,A4h now' p↔B2m (laE (A5f E) y) (laA (A5f E) x y) (fun p=>p=(0,0)) i p:=fun p=>by
   rw[hcl6,C7q];have e:A4h now=preL (A5f E) x y i:=funext fun p=>propext (hbits p);rw[e]
  have hlenz:∀H',A3a Tryz.prog .len [120] [z] H'=some (.int .i64 (n:Int),H'):=fun H'=>by
   rw[hz6.toSl.len Tryz.underlying120,List.length_map,hnl6]
  have hcb:Kept H H6:=hk3.trans hk6;simp only[↓Sh.dn,sx,Nat.reduceEqDiff,f0,f10,f11];refine⟨_,_,hd6,?_⟩;clear hd6 hcl6 hz hbits hwi hnl;by_cases hix:i=x.length
  ·subst hix
   have hend:∀t,Sh.Way (A5f E) 0 x y t↔A4h now' (t,y.length):=fun t=>by rw[hlay,C62]
   simp only[↓Sh.dn,sx,Nat.reduceBEq,Nat.reduceEqDiff,f1,f11,f12,hlx,decide_true,hlenz];refine A0d n 110 (List.range' 110 22++[18,19]) (fun s F2 H2=>H2=H6∧∀t,t<s→¬(0<ends.getD t 0∧A4h now' (t,y.length))) (by simp only[sx]) ⟨rfl,fun t ht=>absurd ht (Nat.not_lt_zero t)⟩ ?_ ?_
   ·rintro s F2 H2 hs hF2 f110 ⟨rfl,hno⟩ k2
    have g0:=hF2 0 rfl;have g2:=hF2 2 rfl;have g108:=hF2 108 rfl;have g109:=hF2 109 rfl;simp only[sx,reduceCtorEq,Nat.reduceEqDiff,f0,f2]at g0 g2 g108 g109;have hgs:now'[s]?=some now'[s]:=List.getElem?_eq_getElem (by omega);have hwm:=hwi6 _ (List.getElem_mem (show s<now'.length by omega));generalize now'[s]=m at hgs hwm;obtain⟨p1,i1,c1⟩:=Sl.elem (s:=1) Tryz.underlying120 A8i hz6.toSl (i:=s) (u:=.int .u64 (m:Int)) (by rw[List.getElem?_map,hgs];rfl);have hp:=h.kept hw hcb;have hn:H2.cell ⟨g,2,some 0⟩=some ev:=hp.gr.arr.cell 2;have htl:s<ends.length:=by rw[h.ln];exact hs
    obtain⟨p2,i2,c2⟩:=Sl.elem (s:=1) Tryz.underlying71 A1c hp.gr.en (i:=s) (u:=.int .i64 ends[s]) (by rw[List.getElem?_map,List.getElem?_eq_getElem htl];rfl);have hg:ends.getD s 0=ends[s]:=by simp[List.getD,htl]
    generalize ends[s]=en at c2 hg;have hbit:A4h now' (s,y.length)↔m.testBit y.length=true:=⟨fun⟨m',h1,h2⟩=>by rw[hgs]at h1;rw[Option.some.inj h1];exact h2,fun h=>⟨m,hgs,h⟩⟩
    have hmd:m/2^y.length<m64:=Nat.lt_of_le_of_lt (Nat.div_le_self _ _) (hwm.lt64 hy);have hnext:¬(0<en∧m.testBit y.length=true)→∀t,t<s+1→¬(0<ends.getD t 0∧A4h now' (t,y.length)):=fun hh t ht=>by
     by_cases hts:t=s
     ·subst hts;rw[hg,hbit];exact hh
     ·exact hno t (by omega)
    by_cases he:0<en
    ·by_cases hb2:m.testBit y.length=true
     ·have hbd:(m/2^y.length &&& 1=1):=(C6z _ _).2 hb2
      simp only[↓Sh.dn,sx,reduceCtorEq,Nat.reduceEqDiff,g0,g2,g108,g109,f110,A2a,hs,decide_true,i1,c1,hn,i2,c2,he,hlv2,shr64 (show y.length<64 by omega),C70 hmd,C93,hbd,hres];refine⟨hcb,?_⟩;rw[A4u.2 ⟨s,by rw[hg];exact he,(hend s).2 (hbit.2 hb2)⟩]
     ·have hbd:¬(m/2^y.length &&& 1=1):=fun h=>hb2 ((C6z _ _).1 h)
      simp only[↓Sh.dn,sx,reduceCtorEq,Nat.reduceEqDiff,g0,g2,g108,g109,f110,A2a,hs,decide_true,i1,c1,hn,i2,c2,he,hlv2,shr64 (show y.length<64 by omega),C70 hmd,C93,hbd,decide_false,A1a hs (by omega)];exact k2 _ _ (by repeat (first|refine Same.put ?_ rfl|exact Same.rfl' _)) (by simp only[sx]) ⟨rfl,hnext fun h=>hb2 h.2⟩
    ·simp only[↓Sh.dn,sx,reduceCtorEq,Nat.reduceEqDiff,g0,g108,g109,f110,A2a,hs,decide_true,i1,c1,hn,i2,c2,he,decide_false,A1a hs (by omega)]
     exact k2 _ _ (by repeat (first|refine Same.put ?_ rfl|exact Same.rfl' _)) (by simp only[sx]) ⟨rfl,hnext fun h=>he h.1⟩
   ·rintro F2 H2 hF2 f110 ⟨rfl,hno⟩
    have g109:=hF2 109 rfl;simp only[sx,Nat.reduceEqDiff]at g109;simp only[↓Sh.dn,sx,g109,f110,A2a,Nat.lt_irrefl,decide_false,hres];refine⟨hcb,?_⟩;have:¬tB (∃t,0<ends.getD t 0∧Sh.Way (A5f E) 0 x y t)=true:=fun hh=>by
     obtain⟨t,h1,h2⟩:=A4u.1 hh;have h3:=(hend t).1 h2;obtain⟨m,h4,_⟩:=h3;have:=(List.getElem?_eq_some_iff.1 h4).1;exact hno t (by simp only at this;omega) ⟨h1,(hend t).1 h2⟩
    rw[Bool.eq_false_iff.2 this]
  ·have hil:i<x.length:=by omega
   have hgx:x[i]?=some x[i]:=List.getElem?_eq_getElem hil;generalize hxi:x[i]=c at hgx;have mk2:=D7c (H:=H6) (l:=n) (c:=n) (Nat.le_refl _) (by omega);have k7:=Kept.new hk6.wf 1 (List.replicate n (.int .u64 0));have b7:=fillU hk6.wf (c:=n) (by omega);rw[if_neg (by omega)]at b7;have hzlt:=hz6.lt hk6.wf;have hz7:=hz6.kept hk6.wf k7;have hk7:=hk6.trans k7;have h36:=hk6.next;simp only[↓Sh.dn,sx,Nat.reduceEqDiff,f1,f11,f12,hlx,nat_eq,hix,decide_false,hlenz,mk2];obtain⟨zn,hzn⟩:∃w,Value.slice (some ⟨H6.next,0,some 0⟩) n n=w:=⟨_,rfl⟩
   obtain⟨on,hon⟩:∃w,H6.next=w:=⟨_,rfl⟩
   rw[hzn,hon]at b7;simp only[hzn];rw[hon]at hzlt h36;have hsep:∀v,ob=some v→¬(some on=some v):=fun v hv h=>by have:=hzlt v hv;have:=Option.some.inj h;omega
   generalize (H6.new 1 (List.replicate n (.int .u64 0))).2=H7 at k7 b7 hz7 hk7 ⊢;refine A0d n 66 (List.range' 66 41++[14,15,17]) (fun s F2 H2=>Kept H3 H2∧Buf H2 1 z (now'.map u64C) ob∧∃nx,Buf H2 1 zn (nx.map u64C) (some on)∧nx.length=n∧(∀m∈nx,within y.length m)∧∀p,A4h nx p↔∃a,a.1<s∧A4h now' a∧laA (A5f E) x y i a p) (by simp only[sx])
    ⟨hk7,hz7,List.replicate n 0,b7,by simp,fun m hm=>by rw[List.eq_of_mem_replicate hm];intro j hj;simp at hj,fun p=>⟨fun h=>absurd h B8k,fun⟨a,h1,_⟩=>absurd h1 (Nat.not_lt_zero _)⟩⟩ ?_ ?_
   ·rintro s F2 H8 hs hF2 f66 ⟨hk8,hz8,nx,hb8,hnx,hwx,hbx⟩ k2
    have g0:=hF2 0 rfl;have g1:=hF2 1 rfl;have g10:=hF2 10 rfl;have g12:=hF2 12 rfl;have g13:=hF2 13 rfl;have g64:=hF2 64 rfl;have g65:=hF2 65 rfl;simp only[sx,reduceCtorEq,Nat.reduceEqDiff,f0,f1,f10,f12]at g0 g1 g10 g12 g13 g64 g65;have hgs:now'[s]?=some now'[s]:=List.getElem?_eq_getElem (by omega);have hwm:=hwi6 _ (List.getElem_mem (show s<now'.length by omega));generalize now'[s]=m at hgs hwm;obtain⟨p1,i1,c1⟩:=Sl.elem (s:=1) Tryz.underlying120 A8i hz8.toSl (i:=s) (u:=.int .u64 (m:Int)) (by rw[List.getElem?_map,hgs];rfl);obtain⟨r,hr⟩:∃r,E[s]?=some r:=⟨E[s]'(by rw[h.le];exact hs),List.getElem?_eq_getElem _⟩
    obtain⟨hrl,hrt⟩:=h.to s r hr;obtain⟨pr,wr,hiar,hcr,hsr,hlr⟩:=PG.row hp3 hr;have hcA:H3.cell ⟨g,1,some 0⟩=some av:=hp3.gr.arr.cell 1;have hpg:∀{H'},Kept H3 H'→H'.cell ⟨g,1,some 0⟩=some av∧H'.cell pr=some wr∧Sl H' wr 4 (r.map A9a)∧H'.cell ⟨gw,0,some 0⟩=some wv∧Sl H' wv 1 (W.map u64C)∧Sl H' u 1 (x.map natC):=fun hk=>⟨A2b (hk.grow hk3.wf) hcA,A2b (hk.grow hk3.wf) hcr,hsr.grow (hk.grow hk3.wf),A2b (hk.grow hk3.wf) hca,hb.toSl.grow (hk.grow hk3.wf),hu.grow ((hk3.trans hk).grow hw)⟩
    obtain⟨q1,q2,q3,q4,q5,q6⟩:=hpg hk8;have hbs:∀j,A4h now' (s,j)↔m.testBit j=true:=fun j=>⟨fun⟨m',h1,h2⟩=>by rw[hgs]at h1;rw[Option.some.inj h1];exact h2,fun h=>⟨m,hgs,h⟩⟩
    simp only[↓Sh.dn,sx,reduceCtorEq,Nat.reduceEqDiff,g0,g64,g65,f66,A2a,hs,decide_true,i1,c1,q1,hiar,q2,hlr];refine A0d r.length 79 (List.range' 79 27++[17]) (fun q F4 H9=>Kept H3 H9∧Buf H9 1 z (now'.map u64C) ob∧∃nx,Buf H9 1 zn (nx.map u64C) (some on)∧nx.length=n∧(∀m∈nx,within y.length m)∧∀p,A4h nx p↔(∃a,a.1<s∧A4h now' a∧laA (A5f E) x y i a p)∨∃j,m.testBit j=true∧∃e∈r.take q,labN e.2.1=some c∧e.1=p.1∧B6d y j (labN e.2.2.1) p.2) (by simp only[sx])
     ⟨hk8,hz8,nx,hb8,hnx,hwx,fun p=>by rw[hbx];exact⟨.inl,fun h=>h.resolve_right fun⟨_,_,e,he,_⟩=>by simp at he⟩⟩ ?_ ?_
    ·clear hb8 hbx hwx hnx hk8 hz8 q1 q2 q3 q4 q5 q6 b7 hz7 hk7
     rintro q F4 H9 hq hF4 f79 ⟨hk9,hz9,nx9,hb9,hnx9,hwx9,hbx9⟩ k5;have e1:=hF4 1 rfl;have e10:=hF4 10 rfl;have e12:=hF4 12 rfl;have e13:=hF4 13 rfl;have e15:=hF4 15 rfl;have e77:=hF4 77 rfl;have e78:=hF4 78 rfl;simp only[sx,Nat.reduceEqDiff,g1,g10,g12,g13]at e1 e10 e12 e13 e15 e77 e78;obtain⟨q1,q2,q3,q4,q5,q6⟩:=hpg hk9;obtain⟨pe,hiae,hce⟩:=PG.edge q3 hq;have hrq:r[q]∈r:=List.getElem_mem hq;have htake:r.take (q+1)=r.take q++[r[q]]:=by rw[List.take_add_one,List.getElem?_eq_getElem hq];rfl
     generalize r[q]=e at hce hrq htake;have kn:=Kept.new hk9.wf 4 (A9a e);have hk10:=hk9.trans kn;have hz10:=hz9.kept hk9.wf kn;have hb10:=hb9.kept hk9.wf kn;have wq:=A1a hq (by omega);have ho:=hout s r hr e hrq;have het:=hrt e hrq;obtain⟨q1',q2',q3',q4',q5',q6'⟩:=hpg hk10;obtain⟨px,ix,cx⟩:=B2w Tryz.underlying71 A1c q6' hil;rw[hxi]at cx;have skip:(¬∃j,m.testBit j=true∧labN e.2.1=some c)→∀p,A4h nx9 p↔(∃a,a.1<s∧A4h now' a∧laA (A5f E) x y i a p)∨∃j,m.testBit j=true∧∃e∈r.take (q+1),labN e.2.1=some c∧e.1=p.1∧B6d y j (labN e.2.2.1) p.2:=fun hno p=>by
      rw[hbx9,htake];refine or_congr_right ⟨fun⟨j,h1,e',h2,h3⟩=>⟨j,h1,e',List.mem_append_left _ h2,h3⟩,fun⟨j,h1,e',h2,h3⟩=>?_⟩;rcases List.mem_append.1 h2 with h4|h4
      ·exact⟨j,h1,e',h4,h3⟩
      ·rw[List.mem_singleton.1 h4]at h3;exact absurd ⟨j,h1,h3.1⟩ hno
     by_cases hm0:m=0
     ·simp only[↓Sh.dn,sx,Nat.reduceEqDiff,e15,e77,e78,f79,hiae,hce,A2a,hq,decide_true,A8q,A9k,A9q,B6j,hm0,wq]
      exact k5 _ _ (by repeat (first|refine Same.put ?_ rfl|exact Same.rfl' _)) (by simp only[sx]) ⟨hk10,hz10,nx9,hb10,hnx9,hwx9,skip fun⟨j,h1,_⟩=>by rw[hm0]at h1;simp at h1⟩
     by_cases hec:e.2.1=(c:Int)
     case neg=>
      simp only[↓Sh.dn,sx,Nat.reduceEqDiff,e1,e12,e15,e77,e78,f79,hiae,hce,A2a,hq,decide_true,A8q,A9k,A9q,B6j,hm0,decide_false,ge1,ix,cx,hec,wq];exact k5 _ _ (by repeat (first|refine Same.put ?_ rfl|exact Same.rfl' _)) (by simp only[sx]) ⟨hk10,hz10,nx9,hb10,hnx9,hwx9,skip fun⟨j,_,h2⟩=>by
       unfold labN at h2;split at h2
       ·cases h2
       ·have:=Option.some.inj h2;omega⟩
     have hlab:labN e.2.1=some c:=by
      unfold labN;rw[hec,if_neg (by omega)];rfl
     have hg2:nx9[e.1]?=some nx9[e.1]:=List.getElem?_eq_getElem (by omega);have hm2:=hwx9 _ (List.getElem_mem (show e.1<nx9.length by omega));generalize nx9[e.1]=m2 at hg2 hm2;obtain⟨x2,a2,c2⟩:=Sl.elem (s:=1) Tryz.underlying120 A8i hb10.toSl (i:=e.1) (u:=.int .u64 (m2:Int)) (by rw[List.getElem?_map,hg2];rfl);obtain⟨r5,H11,hd5,hk5,rfl⟩:=B90 (e:=e) (m:=m) q4' q5' hpl hy (by rw[hWl];exact ho) (hwm.lt64 hy) kn.wf;have hb11:=hb10.kept kn.wf hk5;have hz11:=hz10.kept kn.wf hk5;have hk11:=hk10.trans hk5;obtain⟨x3,a3,c3⟩:=Sl.elem (s:=1) Tryz.underlying120 A8i hb11.toSl (i:=e.1) (u:=.int .u64 (m2:Int)) (by rw[List.getElem?_map,hg2];rfl);rw[a2]at a3;injection a3 with a3;injection a3 with a3;injection a3 with a3
     rw[←a3]at c3;have hst:=B8c (o:=e.2.2.1) hpl (by omega) hwm;have hbit:=A36 (m:=m) (o:=e.2.2.1) hpl (by omega);obtain⟨st,hst0⟩:∃st,stepM W m e.2.2.1=st:=⟨_,rfl⟩
     rw[hst0]at hst hbit hd5;have hor:=or64 (P:=Tryz.prog) (t:=121) (c:=false) (hm2.lt64 hy) (hst.lt64 hy);obtain⟨p6,H12,ia6,w6,z6,c6,n6⟩:=Buf.set (P:=Tryz.prog) hb11 hk5.wf (i:=e.1) (x:=u64C (m2 ||| st)) (by simp;omega) rfl;have ia6':=ia6 Tryz.underlying120 A8i (j:=.i64);rw[a2]at ia6';injection ia6' with e6;injection e6 with e6;injection e6 with e6
     have st6:A7d Tryz.prog 121 H11 (.int .u64 ((m2 ||| st:Nat):Int)) (.pointer (some x2))=some H12:=by rw[A9b A8i rfl,e6];exact w6
     have ab:Arr (H9.new 4 (A9a e)).2 H9.next 0 4 (A9a e):=(Sh.Obj.new (H:=H9) 4 (A9a e)).arr;have ab5:=ab.keep (hk5.old _ (ab.lt kn.wf));have b0:H11.cell ⟨H9.next,0,some 0⟩=some (.int .i64 (e.1:Int)):=ab5.cell 0;have ball:H11.cells ⟨H9.next,0,some 0⟩ 4=some (A9a e):=ab5.cells (i:=0) (n:=4) (by simp[A9a]);have hvq:veq (.agg (A9a e).toArray) (.agg (A9a e).toArray)=true:=A0x (by simp[A9a,A1k,A7m,A3h]);simp only[↓Sh.dn,sx,Nat.reduceEqDiff,e1,e12,e15,e77,e78,f79,hiae,hce,A2a,hq,decide_true,A8q,A9k,A9q,B6j,hm0,decide_false,ge1,ix,cx,hec];refine A8n (fl:=[(0,[]),(1,[]),(2,[]),(3,[]),(4,[]),(5,[]),(6,[]),(7,[]),(8,[4,2]),(9,[]),(10,[]),(11,[])]) (by kernel_rfl) (by kernel_rfl) (by kernel_rfl) ?_;simp only[↓Sh.dn,sx,Nat.reduceEqDiff,wpr,again,A2d,A3h,forall_eq',e10,e13,e15,ge0,C29,a2,c2];refine⟨_,_,hd5,?_⟩;simp only[sx,c3,b0,hor,st6,f79,wq];have hsame:∀{t m':Nat},t≠e.1→((nx9.set e.1 (m2 ||| st))[t]?=some m'↔nx9[t]?=some m'):=fun{t m'} ht=>by rw[List.getElem?_set,if_neg (Ne.symm ht)]
     refine k5 _ _ (by repeat (first|refine Same.put ?_ rfl|exact Same.rfl' _)) (by simp only[sx]) ⟨hk11.then (Nat.le_refl _) (c6.weak fun v hv=>by have:=Option.some.inj hv;omega),hz11.chg hk5.wf c6 (fun v hv h2=>hsep v hv h2),nx9.set e.1 (m2 ||| st),by rw[List.map_set];exact z6,by rw[List.length_set,hnx9],fun m' hm'=>?_,fun p=>?_⟩
     ·rcases List.mem_or_eq_of_mem_set hm' with h1|h1
      ·exact hwx9 m' h1
      ·rw[h1];exact B85 hm2 hst
     ·rw[B8r (by omega),Nat.testBit_or,Bool.or_eq_true,hbit,htake]
      have hp9:=hbx9 p;constructor
      ·rintro(⟨h1,h2|⟨j,h3,h4⟩⟩|⟨h1,h2⟩)
       ·rcases hp9.1 ⟨m2,by rw[h1];exact hg2,h2⟩ with h5|⟨j,h5,e',h6,h7⟩
        ·exact .inl h5
        ·exact .inr ⟨j,h5,e',List.mem_append_left _ h6,h7⟩
       ·exact .inr ⟨j,h3,e,List.mem_append_right _ List.mem_cons_self,hlab,h1.symm,h4⟩
       ·rcases hp9.1 h2 with h5|⟨j,h5,e',h6,h7⟩
        ·exact .inl h5
        ·exact .inr ⟨j,h5,e',List.mem_append_left _ h6,h7⟩
      ·have old : A4h nx9 p → (p.1 = e.1 ∧ (m2.testBit p.2 = true ∨ ∃ j, m.testBit j = true ∧ B6d y j (labN e.2.2.1) p.2)) ∨ (p.1 ≠ e.1 ∧ A4h nx9 p) := fun hb => by
         by_cases ht : p.1 = e.1
         · obtain⟨m', h1, h2⟩ := hb
           rw[ht, hg2]at h1;exact .inl ⟨ht, .inl (by rw[Option.some.inj h1];exact h2)⟩
         · exact .inr ⟨ht, hb⟩
       rintro(h1|⟨j, h1, e', h2, h3, h4, h5⟩)
       · exact old (hp9.2 (.inl h1))
       · rcases List.mem_append.1 h2 with h6|h6
         · exact old (hp9.2 (.inr ⟨j, h1, e', h6, h3, h4, h5⟩))
         · rw[List.mem_singleton.1 h6]at h4 h5
           exact .inl ⟨h4.symm, .inr ⟨j, h1, h5⟩⟩
    ·rintro F4 H9 hF4 f79 ⟨hk9,hz9,nx9,hb9,hnx9,hwx9,hbx9⟩
     have e65:=hF4 65 rfl;have e66:=hF4 66 rfl;have e78:=hF4 78 rfl;simp only[sx,Nat.reduceEqDiff,g65,f66]at e65 e66 e78;rw[List.take_length]at hbx9;simp only[↓Sh.dn,sx,Nat.reduceBEq,Nat.reduceEqDiff,e66,e78,f79,A2a,Nat.lt_irrefl,decide_false,A1a hs (by omega)];refine k2 _ _ ?_ (by simp only[sx]) ⟨hk9,hz9,nx9,hb9,hnx9,hwx9,fun p=>?_⟩
     ·repeat refine Same.put ?_ rfl
      exact Same.trans (by repeat (first|refine Same.put ?_ rfl|exact Same.rfl' _)) (hF4.sub rfl)
     ·rw[hbx9]
      constructor
      ·rintro(⟨a,h1,h2⟩|⟨j,h1,e,h2,h3,h4,h5⟩)
       ·exact⟨a,by omega,h2⟩
       ·exact⟨(s,j),Nat.lt_succ_self s,(hbs j).2 h1,labN e.2.2.1,c,hgx,⟨r,hr,e,h2,h4,h3,rfl⟩,h5⟩
      ·rintro⟨⟨a,j⟩,h1,h2,h3⟩
       by_cases has:a=s
       ·subst has
        obtain⟨b,c',h4,⟨r',h5,e,h6,h7,h8,h9⟩,h10⟩:=h3;simp only at h4 h5 h7 h10;rw[hgx]at h4;rw[hr]at h5;rw[←Option.some.inj h5]at h6;rw[←Option.some.inj h4]at h8;exact .inr ⟨j,(hbs j).1 h2,e,h6,h8,h7,by rw[h9];exact h10⟩
       ·exact .inl ⟨(a,j),by simp only at h1 ⊢;omega,h2,h3⟩
   ·rintro F2 H8 hF2 f66 ⟨hk8,hz8,nx,hb8,hnx,hwx,hbx⟩
    have g0:=hF2 0 rfl;have g1:=hF2 1 rfl;have g2:=hF2 2 rfl;have g10:=hF2 10 rfl;have g12:=hF2 12 rfl;have g13:=hF2 13 rfl;have g65:=hF2 65 rfl;simp only[sx,reduceCtorEq,Nat.reduceEqDiff,f0,f1,f2,f10,f12]at g0 g1 g2 g10 g12 g13 g65;have wi:=A1a hil (by omega);simp only[↓Sh.dn,sx,Nat.reduceBEq,Nat.reduceEqDiff,g12,g13,g65,f66,A2a,Nat.lt_irrefl,decide_false,wi];refine k (x.length-(i+1)) _ _ (by omega) ⟨i+1,by omega,by simp only[sx],by simp only[sx,reduceCtorEq,g0],by simp only[sx,Nat.reduceEqDiff,g1],by simp only[sx,Nat.reduceEqDiff,g2],by simp only[sx,Nat.reduceEqDiff,g10],hk8,zn,nx,some on,by simp only[sx,Nat.reduceEqDiff],hb8,fun v hv=>by have:=Option.some.inj hv;omega,hnx,hwx,fun p=>?_⟩;rw[hbx];show _↔∃a,B2m (laE (A5f E) y) (laA (A5f E) x y) (fun p=>p=(0,0)) i a∧laA (A5f E) x y i a p;constructor
    ·rintro⟨a,_,h2,h3⟩;exact⟨a,(hlay a).1 h2,h3⟩
    ·rintro⟨a,h2,h3⟩
     have h4:=(hlay a).2 h2;obtain⟨m',h5,_⟩:=h4;have:=(List.getElem?_eq_some_iff.1 h5).1;exact⟨a,by omega,(hlay a).2 h2,h3⟩
def A8p(N:NetD)(x y:List ByteArray):Int:=if A9f N≠0 then A9f N else if A2h x≠0 then A2h x else A2h y
noncomputable def holdsB(N:NetD)(x y:List ByteArray):Bool:=tB (A8p N x y=0∧A3j N x y)
theorem C01{w:List ByteArray}(h:A2h w=0):w.length≤60:=by
 unfold A2h at h;split at h
 ·cases h
 ·rename_i h1
  simp only[Bool.or_eq_true,decide_eq_true_eq,not_or]at h1;omega
theorem relHolds{H:AH}{v ux uy:Value}{N:NetD}{x y:List ByteArray}(h:A6v H v N)(hsm:A0f N)(hx:Sl H ux 1 (x.map A6b))(hy:Sl H uy 1 (y.map A6b))(hxl:x.length≤1048576)(hyl:y.length≤1048576)(hxx:∀z∈x,z.size≤1048576)(hyy:∀z∈y,z.size≤1048576)(hw:Wf H):
  Sh.Call Tryz.prog (knows 7) 14 [v,ux,uy] H (fun r H'=>Kept H H'∧r=.tuple #[.bool (holdsB N x y),.int .i64 (A8p N x y)]):=by
 refine A5a rfl Tryz.func14 rfl (Nat.le_of_ble_eq_true rfl) ?_;have hres:Tryz.f14.results.toList=[.tmp 6,.tmp 7]:=rfl;obtain⟨sg,ar,en,rfl,hsg,har,hen⟩:=h;have hb1:=NetBox.of (N:=N) hw hsg har hen;have hk1:Kept H (H.new 4 [sg,.int .i64 N.states,ar,en]).2:=Kept.new hw 4 _;simp only[↓Sh.dn,sx,Nat.reduceEqDiff,A9y hsg.isCell har.isCell hen.isCell];generalize H.next=gg at hb1 ⊢;generalize (H.new 4 [sg,.int .i64 N.states,ar,en]).2=H1 at hb1 hk1 ⊢;simp only[sx,hb1.ca];obtain⟨r,H2,hd,hk2,rfl⟩:=A35 hb1.netAt hsm hk1.wf;refine⟨_,_,hd,?_⟩;have hb2:=hb1.kept hk1.wf hk2;have hk12:=hk1.trans hk2;by_cases hE:A9f N=0
 case neg=>
  have e1:A8p N x y=A9f N:=by unfold A8p;rw[if_pos hE]
  have e2:holdsB N x y=false:=B8e fun h=>hE (by rw[←e1];exact h.1);simp only[↓Sh.dn,sx,Nat.reduceEqDiff,hE,decide_false,hres,e1,e2,hk12]
 have hx2:=hx.grow (hk12.grow hw);have hy2:=hy.grow (hk12.grow hw);have hbs:=C5u (P:=Tryz.prog) (H:=H2) Tryz.underlying30 A4t B3b rfl hx2.isCell hy2.isCell;have hJ:=two_jag hx2 hy2 hk12.wf;have kn:=Kept.new hk12.wf 1 [ux,uy];simp only[↓Sh.dn,sx,Nat.reduceEqDiff,hE,decide_true,hbs];generalize (Value.slice (some ⟨H2.next,0,some 0⟩) 2 2)=lv at hJ ⊢;have hll:∀H',A3a Tryz.prog .len [30] [lv] H'=some (.int .i64 ((2:Nat):Int),H'):=fun H'=>by
  rw[hJ.sl.len Tryz.underlying30];rfl
 have hkn:=hk12.trans kn;generalize (H2.new 1 [ux,uy]).2=H3 at kn hJ hkn ⊢;have hgx:∀(i:Nat) w,[x,y][i]?=some w→(w=x∧i=0)∨(w=y∧i=1):=fun i w h=>by
  match i with
  | 0=>exact .inl ⟨(Option.some.inj h).symm,rfl⟩
  | 1=>exact .inr ⟨(Option.some.inj h).symm,rfl⟩
  | i+2=>simp at h
 refine A0d 2 25 (List.range' 25 10++[10,11]) (fun i F H'=>Kept H3 H'∧∀(j:Nat) w,j<i→[x,y][j]?=some w→A2h w=0) (by simp only[sx]) ⟨Kept.refl hkn.wf,fun j w hj=>absurd hj (Nat.not_lt_zero j)⟩ ?_ ?_
 ·rintro i F H' hi hF f25 ⟨hk,hall⟩ k
  have f23:=hF 23 rfl;have f24:=hF 24 rfl;simp only[sx,Nat.reduceEqDiff]at f23 f24;obtain⟨w,hgw⟩:∃w,[x,y][i]?=some w:=⟨_,List.getElem?_eq_getElem (by simpa using hi)⟩
  obtain⟨g1,o1,q1,w1,i1,c1,s1⟩:=(hJ.grow (hk.grow hkn.wf)).at Tryz.underlying30 A4t (i:=i) (r:=w.map A6b) (by rw[List.getElem?_map,hgw];rfl);have hwb:w.length≤1048576∧∀z∈w,z.size≤1048576:=by
   rcases hgx i w hgw with⟨rfl,_⟩|⟨rfl,_⟩
   ·exact⟨hxl,hxx⟩
   ·exact⟨hyl,hyy⟩
  obtain⟨r,H4,hd4,hk4,rfl⟩:=C1h s1 hwb.1 hwb.2 hk.wf;simp only[↓Sh.dn,sx,Nat.reduceEqDiff,f23,f24,f25,A2a,hi,decide_true,i1,c1];refine⟨_,_,hd4,?_⟩;by_cases hE2:A2h w=0
  ·simp only[↓Sh.dn,sx,Nat.reduceEqDiff,hE2,decide_true,f25,A1a hi (by decide)]
   refine k _ _ (by repeat (first|refine Same.put ?_ rfl|exact Same.rfl' _)) (by simp only[sx]) ⟨hk.trans hk4,fun j u hj hu=>?_⟩;by_cases hji:j=i
   ·subst hji;rw[hgw]at hu;rw[←Option.some.inj hu];exact hE2
   ·exact hall j u (by omega) hu
  ·have e1 : A8p N x y = A2h w := by
     unfold A8p;rw[if_neg (by simpa using hE)];rcases hgx i w hgw with⟨rfl, _⟩|⟨rfl, rfl⟩
     · rw[if_pos hE2]
     · rw[if_neg (by simpa using hall 0 x (by omega) rfl)]
   have e2 : holdsB N x y = false := B8e fun h => hE2 (by rw[←e1];exact h.1);simp only[↓Sh.dn, sx, Nat.reduceEqDiff, hE2, decide_false, hres, e1, e2];exact(hkn.trans hk).trans hk4
 ·rintro F H' hF f25 ⟨hk,hall⟩
  have f1:=hF 1 rfl;have f2:=hF 2 rfl;have f3:=hF 3 rfl;have f24:=hF 24 rfl;simp only[sx,Nat.reduceEqDiff]at f1 f2 f3 f24;have hX:A2h x=0:=hall 0 x (by omega) rfl;have hY:A2h y=0:=hall 1 y (by omega) rfl;have e1:A8p N x y=0:=by unfold A8p;rw[if_neg (by simpa using hE),if_neg (by simpa using hX),hY]
  have hxs:=C01 hX;have hys:=C01 hY;obtain⟨hok,_,_⟩:=A7h hE;have hk5:=hkn.trans hk;have hb5:=(hb2.kept hk12.wf kn).kept hkn.wf hk;have hx5:=hx.grow (hk5.grow hw);have hy5:=hy.grow (hk5.grow hw);obtain⟨r,H6,hd6,hk6,z1,rfl,hz1⟩:=B9g hb5.hsg hok.asc hsm.sg hx5 hxl hk.wf;have hb6:=hb5.kept hk.wf hk6;have hy6:=hy5.grow (hk6.grow hk.wf);obtain⟨r,H7,hd7,hk7,z2,rfl,hz2⟩:=B9g hb6.hsg hok.asc hsm.sg hy6 hyl hk6.wf;have hb7:=hb6.kept hk6.wf hk7;have hk57:=(hk5.trans hk6).trans hk7;simp only[↓Sh.dn,sx,Nat.reduceEqDiff,f1,f2,f3,f24,f25,A2a,Nat.lt_irrefl,decide_false,hb5.c0];refine⟨_,_,hd6,?_⟩;simp only[sx,hb6.c0];refine⟨_,_,hd7,?_⟩;have e2:holdsB N x y=tB (A3j N x y):=by
   unfold holdsB;rw[e1]
   congr 1
   simp
  cases hax:x.all (A7r N.sigma) with
  | false=>
   have:holdsB N x y=false:=by
    rw[e2];refine B8e fun h=>?_;have:=List.all_eq_true.2 fun z hz=>A9g.2 ((A5s hok h).1 z hz);rw[hax]at this;cases this
   simp only[↓Sh.dn,sx,Nat.reduceEqDiff,hres,e1,this,hk57]
  | true=>
  cases hay:y.all (A7r N.sigma) with
  | false=>
   have:holdsB N x y=false:=by
    rw[e2];refine B8e fun h=>?_;have:=List.all_eq_true.2 fun z hz=>A9g.2 ((A5s hok h).2 z hz);rw[hay]at this;cases this
   simp only[↓Sh.dn,sx,Nat.reduceEqDiff,hres,e1,this,hk57]
  | true=>
  have hxm:∀z∈x,z∈N.sigma:=fun z hz=>A9g.1 (List.all_eq_true.1 hax z hz);have hym:∀z∈y,z∈N.sigma:=fun z hz=>A9g.1 (List.all_eq_true.1 hay z hz);obtain⟨o1,hb1',_⟩:=hz1 hax;obtain⟨o2,hb2',_⟩:=hz2 hay;rw[B3w hok.asc hxm]at hb1';rw[B3w hok.asc hym]at hb2';obtain⟨r,H8,hd8,hk8,g,rfl,base,hbase,hG⟩:=B1x hb7.netAt hok hsm hk7.wf;obtain⟨sv,av,ev,cv,vals,hP⟩:=Gr.pg hok hG;have hk78:=hk7.trans hk8;obtain⟨r,H9,hd9,hk9,rfl⟩:=C9q hP (hb1'.toSl.grow (hk78.grow hk6.wf)) (hb2'.toSl.grow (hk8.grow hk7.wf)) (by rw[List.length_map];exact hxs) (by rw[List.length_map];exact hys) (fun k hk=>by
   obtain⟨z,hz,rfl⟩:=List.mem_map.1 hk;obtain⟨k,h1,_,h3⟩:=B4s hok.asc (hym z hz);rw[h3];exact(List.getElem?_eq_some_iff.1 h1).1) hsm.sg (fun s r hr e he=>by
   obtain⟨a,ha,_,rfl⟩:=(A1s hr e).1 he;exact A01 hok (hok.arc a ha).2.2.2.2.2) hk8.wf
  have e3:tB (∃t,0<(A1h N N.ends).getD t 0∧Sh.Way (A5f (A8f N)) 0 (x.map (ixN N.sigma)) (y.map (ixN N.sigma)) t)=holdsB N x y:=by
   rw[e2,propext (A95 hok hxm hym)]
  simp only[↓Sh.dn,sx,Nat.reduceEqDiff,f3,hb7.ca];refine⟨_,_,hd8,?_⟩;refine⟨_,_,hd9,?_⟩;simp only[sx,Nat.reduceEqDiff,hres,e1,e3,(hk57.trans hk8).trans hk9]
end Go.Proofs.YtjjgodccecehlaaGreat
