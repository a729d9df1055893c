/- A part of the proof: ShWays. -/
import Derived.Test.YtjjgodccecehlaaGreatMClose2RelChained13
set_option linter.unusedVariables false
set_option linter.unusedSimpArgs false
/- Ways through an automaton;an automaton of the useful states alone. -/
namespace Go.Proofs.Sh
open Go
inductive Wy{L:Type}(E:Nat→Nat→Prop)(A:L→Nat→Nat→Prop):Nat→List L→Nat→Prop
 | nil (s:Nat):Wy E A s [] s
 | eps {s t u:Nat} {w:List L}:E s t→Wy E A t w u→Wy E A s w u
 | sym {s t u:Nat} {k:L} {w:List L}:A k s t→Wy E A t w u→Wy E A s (k :: w) u
section
variable {L:Type} {E:Nat→Nat→Prop} {A:L→Nat→Nat→Prop}
theorem Wy.pre{s t u:Nat}{w:List L}(h:Clo E (fun x=>x=s) t)(k:Wy E A t w u):Wy E A s w u:=
 h.of (Q:=fun t=>∀{w},Wy E A t w u→Wy E A s w u) (fun x hx w k=>by rw[←hx];exact k) (fun a b ha hb w k=>ha (.eps hb k)) k
theorem way_nil{s t:Nat}{w:List L}(h:Wy E A s w t)(hw:w=[]):Clo E (fun x=>x=s) t:=by
 induction h with
 | nil s=>exact .base rfl
 | eps h1 _ ih=>exact A2v.2 ⟨_,.step (.base rfl) h1,ih hw⟩ |>.of (Q:=fun t=>Clo E (fun x=>x=_) t) (fun _ h=>h) fun _ _ h1 h2=>.step h1 h2
 | sym _ _ _=>cases hw
theorem way_cons{s t:Nat}{w:List L}(h:Wy E A s w t){k:L}{v:List L}(hw:w=k :: v):∃a b,Clo E (fun x=>x=s) a∧A k a b∧Wy E A b v t:=by
 induction h with
 | nil s=>cases hw
 | eps h1 _ ih=>
  obtain⟨a,b,h2,h3,h4⟩:=ih hw;exact⟨a,b,(A2v.2 ⟨_,.step (.base rfl) h1,h2⟩:Clo E (Clo E fun x=>x=_) a).of (Q:=fun t=>Clo E (fun x=>x=_) t) (fun _ h=>h) fun _ _ h1 h2=>.step h1 h2,h3,h4⟩
 | sym h1 h2 _=>
  injection hw with e1 e2
  subst e1 e2;exact⟨_,_,.base rfl,h1,h2⟩
theorem C3p:∀{w:List L} {S:Nat→Prop} {t:Nat},RunS E A (Clo E S) w t↔∃s,S s∧Wy E A s w t
 | [],S,t=>by
  show Clo E S t↔_;rw[A2v];exact⟨fun⟨s,h1,h2⟩=>⟨s,h1,.pre h2 (.nil _)⟩,fun⟨s,h1,h2⟩=>⟨s,h1,way_nil h2 rfl⟩⟩
 | k :: w,S,t=>by
  simp only[RunS];rw[C3p];constructor
  ·rintro⟨b,⟨a,h1,h2⟩,h3⟩
   obtain⟨s,h4,h5⟩:=A2v.1 h1;exact⟨s,h4,.pre h5 (.sym h2 h3)⟩
  ·rintro⟨s,h1,h2⟩
   obtain⟨a,b,h3,h4,h5⟩:=way_cons h2 rfl;exact⟨b,⟨a,A2v.2 ⟨s,h1,h3⟩,h4⟩,h5⟩
end
section
variable {ed ed':Int→Nat→Nat→Prop} {us:Nat→Prop} {f:Nat→Nat} {end_ end':Nat→Prop}
def B33(ed:Int→Nat→Nat→Prop)(s t:Nat):Prop:=∃x,x<0∧ed x s t
def C9s(ed:Int→Nat→Nat→Prop)(k:Nat)(s t:Nat):Prop:=ed (k:Int) s t
structure TrimOf(ed ed':Int→Nat→Nat→Prop)(us:Nat→Prop)(f:Nat→Nat)(end_ end':Nat→Prop):Prop where
 edge:∀x a b,ed' x a b↔∃s t,us s∧us t∧a=f s∧b=f t∧ed x s t
 fin:∀a,end' a↔∃s,us s∧a=f s∧end_ s
 f0:f 0=0
 inj:∀s t,us s∨s=0→us t∨t=0→f s=f t→s=t
 use:∀s,us s↔Clo (fun s t=>∃x,ed x s t) (fun s=>s=0) s∧Clo (fun s t=>∃x,ed x t s) end_ s
theorem TrimOf.down(h:TrimOf ed ed' us f end_ end'){a b:Nat}{w:List Nat}(hw:Wy (B33 ed') (C9s ed') a w b):∀s,a=f s→us s∨s=0→∃t,b=f t∧(us t∨t=0)∧Wy (B33 ed) (C9s ed) s w t:=by
 induction hw with
 | nil a=>exact fun s e hs=>⟨s,e,hs,.nil s⟩
 | eps h1 _ ih=>
  intro s e hs;obtain⟨x,hx,h2⟩:=h1;obtain⟨s',t,h3,h4,h5,h6,h7⟩:=(h.edge x _ _).1 h2;have:=h.inj s s' hs (.inl h3) (by rw[←e,h5]);subst this;obtain⟨u,h8,h9,h10⟩:=ih t h6 (.inl h4);exact⟨u,h8,h9,.eps ⟨x,hx,h7⟩ h10⟩
 | sym h1 _ ih=>
  intro s e hs;obtain⟨s',t,h3,h4,h5,h6,h7⟩:=(h.edge _ _ _).1 h1;have:=h.inj s s' hs (.inl h3) (by rw[←e,h5]);subst this;obtain⟨u,h8,h9,h10⟩:=ih t h6 (.inl h4);exact⟨u,h8,h9,.sym h7 h10⟩
theorem TrimOf.up(h:TrimOf ed ed' us f end_ end'){s t:Nat}{w:List Nat}(hw:Wy (B33 ed) (C9s ed) s w t):Clo (fun s t=>∃x,ed x s t) (fun s=>s=0) s→end_ t→us s∧us t∧Wy (B33 ed') (C9s ed') (f s) w (f t):=by
 induction hw with
 | nil s=>exact fun h1 h2=>⟨(h.use s).2 ⟨h1,.base h2⟩,(h.use s).2 ⟨h1,.base h2⟩,.nil _⟩
 | eps h1 _ ih=>
  intro h2 h3;obtain⟨x,hx,h4⟩:=h1;obtain⟨h5,h6,h7⟩:=ih (.step h2 ⟨x,h4⟩) h3;have hs:=(h.use _).2 ⟨h2,.step ((h.use _).1 h5).2 ⟨x,h4⟩⟩;exact⟨hs,h6,.eps ⟨x,hx,(h.edge x _ _).2 ⟨_,_,hs,h5,rfl,rfl,h4⟩⟩ h7⟩
 | sym h1 _ ih=>
  intro h2 h3;obtain⟨h5,h6,h7⟩:=ih (.step h2 ⟨_,h1⟩) h3;have hs:=(h.use _).2 ⟨h2,.step ((h.use _).1 h5).2 ⟨_,h1⟩⟩;exact⟨hs,h6,.sym ((h.edge _ _ _).2 ⟨_,_,hs,h5,rfl,rfl,h1⟩) h7⟩
theorem TrimOf.acc(h:TrimOf ed ed' us f end_ end')(w:List Nat):accS (B33 ed') (C9s ed') end' (Clo (B33 ed') fun s=>s=0) w↔accS (B33 ed) (C9s ed) end_ (Clo (B33 ed) fun s=>s=0) w:=by
 unfold accS;simp only[C3p];constructor
 ·rintro⟨b,⟨a,rfl,h1⟩,h2⟩
  obtain⟨t,h3,h4,h5⟩:=h.down h1 0 h.f0.symm (.inr rfl);obtain⟨s,h6,h7,h8⟩:=(h.fin b).1 h2;have:=h.inj t s h4 (.inl h6) (by rw[←h3,h7]);subst this;exact⟨t,⟨0,rfl,h5⟩,h8⟩
 ·rintro⟨t,⟨s,rfl,h1⟩,h2⟩
  obtain⟨h3,h4,h5⟩:=h.up h1 (.base rfl) h2;rw[h.f0]at h5;exact⟨f t,⟨0,rfl,h5⟩,(h.fin _).2 ⟨t,h4,rfl,h2⟩⟩
end
theorem wp_from{P:Program}{O:A1d}{c:Code}{S:List Item}{Q:Fr→AH→Prop}{F:Fr}{H:AH}(n t i0:Nat)(W:List Nat)(I:Nat→Fr→AH→Prop)
  (hi0:i0≤n) (ht:F.get t=some (.int .i64 (i0:Int))) (h0:I i0 F H)
  (step:∀i F' H',i0≤i→i<n→Same W F F'→F'.get t=some (.int .i64 (i:Int))→I i F' H'→
   (∀F'' H'',Same W F' F''→F''.get t=some (.int .i64 ((i+1:Nat):Int))→I (i+1) F'' H''→wp P O (.inLoop c :: S) Q F'' H'')→wp P O (.code c :: .inLoop c :: S) Q F' H')
  (done:∀F' H',Same W F F'→F'.get t=some (.int .i64 (n:Int))→I n F' H'→wp P O (.code c :: .inLoop c :: S) Q F' H'):
  wp P O (.inLoop c :: S) Q F H:=by
 refine B8v n (fun i F' H'=>i0≤i∧Same W F F'∧F'.get t=some (.int .i64 (i:Int))∧I i F' H') hi0 ⟨Nat.le_refl _,Same.rfl' F,ht,h0⟩ ?_;rintro i F' H' hi ⟨h,h1,h2,h3⟩ k;by_cases hlt:i<n
 ·exact step i F' H' h hlt h1 h2 h3 fun F'' H'' s1 s2 s3=>k F'' H'' hlt ⟨Nat.le_succ_of_le h,h1.trans s1,s2,s3⟩
 ·have:i=n:=by omega
  subst this;exact done F' H' h1 h2 h3
theorem wp_then{P:Program}{O:A1d}{c:Code}{S:List Item}{Q:Fr→AH→Prop}{F:Fr}{H:AH}(N:Fr→AH→Prop)(k:∀F' H',N F' H'→wp P O S Q F' H')(h:∀S',(∀F' H',N F' H'→wp P O S' Q F' H')→wp P O (.code c :: S') Q F H):wp P O (.code c :: S) Q F H:=h S k
theorem Buf.spot{P:Program}{t e:Nat}{H:AH}{v:Value}{l:List (List Value)}{b:Option Nat}(hu:P.underlying t=some (.slice e))(hs:A5b P e=some 1)(h:Buf H 1 v l b)(hw:Wf H){i:Nat}{u:Value}(hx:l[i]?=some [u]):
  ∃p,A4b P t v (.int .i64 (i:Int))=some (.pointer (some p))∧H.cell p=some u∧∀w,∃H',H.write p [w]=some H'∧Buf H' 1 v (l.set i [w]) b∧Chg (fun y=>b=some y) H H'∧H'.next=H.next:=by
 obtain⟨p0,h1,h2⟩:=Sl.elem (s:=1) hu hs h.toSl hx;refine⟨p0,h1,h2,fun w=>?_⟩;obtain⟨p,H',e1,e2,e3,e4,e5⟩:=h.set (P:=P) hw (x:=[w]) (List.getElem?_eq_some_iff.1 hx).1 rfl;have:=e1 hu hs (j:=.i64);rw[h1]at this;injection this with this;injection this with this;injection this with this
 subst this;exact⟨H',e2,e3,e4,e5⟩
def A0j(U:List Bool):Nat→Nat
 | 0=>0
 | t+1=>A0j U t+(if 1≤t∧U[t]?=some true then 1 else 0)
def numU(U:List Bool)(t:Nat):Nat:=if 1≤t∧U[t]?=some true then 1+A0j U t else 0
theorem B8p(U:List Bool){s t:Nat}(h:s≤t):A0j U s≤A0j U t:=by
 induction h with
 | refl=>exact Nat.le_refl _
 | step _ ih=>exact Nat.le_trans ih (Nat.le_add_right _ _)
theorem C2o(U:List Bool)(t:Nat):A0j U t≤t:=by
 induction t with
 | zero=>exact Nat.le_refl _
 | succ t ih=>unfold A0j;split<;>omega
theorem C71{U:List Bool}{s n:Nat}(hs:s<n):numU U s<1+A0j U n:=by
 unfold numU;split
 ·rename_i h
  have:=B8p U (s:=s+1) (t:=n) hs;rw[A0j,if_pos h]at this;omega
 ·omega
theorem B1f{U:List Bool}{s t:Nat}(hs:U[s]?=some true∨s=0)(ht:U[t]?=some true∨t=0)(h:numU U s=numU U t):s=t:=by
 have key:∀{a b:Nat},a<b→U[a]?=some true∨a=0→U[b]?=some true∨b=0→numU U a≠numU U b:=by
  intro a b hab ha hb;have hb':1≤b∧U[b]?=some true:=⟨by omega,hb.resolve_right (by omega)⟩
  unfold numU;rw[if_pos hb'];split
  ·rename_i h
   have:=B8p U (s:=a+1) (t:=b) hab;rw[A0j,if_pos h]at this;omega
  ·omega
 rcases Nat.lt_trichotomy s t with h1|h1|h1
 ·exact absurd h (key h1 hs ht)
 ·exact h1
 ·exact absurd h.symm (key h1 ht hs)
theorem B3g(U:List Bool):numU U 0=0:=by unfold numU;rw[if_neg (by omega)]
def numL(U:List Bool)(n i:Nat):List Nat:=(List.range n).map fun t=>if t<i then numU U t else 0
theorem A87{U:List Bool}{n i t:Nat}(h:t<n):(numL U n i)[t]?=some (if t<i then numU U t else 0):=by simp[numL,h]
theorem numL_one(U:List Bool)(n:Nat):numL U n 1=List.replicate n 0:=by
 refine List.ext_getElem? fun t=>?_;by_cases h:t<n
 ·rw[A87 h,List.getElem?_replicate,if_pos h]
  split
  ·rw[show t=0 by omega,B3g]
  ·rfl
 ·rw[List.getElem?_eq_none (by simp[numL];omega),List.getElem?_eq_none (by simp;omega)]
theorem D3c{U:List Bool}{n i:Nat}(h:numU U i=0):numL U n (i+1)=numL U n i:=by
 unfold numL;refine List.map_congr_left fun t _=>?_;by_cases h1:t<i
 ·rw[if_pos h1,if_pos (by omega)]
 ·rw[if_neg h1]
  split
  ·rw[show t=i by omega,h]
  ·rfl
theorem numL_set{U:List Bool}{n i:Nat}:numL U n (i+1)=(numL U n i).set i (numU U i):=by
 refine List.ext_getElem? fun t=>?_;have hl:(numL U n i).length=n:=by simp[numL]
 by_cases h:t<n
 ·rw[A87 h,List.getElem?_set,hl]
  by_cases h1:i=t
  ·subst h1;rw[if_pos rfl,if_pos h,if_pos (by omega)]
  ·rw[if_neg h1,A87 h]
   congr 1
   by_cases h2:t<i
   ·rw[if_pos h2,if_pos (by omega)]
   ·rw[if_neg h2,if_neg (by omega)]
 ·rw[List.getElem?_eq_none (by simp[numL];omega),List.getElem?_eq_none (by rw[List.length_set,hl];omega)]
def B6e(H H':AH)(r:Value)(n:Nat)(Q:Nat→Prop):Prop:=Kept H H'∧∃B:List Bool,∃o,Buf H' 1 r (B.map A0z) o∧(∀y,o=some y→H.next≤y)∧B.length=n∧∀t:Nat,B[t]?=some true↔Q t
end Go.Proofs.Sh
