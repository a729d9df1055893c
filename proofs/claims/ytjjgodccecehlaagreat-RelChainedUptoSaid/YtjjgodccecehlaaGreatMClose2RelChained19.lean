/- A part of the proof: ShTrim. -/
import Derived.Test.YtjjgodccecehlaaGreatMClose2RelChained11
import Derived.Test.YtjjgodccecehlaaGreatMClose2RelChained1
set_option linter.unusedVariables false
set_option linter.unusedSimpArgs false
/- A net of the useful states alone;the words below a word: both as relations, without a program. -/
namespace Go.Proofs.Sh
section
variable {α:Type} {A B:Arcs Nat α} {us:Nat→Prop} {f:Nat→Nat} {F G:Nat→Prop}
structure TrimR(A B:Arcs Nat α)(us:Nat→Prop)(f:Nat→Nat)(F G:Nat→Prop):Prop where
 edge:∀x a b y,B x a b y↔∃s t,us s∧us t∧x=f s∧y=f t∧A s a b t
 fin:∀x,G x↔∃s,us s∧x=f s∧F s
 f0:f 0=0
 inj:∀s t,us s∨s=0→us t∨t=0→f s=f t→s=t
 use:∀s,us s↔Clo (fun s t=>∃a b,A s a b t) (fun s=>s=0) s∧Clo (fun s t=>∃a b,A t a b s) F s
theorem TrimR.down(h:TrimR A B us f F G){p q:Nat}{x y:List α}(hw:Way B p x y q):∀s,p=f s→us s∨s=0→∃t,q=f t∧(us t∨t=0)∧Way A s x y t:=by
 induction hw with
 | nil p=>exact fun s e hs=>⟨s,e,hs,.nil s⟩
 | cons h1 _ ih=>
  intro s e hs;obtain⟨s',t,h3,h4,h5,h6,h7⟩:=(h.edge _ _ _ _).1 h1;have:=h.inj s s' hs (.inl h3) (by rw[←e,h5]);subst this;obtain⟨u,h8,h9,h10⟩:=ih t h6 (.inl h4);exact⟨u,h8,h9,.cons h7 h10⟩
theorem TrimR.up(h:TrimR A B us f F G){s t:Nat}{x y:List α}(hw:Way A s x y t):Clo (fun s t=>∃a b,A s a b t) (fun s=>s=0) s→F t→us s∧us t∧Way B (f s) x y (f t):=by
 induction hw with
 | nil s=>exact fun h1 h2=>⟨(h.use s).2 ⟨h1,.base h2⟩,(h.use s).2 ⟨h1,.base h2⟩,.nil _⟩
 | cons h1 _ ih=>
  intro h2 h3;obtain⟨h5,h6,h7⟩:=ih (.step h2 ⟨_,_,h1⟩) h3;have hs:=(h.use _).2 ⟨h2,.step ((h.use _).1 h5).2 ⟨_,_,h1⟩⟩;exact⟨hs,h6,.cons ((h.edge _ _ _ _).2 ⟨_,_,hs,h5,rfl,rfl,h1⟩) h7⟩
theorem TrimR.rel(h:TrimR A B us f F G)(x y:List α):RelP B G x y↔RelP A F x y:=by
 constructor
 ·rintro⟨q,h1,h2⟩
  obtain⟨t,h3,h4,h5⟩:=h.down h2 0 h.f0.symm (.inr rfl);obtain⟨s,h6,h7,h8⟩:=(h.fin q).1 h1;have:=h.inj t s h4 (.inl h6) (by rw[←h3,h7]);subst this;exact⟨t,h8,h5⟩
 ·rintro⟨t,h1,h2⟩
  obtain⟨h3,h4,h5⟩:=h.up h2 (.base rfl) h1;rw[h.f0]at h5;exact⟨f t,(h.fin _).2 ⟨t,h4,rfl,h1⟩,h5⟩
theorem TrimR.reach(h:TrimR A B us f F G){s:Nat}(hs:us s):Clo (fun s t=>∃a b,B s a b t) (fun s=>s=0) (f s):=by
 have key:∀{s:Nat},Clo (fun s t=>∃a b,A s a b t) (fun s=>s=0) s→us s→Clo (fun s t=>∃a b,B s a b t) (fun s=>s=0) (f s):=by
  intro s hc
  induction hc with
  | base h1=>intro _;exact .base (by rw[h1,h.f0])
  | @step p q h1 h2 ih=>
   intro hq;have hp:=(h.use p).2 ⟨h1,by
    obtain⟨a,b,h3⟩:=h2;exact .step ((h.use q).1 hq).2 ⟨a,b,h3⟩⟩
   obtain⟨a,b,h3⟩:=h2;exact .step (ih hp) ⟨a,b,(h.edge _ _ _ _).2 ⟨p,q,hp,hq,rfl,rfl,h3⟩⟩
 exact key ((h.use s).1 hs).1 hs
end
section
variable {α:Type}
def imgA(A:Arcs Nat α)(w:List α):Arcs (Nat×Nat) α:=fun p a b q=>a=b∧∃c,A p.2 c b q.2∧B6d w p.1 c q.1
theorem img_way{A:Arcs Nat α}{w y z:List α}{p q:Nat×Nat}(k:Way (imgA A w) p y z q):y=z∧∃u,Way A p.2 u y q.2∧w.drop p.1=u++w.drop q.1∧q.1=p.1+u.length:=by
 induction k with
 | nil s=>exact⟨rfl,[],.nil _,rfl,rfl⟩
 | cons h1 _ ih=>
  obtain⟨rfl,c,h2,h3⟩:=h1;obtain⟨rfl,u,h4,h5,h6⟩:=ih;obtain⟨h7,h8⟩:=A19 h3;exact⟨rfl,c.toList++u,.cons h2 h4,by rw[h7,h5,List.append_assoc],by rw[h6,h8,List.length_append];omega⟩
theorem way_img{A:Arcs Nat α}{w:List α}{s t:Nat}{u v:List α}(k:Way A s u v t):∀{i:Nat} {x':List α},w.drop i=u++x'→Way (imgA A w) (i,s) v v (i+u.length,t):=by
 induction k with
 | nil s=>exact fun _=>.nil _
 | @cons s r t a b u v h1 _ ih=>
  intro i x' h;rw[List.append_assoc]at h;obtain⟨h2,h3⟩:=B3t h;have:=ih h3;rw[List.length_append,←Nat.add_assoc];exact Way.cons (A:=imgA A w) (t:=(i+a.toList.length,r)) ⟨rfl,a,h1,h2⟩ this
theorem img_rel{A:Arcs Nat α}{F:Nat→Prop}(w y z:List α):(∃t,F t∧Way (imgA A w) (0,0) y z (w.length,t))↔y=z∧RelP A F w y:=by
 constructor
 ·rintro⟨t,h1,h2⟩
  obtain⟨rfl,u,h3,h4,_⟩:=img_way h2;have:w=u:=by simpa using h4
  exact⟨rfl,t,h1,by rw[this];exact h3⟩
 ·rintro⟨rfl,t,h1,h2⟩
  have:=way_img (w:=w) h2 (i:=0) (x':=[]) (by simp);exact⟨t,h1,by simpa using this⟩
end
end Go.Proofs.Sh
