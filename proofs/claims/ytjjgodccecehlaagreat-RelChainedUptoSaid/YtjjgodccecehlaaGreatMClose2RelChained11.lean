/- A part of the proof: ShJoins. -/
import Derived.Test.YtjjgodccecehlaaGreatMClose2RelChained9
set_option linter.unusedVariables false
set_option linter.unusedSimpArgs false
/- Relations of words that are put together, without a program. -/
namespace Go.Proofs.Sh
open Go
section
variable {σ τ α:Type}
def RelP(A:Arcs Nat α)(F:Nat→Prop)(x y:List α):Prop:=∃t,F t∧Way A 0 x y t
theorem Way.pull{A:Arcs σ α}{B:Arcs τ α}{g:σ→τ}{Q:σ→Prop}(h:∀s a b t,Q s→B (g s) a b t→∃t',t=g t'∧Q t'∧A s a b t'){s:σ}{t:τ}{x y:List α}(k:Way B (g s) x y t)(hs:Q s):∃t',t=g t'∧Q t'∧Way A s x y t':=by
 generalize hu:g s=u at k
 induction k generalizing s with
 | nil u=>exact⟨s,hu.symm,hs,.nil s⟩
 | cons h1 _ ih=>
  subst hu;obtain⟨t',rfl,h2,h3⟩:=h _ _ _ _ hs h1;obtain⟨v,h4,h5,h6⟩:=ih h2 rfl;exact⟨v,h4,h5,.cons h3 h6⟩
theorem Way.first{A:Arcs σ α}{s u:σ}{x y:List α}(k:Way A s x y u):(s=u∧x=[]∧y=[])∨∃a b t x' y',A s a b t∧Way A t x' y' u∧x=a.toList++x'∧y=b.toList++y':=by
 cases k with
 | nil s=>exact .inl ⟨rfl,rfl,rfl⟩
 | cons h1 h2=>exact .inr ⟨_,_,_,_,_,h1,h2,rfl,rfl⟩
structure EitherOf(n:Nat)(A B M:Arcs Nat α)(FA FB F:Nat→Prop):Prop where
 arc:∀s a b t,M s a b t↔(s=0∧a=none∧b=none∧(t=1∨t=1+n))∨(∃s' t',s=1+s'∧t=1+t'∧A s' a b t')∨∃s' t',s=1+n+s'∧t=1+n+t'∧B s' a b t'
 fin:∀t,F t↔(∃t',t=1+t'∧FA t')∨∃t',t=1+n+t'∧FB t'
 inA:∀s a b t,A s a b t→s<n∧t<n
 inF:∀t,FA t→t<n
 pos:0<n
theorem EitherOf.rel{n:Nat}{A B M:Arcs Nat α}{FA FB F:Nat→Prop}(h:EitherOf n A B M FA FB F)(x y:List α):RelP M F x y↔RelP A FA x y∨RelP B FB x y:=by
 have hn:=h.pos;constructor
 ·rintro⟨t,hF,hw⟩
  rcases hw.first with⟨rfl,_,_⟩|⟨a,b,u,x',y',h1,h2,rfl,rfl⟩
  ·rcases(h.fin 0).1 hF with⟨t',h1,_⟩|⟨t',h1,_⟩<;>omega
  ·rcases(h.arc _ _ _ _).1 h1 with⟨_,rfl,rfl,rfl|rfl⟩|⟨s',t',h3,_⟩|⟨s',t',h3,_⟩
   ·obtain ⟨t', rfl, h3, h4⟩ := Way.pull (A := A) (g := fun s => 1 + s) (Q := fun s => s < n) (fun s a b t hs hb => by
      rcases(h.arc _ _ _ _).1 hb with⟨h3, _⟩|⟨s', t', h3, h4, h5⟩|⟨s', t', h3, _⟩
      · omega
      · have : s' = s := by omega
        subst this;exact⟨t', h4, (h.inA _ _ _ _ h5).2, h5⟩
      · omega) (s := 0) h2 hn
    refine .inl ⟨t', ?_, h4⟩;rcases(h.fin _).1 hF with⟨t2, h5, h6⟩|⟨t2, h5, h6⟩
    · have : t2 = t' := by omega
      subst this;exact h6
    · omega
   ·obtain ⟨t', rfl, h3, h4⟩ := Way.pull (A := B) (g := fun s => 1 + n + s) (Q := fun _ => True) (fun s a b t hs hb => by
      rcases(h.arc _ _ _ _).1 hb with⟨h3, _⟩|⟨s', t', h3, h4, h5⟩|⟨s', t', h3, h4, h5⟩
      · omega
      · have := h.inA _ _ _ _ h5
        omega
      · have : s' = s := by omega
        subst this;exact⟨t', h4, trivial, h5⟩) (s := 0) h2 trivial
    refine .inr ⟨t', ?_, h4⟩;rcases(h.fin _).1 hF with⟨t2, h5, h6⟩|⟨t2, h5, h6⟩
    · have := h.inF _ h6;omega
    · have : t2 = t' := by omega
      subst this;exact h6
   ·omega
   ·omega
 ·rintro(⟨t,hF,hw⟩|⟨t,hF,hw⟩)
  ·refine⟨1+t,(h.fin _).2 (.inl ⟨t,rfl,hF⟩),?_⟩
   exact .cons (a:=none) (b:=none) ((h.arc _ _ _ _).2 (.inl ⟨rfl,rfl,rfl,.inl rfl⟩)) (hw.move (g:=fun s=>1+s) fun s a b t hs=>(h.arc _ _ _ _).2 (.inr (.inl ⟨s,t,rfl,rfl,hs⟩)))
  ·refine⟨1+n+t,(h.fin _).2 (.inr ⟨t,rfl,hF⟩),?_⟩
   exact .cons (a:=none) (b:=none) ((h.arc _ _ _ _).2 (.inl ⟨rfl,rfl,rfl,.inr rfl⟩)) (hw.move (g:=fun s=>1+n+s) fun s a b t hs=>(h.arc _ _ _ _).2 (.inr (.inr ⟨s,t,rfl,rfl,hs⟩)))
structure ChainOf(n:Nat)(A B M:Arcs Nat α)(FA FB F:Nat→Prop):Prop where
 arc:∀s a b t,M s a b t↔A s a b t∨(∃s' t',s=n+s'∧t=n+t'∧B s' a b t')∨(FA s∧t=n∧a=none∧b=none)
 fin:∀t,F t↔∃t',t=n+t'∧FB t'
 inA:∀s a b t,A s a b t→s<n∧t<n
 inF:∀t,FA t→t<n
 pos:0<n
theorem ChainOf.rel{n:Nat}{A B M:Arcs Nat α}{FA FB F:Nat→Prop}(h:ChainOf n A B M FA FB F)(x y:List α):RelP M F x y↔∃x1 x2 y1 y2,x=x1++x2∧y=y1++y2∧RelP A FA x1 y1∧RelP B FB x2 y2:=by
 constructor
 ·rintro⟨t,hF,hw⟩
  have key:∀{s t:Nat} {x y:List α},Way M s x y t→s<n→n≤t→∃m x1 x2 y1 y2,x=x1++x2∧y=y1++y2∧Way A s x1 y1 m∧FA m∧Way M n x2 y2 t:=by
   intro s t x y k
   induction k with
   | nil s=>intro h1 h2;omega
   | @cons s u t a b x y h1 k ih=>
    intro h2 h3;rcases(h.arc _ _ _ _).1 h1 with h4|⟨s',t',h4,_⟩|⟨h4,rfl,rfl,rfl⟩
    ·obtain⟨m,x1,x2,y1,y2,rfl,rfl,h5,h6,h7⟩:=ih (h.inA _ _ _ _ h4).2 h3
     exact⟨m,a.toList++x1,x2,b.toList++y1,y2,by rw[List.append_assoc],by rw[List.append_assoc],.cons h4 h5,h6,h7⟩
    ·omega
    ·exact⟨s,[],x,[],y,rfl,rfl,.nil s,h4,k⟩
  obtain⟨t',rfl,hF'⟩:=(h.fin _).1 hF;obtain⟨m,x1,x2,y1,y2,rfl,rfl,h5,h6,h7⟩:=key hw h.pos (by omega);obtain⟨t2,h8,_,h9⟩:=Way.pull (A:=B) (g:=fun s=>n+s) (Q:=fun _=>True) (fun s a b t hs hb=>by
   rcases(h.arc _ _ _ _).1 hb with h4|⟨s',t',h4,h5,h6⟩|⟨h4,_⟩
   ·have:=h.inA _ _ _ _ h4;omega
   ·have:s'=s:=by omega
    subst this;exact⟨t',h5,trivial,h6⟩
   ·have:=h.inF _ h4;omega) (s:=0) h7 trivial
  have:t2=t':=by omega
  subst this;exact⟨x1,x2,y1,y2,rfl,rfl,⟨m,h6,h5⟩,t2,hF',h9⟩
 ·rintro⟨x1,x2,y1,y2,rfl,rfl,⟨m,h1,h2⟩,t,h3,h4⟩
  refine⟨n+t,(h.fin _).2 ⟨t,rfl,h3⟩,(h2.mono fun s a b t hs=>(h.arc _ _ _ _).2 (.inl hs)).app ?_⟩;exact .cons (a:=none) (b:=none) ((h.arc _ _ _ _).2 (.inr (.inr ⟨h1,rfl,rfl,rfl⟩))) (h4.move (g:=fun s=>n+s) fun s a b t hs=>(h.arc _ _ _ _).2 (.inr (.inl ⟨s,t,rfl,rfl,hs⟩)))
inductive ManyP(R:List α→List α→Prop):List α→List α→Prop
 | nil:ManyP R [] []
 | snoc {x y u v:List α}:ManyP R x y→R u v→ManyP R (x++u) (y++v)
theorem ManyP.front{R:List α→List α→Prop}{u v x y:List α}(h:R u v)(k:ManyP R x y):ManyP R (u++x) (v++y):=by
 induction k with
 | nil=>have:=ManyP.snoc .nil h;simpa using this
 | snoc _ h2 ih=>rw[←List.append_assoc,←List.append_assoc];exact .snoc ih h2
structure StarOf(A M:Arcs Nat α)(FA F:Nat→Prop):Prop where
 arc:∀s a b t,M s a b t↔(s=0∧t=1∧a=none∧b=none)∨(∃s' t',s=1+s'∧t=1+t'∧A s' a b t')∨(∃s',s=1+s'∧FA s'∧t=0∧a=none∧b=none)
 fin:∀t,F t↔t=0
theorem StarOf.rel{A M:Arcs Nat α}{FA F:Nat→Prop}(h:StarOf A M FA F)(x y:List α):RelP M F x y↔ManyP (RelP A FA) x y:=by
 constructor
 ·rintro⟨t,hF,hw⟩
  rw[(h.fin t).1 hF]at hw;have key:∀{s t:Nat} {x y:List α},Way M s x y t→t=0→(s=0→ManyP (RelP A FA) x y)∧∀s',s=1+s'→∃m x1 x2 y1 y2,x=x1++x2∧y=y1++y2∧Way A s' x1 y1 m∧FA m∧ManyP (RelP A FA) x2 y2:=by
   intro s t x y k
   induction k with
   | nil s=>intro h1;exact⟨fun _=>.nil,fun s' h2=>by omega⟩
   | @cons s u t a b x y h1 k ih=>
    intro h2;obtain⟨i1,i2⟩:=ih h2;rcases(h.arc _ _ _ _).1 h1 with⟨rfl,rfl,rfl,rfl⟩|⟨s',t',rfl,rfl,h4⟩|⟨s',rfl,h4,rfl,rfl,rfl⟩
    ·refine⟨fun _=>?_,fun s' h3=>by omega⟩
     obtain⟨m,x1,x2,y1,y2,rfl,rfl,h5,h6,h7⟩:=i2 0 rfl;exact ManyP.front (R:=RelP A FA) (u:=x1) (v:=y1) ⟨m,h6,h5⟩ h7
    ·refine⟨fun h3=>by omega,fun s2 h3=>?_⟩
     have:s2=s':=by omega
     subst this;obtain⟨m,x1,x2,y1,y2,rfl,rfl,h5,h6,h7⟩:=i2 t' rfl;exact⟨m,a.toList++x1,x2,b.toList++y1,y2,by rw[List.append_assoc],by rw[List.append_assoc],.cons h4 h5,h6,h7⟩
    ·refine⟨fun h3=>by omega,fun s2 h3=>?_⟩
     have:s2=s':=by omega
     subst this;exact⟨s2,[],x,[],y,rfl,rfl,.nil _,h4,i1 rfl⟩
  exact(key hw rfl).1 rfl
 ·intro hm
  have:Way M 0 x y 0:=by
   induction hm with
   | nil=>exact .nil 0
   | @snoc x y u v _ h2 ih=>
    obtain⟨m,h3,h4⟩:=h2;refine ih.app ?_;have w1:Way M 0 [] [] 1:=Way.one (a:=none) (b:=none) ((h.arc _ _ _ _).2 (.inl ⟨rfl,rfl,rfl,rfl⟩));have w2:=h4.move (B:=M) (g:=fun s=>1+s) fun s a b t hs=>(h.arc _ _ _ _).2 (.inr (.inl ⟨s,t,rfl,rfl,hs⟩));have w3:Way M (1+m) [] [] 0:=Way.one (a:=none) (b:=none) ((h.arc _ _ _ _).2 (.inr (.inr ⟨m,rfl,h3,rfl,rfl,rfl⟩)));have:=(w1.app w2).app w3
    simpa using this
  exact⟨0,(h.fin 0).2 rfl,this⟩
def A2z(A B:Arcs Nat α):Arcs (Nat×Nat) α:=fun p a b q=>(p.1=q.1∧a=none∧B p.2 none b q.2)∨(A p.1 a none q.1∧p.2=q.2∧b=none)∨∃c,A p.1 a (some c) q.1∧B p.2 (some c) b q.2
theorem prod_b{A B:Arcs Nat α}{p:Nat}{q q':Nat}{y z:List α}(k:Way B q y z q'):y=[]→Way (A2z A B) (p,q) [] z (p,q'):=by
 induction k with
 | nil q=>intro _;exact .nil _
 | @cons q r q' a b y z h1 _ ih=>
  intro e;cases a with
  | some c=>simp at e
  | none=>exact Way.cons (A:=A2z A B) (t:=(p,r)) (a:=none) (x:=[]) (.inl ⟨rfl,rfl,h1⟩) (ih (by simpa using e))
theorem C4r{A B:Arcs Nat α}{c:α}{q q':Nat}{w z:List α}(k:Way B q w z q'):∀{y:List α},w=c :: y→∃r1 r2 b z1 z2,z=z1++(b.toList++z2)∧(∀p,Way (A2z A B) (p,q) [] z1 (p,r1))∧B r1 (some c) b r2∧Way B r2 y z2 q':=by
 induction k with
 | nil q=>intro y e;cases e
 | @cons q r q' a b w z h1 h2 ih=>
  intro y e;cases a with
  | none=>
   obtain⟨r1,r2,b',z1,z2,rfl,h3,h4,h5⟩:=ih (y:=y) (by simpa using e);exact⟨r1,r2,b',b.toList++z1,z2,by rw[List.append_assoc],fun p=>Way.cons (A:=A2z A B) (t:=(p,r)) (a:=none) (x:=[]) (.inl ⟨rfl,rfl,h1⟩) (h3 p),h4,h5⟩
  | some d=>
   have e':d :: w=c :: y:=e;injection e' with e1 e2
   subst e1 e2;exact⟨q,r,b,[],z,rfl,fun p=>.nil _,h1,h2⟩
theorem C1j{A B:Arcs Nat α}{x z:List α}{p q p' q':Nat}:Way (A2z A B) (p,q) x z (p',q')↔∃y,Way A p x y p'∧Way B q y z q':=by
 constructor
 ·intro h
  have key:∀{s t:Nat×Nat} {x z:List α},Way (A2z A B) s x z t→∃y,Way A s.1 x y t.1∧Way B s.2 y z t.2:=by
   intro s t x z k
   induction k with
   | nil s=>exact⟨[],.nil _,.nil _⟩
   | @cons s u t a b x z h1 _ ih=>
    obtain⟨y,h2,h3⟩:=ih;rcases h1 with⟨h4,rfl,h5⟩|⟨h4,h5,rfl⟩|⟨c,h4,h5⟩
    ·refine⟨y,by rw[h4];exact h2,?_⟩
     have:=Way.cons h5 h3
     simpa using this
    ·refine⟨y,?_,by rw[h5];exact h3⟩
     have:=Way.cons h4 h2
     simpa using this
    ·exact⟨[c]++y,Way.cons h4 h2,Way.cons h5 h3⟩
  exact key h
 ·rintro⟨y,h1,h2⟩
  induction h1 generalizing q z with
  | nil p=>exact prod_b h2 rfl
  | @cons p r p' a b x y h1 _ ih=>
   cases b with
   | none=>exact Way.cons (A:=A2z A B) (t:=(r,q)) (b:=none) (y:=z) (.inr (.inl ⟨h1,rfl,rfl⟩)) (ih h2)
   | some c=>
    obtain⟨r1,r2,b',z1,z2,rfl,h3,h4,h5⟩:=C4r (A:=A) h2 rfl;have h7:Way (A2z A B) (p,r1) (a.toList++x) (b'.toList++z2) (p',q'):=Way.cons (A:=A2z A B) (t:=(r,r2)) (.inr (.inr ⟨c,h1,h4⟩)) (ih h5);exact(h3 p).app h7
end
end Go.Proofs.Sh
