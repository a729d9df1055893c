/- A part of the proof: ShAbove, ShSides. -/
import Derived.Test.YtnoengaghabmjaaGreatDoorMClose3RelCrosses3
import Derived.Test.YtnoengaghabmjaaGreatDoorMClose3RelCrosses1
import Derived.Test.YtnoengaghabmjaaGreatDoorMClose3RelCrosses7
set_option linter.unusedVariables false
set_option linter.unusedSimpArgs false
/- A run by the first symbols is a way of which the second word is left out. -/
namespace Go.Proofs.Sh
variable {α:Type}
theorem way_head {A:Arcs Nat α} {x:α} {w z y:List α} {s t:Nat} (h:Way A s z y t):z=x :: w→∃ u s' b y1 y2,Way A s [] y1 u∧A u (some x) b s'∧Way A s' w y2 t:=by
 induction h with
 | nil s=>intro e; cases e
 | @cons s r t a b z y h1 k ih=>
  intro e
  cases a with
  | none=>
   obtain ⟨u,s',b',y1,y2,h2,h3,h4⟩:=ih (by simpa using e)
   exact ⟨u,s',b',_,y2,Way.cons (A:=A) (a:=none) (x:=[]) h1 h2,h3,h4⟩
  | some c=>
   have e1:c=x∧z=w:=by simpa using e
   obtain ⟨rfl,rfl⟩:=e1
   exact ⟨s,r,b,[],y,.nil s,h1,k⟩
theorem C9s {A:Arcs Nat α} {S:Nat→Prop} {z y:List α} {s t:Nat} (h:Way A s z y t):z=[]→Clo (fun s t=>∃ b,A s none b t) S s→Clo (fun s t=>∃ b,A s none b t) S t:=by
 induction h with
 | nil s=>intro _ h; exact h
 | @cons s r t a b z y h1 k ih=>
  intro e hs
  cases a with
  | none=>exact ih (by simpa using e) (.step hs ⟨b,h1⟩)
  | some c=>simp at e
theorem B03 {A:Arcs Nat α} {S:Nat→Prop} {t:Nat}:Clo (fun s t=>∃ b,A s none b t) S t↔∃ s,S s∧∃ y,Way A s [] y t:=by
 constructor
 ·intro h
  refine h.of (Q:=fun t=>∃ s,S s∧∃ y,Way A s [] y t) (fun s hs=>⟨s,hs,[],.nil s⟩) ?_
  rintro s t ⟨q,hq,y,h1⟩ ⟨b,h2⟩
  exact ⟨q,hq,_,h1.app (x:=[]) (z:=[]) (Way.one (a:=none) h2)⟩
 ·rintro ⟨s,hs,y,h⟩
  exact C9s h rfl (.base hs)
theorem C4l {A:Arcs Nat α}:∀ {w:List α} {S:Nat→Prop} {t:Nat},RunS (fun s t=>∃ b,A s none b t) (fun x s t=>∃ b,A s (some x) b t) (Clo (fun s t=>∃ b,A s none b t) S) w t↔∃ s,S s∧∃ y,Way A s w y t
 | [],S,t=>B03
 | x :: w,S,t=>by
  simp only [RunS]
  rw [C4l]
  constructor
  ·rintro ⟨s',⟨u,hu,b,h1⟩,y2,h2⟩
   obtain ⟨s,hs,y1,h3⟩:=B03.1 hu
   exact ⟨s,hs,_,h3.app (Way.cons (a:=some x) h1 h2)⟩
  ·rintro ⟨s,hs,y,h⟩
   obtain ⟨u,s',b,y1,y2,h1,h2,h3⟩:=way_head h rfl
   exact ⟨s',⟨u,B03.2 ⟨s,hs,y1,h1⟩,b,h2⟩,y2,h3⟩
end Go.Proofs.Sh
/- One side of a net: its first or its second symbols alone. -/
namespace Go.Proofs.Sh
variable {σ α:Type}
def B5y (A:Arcs σ α):Arcs σ α:=fun s a b t=>b=none∧∃ b',A s a b' t
def B7f (A:Arcs σ α):Arcs σ α:=fun s a b t=>a=none∧∃ a',A s a' b t
theorem B9y {A:Arcs σ α} {s t:σ} {x y:List α}:Way (B5y A) s x y t↔y=[]∧∃ y',Way A s x y' t:=by
 constructor
 ·intro h
  induction h with
  | nil s=>exact ⟨rfl,[],.nil s⟩
  | @cons s t u a b x y h1 _ ih=>
   obtain ⟨rfl,b',h2⟩:=h1
   obtain ⟨h3,y',h4⟩:=ih
   exact ⟨by rw [h3]; rfl,_,.cons h2 h4⟩
 ·rintro ⟨rfl,y',h⟩
  induction h with
  | nil s=>exact .nil s
  | @cons s t u a b x y h1 _ ih=>exact Way.cons (A:=B5y A) (b:=none) (y:=[]) ⟨rfl,b,h1⟩ ih
theorem B1l {A:Arcs σ α} {s t:σ} {x y:List α}:Way (B7f A) s x y t↔x=[]∧∃ x',Way A s x' y t:=by
 constructor
 ·intro h
  induction h with
  | nil s=>exact ⟨rfl,[],.nil s⟩
  | @cons s t u a b x y h1 _ ih=>
   obtain ⟨rfl,a',h2⟩:=h1
   obtain ⟨h3,x',h4⟩:=ih
   exact ⟨by rw [h3]; rfl,_,.cons h2 h4⟩
 ·rintro ⟨rfl,x',h⟩
  induction h with
  | nil s=>exact .nil s
  | @cons s t u a b x y h1 _ ih=>exact Way.cons (A:=B7f A) (a:=none) (x:=[]) ⟨rfl,a,h1⟩ ih
theorem B7d {A:Arcs σ α} (h:∀ s a b t,A s a b t→a=b) {s t:σ} {x y:List α} (k:Way A s x y t):x=y:=by
 induction k with
 | nil s=>rfl
 | cons h1 _ ih=>rw [h _ _ _ _ h1,ih]
theorem C2s {A B:Arcs Nat α} {FA FB:Nat→Prop} (hA:∀ s a b t,A s a b t→a=b) (hB:∀ s a b t,B s a b t→a=b) (x y:List α):
  (∃ x1 x2 y1 y2,x=x1++x2∧y=y1++y2∧RelP (B5y A) FA x1 y1∧RelP (B7f B) FB x2 y2)↔RelP A FA x x∧RelP B FB y y:=by
 constructor
 ·rintro ⟨x1,x2,y1,y2,rfl,rfl,⟨s,hs,h1⟩,⟨t,ht,h2⟩⟩
  obtain ⟨rfl,y',h3⟩:=B9y.1 h1
  obtain ⟨rfl,x',h4⟩:=B1l.1 h2
  have e1:=B7d hA h3
  have e2:=B7d hB h4
  subst e1 e2
  rw [List.append_nil,List.nil_append]
  exact ⟨⟨s,hs,h3⟩,⟨t,ht,h4⟩⟩
 ·rintro ⟨⟨s,hs,h1⟩,⟨t,ht,h2⟩⟩
  exact ⟨x,[],[],y,by simp,by simp,⟨s,hs,B9y.2 ⟨rfl,x,h1⟩⟩,⟨t,ht,B1l.2 ⟨rfl,y,h2⟩⟩⟩
end Go.Proofs.Sh
