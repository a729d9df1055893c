/- A part of the proof: ShAbove, ShSides. -/
import Derived.Test.YtjjgodccecehlaaGreatMClose2RelChained9
import Derived.Test.YtjjgodccecehlaaGreatMClose2RelChained1
import Derived.Test.YtjjgodccecehlaaGreatMClose2RelChained11
set_option linter.unusedVariables false
set_option linter.unusedSimpArgs false
/- A run by the first symbols is a way of which the second word is left out. -/
namespace Go.Proofs.Sh
variable {α:Type}
theorem way_head{A:Arcs Nat α}{x:α}{w z y:List α}{s t:Nat}(h:Way A s z y t):z=x :: w→∃u s' b y1 y2,Way A s [] y1 u∧A u (some x) b s'∧Way A s' w y2 t:=by
 induction h with
 | nil s=>intro e;cases e
 | @cons s r t a b z y h1 k ih=>
  intro e;cases a with
  | none=>
   obtain⟨u,s',b',y1,y2,h2,h3,h4⟩:=ih (by simpa using e);exact⟨u,s',b',_,y2,Way.cons (A:=A) (a:=none) (x:=[]) h1 h2,h3,h4⟩
  | some c=>
   have e1:c=x∧z=w:=by simpa using e
   obtain⟨rfl,rfl⟩:=e1;exact⟨s,r,b,[],y,.nil s,h1,k⟩
theorem C92{A:Arcs Nat α}{S:Nat→Prop}{z y:List α}{s t:Nat}(h:Way A s z y t):z=[]→Clo (fun s t=>∃b,A s none b t) S s→Clo (fun s t=>∃b,A s none b t) S t:=by
 induction h with
 | nil s=>intro _ h;exact h
 | @cons s r t a b z y h1 k ih=>
  intro e hs;cases a with
  | none=>exact ih (by simpa using e) (.step hs ⟨b,h1⟩)
  | some c=>simp at e
theorem B09{A:Arcs Nat α}{S:Nat→Prop}{t:Nat}:Clo (fun s t=>∃b,A s none b t) S t↔∃s,S s∧∃y,Way A s [] y t:=by
 constructor
 ·intro h
  refine h.of (Q:=fun t=>∃s,S s∧∃y,Way A s [] y t) (fun s hs=>⟨s,hs,[],.nil s⟩) ?_;rintro s t ⟨q,hq,y,h1⟩ ⟨b,h2⟩;exact⟨q,hq,_,h1.app (x:=[]) (z:=[]) (Way.one (a:=none) h2)⟩
 ·rintro⟨s,hs,y,h⟩
  exact C92 h rfl (.base hs)
theorem C5d{A:Arcs Nat α}:∀{w:List α} {S:Nat→Prop} {t:Nat},RunS (fun s t=>∃b,A s none b t) (fun x s t=>∃b,A s (some x) b t) (Clo (fun s t=>∃b,A s none b t) S) w t↔∃s,S s∧∃y,Way A s w y t
 | [],S,t=>B09
 | x :: w,S,t=>by
  simp only[RunS];rw[C5d];constructor
  ·rintro⟨s',⟨u,hu,b,h1⟩,y2,h2⟩
   obtain⟨s,hs,y1,h3⟩:=B09.1 hu;exact⟨s,hs,_,h3.app (Way.cons (a:=some x) h1 h2)⟩
  ·rintro⟨s,hs,y,h⟩
   obtain⟨u,s',b,y1,y2,h1,h2,h3⟩:=way_head h rfl;exact⟨s',⟨u,B09.2 ⟨s,hs,y1,h1⟩,b,h2⟩,y2,h3⟩
end Go.Proofs.Sh
/- One side of a net: its first or its second symbols alone. -/
namespace Go.Proofs.Sh
variable {σ α:Type}
theorem C21{A:Arcs σ α}(h:∀s a b t,A s a b t→a=b){s t:σ}{x y:List α}(k:Way A s x y t):x=y:=by
 induction k with
 | nil s=>rfl
 | cons h1 _ ih=>rw[h _ _ _ _ h1,ih]
end Go.Proofs.Sh
