/- A part of the proof: ShBits, ShPairs, ShMasks, ShKeys, ShQueue. -/
import Derived.Test.YtjjgodccecehlaaGreatMClose2RelChained7
import Derived.Test.YtjjgodccecehlaaGreatMClose2RelChained1
import Derived.Test.YtjjgodccecehlaaGreatMClose2RelChained5
set_option linter.unusedVariables false
set_option linter.unusedSimpArgs false
/- Numbers of 64 bits as sets of places;what is reached, of any kind, and by layers. -/
namespace Go.Proofs.Sh
open Go
def m64:Nat:=18446744073709551616
theorem A62{a:Nat}(ha:a<m64):(BitVec.ofInt IntKind.u64.bits (a:Int)).toNat=a:=by
 rw[BitVec.toNat_ofInt];simp only[IntKind.bits];unfold m64 at ha;omega
theorem C54{a b:Nat}(ha:a<m64)(hb:b<m64):a ||| b<m64:=Nat.or_lt_two_pow (n:=64) ha hb
theorem and_lt64{a b:Nat}(hb:b<m64):a &&& b<m64:=Nat.lt_of_le_of_lt Nat.and_le_right hb
section
variable {P:Program} {t:TypeId} {c:Bool}
theorem or64{a b:Nat}(ha:a<m64)(hb:b<m64):abin P t c .or (.int .u64 (a:Int)) (.int .u64 (b:Int))=some (.int .u64 ((a ||| b:Nat):Int)):=by
 simp only[abin,A5e,cond_true,aint];rw[BitVec.toNat_or,A62 ha,A62 hb,A8u (by omega) (by have:=C54 ha hb;unfold m64 at this;omega)]
theorem and64{a b:Nat}(ha:a<m64)(hb:b<m64):abin P t c .and (.int .u64 (a:Int)) (.int .u64 (b:Int))=some (.int .u64 ((a &&& b:Nat):Int)):=by
 simp only[abin,A5e,cond_true,aint];rw[BitVec.toNat_and,A62 ha,A62 hb,A8u (by omega) (by have:=and_lt64 (a:=a) hb;unfold m64 at this;omega)]
theorem shl64{a:Nat}(ha:2*a<m64){j:IntKind}:abin P t c .shl (.int .u64 (a:Int)) (.int j 1)=some (.int .u64 ((2*a:Nat):Int)):=by
 show A4j true .u64 (a:Int) 1=_;unfold A4j;have h1:A4v 0 (1:Int)=true:=rfl;have h2:min (1:Int).toNat IntKind.u64.bits=1:=rfl;simp only[h1,cond_true,h2];have e:(a:Int)*2^1=((2*a:Nat):Int):=by omega
 rw[e,A8u (by omega) (by unfold m64 at ha;omega)]
end
theorem bit_two{a j:Nat}:(2*a).testBit (j+1)=a.testBit j:=by
 rw[Nat.testBit_succ]
 congr 1
 omega
theorem bit_two0{a:Nat}:(2*a).testBit 0=false:=by
 simp[Nat.testBit_zero]
theorem C97{j:Nat}:(1:Nat).testBit j=true↔j=0:=by
 rw[show (1:Nat)=2^0 from rfl,Nat.testBit_two_pow];simp[eq_comm]
theorem bit_pow{i j:Nat}:(2^i:Nat).testBit j=true↔j=i:=by
 rw[Nat.testBit_two_pow];simp[eq_comm]
def A33(m:Nat):Nat:=((List.range 64).filter fun j=>m.testBit j).length
theorem filter_lt{α:Type}{p q:α→Bool}:∀{l:List α},(∀x∈l,p x=true→q x=true)→(∃x∈l,q x=true∧p x=false)→(l.filter p).length<(l.filter q).length
 | [],_,h=>by obtain⟨x,hx,_⟩:=h;cases hx
 | y :: l,h,⟨x,hx,h1,h2⟩=>by
  have hle:∀{l:List α},(∀x∈l,p x=true→q x=true)→(l.filter p).length≤(l.filter q).length:=by
   intro l
   induction l with
   | nil=>intro _;exact Nat.le_refl _
   | cons z l ih=>
    intro h;have:=ih fun x hx=>h x (List.mem_cons_of_mem _ hx);by_cases hp:p z=true
    ·rw[List.filter_cons_of_pos hp,List.filter_cons_of_pos (h z List.mem_cons_self hp)];simp only[List.length_cons];omega
    ·rw[List.filter_cons_of_neg hp]
     by_cases hq:q z=true
     ·rw[List.filter_cons_of_pos hq];simp only[List.length_cons];omega
     ·rw[List.filter_cons_of_neg hq];exact this
  rcases List.mem_cons.1 hx with rfl|hx
  ·rw[List.filter_cons_of_neg (by simp[h2]),List.filter_cons_of_pos h1]
   have:=hle (l:=l) fun x hx=>h x (List.mem_cons_of_mem _ hx);simp only[List.length_cons];omega
  ·have ih:=filter_lt (l:=l) (fun x hx=>h x (List.mem_cons_of_mem _ hx)) ⟨x,hx,h1,h2⟩
   by_cases hp:p y=true
   ·rw[List.filter_cons_of_pos hp,List.filter_cons_of_pos (h y List.mem_cons_self hp)];simp only[List.length_cons];omega
   ·rw[List.filter_cons_of_neg hp]
    by_cases hq:q y=true
    ·rw[List.filter_cons_of_pos hq];simp only[List.length_cons];omega
    ·rw[List.filter_cons_of_neg hq];exact ih
theorem card_le(m:Nat):A33 m≤64:=by
 unfold A33;exact Nat.le_trans (List.length_filter_le _ _) (by simp)
theorem card_lt{a b:Nat}(hb:b<m64)(hs:∀j,a.testBit j=true→b.testBit j=true)(hn:a≠b):A33 a<A33 b:=by
 unfold A33;refine filter_lt (fun j _ h=>hs j h) ?_;by_cases h:∃j,b.testBit j=true∧a.testBit j=false
 ·obtain⟨j,h1,h2⟩:=h
  refine⟨j,List.mem_range.2 ?_,h1,h2⟩;by_cases hj:j<64
  ·exact hj
  ·rw[Nat.testBit_lt_two_pow (Nat.lt_of_lt_of_le hb (show (2:Nat)^64≤2^j from Nat.pow_le_pow_right (by decide) (by omega)))]at h1
   cases h1
 ·exfalso
  apply hn;refine Nat.eq_of_testBit_eq fun j=>?_;cases ha:a.testBit j with
  | true=>exact(hs j ha).symm
  | false=>
   cases hb2:b.testBit j with
   | false=>rfl
   | true=>exact absurd ⟨j,hb2,ha⟩ h
inductive Cl{α:Type}(R:α→α→Prop)(S:α→Prop):α→Prop
 | base {s:α}:S s→Cl R S s
 | step {s t:α}:Cl R S s→R s t→Cl R S t
theorem Cl.of{α:Type}{R:α→α→Prop}{S Q:α→Prop}(h1:∀s,S s→Q s)(h2:∀s t,Q s→R s t→Q t){t:α}(h:Cl R S t):Q t:=by
 induction h with
 | base h=>exact h1 _ h
 | step _ hr ih=>exact h2 _ _ ih hr
theorem Cl.congr{α:Type}{R R':α→α→Prop}{S S':α→Prop}(h1:∀s,S s→S' s)(h2:∀s t,R s t→R' s t){t:α}(h:Cl R S t):Cl R' S' t:=
 h.of (fun s hs=>.base (h1 s hs)) fun s t hs hr=>.step hs (h2 s t hr)
def B2m{α:Type}(E:α→α→Prop)(A:Nat→α→α→Prop)(S:α→Prop):Nat→α→Prop
 | 0=>Cl E S
 | i+1=>Cl E fun b=>∃a,B2m E A S i a∧A i a b
theorem layers{α:Type}{E:α→α→Prop}{A:Nat→α→α→Prop}{S:α→Prop}{i:Nat}{a:α}:
  Cl (fun p q:Nat×α=>p.1=q.1∧E p.2 q.2∨q.1=p.1+1∧A p.1 p.2 q.2) (fun p=>p.1=0∧S p.2) (i,a)↔B2m E A S i a:=by
 constructor
 ·intro h
  have:∀p:Nat×α,Cl (fun p q:Nat×α=>p.1=q.1∧E p.2 q.2∨q.1=p.1+1∧A p.1 p.2 q.2) (fun p=>p.1=0∧S p.2) p→B2m E A S p.1 p.2:=by
   intro p hp;refine hp.of (Q:=fun p=>B2m E A S p.1 p.2) ?_ ?_
   ·rintro⟨i,a⟩ ⟨rfl,hs⟩
    exact .base hs
   ·rintro⟨i,a⟩ ⟨k,b⟩ hl (⟨h1,h2⟩|⟨h1,h2⟩)
    ·simp only at h1 h2 hl
     subst h1;cases i with
     | zero=>exact .step hl h2
     | succ i=>exact .step hl h2
    ·simp only at h1 h2 hl
     subst h1;exact .base ⟨a,hl,h2⟩
  exact this _ h
 ·induction i generalizing a with
  | zero=>
   intro h;refine Cl.of (Q:=fun a=>Cl _ _ ((0:Nat),a)) ?_ ?_ (show Cl E S a from h)
   ·exact fun s hs=>.base ⟨rfl,hs⟩
   ·exact fun s t hs hr=>.step hs (.inl ⟨rfl,hr⟩)
  | succ i ih=>
   intro h;refine Cl.of (Q:=fun a=>Cl _ _ (i+1,a)) ?_ ?_ (show Cl E (fun b=>∃a,B2m E A S i a∧A i a b) a from h)
   ·rintro b ⟨a,h1,h2⟩
    exact .step (ih h1) (.inr ⟨rfl,h2⟩)
   ·exact fun s t hs hr=>.step hs (.inl ⟨rfl,hr⟩)
section
variable {σ τ α:Type}
abbrev Arcs(σ α:Type):=σ→Option α→Option α→σ→Prop
inductive Way(A:Arcs σ α):σ→List α→List α→σ→Prop
 | nil (s:σ):Way A s [] [] s
 | cons {s t u:σ} {a b:Option α} {x y:List α}:A s a b t→Way A t x y u→Way A s (a.toList++x) (b.toList++y) u
theorem Way.app{A:Arcs σ α}{s t u:σ}{x y z w:List α}(h:Way A s x y t)(k:Way A t z w u):Way A s (x++z) (y++w) u:=by
 induction h with
 | nil s=>exact k
 | cons h1 _ ih=>rw[List.append_assoc,List.append_assoc];exact .cons h1 (ih k)
theorem Way.one{A:Arcs σ α}{s t:σ}{a b:Option α}(h:A s a b t):Way A s a.toList b.toList t:=by
 have:=Way.cons h (Way.nil (A:=A) t)
 simpa using this
theorem Way.mono{A B:Arcs σ α}(h:∀s a b t,A s a b t→B s a b t){s t:σ}{x y:List α}(k:Way A s x y t):Way B s x y t:=by
 induction k with
 | nil s=>exact .nil s
 | cons h1 _ ih=>exact .cons (h _ _ _ _ h1) ih
theorem Way.map{β:Type}{A:Arcs σ α}{B:Arcs σ β}{f:α→β}(h:∀s a b t,A s a b t→B s (a.map f) (b.map f) t){s t:σ}{x y:List α}(k:Way A s x y t):Way B s (x.map f) (y.map f) t:=by
 induction k with
 | nil s=>exact .nil s
 | @cons s t u a b x y h1 _ ih=>
  have e:∀o:Option α,(o.map f).toList=o.toList.map f:=fun o=>by cases o<;>rfl
  rw[List.map_append,List.map_append,←e,←e];exact .cons (h _ _ _ _ h1) ih
theorem Way.move{A:Arcs σ α}{B:Arcs τ α}{g:σ→τ}(h:∀s a b t,A s a b t→B (g s) a b (g t)){s t:σ}{x y:List α}(k:Way A s x y t):Way B (g s) x y (g t):=by
 induction k with
 | nil s=>exact .nil _
 | cons h1 _ ih=>exact .cons (h _ _ _ _ h1) ih
theorem Way.swap{A B:Arcs σ α}(h:∀s a b t,A s a b t→B s b a t){s t:σ}{x y:List α}(k:Way A s x y t):Way B s y x t:=by
 induction k with
 | nil s=>exact .nil _
 | cons h1 _ ih=>exact .cons (h _ _ _ _ h1) ih
theorem Way.keeps{A:Arcs σ α}{Q:σ→Prop}(h:∀s a b t,Q s→A s a b t→Q t){s t:σ}{x y:List α}(k:Way A s x y t)(hs:Q s):Q t:=by
 induction k with
 | nil s=>exact hs
 | cons h1 _ ih=>exact ih (h _ _ _ _ hs h1)
def B6d(w:List α)(i:Nat)(o:Option α)(j:Nat):Prop:=
 match o with
 | none=>j=i
 | some s=>w[i]?=some s∧j=i+1
theorem C2q{w:List α}{i j:Nat}{o:Option α}(h:B6d w i o j)(hi:i≤w.length):j≤w.length:=by
 cases o with
 | none=>rw[show j=i from h];exact hi
 | some s=>have:=(List.getElem?_eq_some_iff.1 h.1).1;rw[h.2];omega
theorem A19{w:List α}{i j:Nat}{o:Option α}(h:B6d w i o j):w.drop i=o.toList++w.drop j∧j=i+o.toList.length:=by
 cases o with
 | none=>rw[show j=i from h];exact⟨rfl,rfl⟩
 | some s=>
  obtain⟨h1,rfl⟩:=h;obtain⟨h2,h3⟩:=List.getElem?_eq_some_iff.1 h1;rw[List.drop_eq_getElem_cons h2,h3];exact⟨rfl,rfl⟩
theorem B3t{w:List α}{i:Nat}{o:Option α}{u:List α}(h:w.drop i=o.toList++u):B6d w i o (i+o.toList.length)∧w.drop (i+o.toList.length)=u:=by
 cases o with
 | none=>exact⟨rfl,h⟩
 | some s=>
  have h':w.drop i=s :: u:=h;have hl:i<w.length:=by
   rcases Nat.lt_or_ge i w.length with h1|h1
   ·exact h1
   ·rw[List.drop_of_length_le h1]at h';cases h'
  rw[List.drop_eq_getElem_cons hl]at h';injection h' with h1 h2
  exact⟨⟨by rw[List.getElem?_eq_getElem hl,h1],rfl⟩,h2⟩
def C7v(A:Arcs σ α)(x y:List α)(p q:σ×Nat×Nat):Prop:=∃a b,A p.1 a b q.1∧B6d x p.2.1 a q.2.1∧B6d y p.2.2 b q.2.2
theorem Cl.trans{β:Type}{R:β→β→Prop}{S:β→Prop}{p t:β}(h:Cl R (fun q=>q=p) t)(hp:Cl R S p):Cl R S t:=
 h.of (Q:=Cl R S) (fun s hs=>by rw[hs];exact hp) fun s t hs hr=>.step hs hr
theorem way_step{A:Arcs σ α}{s t:σ}{u v:List α}(h:Way A s u v t){x y x' y':List α}{i j:Nat}(hx:x.drop i=u++x')(hy:y.drop j=v++y'):
  Cl (C7v A x y) (fun q=>q=(s,i,j)) (t,i+u.length,j+v.length):=by
 induction h generalizing i j with
 | nil s=>exact .base rfl
 | @cons s t w a b u v h1 _ ih=>
  rw[List.append_assoc]at hx hy;obtain⟨h2,h3⟩:=B3t hx;obtain⟨h4,h5⟩:=B3t hy;have:=ih h3 h5;rw[List.length_append,List.length_append,←Nat.add_assoc,←Nat.add_assoc];exact this.trans (.step (.base rfl) ⟨a,b,h1,h2,h4⟩)
theorem step_way{A:Arcs σ α}{x y:List α}{S:σ×Nat×Nat→Prop}{p:σ×Nat×Nat}(h:Cl (C7v A x y) S p):
  ∃q u v,S q∧Way A q.1 u v p.1∧x.drop q.2.1=u++x.drop p.2.1∧y.drop q.2.2=v++y.drop p.2.2∧p.2.1=q.2.1+u.length∧p.2.2=q.2.2+v.length:=by
 refine h.of (Q:=fun p=>∃q u v,S q∧Way A q.1 u v p.1∧x.drop q.2.1=u++x.drop p.2.1∧y.drop q.2.2=v++y.drop p.2.2∧p.2.1=q.2.1+u.length∧p.2.2=q.2.2+v.length) ?_ ?_
 ·intro q hq
  exact⟨q,[],[],hq,.nil _,rfl,rfl,rfl,rfl⟩
 ·rintro p r ⟨q,u,v,h1,h2,h3,h4,h5,h6⟩ ⟨a,b,h7,h8,h9⟩
  obtain⟨h10,h11⟩:=A19 h8;obtain⟨h12,h13⟩:=A19 h9;refine⟨q,u++a.toList,v++b.toList,h1,h2.app (Way.one h7),?_,?_,?_,?_⟩
  ·rw[h3,h10,List.append_assoc]
  ·rw[h4,h12,List.append_assoc]
  ·rw[h11,h5,List.length_append];omega
  ·rw[h13,h6,List.length_append];omega
theorem places{A:Arcs σ α}{x y:List α}{s t:σ}:Cl (C7v A x y) (fun q=>q=(s,0,0)) (t,x.length,y.length)↔Way A s x y t:=by
 constructor
 ·intro h
  obtain⟨q,u,v,rfl,h1,h2,h3,_,_⟩:=step_way h;simp only[List.drop_zero,List.drop_length,List.append_nil]at h2 h3;rw[h2,h3];exact h1
 ·intro h
  have:=way_step h (x:=x) (y:=y) (x':=[]) (y':=[]) (i:=0) (j:=0) (by simp) (by simp)
  simpa using this
def laE(A:Arcs σ α)(y:List α)(p q:σ×Nat):Prop:=∃b,A p.1 none b q.1∧B6d y p.2 b q.2
def laA(A:Arcs σ α)(x y:List α)(i:Nat)(p q:σ×Nat):Prop:=∃b c,x[i]?=some c∧A p.1 (some c) b q.1∧B6d y p.2 b q.2
theorem C62{A:Arcs σ α}{x y:List α}{s t:σ}:B2m (laE A y) (laA A x y) (fun p=>p=(s,0)) x.length (t,y.length)↔Way A s x y t:=by
 rw[←layers,←places];constructor
 ·intro h
  have:∀p:Nat×σ×Nat,Cl (fun p q:Nat×σ×Nat=>p.1=q.1∧laE A y p.2 q.2∨q.1=p.1+1∧laA A x y p.1 p.2 q.2) (fun p=>p.1=0∧p.2=(s,0)) p→Cl (C7v A x y) (fun q=>q=(s,0,0)) (p.2.1,p.1,p.2.2):=by
   intro p hp;refine hp.of (Q:=fun p=>Cl (C7v A x y) (fun q=>q=(s,0,0)) (p.2.1,p.1,p.2.2)) ?_ ?_
   ·rintro⟨i,q⟩ ⟨rfl,rfl⟩;exact .base rfl
   ·rintro⟨i,a,j⟩ ⟨k,b,l⟩ hl (⟨h1,d,h2,h3⟩|⟨h1,d,c,h2,h3,h4⟩)
    ·simp only at h1 h2 h3
     subst h1;exact .step hl ⟨none,d,h2,rfl,h3⟩
    ·simp only at h1 h2 h3 h4
     subst h1;exact .step hl ⟨some c,d,h3,⟨h2,rfl⟩,h4⟩
  exact this _ h
 ·intro h
  have:∀p:σ×Nat×Nat,Cl (C7v A x y) (fun q=>q=(s,0,0)) p→Cl (fun p q:Nat×σ×Nat=>p.1=q.1∧laE A y p.2 q.2∨q.1=p.1+1∧laA A x y p.1 p.2 q.2) (fun p=>p.1=0∧p.2=(s,0)) (p.2.1,p.1,p.2.2):=by
   intro p hp;refine hp.of (Q:=fun p=>Cl _ _ (p.2.1,p.1,p.2.2)) ?_ ?_
   ·rintro p rfl;exact .base ⟨rfl,rfl⟩
   ·rintro⟨a,i,j⟩ ⟨b,k,l⟩ hl ⟨c,d,h1,h2,h3⟩
    cases c with
    | none=>
     simp only at h1 h2 h3;rw[show k=i from h2];exact .step hl (.inl ⟨rfl,d,h1,h3⟩)
    | some c=>
     simp only at h1 h2 h3;exact .step hl (.inr ⟨h2.2,d,c,h2.1,h1,h3⟩)
  exact this _ h
end
def u64C(m:Nat):List Value:=[.int .u64 (m:Int)]
section
variable {P:Program} {t:TypeId} {c:Bool}
theorem pow64{j:Nat}(hj:j<64){k:IntKind}:abin P t c .shl (.int .u64 1) (.int k (j:Int))=some (.int .u64 ((2^j:Nat):Int)):=by
 show A4j true .u64 1 (j:Int)=_;unfold A4j;have h1:A4v 0 (j:Int)=true:=by
  show Nat.ble 0 j=true;simp
 have h2:min (j:Int).toNat IntKind.u64.bits=j:=by
  show min j 64=j;omega
 simp only[h1,cond_true,h2];have h3:(2:Nat)^j<2^64:=Nat.pow_lt_pow_right (by decide) hj;have e:(1:Int)*2^j=((2^j:Nat):Int):=by rw[Int.one_mul,Int.natCast_pow];rfl
 have h4:(2:Nat)^64=18446744073709551616:=rfl;rw[e,A8u (Int.natCast_nonneg _) (by omega)]
theorem shr64{m n:Nat}(hn:n<64){k:IntKind}:abin P t c .shr (.int .u64 (m:Int)) (.int k (n:Int))=some (.int .u64 ((m/2^n:Nat):Int)):=by
 show A4j false .u64 (m:Int) (n:Int)=_;unfold A4j;have h1:A4v 0 (n:Int)=true:=by
  show Nat.ble 0 n=true;simp
 have h2:min (n:Int).toNat IntKind.u64.bits=n:=by
  show min n 64=n;omega
 simp only[h1,cond_true,h2,cond_false];have e:(2:Int)^n=((2^n:Nat):Int):=by rw[Int.natCast_pow];rfl
 rw[e,Int.fdiv_eq_ediv_of_nonneg _ (Int.natCast_nonneg _),Int.natCast_ediv]
end
theorem B6j{m:Nat}:decide ((m:Int)=0)=decide (m=0):=decide_eq_decide.2 (by omega)
theorem C93{m:Nat}:decide ((m:Int)=1)=decide (m=1):=decide_eq_decide.2 (by omega)
theorem C70{P:Program}{t:TypeId}{c:Bool}{a:Nat}(ha:a<m64):abin P t c .and (.int .u64 (a:Int)) (.int .u64 1)=some (.int .u64 ((a &&& 1:Nat):Int)):=and64 (b:=1) ha (by decide)
theorem C6z(m j:Nat):(m/2^j &&& 1=1)↔m.testBit j=true:=by
 rw[Nat.and_one_is_mod,Nat.testBit_eq_decide_div_mod_eq,decide_eq_true_iff]
def labN(k:Int):Option Nat:=if k<0 then none else some k.toNat
def A02(W:List Nat)(y:List Nat):Prop:=∀(k m:Nat),W[k]?=some m→∀j,m.testBit j=true↔y[j]?=some k
def stepM(W:List Nat)(m:Nat)(o:Int):Nat:=if o<0 then m else 2*(m &&& W.getD o.toNat 0)
def within(n m:Nat):Prop:=∀j,m.testBit j=true→j≤n
theorem B97{n m:Nat}(h:within n m):m<2^(n+1):=by
 rcases Nat.lt_or_ge m (2^(n+1)) with h1|h1
 ·exact h1
 ·obtain⟨i,h2,h3⟩:=Nat.exists_ge_and_testBit_of_ge_two_pow h1
  have:=h i h3;omega
theorem pow61{n:Nat}(h:n≤60):2^(n+1)≤2305843009213693952:=by
 have:(2:Nat)^(n+1)≤2^61:=Nat.pow_le_pow_right (by decide) (by omega);have e:(2:Nat)^61=2305843009213693952:=rfl;omega
theorem within.lt64{n m:Nat}(h:within n m)(hn:n≤60):m<m64:=by
 have h1:=B97 h;have h2:=pow61 hn;unfold m64;omega
theorem A36{W y:List Nat}(hW:A02 W y){m:Nat}{o:Int}(ho:0≤o→o.toNat<W.length)(j':Nat):(stepM W m o).testBit j'=true↔∃j,m.testBit j=true∧B6d y j (labN o) j':=by
 unfold stepM labN;by_cases h:o<0
 ·rw[if_pos h,if_pos h]
  exact⟨fun h1=>⟨j',h1,rfl⟩,fun⟨j,h1,h2⟩=>by rw[show j'=j from h2];exact h1⟩
 ·rw[if_neg h,if_neg h]
  have hl:=ho (by omega);have hg:W[o.toNat]?=some (W.getD o.toNat 0):=by simp[List.getD,hl]
  have hw:=hW _ _ hg;generalize W.getD o.toNat 0=w at hw;cases j' with
  | zero=>
   rw[bit_two0];constructor
   ·intro h;cases h
   ·rintro⟨j,_,_,h3⟩;omega
  | succ j'=>
   rw[bit_two,Nat.testBit_and,Bool.and_eq_true,hw];exact⟨fun⟨h1,h2⟩=>⟨j',h1,h2,rfl⟩,fun⟨j,h1,h2,h3⟩=>by
    have:j'=j:=by omega
    subst this;exact⟨h1,h2⟩⟩
theorem B8c{W y:List Nat}(hW:A02 W y){m:Nat}{o:Int}(ho:0≤o→o.toNat<W.length)(hm:within y.length m):within y.length (stepM W m o):=fun j' h=>by
 obtain⟨j,h1,h2⟩:=(A36 hW ho j').1 h;exact C2q h2 (hm j h1)
theorem B85{n a b:Nat}(ha:within n a)(hb:within n b):within n (a ||| b):=fun j h=>by
 rw[Nat.testBit_or,Bool.or_eq_true]at h;exact h.elim (ha j) (hb j)
theorem C53{W y:List Nat}(hW:A02 W y){m:Nat}{o:Nat}{w:Nat}(hg:W[o]?=some w)(hy:y.length≤60):w<m64∧2*(m &&& w)<m64:=by
 have h1:within y.length w:=fun j h=>Nat.le_of_lt (List.getElem?_eq_some_iff.1 ((hW o w hg j).1 h)).1;have h2:m &&& w≤w:=Nat.and_le_right;have h3:=B97 h1;have h4:=pow61 hy;unfold m64;omega
def A4h(now:List Nat)(p:Nat×Nat):Prop:=∃m,now[p.1]?=some m∧m.testBit p.2=true
def A1p(now:List Nat):Nat:=(now.map A33).sum
theorem A27:∀(now:List Nat),A1p now≤64*now.length
 | []=>Nat.zero_le _
 | m :: l=>by
  have h1:=card_le m;have h2:=A27 l;unfold A1p at h2 ⊢;simp only[List.map_cons,List.sum_cons,List.length_cons];omega
theorem B50:∀(now:List Nat) (s m m':Nat),now[s]?=some m→A1p (now.set s m')+A33 m=A1p now+A33 m'
 | [],s,m,m',h=>by simp at h
 | q :: l,0,m,m',h=>by
  simp at h;subst h;unfold A1p;simp only[List.set_cons_zero,List.map_cons,List.sum_cons];omega
 | q :: l,s+1,m,m',h=>by
  have:=B50 l s m m' (by simpa using h);unfold A1p at this ⊢;simp only[List.set_cons_succ,List.map_cons,List.sum_cons];omega
theorem B2o{α:Type}[DecidableEq α](v:Value)(D:List α)(t:α):A7q (D.map fun t=>(t,v)) t=if t∈D then some v else none:=by
 unfold A7q;by_cases h:t∈D
 ·rw[if_pos h]
  cases hf:(D.map fun t=>(t,v)).find? fun p=>decide (t=p.1) with
  | none=>
   rw[List.find?_eq_none]at hf;have:=hf (t,v) (List.mem_map.2 ⟨t,h,rfl⟩);simp at this
  | some p=>
   have:=List.mem_of_find?_eq_some hf;obtain⟨u,_,rfl⟩:=List.mem_map.1 this;rfl
 ·rw[if_neg h]
  have:(D.map fun t=>(t,v)).find? (fun p=>decide (t=p.1))=none:=by
   rw[List.find?_eq_none];rintro p hp;obtain⟨u,hu,rfl⟩:=List.mem_map.1 hp;simp only[decide_eq_true_eq];rintro rfl;exact h hu
  rw[this];rfl
def SetIs{α:Type}(H:AH)(g:Nat)(f:α→Value)(D:List α):Prop:=MapIs H g f (D.map fun t=>(t,.bool true))
theorem SetIs.new{α:Type}{H:AH}{f:α→Value}:SetIs (H.push (.map [])).2 H.next f ([]:List α):=MapIs.new
section
variable {α:Type} [DecidableEq α] {P:Program} {H:AH} {t kt e g:Nat} {f:α→Value} {D:List α}
theorem SetIs.keep{H':AH}(h:SetIs H g f D)(hg:H'.objs.get g=H.objs.get g):SetIs H' g f D:=MapIs.keep h hg
theorem SetIs.lt(h:SetIs H g f D)(hw:Wf H):g<H.next:=MapIs.lt h hw
theorem SetIs.look(hu:P.underlying t=some (.map kt e))(hz:zeroAt P e=some (.bool false))(hk:∀a,A9l P kt (f a)=true)(heq:∀a b,eqT P A1g kt (f a) (f b)=some (decide (a=b)))
  (h:SetIs H g f D) (a:α):A4r P t (.map (some g)) (f a) false H=some (.bool (decide (a∈D))):=by
 have:=MapIs.look (ok:=false) hu hz hk heq h a;rw[this,B2o];by_cases hd:a∈D<;>simp[hd]
theorem SetIs.add(hu:P.underlying t=some (.map kt e))(hk:∀a,A9l P kt (f a)=true)(heq:∀a b,eqT P A1g kt (f a) (f b)=some (decide (a=b)))
  (h:SetIs H g f D) (hw:Wf H) {a:α} (ha:a∉D):∃H',A3g P t (.map (some g)) (f a) (.bool true) H=some H'∧SetIs H' g f (D++[a])∧Chg (fun y=>y=g) H H'∧H'.next=H.next:=by
 obtain⟨H',h1,h2,h3,h4⟩:=MapIs.add hu hk heq h hw (a:=a) (by rw[B2o,if_neg ha]) (.bool true);exact⟨H',h1,by unfold SetIs;rw[List.map_append];exact h2,h3,h4⟩
end
set_option linter.unusedSectionVars false
def B7d{α:Type}(cell:α→List Value)(a:α):Value:=.agg (cell a).toArray
structure QS{α:Type}(H:AH)(s:Nat)(cell:α→List Value)(base g:Nat)(z:Value)(ob:Option Nat)(T:List α):Prop where
 td:Buf H s z (T.map cell) ob
 sn:SetIs H g (B7d cell) T
 nd:T.Nodup
 b0:base≤g
 tb:∀y,ob=some y→base≤y∧y≠g
def QO(g:Nat)(ob:Option Nat)(y:Nat):Prop:=y=g∨ob=some y
section
variable {α:Type} [DecidableEq α] {P:Program} {H H':AH} {s base g:Nat} {cell:α→List Value} {z:Value} {ob:Option Nat} {T:List α}
theorem QS.lt(h:QS H s cell base g z ob T)(hw:Wf H):∀y,QO g ob y→y<H.next:=by
 rintro y (rfl|hy)
 ·exact h.sn.lt hw
 ·exact h.td.lt hw y hy
theorem QS.ge(h:QS H s cell base g z ob T):∀y,QO g ob y→base≤y:=by
 rintro y (rfl|hy)
 ·exact h.b0
 ·exact(h.tb y hy).1
theorem QS.chg(h:QS H s cell base g z ob T)(hw:Wf H){X:Nat→Prop}(hc:Chg X H H')(hx:∀y,X y→¬QO g ob y):QS H' s cell base g z ob T:=
 ⟨h.td.chg hw hc fun y hy hX=>hx y hX (.inr hy),h.sn.keep (hc.old g (h.sn.lt hw) fun hX=>hx g hX (.inl rfl)),h.nd,h.b0,h.tb⟩
theorem QS.kept(h:QS H s cell base g z ob T)(hw:Wf H)(hk:Kept H H'):QS H' s cell base g z ob T:=h.chg hw (hk.chg (X:=none')) fun y hy=>hy.elim
theorem QS.start{H:AH}(hw:Wf H)(hb:base≤H.next):QS (H.push (.map [])).2 s cell base H.next (.slice none 0 0) none ([]:List α):=
 ⟨.void none,SetIs.new,List.nodup_nil,hb,fun y hy=>by cases hy⟩
theorem QS.read{t e:Nat}(hu:P.underlying t=some (.slice e))(hs:A5b P e=some s)(h:QS H s cell base g z ob T){i:Nat}{a:α}(ha:T[i]?=some a):
  ∃p,A4b P t z (.int .i64 (i:Int))=some (.pointer (some p))∧H.cells p s=some (cell a):=by
 obtain⟨q,o,k,h1,h2,h3⟩:=h.td.toSl.at hu hs (i:=i) (x:=cell a) (by simp[ha]) .i64;exact⟨_,h1,h2⟩
theorem QS.len{t e:Nat}(hu:P.underlying t=some (.slice e))(h:QS H s cell base g z ob T)(H':AH):A3a P .len [t] [z] H'=some (.int .i64 (T.length:Int),H'):=by
 rw[h.td.toSl.len hu,List.length_map]
theorem QS.add{tm kt e ts:Nat}(hu:P.underlying tm=some (.map kt e))(hk:∀a,A9l P kt (B7d cell a)=true)(heq:∀a b,eqT P A1g kt (B7d cell a) (B7d cell b)=some (decide (a=b)))(hc:∀a,(cell a).length=s)
  (hA:∀(H:AH) (len cap:Nat) (b:Option Addr) (x:List Value),x.length=s→len≤17179869183→A3a P .append [ts,ts] [.slice b len cap,.slice (some ⟨H.next,0,some 0⟩) 1 1] (H.new s x).2=A5d s b len cap 1 x (H.new s x).2)
  (h:QS H s cell base g z ob T) (hw:Wf H) (hb:base≤H.next) {a:α} (ha:a∉T) (hl:T.length≤17179869183):
  ∃H1 b cap z' H3 ob',A3g P tm (.map (some g)) (B7d cell a) (.bool true) H=some H1∧Chg (fun y=>y=g) H H1∧H1.next=H.next∧z=.slice b T.length cap∧
   A3a P .append [ts,ts] [.slice b T.length cap,.slice (some ⟨H1.next,0,some 0⟩) 1 1] (H1.new s (cell a)).2=some (z',H3)∧
   QS H3 s cell base g z' ob' (T++[a])∧Chg (QO g ob) H H3∧∀y,QO g ob' y→QO g ob y∨H.next≤y:=by
 obtain⟨H1,a1,a2,a3,a4⟩:=h.sn.add hu hk heq hw ha;have b1:Buf H1 s z (T.map cell) ob:=h.td.chg hw a3 fun y hy hX=>(h.tb y hy).2 hX;obtain⟨b,cap,z',H3,ob',e1,e2,e3,e4,e5⟩:=b1.push a3.wf (x:=cell a) (hc a);rw[List.length_map]at e1 e2;have ha':=hA H1 T.length cap b (cell a) (hc a) hl;rw[e2]at ha';have hgl:=h.sn.lt hw;refine⟨H1,b,cap,z',H3,ob',a1,a3,a4,e1,ha',⟨?_,a2.keep (e4.old g (by omega) fun hX=>(h.tb g hX).2 rfl),?_,h.b0,fun y hy=>?_⟩,(a3.weak fun y hy=>.inl hy).trans (e4.weak fun y hy=>.inr hy),fun y hy=>?_⟩
 ·rw[List.map_append];exact e3
 ·rw[List.nodup_append]
  exact⟨h.nd,by simp,fun x hx y hy=>by rw[List.mem_singleton.1 hy];rintro rfl;exact ha hx⟩
 ·rcases e5 y hy with h1|h1
  ·exact h.tb y h1
  ·exact⟨by omega,by omega⟩
 ·rcases hy with rfl|hy
  ·exact .inl (.inl rfl)
  ·rcases e5 y hy with h1|h1
   ·exact .inl (.inr h1)
   ·exact .inr (by omega)
end
theorem wpo_two{P:Program}{O:A1d}{all ops:List Oper}{b:Code}{S:List Item}{Q:Fr→AH→Prop}{F:Fr}{H:AH}(M:Fr→AH→Prop)(hb:A63 b=true)(h:wpo P O all ops (wp P O [.code b] M) F H)(k:∀F' H',M F' H'→wp P O S Q F' H'):wpo P O all ops (wp P O (.code b :: S) Q) F H:=by
 obtain⟨n,F1,H1,h1,h2⟩:=h;exact⟨n,F1,H1,h1,B11 M hb h2 k⟩
theorem C5u{P:Program}{H:AH}{t e:Nat}{z x y:Value}(hu:P.underlying t=some (.slice e))(hs:A5b P e=some 1)(hz:zeroAt P e=some z)(hl:isCell z=true)(hx:isCell x=true)(hy:isCell y=true):
  A4a P t 2 [(0,x),(1,y)] H=some (.slice (some ⟨H.next,0,some 0⟩) 2 2,(H.new 1 [x,y]).2):=by
 unfold A4a;have e1:repl 2 (A6a z)=[z,z]:=by rw[A7a hl];rfl
 simp only[hu,hs,hz,Option.bind_some,e1,A3w];rw[A7a hl,A7a hx,A7a hy];simp[hx,hy,setCells,A0c];rfl
theorem Cl.iff{α:Type}{R:α→α→Prop}{S:α→Prop}{l:List α}(h0:∀s,S s→s∈l)(h1:∀s∈l,Cl R S s)(h2:∀s∈l,∀t,R s t→t∈l)(t:α):t∈l↔Cl R S t:=
 ⟨h1 t,fun h=>h.of h0 fun s t hs hr=>h2 s hs t hr⟩
end Go.Proofs.Sh
