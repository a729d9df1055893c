/- A part of the proof: ShWords. -/
import Derived.Test.YtjjgodccecehlaaGreatMClose2RelChained7
set_option linter.unusedVariables false
set_option linter.unusedSimpArgs false
/- Words of an automaton, by their length and in order;which lengths they have. -/
namespace Go.Proofs.Sh
open Go
noncomputable def tB(p:Prop):Bool:=@decide p (Classical.propDecidable p)
theorem A4u{p:Prop}:tB p=true↔p:=@decide_eq_true_iff p (Classical.propDecidable p)
theorem tB_congr{p q:Prop}(h:p↔q):tB p=tB q:=by rw[propext h]
section
variable {α β:Type}
def allW(A:List α):Nat→List (List α)
 | 0=>[[]]
 | n+1=>A.flatMap fun a=>(allW A n).map (a :: ·)
theorem A77{A:List α}:∀{n:Nat} {u:List α},u∈allW A n↔u.length=n∧∀x∈u,x∈A
 | 0, u => by simp only [allW, List.mem_singleton]; constructor
              · rintro rfl;exact⟨rfl, fun x hx => by cases hx⟩
              · rintro⟨h, _⟩;exact List.length_eq_zero_iff.1 h
 | n+1,u=>by
  simp only[allW,List.mem_flatMap,List.mem_map];constructor
  ·rintro⟨a,ha,v,hv,rfl⟩
   obtain⟨h1,h2⟩:=A77.1 hv;exact⟨by simp[h1],fun x hx=>by
    rcases List.mem_cons.1 hx with rfl|hx
    ·exact ha
    ·exact h2 x hx⟩
  ·rintro⟨h1,h2⟩
   cases u with
   | nil=>cases h1
   | cons a v=>exact⟨a,h2 a List.mem_cons_self,v,A77.2 ⟨by simpa using h1,fun x hx=>h2 x (List.mem_cons_of_mem _ hx)⟩,rfl⟩
theorem C3g(f:α→β)(A:List α):∀(n:Nat),allW (A.map f) n=(allW A n).map (List.map f)
 | 0=>rfl
 | n+1=>by
  simp only[allW,C3g f A n,List.flatMap_map,List.map_flatMap,List.map_map];rfl
noncomputable def lexW(A:List α)(p:List α→Prop)(n:Nat):List (List α):=(allW A n).filter fun u=>tB (p u)
theorem B0x{A:List α}{p:List α→Prop}{n:Nat}{u:List α}:u∈lexW A p n↔(u.length=n∧∀x∈u,x∈A)∧p u:=by
 unfold lexW;rw[List.mem_filter,A77,A4u]
theorem C2x(A:List α)(p:List α→Prop):lexW A p 0=if tB (p [])=true then [[]] else []:=by
 unfold lexW allW;rw[List.filter_cons];rfl
theorem C6w(A:List α)(p:List α→Prop)(n:Nat):lexW A p (n+1)=A.flatMap fun a=>(lexW A (fun w=>p (a :: w)) n).map (a :: ·):=by
 unfold lexW;simp only[allW,List.filter_flatMap,List.filter_map];rfl
theorem C99{A:List α}{p:List α→Prop}{n:Nat}(h:∀u,u.length=n→¬p u):lexW A p n=[]:=by
 unfold lexW;rw[List.filter_eq_nil_iff];intro u hu hp;exact h u (A77.1 hu).1 (A4u.1 hp)
theorem C4t{A:List α}{p q:List α→Prop}{n:Nat}(h:∀u,u.length=n→(∀x∈u,x∈A)→(p u↔q u)):lexW A p n=lexW A q n:=by
 unfold lexW;refine List.filter_congr fun u hu=>?_;obtain⟨h1,h2⟩:=A77.1 hu;exact tB_congr (h u h1 h2)
theorem lexW_map(f:α→β)(A:List α)(q:List β→Prop)(n:Nat):lexW (A.map f) q n=(lexW A (fun u=>q (u.map f)) n).map (List.map f):=by
 unfold lexW;rw[C3g,List.filter_map];rfl
noncomputable def B3m(A:List α)(p:List α→Prop)(M:Nat):List (List α):=(List.range (M+1)).flatMap (lexW A p)
theorem A4z{A:List α}{p:List α→Prop}{M:Nat}{u:List α}:u∈B3m A p M↔(u.length≤M∧∀x∈u,x∈A)∧p u:=by
 unfold B3m;simp only[List.mem_flatMap,List.mem_range,B0x];constructor
 ·rintro⟨m,h1,⟨h2,h3⟩,h4⟩;exact⟨⟨by omega,h3⟩,h4⟩
 ·rintro⟨⟨h1,h2⟩,h3⟩;exact⟨u.length,by omega,⟨rfl,h2⟩,h3⟩
theorem D6c(f:α→β)(A:List α)(q:List β→Prop)(M:Nat):B3m (A.map f) q M=(B3m A (fun u=>q (u.map f)) M).map (List.map f):=by
 unfold B3m;rw[List.map_flatMap]
 congr 1
 funext n
 exact lexW_map f A q n
theorem B59{A:List α}{p q:List α→Prop}{M:Nat}(h:∀u,(∀x∈u,x∈A)→(p u↔q u)):B3m A p M=B3m A q M:=by
 unfold B3m
 congr 1
 funext n
 exact C4t fun u _ h2=>h u h2
theorem B4w(l m:List α)(n:Nat):(l.take n++m).take n=(l++m).take n:=by
 rw[List.take_append,List.take_append,List.take_take,Nat.min_self,List.length_take];by_cases h:l.length≤n
 ·rw[Nat.min_eq_right h]
 ·rw[Nat.min_eq_left (by omega),Nat.sub_self,show n-l.length=0 by omega]
end
section
variable {E:Nat→Nat→Prop} {A:Nat→Nat→Nat→Prop} {end_:Nat→Prop}
def A6p(E:Nat→Nat→Prop)(any:Nat→Nat→Prop)(end_:Nat→Prop):Nat→Nat→Prop
 | 0=>Clo (fun s t=>E t s) end_
 | m+1=>Clo (fun s t=>E t s) fun s=>∃t,any s t∧A6p E any end_ m t
def accS{L:Type}(E:Nat→Nat→Prop)(A:L→Nat→Nat→Prop)(end_:Nat→Prop)(S:Nat→Prop)(w:List L):Prop:=∃t,RunS E A S w t∧end_ t
theorem A2v{E:Nat→Nat→Prop}{B:Nat→Prop}{t:Nat}:Clo E B t↔∃s,B s∧Clo E (fun x=>x=s) t:=by
 constructor
 ·exact fun h=>h.of (Q:=fun t=>∃s,B s∧Clo E (fun x=>x=s) t) (fun s hs=>⟨s,hs,.base rfl⟩) fun a b ⟨s,h1,h2⟩ hr=>⟨s,h1,.step h2 hr⟩
 ·rintro⟨s,h1,h2⟩
  exact h2.of (Q:=fun t=>Clo E B t) (fun x hx=>by rw[hx];exact .base h1) fun a b ha hb=>.step ha hb
theorem C3k{E:Nat→Nat→Prop}{s t:Nat}(h:Clo E (fun x=>x=s) t):Clo (fun a b=>E b a) (fun x=>x=t) s:=by
 refine h.of (Q:=fun t=>Clo (fun a b=>E b a) (fun x=>x=t) s) (fun x hx=>.base hx.symm) fun a b ha hb=>?_;exact ha.of (Q:=fun s=>Clo (fun a b=>E b a) (fun x=>x=b) s) (fun x hx=>by rw[hx];exact .step (.base rfl) hb) fun c d hc hd=>.step hc hd
theorem A60{E:Nat→Nat→Prop}{B:Nat→Prop}{s:Nat}:Clo (fun a b=>E b a) B s↔∃u,Clo E (fun x=>x=s) u∧B u:=by
 rw[A2v];constructor
 ·rintro⟨u,h1,h2⟩;exact⟨u,C3k h2,h1⟩
 ·rintro⟨u,h1,h2⟩;exact⟨u,h2,C3k h1⟩
theorem B8a{E:Nat→Nat→Prop}{S:Nat→Prop}(hS:∀s t,S s→E s t→S t){t:Nat}:Clo E S t↔S t:=⟨fun h=>h.of (fun _ h=>h) fun s t h1 h2=>hS s t h1 h2,.base⟩
theorem B0c{any:Nat→Nat→Prop}{m s u:Nat}(h1:Clo E (fun x=>x=s) u)(h2:A6p E any end_ m u):A6p E any end_ m s:=by
 cases m with
 | zero=>
  obtain⟨v,h3,h4⟩:=A60.1 h2;exact A60.2 ⟨v,h3.of (Q:=fun v=>Clo E (fun x=>x=s) v) (fun x hx=>by rw[hx];exact h1) fun a b ha hb=>.step ha hb,h4⟩
 | succ m=>
  obtain⟨v,h3,h4⟩:=A60.1 h2;exact A60.2 ⟨v,h3.of (Q:=fun v=>Clo E (fun x=>x=s) v) (fun x hx=>by rw[hx];exact h1) fun a b ha hb=>.step ha hb,h4⟩
theorem A54{L:Type}{A:L→Nat→Nat→Prop}{any:Nat→Nat→Prop}(hA:∀k s t,A k s t→any s t):∀{w:List L} {S:Nat→Prop},accS E A end_ S w→∃s,S s∧A6p E any end_ w.length s
 | [],S,⟨t,h1,h2⟩=>⟨t,h1,.base h2⟩
 | k :: w,S,⟨t,h1,h2⟩=>by
  obtain⟨u,h3,h4⟩:=A54 hA (w:=w) (S:=Clo E fun t=>∃s,S s∧A k s t) ⟨t,h1,h2⟩;obtain⟨v,⟨s,h5,h6⟩,h7⟩:=A2v.1 h3;exact⟨s,h5,.base ⟨v,hA k s v h6,B0c h7 h4⟩⟩
theorem B8f{L:Type}{A:L→Nat→Nat→Prop}{any:Nat→Nat→Prop}{q:L→Prop}(hA:∀s t,any s t→∃k,q k∧A k s t):∀{m:Nat} {S:Nat→Prop},(∀s t,S s→E s t→S t)→(∃s,S s∧A6p E any end_ m s)→∃w:List L,(w.length=m∧∀x∈w,q x)∧accS E A end_ S w
 | 0,S,hS,⟨s,h1,h2⟩=>by
  obtain⟨u,h3,h4⟩:=A60.1 h2;exact⟨[],⟨rfl,fun x hx=>by cases hx⟩,u,(B8a hS).1 (A2v.2 ⟨s,h1,h3⟩),h4⟩
 | m+1,S,hS,⟨s,h1,h2⟩=>by
  obtain⟨u,h3,v,h4,h5⟩:=A60.1 h2;have hu:=(B8a hS).1 (A2v.2 ⟨s,h1,h3⟩);obtain⟨k,hk,h6⟩:=hA u v h4;obtain⟨w,⟨h7,h9⟩,h8⟩:=B8f hA (m:=m) (S:=Clo E fun t=>∃s,S s∧A k s t) (fun a b ha hb=>.step ha hb) ⟨v,.base ⟨u,hu,h6⟩,h5⟩;exact⟨k :: w,⟨by simp[h7],fun x hx=>by
   rcases List.mem_cons.1 hx with rfl|hx
   ·exact hk
   ·exact h9 x hx⟩,h8⟩
def Jump(E any:Nat→Nat→Prop)(s t:Nat):Prop:=∃u,Clo E (fun x=>x=s) u∧any u t
theorem B13{any:Nat→Nat→Prop}{m s:Nat}:A6p E any end_ (m+1) s↔∃t,Jump E any s t∧A6p E any end_ m t:=by
 show Clo (fun a b=>E b a) _ s↔_;rw[A60];constructor
 ·rintro⟨u,h1,t,h2,h3⟩;exact⟨t,⟨u,h1,h2⟩,h3⟩
 ·rintro⟨t,⟨u,h1,h2⟩,h3⟩;exact⟨u,h1,t,h2,h3⟩
theorem A0s{any:Nat→Nat→Prop}:∀{m s:Nat},A6p E any end_ m s↔∃q:Nat→Nat,q 0=s∧(∀i<m,Jump E any (q i) (q (i+1)))∧A6p E any end_ 0 (q m)
 | 0,s=>⟨fun h=>⟨fun _=>s,rfl,fun i hi=>absurd hi (Nat.not_lt_zero i),h⟩,fun⟨q,h1,_,h3⟩=>h1 ▸ h3⟩
 | m+1,s=>by
  rw[B13];constructor
  ·rintro⟨t,h1,h2⟩
   obtain⟨q,h3,h4,h5⟩:=A0s.1 h2;refine⟨fun i=>match i with|0=>s|i+1=>q i,rfl,fun i hi=>?_,h5⟩;cases i with
   | zero=>show Jump E any s (q 0);rw[h3];exact h1
   | succ i=>exact h4 i (by omega)
  ·rintro⟨q,h1,h2,h3⟩
   exact⟨q 1,h1 ▸ h2 0 (by omega),A0s.2 ⟨fun i=>q (i+1),rfl,fun i hi=>h2 (i+1) (by omega),h3⟩⟩
theorem B1z{any:Nat→Nat→Prop}{n M s:Nat}(hn:∀s t,any s t→t<n):∀(m:Nat),M<m→A6p E any end_ m s→∃j,M<j∧j≤M+n+1∧A6p E any end_ j s:=by
 intro m
 induction m using Nat.strongRecOn with
 | ind m ih=>
  intro hm h;by_cases hle:m≤M+n+1
  ·exact⟨m,hm,hle,h⟩
  obtain⟨q,h1,h2,h3⟩:=A0s.1 h;have hq:∀i,i<m→q (i+1)<n:=fun i hi=>by
   obtain⟨u,_,h4⟩:=h2 i hi;exact hn _ _ h4
  have hdup:∃i j,i<j∧j≤n∧q (M+1+i)=q (M+1+j):=by
   refine Classical.byContradiction fun hno=>?_;have hnd:((List.range (n+1)).map fun i=>q (M+1+i)).Nodup:=by
    rw[List.nodup_iff_pairwise_ne,List.pairwise_map];refine List.Pairwise.imp_of_mem (fun{a b} ha hb hab h=>?_) List.pairwise_lt_range;exact hno ⟨a,b,hab,by have:=List.mem_range.1 hb;omega,h⟩
   have:=A17 (n:=n) hnd fun x hx=>by
    obtain⟨i,hi,rfl⟩:=List.mem_map.1 hx;have:=List.mem_range.1 hi;rw[show M+1+i=(M+i)+1 by omega];exact hq _ (by omega)
   simp at this;omega
  obtain⟨i,j,hij,hj,he⟩:=hdup;refine ih (m-(j-i)) (by omega) (by omega) (A0s.2 ⟨fun x=>if x≤M+1+i then q x else q (x+(j-i)),by simp[h1],fun x hx=>?_,?_⟩)
  ·show Jump E any (if x≤M+1+i then q x else q (x+(j-i))) (if x+1≤M+1+i then q (x+1) else q (x+1+(j-i)))
   by_cases hx1:x<M+1+i
   ·rw[if_pos (by omega),if_pos (by omega)];exact h2 x (by omega)
   ·by_cases hx2:x=M+1+i
    ·subst hx2
     rw[if_pos (by omega),if_neg (by omega),he,show M+1+i+1+(j-i)=(M+1+j)+1 by omega];exact h2 _ (by omega)
    ·rw[if_neg (by omega),if_neg (by omega),show x+1+(j-i)=(x+(j-i))+1 by omega]
     exact h2 _ (by omega)
  ·show A6p E any end_ 0 (if m-(j-i)≤M+1+i then q (m-(j-i)) else q (m-(j-i)+(j-i)))
   by_cases hx1:m-(j-i)≤M+1+i
   ·have hme:m-(j-i)=M+1+i:=by omega
    have hmj:m=M+1+j:=by omega
    rw[if_pos hx1,hme,he,←hmj];exact h3
   ·rw[if_neg hx1,show m-(j-i)+(j-i)=m by omega];exact h3
end
end Go.Proofs.Sh
