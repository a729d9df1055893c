/- A part of the proof: ShWords, ShWays. -/
import Derived.Test.YtjjgodccecehlaaGreatMClose2RelDowns3
set_option linter.unusedVariables false
set_option linter.unusedSimpArgs false
/- Words of an automaton, by their length and in order;which lengths they have. -/
namespace Go.Proofs.Sh
open Go
noncomputable def tB(p:Prop):Bool:=@decide p (Classical.propDecidable p)
theorem A3z{p:Prop}:tB p=true↔p:=@decide_eq_true_iff p (Classical.propDecidable p)
theorem tB_congr{p q:Prop}(h:p↔q):tB p=tB q:=by rw[propext h]
section
variable {α β:Type}
def allW(A:List α):Nat→List (List α)
 | 0=>[[]]
 | n+1=>A.flatMap fun a=>(allW A n).map (a :: ·)
theorem A65{A:List α}:∀{n:Nat} {u:List α},u∈allW A n↔u.length=n∧∀x∈u,x∈A
 | 0, u => by simp only [allW, List.mem_singleton]; constructor
              · rintro rfl;exact⟨rfl, fun x hx => by cases hx⟩
              · rintro⟨h, _⟩;exact List.length_eq_zero_iff.1 h
 | n+1,u=>by
  simp only[allW,List.mem_flatMap,List.mem_map];constructor
  ·rintro⟨a,ha,v,hv,rfl⟩
   obtain⟨h1,h2⟩:=A65.1 hv;exact⟨by simp[h1],fun x hx=>by
    rcases List.mem_cons.1 hx with rfl|hx
    ·exact ha
    ·exact h2 x hx⟩
  ·rintro⟨h1,h2⟩
   cases u with
   | nil=>cases h1
   | cons a v=>exact⟨a,h2 a List.mem_cons_self,v,A65.2 ⟨by simpa using h1,fun x hx=>h2 x (List.mem_cons_of_mem _ hx)⟩,rfl⟩
theorem C2p(f:α→β)(A:List α):∀(n:Nat),allW (A.map f) n=(allW A n).map (List.map f)
 | 0=>rfl
 | n+1=>by
  simp only[allW,C2p f A n,List.flatMap_map,List.map_flatMap,List.map_map];rfl
noncomputable def lexW(A:List α)(p:List α→Prop)(n:Nat):List (List α):=(allW A n).filter fun u=>tB (p u)
theorem B4x{A:List α}{p:List α→Prop}{n:Nat}{u:List α}:u∈lexW A p n↔(u.length=n∧∀x∈u,x∈A)∧p u:=by
 unfold lexW;rw[List.mem_filter,A65,A3z]
theorem B25(A:List α)(p:List α→Prop):lexW A p 0=if tB (p [])=true then [[]] else []:=by
 unfold lexW allW;rw[List.filter_cons];rfl
theorem B3z(A:List α)(p:List α→Prop)(n:Nat):lexW A p (n+1)=A.flatMap fun a=>(lexW A (fun w=>p (a :: w)) n).map (a :: ·):=by
 unfold lexW;simp only[allW,List.filter_flatMap,List.filter_map];rfl
theorem B08{A:List α}{p:List α→Prop}{n:Nat}(h:∀u,u.length=n→¬p u):lexW A p n=[]:=by
 unfold lexW;rw[List.filter_eq_nil_iff];intro u hu hp;exact h u (A65.1 hu).1 (A3z.1 hp)
theorem B8t{A:List α}{p q:List α→Prop}{n:Nat}(h:∀u,u.length=n→(∀x∈u,x∈A)→(p u↔q u)):lexW A p n=lexW A q n:=by
 unfold lexW;refine List.filter_congr fun u hu=>?_;obtain⟨h1,h2⟩:=A65.1 hu;exact tB_congr (h u h1 h2)
theorem lexW_map(f:α→β)(A:List α)(q:List β→Prop)(n:Nat):lexW (A.map f) q n=(lexW A (fun u=>q (u.map f)) n).map (List.map f):=by
 unfold lexW;rw[C2p,List.filter_map];rfl
noncomputable def B7n(A:List α)(p:List α→Prop)(M:Nat):List (List α):=(List.range (M+1)).flatMap (lexW A p)
theorem B09{A:List α}{p:List α→Prop}{M:Nat}{u:List α}:u∈B7n A p M↔(u.length≤M∧∀x∈u,x∈A)∧p u:=by
 unfold B7n;simp only[List.mem_flatMap,List.mem_range,B4x];constructor
 ·rintro⟨m,h1,⟨h2,h3⟩,h4⟩;exact⟨⟨by omega,h3⟩,h4⟩
 ·rintro⟨⟨h1,h2⟩,h3⟩;exact⟨u.length,by omega,⟨rfl,h2⟩,h3⟩
theorem C7v(f:α→β)(A:List α)(q:List β→Prop)(M:Nat):B7n (A.map f) q M=(B7n A (fun u=>q (u.map f)) M).map (List.map f):=by
 unfold B7n;rw[List.map_flatMap]
 congr 1
 funext n
 exact lexW_map f A q n
theorem B9g{A:List α}{p q:List α→Prop}{M:Nat}(h:∀u,(∀x∈u,x∈A)→(p u↔q u)):B7n A p M=B7n A q M:=by
 unfold B7n
 congr 1
 funext n
 exact B8t fun u _ h2=>h u h2
theorem B4c(l m:List α)(n:Nat):(l.take n++m).take n=(l++m).take n:=by
 rw[List.take_append,List.take_append,List.take_take,Nat.min_self,List.length_take];by_cases h:l.length≤n
 ·rw[Nat.min_eq_right h]
 ·rw[Nat.min_eq_left (by omega),Nat.sub_self,show n-l.length=0 by omega]
end
section
variable {E:Nat→Nat→Prop} {A:Nat→Nat→Nat→Prop} {end_:Nat→Prop}
def A4m(E:Nat→Nat→Prop)(any:Nat→Nat→Prop)(end_:Nat→Prop):Nat→Nat→Prop
 | 0=>Clo (fun s t=>E t s) end_
 | m+1=>Clo (fun s t=>E t s) fun s=>∃t,any s t∧A4m E any end_ m t
def accS{L:Type}(E:Nat→Nat→Prop)(A:L→Nat→Nat→Prop)(end_:Nat→Prop)(S:Nat→Prop)(w:List L):Prop:=∃t,RunS E A S w t∧end_ t
theorem A5o{E:Nat→Nat→Prop}{B:Nat→Prop}{t:Nat}:Clo E B t↔∃s,B s∧Clo E (fun x=>x=s) t:=by
 constructor
 ·exact fun h=>h.of (Q:=fun t=>∃s,B s∧Clo E (fun x=>x=s) t) (fun s hs=>⟨s,hs,.base rfl⟩) fun a b ⟨s,h1,h2⟩ hr=>⟨s,h1,.step h2 hr⟩
 ·rintro⟨s,h1,h2⟩
  exact h2.of (Q:=fun t=>Clo E B t) (fun x hx=>by rw[hx];exact .base h1) fun a b ha hb=>.step ha hb
theorem C5i{E:Nat→Nat→Prop}{s t:Nat}(h:Clo E (fun x=>x=s) t):Clo (fun a b=>E b a) (fun x=>x=t) s:=by
 refine h.of (Q:=fun t=>Clo (fun a b=>E b a) (fun x=>x=t) s) (fun x hx=>.base hx.symm) fun a b ha hb=>?_;exact ha.of (Q:=fun s=>Clo (fun a b=>E b a) (fun x=>x=b) s) (fun x hx=>by rw[hx];exact .step (.base rfl) hb) fun c d hc hd=>.step hc hd
theorem A2t{E:Nat→Nat→Prop}{B:Nat→Prop}{s:Nat}:Clo (fun a b=>E b a) B s↔∃u,Clo E (fun x=>x=s) u∧B u:=by
 rw[A5o];constructor
 ·rintro⟨u,h1,h2⟩;exact⟨u,C5i h2,h1⟩
 ·rintro⟨u,h1,h2⟩;exact⟨u,h2,C5i h1⟩
theorem A11{E:Nat→Nat→Prop}{S:Nat→Prop}(hS:∀s t,S s→E s t→S t){t:Nat}:Clo E S t↔S t:=⟨fun h=>h.of (fun _ h=>h) fun s t h1 h2=>hS s t h1 h2,.base⟩
theorem A0v{any:Nat→Nat→Prop}{m s u:Nat}(h1:Clo E (fun x=>x=s) u)(h2:A4m E any end_ m u):A4m E any end_ m s:=by
 cases m with
 | zero=>
  obtain⟨v,h3,h4⟩:=A2t.1 h2;exact A2t.2 ⟨v,h3.of (Q:=fun v=>Clo E (fun x=>x=s) v) (fun x hx=>by rw[hx];exact h1) fun a b ha hb=>.step ha hb,h4⟩
 | succ m=>
  obtain⟨v,h3,h4⟩:=A2t.1 h2;exact A2t.2 ⟨v,h3.of (Q:=fun v=>Clo E (fun x=>x=s) v) (fun x hx=>by rw[hx];exact h1) fun a b ha hb=>.step ha hb,h4⟩
theorem A6q{L:Type}{A:L→Nat→Nat→Prop}{any:Nat→Nat→Prop}(hA:∀k s t,A k s t→any s t):∀{w:List L} {S:Nat→Prop},accS E A end_ S w→∃s,S s∧A4m E any end_ w.length s
 | [],S,⟨t,h1,h2⟩=>⟨t,h1,.base h2⟩
 | k :: w,S,⟨t,h1,h2⟩=>by
  obtain⟨u,h3,h4⟩:=A6q hA (w:=w) (S:=Clo E fun t=>∃s,S s∧A k s t) ⟨t,h1,h2⟩;obtain⟨v,⟨s,h5,h6⟩,h7⟩:=A5o.1 h3;exact⟨s,h5,.base ⟨v,hA k s v h6,A0v h7 h4⟩⟩
theorem A62{L:Type}{A:L→Nat→Nat→Prop}{any:Nat→Nat→Prop}{q:L→Prop}(hA:∀s t,any s t→∃k,q k∧A k s t):∀{m:Nat} {S:Nat→Prop},(∀s t,S s→E s t→S t)→(∃s,S s∧A4m E any end_ m s)→∃w:List L,(w.length=m∧∀x∈w,q x)∧accS E A end_ S w
 | 0,S,hS,⟨s,h1,h2⟩=>by
  obtain⟨u,h3,h4⟩:=A2t.1 h2;exact⟨[],⟨rfl,fun x hx=>by cases hx⟩,u,(A11 hS).1 (A5o.2 ⟨s,h1,h3⟩),h4⟩
 | m+1,S,hS,⟨s,h1,h2⟩=>by
  obtain⟨u,h3,v,h4,h5⟩:=A2t.1 h2;have hu:=(A11 hS).1 (A5o.2 ⟨s,h1,h3⟩);obtain⟨k,hk,h6⟩:=hA u v h4;obtain⟨w,⟨h7,h9⟩,h8⟩:=A62 hA (m:=m) (S:=Clo E fun t=>∃s,S s∧A k s t) (fun a b ha hb=>.step ha hb) ⟨v,.base ⟨u,hu,h6⟩,h5⟩;exact⟨k :: w,⟨by simp[h7],fun x hx=>by
   rcases List.mem_cons.1 hx with rfl|hx
   ·exact hk
   ·exact h9 x hx⟩,h8⟩
theorem A7y{L:Type}{A:L→Nat→Nat→Prop}:∀{w:List L} {S:Nat→Prop} {t:Nat},RunS E A S w t↔∃s,S s∧RunS E A (fun x=>x=s) w t
 | [],S,t=>by simp[RunS]
 | k :: w,S,t=>by
  simp only[RunS];rw[A7y];constructor
  ·rintro⟨u,h1,h2⟩
   obtain⟨v,⟨s,h3,h4⟩,h5⟩:=A5o.1 h1;exact⟨s,h3,A7y.2 ⟨u,A5o.2 ⟨v,⟨s,rfl,h4⟩,h5⟩,h2⟩⟩
  ·rintro⟨s,h1,h2⟩
   obtain⟨u,h3,h4⟩:=A7y.1 h2;obtain⟨v,⟨s',h5,h6⟩,h7⟩:=A5o.1 h3;subst h5;exact⟨u,A5o.2 ⟨v,⟨s',h1,h6⟩,h7⟩,h4⟩
theorem acc_keep{L:Type}{A:L→Nat→Nat→Prop}{any:Nat→Nat→Prop}(hA:∀k s t,A k s t→any s t){w:List L}{S:Nat→Prop}:accS E A end_ S w↔accS E A end_ (fun s=>S s∧A4m E any end_ w.length s) w:=by
 constructor
 ·rintro⟨t,h1,h2⟩
  obtain⟨s,h3,h4⟩:=A7y.1 h1;obtain⟨s',h5,h6⟩:=A6q hA (w:=w) (S:=fun x=>x=s) ⟨t,h4,h2⟩;subst h5;exact⟨t,A7y.2 ⟨s',⟨h3,h6⟩,h4⟩,h2⟩
 ·rintro⟨t,h1,h2⟩
  obtain⟨s,h3,h4⟩:=A7y.1 h1;exact⟨t,A7y.2 ⟨s,h3.1,h4⟩,h2⟩
def Jump(E any:Nat→Nat→Prop)(s t:Nat):Prop:=∃u,Clo E (fun x=>x=s) u∧any u t
theorem A4v{any:Nat→Nat→Prop}{m s:Nat}:A4m E any end_ (m+1) s↔∃t,Jump E any s t∧A4m E any end_ m t:=by
 show Clo (fun a b=>E b a) _ s↔_;rw[A2t];constructor
 ·rintro⟨u,h1,t,h2,h3⟩;exact⟨t,⟨u,h1,h2⟩,h3⟩
 ·rintro⟨t,⟨u,h1,h2⟩,h3⟩;exact⟨u,h1,t,h2,h3⟩
theorem A8s{any:Nat→Nat→Prop}:∀{m s:Nat},A4m E any end_ m s↔∃q:Nat→Nat,q 0=s∧(∀i<m,Jump E any (q i) (q (i+1)))∧A4m E any end_ 0 (q m)
 | 0,s=>⟨fun h=>⟨fun _=>s,rfl,fun i hi=>absurd hi (Nat.not_lt_zero i),h⟩,fun⟨q,h1,_,h3⟩=>h1 ▸ h3⟩
 | m+1,s=>by
  rw[A4v];constructor
  ·rintro⟨t,h1,h2⟩
   obtain⟨q,h3,h4,h5⟩:=A8s.1 h2;refine⟨fun i=>match i with|0=>s|i+1=>q i,rfl,fun i hi=>?_,h5⟩;cases i with
   | zero=>show Jump E any s (q 0);rw[h3];exact h1
   | succ i=>exact h4 i (by omega)
  ·rintro⟨q,h1,h2,h3⟩
   exact⟨q 1,h1 ▸ h2 0 (by omega),A8s.2 ⟨fun i=>q (i+1),rfl,fun i hi=>h2 (i+1) (by omega),h3⟩⟩
theorem B53{any:Nat→Nat→Prop}{n M s:Nat}(hn:∀s t,any s t→t<n):∀(m:Nat),M<m→A4m E any end_ m s→∃j,M<j∧j≤M+n+1∧A4m E any end_ j s:=by
 intro m
 induction m using Nat.strongRecOn with
 | ind m ih=>
  intro hm h;by_cases hle:m≤M+n+1
  ·exact⟨m,hm,hle,h⟩
  obtain⟨q,h1,h2,h3⟩:=A8s.1 h;have hq:∀i,i<m→q (i+1)<n:=fun i hi=>by
   obtain⟨u,_,h4⟩:=h2 i hi;exact hn _ _ h4
  have hdup:∃i j,i<j∧j≤n∧q (M+1+i)=q (M+1+j):=by
   refine Classical.byContradiction fun hno=>?_;have hnd:((List.range (n+1)).map fun i=>q (M+1+i)).Nodup:=by
    rw[List.nodup_iff_pairwise_ne,List.pairwise_map];refine List.Pairwise.imp_of_mem (fun{a b} ha hb hab h=>?_) List.pairwise_lt_range;exact hno ⟨a,b,hab,by have:=List.mem_range.1 hb;omega,h⟩
   have:=A8u (n:=n) hnd fun x hx=>by
    obtain⟨i,hi,rfl⟩:=List.mem_map.1 hx;have:=List.mem_range.1 hi;rw[show M+1+i=(M+i)+1 by omega];exact hq _ (by omega)
   simp at this;omega
  obtain⟨i,j,hij,hj,he⟩:=hdup;refine ih (m-(j-i)) (by omega) (by omega) (A8s.2 ⟨fun x=>if x≤M+1+i then q x else q (x+(j-i)),by simp[h1],fun x hx=>?_,?_⟩)
  ·show Jump E any (if x≤M+1+i then q x else q (x+(j-i))) (if x+1≤M+1+i then q (x+1) else q (x+1+(j-i)))
   by_cases hx1:x<M+1+i
   ·rw[if_pos (by omega),if_pos (by omega)];exact h2 x (by omega)
   ·by_cases hx2:x=M+1+i
    ·subst hx2
     rw[if_pos (by omega),if_neg (by omega),he,show M+1+i+1+(j-i)=(M+1+j)+1 by omega];exact h2 _ (by omega)
    ·rw[if_neg (by omega),if_neg (by omega),show x+1+(j-i)=(x+(j-i))+1 by omega]
     exact h2 _ (by omega)
  ·show A4m E any end_ 0 (if m-(j-i)≤M+1+i then q (m-(j-i)) else q (m-(j-i)+(j-i)))
   by_cases hx1:m-(j-i)≤M+1+i
   ·have hme:m-(j-i)=M+1+i:=by omega
    have hmj:m=M+1+j:=by omega
    rw[if_pos hx1,hme,he,←hmj];exact h3
   ·rw[if_neg hx1,show m-(j-i)+(j-i)=m by omega];exact h3
def A3o(E any:Nat→Nat→Prop)(end_:Nat→Prop):Nat→Nat→Prop
 | 0=>Clo (fun a b=>E b a∨any b a) end_
 | m+1=>Clo (fun a b=>E b a) fun s=>∃t,any s t∧A3o E any end_ m t
theorem A63{any:Nat→Nat→Prop}:∀{m s:Nat},A3o E any end_ m s↔∃j,A4m E any end_ (m+j) s
 | 0,s=>by
  constructor
  ·intro h
   refine h.of (Q:=fun s=>∃j,A4m E any end_ (0+j) s) (fun s hs=>⟨0,.base hs⟩) fun a b ⟨j,hj⟩ hab=>?_;rcases hab with h1|h1
   ·exact⟨j,A0v (.step (.base rfl) h1) hj⟩
   ·refine⟨j+1,?_⟩
    rw[show 0+(j+1)=(0+j)+1 by omega];exact .base ⟨a,h1,hj⟩
  ·rintro⟨j,hj⟩
   rw[Nat.zero_add]at hj;have hup:∀{x u},Clo E (fun y=>y=x) u→Clo (fun a b=>E b a∨any b a) end_ u→Clo (fun a b=>E b a∨any b a) end_ x:=fun{x u} h1 h2=>
    h1.of (Q:=fun u=>Clo (fun a b=>E b a∨any b a) end_ u→Clo (fun a b=>E b a∨any b a) end_ x) (fun y hy h=>by rw[←hy];exact h) (fun a b ha hb h=>ha (.step h (.inl hb))) h2
   induction j generalizing s with
   | zero=>
    obtain⟨u,h1,h2⟩:=A2t.1 hj;exact hup h1 (.base h2)
   | succ j ih=>
    obtain⟨t,⟨u,h1,h2⟩,h3⟩:=A4v.1 hj;exact hup h1 (.step (ih t h3) (.inr h2))
 | m+1,s=>by
  show Clo (fun a b=>E b a) _ s↔_;rw[A2t];constructor
  ·rintro⟨u,h1,t,h2,h3⟩
   obtain⟨j,hj⟩:=A63.1 h3;exact⟨j,by rw[show m+1+j=(m+j)+1 by omega];exact A4v.2 ⟨t,⟨u,h1,h2⟩,hj⟩⟩
  ·rintro⟨j,hj⟩
   rw[show m+1+j=(m+j)+1 by omega]at hj;obtain⟨t,⟨u,h1,h2⟩,h3⟩:=A4v.1 hj;exact⟨u,h1,t,h2,A63.2 ⟨j,h3⟩⟩
end
inductive Wy{L:Type}(E:Nat→Nat→Prop)(A:L→Nat→Nat→Prop):Nat→List L→Nat→Prop
 | nil (s:Nat):Wy E A s [] s
 | eps {s t u:Nat} {w:List L}:E s t→Wy E A t w u→Wy E A s w u
 | sym {s t u:Nat} {k:L} {w:List L}:A k s t→Wy E A t w u→Wy E A s (k :: w) u
section
variable {L:Type} {E:Nat→Nat→Prop} {A:L→Nat→Nat→Prop}
theorem Wy.pre{s t u:Nat}{w:List L}(h:Clo E (fun x=>x=s) t)(k:Wy E A t w u):Wy E A s w u:=
 h.of (Q:=fun t=>∀{w},Wy E A t w u→Wy E A s w u) (fun x hx w k=>by rw[←hx];exact k) (fun a b ha hb w k=>ha (.eps hb k)) k
theorem way_nil{s t:Nat}{w:List L}(h:Wy E A s w t)(hw:w=[]):Clo E (fun x=>x=s) t:=by
 induction h with
 | nil s=>exact .base rfl
 | eps h1 _ ih=>exact A5o.2 ⟨_,.step (.base rfl) h1,ih hw⟩ |>.of (Q:=fun t=>Clo E (fun x=>x=_) t) (fun _ h=>h) fun _ _ h1 h2=>.step h1 h2
 | sym _ _ _=>cases hw
theorem way_cons{s t:Nat}{w:List L}(h:Wy E A s w t){k:L}{v:List L}(hw:w=k :: v):∃a b,Clo E (fun x=>x=s) a∧A k a b∧Wy E A b v t:=by
 induction h with
 | nil s=>cases hw
 | eps h1 _ ih=>
  obtain⟨a,b,h2,h3,h4⟩:=ih hw;exact⟨a,b,(A5o.2 ⟨_,.step (.base rfl) h1,h2⟩:Clo E (Clo E fun x=>x=_) a).of (Q:=fun t=>Clo E (fun x=>x=_) t) (fun _ h=>h) fun _ _ h1 h2=>.step h1 h2,h3,h4⟩
 | sym h1 h2 _=>
  injection hw with e1 e2
  subst e1 e2;exact⟨_,_,.base rfl,h1,h2⟩
theorem C8j:∀{w:List L} {S:Nat→Prop} {t:Nat},RunS E A (Clo E S) w t↔∃s,S s∧Wy E A s w t
 | [],S,t=>by
  show Clo E S t↔_;rw[A5o];exact⟨fun⟨s,h1,h2⟩=>⟨s,h1,.pre h2 (.nil _)⟩,fun⟨s,h1,h2⟩=>⟨s,h1,way_nil h2 rfl⟩⟩
 | k :: w,S,t=>by
  simp only[RunS];rw[C8j];constructor
  ·rintro⟨b,⟨a,h1,h2⟩,h3⟩
   obtain⟨s,h4,h5⟩:=A5o.1 h1;exact⟨s,h4,.pre h5 (.sym h2 h3)⟩
  ·rintro⟨s,h1,h2⟩
   obtain⟨a,b,h3,h4,h5⟩:=way_cons h2 rfl;exact⟨b,⟨a,A5o.2 ⟨s,h1,h3⟩,h4⟩,h5⟩
end
section
variable {ed ed':Int→Nat→Nat→Prop} {us:Nat→Prop} {f:Nat→Nat} {end_ end':Nat→Prop}
def B84(ed:Int→Nat→Nat→Prop)(s t:Nat):Prop:=∃x,x<0∧ed x s t
def C5r(ed:Int→Nat→Nat→Prop)(k:Nat)(s t:Nat):Prop:=ed (k:Int) s t
structure TrimOf(ed ed':Int→Nat→Nat→Prop)(us:Nat→Prop)(f:Nat→Nat)(end_ end':Nat→Prop):Prop where
 edge:∀x a b,ed' x a b↔∃s t,us s∧us t∧a=f s∧b=f t∧ed x s t
 fin:∀a,end' a↔∃s,us s∧a=f s∧end_ s
 f0:f 0=0
 inj:∀s t,us s∨s=0→us t∨t=0→f s=f t→s=t
 use:∀s,us s↔Clo (fun s t=>∃x,ed x s t) (fun s=>s=0) s∧Clo (fun s t=>∃x,ed x t s) end_ s
theorem TrimOf.down(h:TrimOf ed ed' us f end_ end'){a b:Nat}{w:List Nat}(hw:Wy (B84 ed') (C5r ed') a w b):∀s,a=f s→us s∨s=0→∃t,b=f t∧(us t∨t=0)∧Wy (B84 ed) (C5r ed) s w t:=by
 induction hw with
 | nil a=>exact fun s e hs=>⟨s,e,hs,.nil s⟩
 | eps h1 _ ih=>
  intro s e hs;obtain⟨x,hx,h2⟩:=h1;obtain⟨s',t,h3,h4,h5,h6,h7⟩:=(h.edge x _ _).1 h2;have:=h.inj s s' hs (.inl h3) (by rw[←e,h5]);subst this;obtain⟨u,h8,h9,h10⟩:=ih t h6 (.inl h4);exact⟨u,h8,h9,.eps ⟨x,hx,h7⟩ h10⟩
 | sym h1 _ ih=>
  intro s e hs;obtain⟨s',t,h3,h4,h5,h6,h7⟩:=(h.edge _ _ _).1 h1;have:=h.inj s s' hs (.inl h3) (by rw[←e,h5]);subst this;obtain⟨u,h8,h9,h10⟩:=ih t h6 (.inl h4);exact⟨u,h8,h9,.sym h7 h10⟩
theorem TrimOf.up(h:TrimOf ed ed' us f end_ end'){s t:Nat}{w:List Nat}(hw:Wy (B84 ed) (C5r ed) s w t):Clo (fun s t=>∃x,ed x s t) (fun s=>s=0) s→end_ t→us s∧us t∧Wy (B84 ed') (C5r ed') (f s) w (f t):=by
 induction hw with
 | nil s=>exact fun h1 h2=>⟨(h.use s).2 ⟨h1,.base h2⟩,(h.use s).2 ⟨h1,.base h2⟩,.nil _⟩
 | eps h1 _ ih=>
  intro h2 h3;obtain⟨x,hx,h4⟩:=h1;obtain⟨h5,h6,h7⟩:=ih (.step h2 ⟨x,h4⟩) h3;have hs:=(h.use _).2 ⟨h2,.step ((h.use _).1 h5).2 ⟨x,h4⟩⟩;exact⟨hs,h6,.eps ⟨x,hx,(h.edge x _ _).2 ⟨_,_,hs,h5,rfl,rfl,h4⟩⟩ h7⟩
 | sym h1 _ ih=>
  intro h2 h3;obtain⟨h5,h6,h7⟩:=ih (.step h2 ⟨_,h1⟩) h3;have hs:=(h.use _).2 ⟨h2,.step ((h.use _).1 h5).2 ⟨_,h1⟩⟩;exact⟨hs,h6,.sym ((h.edge _ _ _).2 ⟨_,_,hs,h5,rfl,rfl,h1⟩) h7⟩
theorem TrimOf.acc(h:TrimOf ed ed' us f end_ end')(w:List Nat):accS (B84 ed') (C5r ed') end' (Clo (B84 ed') fun s=>s=0) w↔accS (B84 ed) (C5r ed) end_ (Clo (B84 ed) fun s=>s=0) w:=by
 unfold accS;simp only[C8j];constructor
 ·rintro⟨b,⟨a,rfl,h1⟩,h2⟩
  obtain⟨t,h3,h4,h5⟩:=h.down h1 0 h.f0.symm (.inr rfl);obtain⟨s,h6,h7,h8⟩:=(h.fin b).1 h2;have:=h.inj t s h4 (.inl h6) (by rw[←h3,h7]);subst this;exact⟨t,⟨0,rfl,h5⟩,h8⟩
 ·rintro⟨t,⟨s,rfl,h1⟩,h2⟩
  obtain⟨h3,h4,h5⟩:=h.up h1 (.base rfl) h2;rw[h.f0]at h5;exact⟨f t,⟨0,rfl,h5⟩,(h.fin _).2 ⟨t,h4,rfl,h2⟩⟩
end
theorem wp_from{P:Program}{O:A4d}{c:Code}{S:List Item}{Q:Fr→AH→Prop}{F:Fr}{H:AH}(n t i0:Nat)(W:List Nat)(I:Nat→Fr→AH→Prop)
  (hi0:i0≤n) (ht:F.get t=some (.int .i64 (i0:Int))) (h0:I i0 F H)
  (step:∀i F' H',i0≤i→i<n→Same W F F'→F'.get t=some (.int .i64 (i:Int))→I i F' H'→
   (∀F'' H'',Same W F' F''→F''.get t=some (.int .i64 ((i+1:Nat):Int))→I (i+1) F'' H''→wp P O (.inLoop c :: S) Q F'' H'')→wp P O (.code c :: .inLoop c :: S) Q F' H')
  (done:∀F' H',Same W F F'→F'.get t=some (.int .i64 (n:Int))→I n F' H'→wp P O (.code c :: .inLoop c :: S) Q F' H'):
  wp P O (.inLoop c :: S) Q F H:=by
 refine A2y n (fun i F' H'=>i0≤i∧Same W F F'∧F'.get t=some (.int .i64 (i:Int))∧I i F' H') hi0 ⟨Nat.le_refl _,Same.rfl' F,ht,h0⟩ ?_;rintro i F' H' hi ⟨h,h1,h2,h3⟩ k;by_cases hlt:i<n
 ·exact step i F' H' h hlt h1 h2 h3 fun F'' H'' s1 s2 s3=>k F'' H'' hlt ⟨Nat.le_succ_of_le h,h1.trans s1,s2,s3⟩
 ·have:i=n:=by omega
  subst this;exact done F' H' h1 h2 h3
theorem wp_then{P:Program}{O:A4d}{c:Code}{S:List Item}{Q:Fr→AH→Prop}{F:Fr}{H:AH}(N:Fr→AH→Prop)(k:∀F' H',N F' H'→wp P O S Q F' H')(h:∀S',(∀F' H',N F' H'→wp P O S' Q F' H')→wp P O (.code c :: S') Q F H):wp P O (.code c :: S) Q F H:=h S k
theorem Buf.spot{P:Program}{t e:Nat}{H:AH}{v:Value}{l:List (List Value)}{b:Option Nat}(hu:P.underlying t=some (.slice e))(hs:A9b P e=some 1)(h:Buf H 1 v l b)(hw:Wf H){i:Nat}{u:Value}(hx:l[i]?=some [u]):
  ∃p,A7b P t v (.int .i64 (i:Int))=some (.pointer (some p))∧H.cell p=some u∧∀w,∃H',H.write p [w]=some H'∧Buf H' 1 v (l.set i [w]) b∧Chg (fun y=>b=some y) H H'∧H'.next=H.next:=by
 obtain⟨p0,h1,h2⟩:=Sl.elem (s:=1) hu hs h.toSl hx;refine⟨p0,h1,h2,fun w=>?_⟩;obtain⟨p,H',e1,e2,e3,e4,e5⟩:=h.set (P:=P) hw (x:=[w]) (List.getElem?_eq_some_iff.1 hx).1 rfl;have:=e1 hu hs (j:=.i64);rw[h1]at this;injection this with this;injection this with this;injection this with this
 subst this;exact⟨H',e2,e3,e4,e5⟩
def A2k(U:List Bool):Nat→Nat
 | 0=>0
 | t+1=>A2k U t+(if 1≤t∧U[t]?=some true then 1 else 0)
def numU(U:List Bool)(t:Nat):Nat:=if 1≤t∧U[t]?=some true then 1+A2k U t else 0
theorem B2q(U:List Bool){s t:Nat}(h:s≤t):A2k U s≤A2k U t:=by
 induction h with
 | refl=>exact Nat.le_refl _
 | step _ ih=>exact Nat.le_trans ih (Nat.le_add_right _ _)
theorem C1o(U:List Bool)(t:Nat):A2k U t≤t:=by
 induction t with
 | zero=>exact Nat.le_refl _
 | succ t ih=>unfold A2k;split<;>omega
theorem C35{U:List Bool}{s n:Nat}(hs:s<n):numU U s<1+A2k U n:=by
 unfold numU;split
 ·rename_i h
  have:=B2q U (s:=s+1) (t:=n) hs;rw[A2k,if_pos h]at this;omega
 ·omega
theorem B1c{U:List Bool}{s t:Nat}(hs:U[s]?=some true∨s=0)(ht:U[t]?=some true∨t=0)(h:numU U s=numU U t):s=t:=by
 have key:∀{a b:Nat},a<b→U[a]?=some true∨a=0→U[b]?=some true∨b=0→numU U a≠numU U b:=by
  intro a b hab ha hb;have hb':1≤b∧U[b]?=some true:=⟨by omega,hb.resolve_right (by omega)⟩
  unfold numU;rw[if_pos hb'];split
  ·rename_i h
   have:=B2q U (s:=a+1) (t:=b) hab;rw[A2k,if_pos h]at this;omega
  ·omega
 rcases Nat.lt_trichotomy s t with h1|h1|h1
 ·exact absurd h (key h1 hs ht)
 ·exact h1
 ·exact absurd h.symm (key h1 ht hs)
theorem B9l(U:List Bool):numU U 0=0:=by unfold numU;rw[if_neg (by omega)]
def numL(U:List Bool)(n i:Nat):List Nat:=(List.range n).map fun t=>if t<i then numU U t else 0
theorem A16{U:List Bool}{n i t:Nat}(h:t<n):(numL U n i)[t]?=some (if t<i then numU U t else 0):=by simp[numL,h]
theorem numL_one(U:List Bool)(n:Nat):numL U n 1=List.replicate n 0:=by
 refine List.ext_getElem? fun t=>?_;by_cases h:t<n
 ·rw[A16 h,List.getElem?_replicate,if_pos h]
  split
  ·rw[show t=0 by omega,B9l]
  ·rfl
 ·rw[List.getElem?_eq_none (by simp[numL];omega),List.getElem?_eq_none (by simp;omega)]
theorem C4z{U:List Bool}{n i:Nat}(h:numU U i=0):numL U n (i+1)=numL U n i:=by
 unfold numL;refine List.map_congr_left fun t _=>?_;by_cases h1:t<i
 ·rw[if_pos h1,if_pos (by omega)]
 ·rw[if_neg h1]
  split
  ·rw[show t=i by omega,h]
  ·rfl
theorem numL_set{U:List Bool}{n i:Nat}:numL U n (i+1)=(numL U n i).set i (numU U i):=by
 refine List.ext_getElem? fun t=>?_;have hl:(numL U n i).length=n:=by simp[numL]
 by_cases h:t<n
 ·rw[A16 h,List.getElem?_set,hl]
  by_cases h1:i=t
  ·subst h1;rw[if_pos rfl,if_pos h,if_pos (by omega)]
  ·rw[if_neg h1,A16 h]
   congr 1
   by_cases h2:t<i
   ·rw[if_pos h2,if_pos (by omega)]
   ·rw[if_neg h2,if_neg (by omega)]
 ·rw[List.getElem?_eq_none (by simp[numL];omega),List.getElem?_eq_none (by rw[List.length_set,hl];omega)]
def A17(H H':AH)(r:Value)(n:Nat)(Q:Nat→Prop):Prop:=Kept H H'∧∃B:List Bool,∃o,Buf H' 1 r (B.map A6l) o∧(∀y,o=some y→H.next≤y)∧B.length=n∧∀t:Nat,B[t]?=some true↔Q t
end Go.Proofs.Sh
