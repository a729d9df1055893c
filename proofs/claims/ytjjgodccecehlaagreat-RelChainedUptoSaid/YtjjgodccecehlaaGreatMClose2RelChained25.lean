/- A part of the proof: ShCompose. -/
import Derived.Test.YtjjgodccecehlaaGreatMClose2RelChained11
set_option linter.unusedVariables false
set_option linter.unusedSimpArgs false
/- What is gone through breadth first, without a program: lists that grow by what is not in them;what two graphs make one behind the other's symbols. -/
set_option linter.unusedSectionVars false
namespace Go.Proofs.Sh
open Go
section
variable {α β:Type} [DecidableEq α]
def A5m(T:List α)(x:α):List α:=if x∈T then T else T++[x]
def A9e(T:List α)(l:List α):List α:=l.foldl A5m T
theorem A88(T:List α)(x:α):∃U,A5m T x=T++U:=by
 unfold A5m;split
 ·exact⟨[],by simp⟩
 ·exact⟨_,rfl⟩
theorem A22(T l:List α)(x:α):A9e T (l++[x])=A5m (A9e T l) x:=by unfold A9e;rw[List.foldl_append];rfl
theorem B3i:∀(l T:List α),∃U,A9e T l=T++U
 | [],T=>⟨[],by simp[A9e]⟩
 | x :: l,T=>by
  obtain⟨U,hU⟩:=A88 T x;obtain⟨V,hV⟩:=B3i l (A5m T x);refine⟨U++V,?_⟩;show A9e (A5m T x) l=_;rw[hV,hU,List.append_assoc]
theorem C27{T:List α}{x y:α}:y∈A5m T x↔y∈T∨y=x:=by
 unfold A5m;split
 ·rename_i h
  exact⟨.inl,fun h2=>h2.elim id fun e=>e ▸ h⟩
 ·simp
theorem A56{y:α}:∀{l T:List α},y∈A9e T l↔y∈T∨y∈l
 | [],T=>by simp[A9e]
 | x :: l,T=>by
  show y∈A9e (A5m T x) l↔_;rw[A56 (l:=l),C27,List.mem_cons,or_assoc]
theorem C6b{T:List α}(h:T.Nodup)(x:α):(A5m T x).Nodup:=by
 unfold A5m;split
 ·exact h
 ·rename_i hx
  rw[List.nodup_append];exact⟨h,by simp,fun a ha b hb=>by rw[List.mem_singleton.1 hb];rintro rfl;exact hx ha⟩
theorem B6f:∀{l T:List α},T.Nodup→(A9e T l).Nodup
 | [],_,h=>h
 | x :: l,T,h=>B6f (l:=l) (C6b h x)
def ixOf(T:List α)(x:α):Nat:=T.idxOf x
theorem ix_ext{T:List α}{x:α}(h:x∈T)(U:List α):ixOf (T++U) x=ixOf T x:=by unfold ixOf;rw[List.idxOf_append,if_pos h]
theorem ix_new{T:List α}{x:α}(h:x∉T):ixOf (T++[x]) x=T.length:=by unfold ixOf;rw[List.idxOf_append,if_neg h];simp
theorem ix_head(T:List α)(x:α):ixOf (x :: T) x=0:=by unfold ixOf;rw[List.idxOf_cons];simp
theorem ix_tail{T:List α}{x y:α}(h:x≠y):ixOf (y :: T) x=ixOf T x+1:=by
 have h':(y == x)=false:=beq_eq_false_iff_ne.2 fun e=>h e.symm;unfold ixOf;rw[List.idxOf_cons,h',cond_false]
theorem B99{T:List α}{x:α}(h:x∈T):T[ixOf T x]?=some x:=by
 unfold ixOf;have h1:=List.idxOf_lt_length_of_mem h;rw[List.getElem?_eq_getElem h1]
 congr 1
 exact List.getElem_idxOf h1
def A6m(T:List α)(l:List (α×β)):List (Nat×β):=l.map fun c=>(ixOf T c.1,c.2)
theorem B2n{T:List α}{l:List (α×β)}(h:∀c∈l,c.1∈T)(U:List α):A6m (T++U) l=A6m T l:=by
 unfold A6m;exact List.map_congr_left fun c hc=>by rw[ix_ext (h c hc)]
theorem C8c{T:List α}{l:List (α×β)}(c:α×β):A6m (A9e T ((l++[c]).map Prod.fst)) (l++[c])=A6m (A9e T (l.map Prod.fst)) l++[(ixOf (A5m (A9e T (l.map Prod.fst)) c.1) c.1,c.2)]:=by
 rw[List.map_append,List.map_singleton,A22];obtain⟨U,hU⟩:=A88 (A9e T (l.map Prod.fst)) c.1;have h1:A6m (A5m (A9e T (l.map Prod.fst)) c.1) l=A6m (A9e T (l.map Prod.fst)) l:=by
  rw[hU];exact B2n (fun d hd=>A56.2 (.inr (List.mem_map.2 ⟨d,hd,rfl⟩))) U
 conv=>lhs;unfold A6m
 rw[List.map_append,List.map_singleton];show A6m _ l++_=_;rw[h1]
variable {C:α→List α} {T0:List α}
end
section
variable {σ α β:Type} [DecidableEq σ]
theorem idx_way{T:List σ}{x0:σ}{C:σ→List (σ×β)}{lab:β→Option α×Option α}{A:Arcs Nat α}{B:Arcs σ α}
  (h0:T[0]?=some x0) (hcl:∀x∈T,∀c∈C x,c.1∈T)
  (hA:∀i a b j,A i a b j↔∃x,T[i]?=some x∧∃c∈C x,ixOf T c.1=j∧lab c.2=(a,b))
  (hB:∀x a b y,x∈T→(B x a b y↔∃c∈C x,c.1=y∧lab c.2=(a,b)))
  {F:Nat→Prop} {G:σ→Prop} (hF:∀j,F j↔∃t,T[j]?=some t∧G t) (x y:List α):
  RelP A F x y↔∃t,G t∧Way B x0 x y t:=by
 constructor
 ·rintro⟨j,hj,hw⟩
  have key:∀{i j:Nat} {x y:List α},Way A i x y j→∀s,T[i]?=some s→∃t,T[j]?=some t∧Way B s x y t:=by
   intro i j x y k
   induction k with
   | nil i=>exact fun s hs=>⟨s,hs,.nil s⟩
   | @cons i k j a b x y h1 _ ih=>
    intro s hs;obtain⟨s',h2,c,h3,h4,h5⟩:=(hA _ _ _ _).1 h1;rw[hs]at h2;have e:=Option.some.inj h2;subst e;have hm:=List.mem_of_getElem? hs;have hc:=hcl s hm c h3;obtain⟨t,h6,h7⟩:=ih c.1 (by rw[←h4];exact B99 hc);exact⟨t,h6,.cons ((hB s a b c.1 hm).2 ⟨c,h3,rfl,h5⟩) h7⟩
  obtain⟨t,h1,h2⟩:=key hw x0 h0;obtain⟨t',h3,h4⟩:=(hF j).1 hj;rw[h1]at h3;have e:=Option.some.inj h3;subst e;exact⟨t,h4,h2⟩
 ·rintro⟨t,hG,hw⟩
  have key:∀{s t:σ} {x y:List α},Way B s x y t→∀i,T[i]?=some s→∃j,T[j]?=some t∧Way A i x y j:=by
   intro s t x y k
   induction k with
   | nil s=>exact fun i hi=>⟨i,hi,.nil i⟩
   | @cons s u t a b x y h1 _ ih=>
    intro i hi;have hm:=List.mem_of_getElem? hi;obtain⟨c,h3,rfl,h5⟩:=(hB s a b u hm).1 h1;obtain⟨j,h6,h7⟩:=ih (ixOf T c.1) (B99 (hcl s hm c h3));exact⟨j,h6,.cons ((hA _ _ _ _).2 ⟨s,hi,c,h3,rfl,h5⟩) h7⟩
  obtain⟨j,h1,h2⟩:=key hw 0 h0;exact⟨j,(hF j).2 ⟨t,h1,hG⟩,h2⟩
theorem way_in{A:Arcs σ α}{S:α→Prop}(hS:∀s a b t,A s a b t→(∀z,a=some z→S z)∧∀z,b=some z→S z){s t:σ}{x y:List α}(k:Way A s x y t):(∀z∈x,S z)∧∀z∈y,S z:=by
 have key:∀{o:Option α} {w:List α},(∀z,o=some z→S z)→(∀z∈w,S z)→∀z∈o.toList++w,S z:=fun{o w} ho hw z hz=>by
  rcases List.mem_append.1 hz with h|h
  ·cases o with
   | none=>cases h
   | some q=>rw[List.mem_singleton.1 h];exact ho q rfl
  ·exact hw z h
 induction k with
 | nil s=>exact⟨fun z hz=>(by cases hz),fun z hz=>(by cases hz)⟩
 | cons h1 _ ih=>
  obtain⟨h2,h3⟩:=hS _ _ _ _ h1;exact⟨key h2 ih.1,key h3 ih.2⟩
theorem B1y{f:α→β}{S:α→Prop}(hf:∀x y,S x→S y→f x=f y→x=y):∀{l m:List α},(∀x∈l,S x)→(∀x∈m,S x)→l.map f=m.map f→l=m
 | [],[],_,_,_=>rfl
 | [],_ :: _,_,_,h=>by simp at h
 | _ :: _,[],_,_,h=>by simp at h
 | a :: l,b :: m,hl,hm,h=>by
  simp only[List.map_cons,List.cons.injEq]at h;rw[hf a b (hl a List.mem_cons_self) (hm b List.mem_cons_self) h.1,B1y hf (fun x hx=>hl x (List.mem_cons_of_mem _ hx)) (fun x hx=>hm x (List.mem_cons_of_mem _ hx)) h.2]
theorem D0a{A:Arcs σ α}{B:Arcs σ β}(f:α→β){S:α→Prop}(hinj:∀x y,S x→S y→f x=f y→x=y)(h:∀s a b t,B s a b t↔∃c d,A s c d t∧a=c.map f∧b=d.map f)
  (hS:∀s a b t,A s a b t→(∀z,a=some z→S z)∧∀z,b=some z→S z) {x y:List α} (hx:∀z∈x,S z) (hy:∀z∈y,S z) (s t:σ):Way B s (x.map f) (y.map f) t↔Way A s x y t:=by
 constructor
 ·intro k
  have key:∀{s t:σ} {u v:List β},Way B s u v t→∃x y,Way A s x y t∧u=x.map f∧v=y.map f:=by
   intro s t u v k
   induction k with
   | nil s=>exact⟨[],[],.nil s,rfl,rfl⟩
   | cons h1 _ ih=>
    obtain⟨c,d,h2,rfl,rfl⟩:=(h _ _ _ _).1 h1;obtain⟨x,y,h3,rfl,rfl⟩:=ih;have e:∀o:Option α,(o.map f).toList=o.toList.map f:=fun o=>by cases o<;>rfl
    exact⟨c.toList++x,d.toList++y,.cons h2 h3,by rw[List.map_append,e],by rw[List.map_append,e]⟩
  obtain⟨x',y',h1,h2,h3⟩:=key k;obtain⟨h4,h5⟩:=way_in hS h1;rw[B1y hinj hx h4 h2,B1y hinj hy h5 h3];exact h1
 ·intro k
  exact k.map (f:=f) fun s a b t hs=>(h _ _ _ _).2 ⟨a,b,hs,rfl,rfl⟩
theorem C2d[DecidableEq α](f:α→Nat):∀{L M:List α},L.Nodup→(∀x∈L,x∈M)→(L.map f).sum≤(M.map f).sum
 | [],M,_,_=>by simp
 | x :: L,M,hn,h=>by
  have hx:=h x List.mem_cons_self;rw[List.nodup_cons]at hn;have ih:=C2d f (L:=L) (M:=M.erase x) hn.2 fun y hy=>(List.mem_erase_of_ne (fun e=>hn.1 (by rw[←e];exact hy))).2 (h y (List.mem_cons_of_mem _ hy));have hp:=((List.perm_cons_erase hx).map f).sum_nat;rw[List.map_cons,List.sum_cons]at hp ⊢;omega
theorem C80(a:Nat)(g:Nat→Nat):∀l:List Nat,(l.map fun q=>g q+a+a*g q).sum=(l.map g).sum+l.length*a+a*(l.map g).sum
 | []=>by simp
 | q :: l=>by
  simp only[List.map_cons,List.sum_cons,List.length_cons,C80 a g l,Nat.mul_add,Nat.add_mul];omega
theorem C6x(f g:Nat→Nat)(M:List Nat):∀l:List Nat,((l.flatMap fun p=>M.map fun q=>(p,q)).map fun x:Nat×Nat=>g x.2+f x.1+f x.1*g x.2).sum=l.length*(M.map g).sum+M.length*(l.map f).sum+(l.map f).sum*(M.map g).sum
 | []=>by simp
 | p :: l=>by
  rw[List.flatMap_cons,List.map_append,List.sum_append,C6x f g M l,List.map_map];have:(M.map ((fun x:Nat×Nat=>g x.2+f x.1+f x.1*g x.2)∘fun q=>(p,q))).sum=(M.map g).sum+M.length*f p+f p*(M.map g).sum:=C80 (f p) g M;rw[this];simp only[List.map_cons,List.sum_cons,List.length_cons,Nat.mul_add,Nat.add_mul];omega
theorem D8c{T:List (Nat×Nat)}{n m:Nat}(hn:T.Nodup)(h:∀x∈T,x.1<n∧x.2<m)(f g:Nat→Nat):
  (T.map fun x=>g x.2+f x.1+f x.1*g x.2).sum≤n*((List.range m).map g).sum+m*((List.range n).map f).sum+((List.range n).map f).sum*((List.range m).map g).sum:=by
 have h1:=C2d (fun x:Nat×Nat=>g x.2+f x.1+f x.1*g x.2) (L:=T) (M:=(List.range n).flatMap fun p=>(List.range m).map fun q=>(p,q)) hn fun x hx=>by
  obtain⟨h1,h2⟩:=h x hx;exact List.mem_flatMap.2 ⟨x.1,List.mem_range.2 h1,List.mem_map.2 ⟨x.2,List.mem_range.2 h2,rfl⟩⟩
 rw[C6x,List.length_range,List.length_range]at h1;exact h1
theorem B3u{T:List (Nat×Nat)}{n m:Nat}(hn:T.Nodup)(h:∀x∈T,x.1<n∧x.2<m):T.length≤n*m:=by
 have h1:=C2d (fun x:Nat×Nat=>1) (L:=T) (M:=(List.range n).flatMap fun p=>(List.range m).map fun q=>(p,q)) hn fun x hx=>by
  obtain⟨h1,h2⟩:=h x hx;exact List.mem_flatMap.2 ⟨x.1,List.mem_range.2 h1,List.mem_map.2 ⟨x.2,List.mem_range.2 h2,rfl⟩⟩
 have e:∀l:List (Nat×Nat),(l.map fun _=>1).sum=l.length:=fun l=>by
  induction l with
  | nil=>rfl
  | cons x l ih=>rw[List.map_cons,List.sum_cons,ih,List.length_cons];omega
 have e2:∀l:List Nat,(l.flatMap fun p=>(List.range m).map fun q=>(p,q)).length=l.length*m:=fun l=>by
  induction l with
  | nil=>simp
  | cons x l ih=>rw[List.flatMap_cons,List.length_append,ih,List.length_map,List.length_range,List.length_cons,Nat.succ_mul];omega
 rw[e,e,e2,List.length_range]at h1;exact h1
end
end Go.Proofs.Sh
