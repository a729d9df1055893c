/- A part of the proof: ShDfs. -/
import Derived.Test.YtcgbiedfbacgpaaGreatMCloseAutoFinds7
set_option linter.unusedVariables false
set_option linter.unusedSimpArgs false
/- Going through a graph depth first, and what is gone through twice: the classes of states that reach each other. -/
set_option linter.unusedVariables false
set_option linter.unusedSimpArgs false
namespace Go.Proofs.Sh
open Go
section
variable {adj:Nat→List Nat} {O:Nat→Prop} {s:Nat}
inductive Dfs (adj:Nat→List Nat) (O:Nat→Prop) (s:Nat):List Nat→List (Nat×Nat)→Prop
 | start:¬O s→Dfs adj O s [] [(s,0)]
 | finish {F:List Nat} {W:List (Nat×Nat)} {x:Nat}:Dfs adj O s F (W++[(x,(adj x).length)])→Dfs adj O s (F++[x]) W
 | skip {F:List Nat} {W:List (Nat×Nat)} {x k y:Nat}:Dfs adj O s F (W++[(x,k)])→(adj x)[k]?=some y→(O y∨y∈F∨y∈(W++[(x,k)]).map Prod.fst)→Dfs adj O s F (W++[(x,k+1)])
 | push {F:List Nat} {W:List (Nat×Nat)} {x k y:Nat}:Dfs adj O s F (W++[(x,k)])→(adj x)[k]?=some y→¬(O y∨y∈F∨y∈(W++[(x,k)]).map Prod.fst)→Dfs adj O s F (W++[(x,k+1)]++[(y,0)])
def Arc (adj:Nat→List Nat) (a b:Nat):Prop:=b∈adj a
def Rch (adj:Nat→List Nat) (a b:Nat):Prop:=Clo (Arc adj) (fun x=>x=a) b
theorem Rch.refl (a:Nat):Rch adj a a:=.base rfl
theorem Rch.trans {a b c:Nat} (h:Rch adj a b) (k:Rch adj b c):Rch adj a c:=k.of (Q:=fun c=>Rch adj a c) (fun x hx=>by rw [hx]; exact h) fun x y hx hy=>.step hx hy
def Both (adj:Nat→List Nat) (a b:Nat):Prop:=Rch adj a b∧Rch adj b a
theorem Both.symm {a b:Nat} (h:Both adj a b):Both adj b a:=⟨h.2,h.1⟩
theorem Both.trans {a b c:Nat} (h:Both adj a b) (k:Both adj b c):Both adj a c:=⟨h.1.trans k.1,k.2.trans h.2⟩
structure DfsI (adj:Nat→List Nat) (O:Nat→Prop) (s:Nat) (F:List Nat) (W:List (Nat×Nat)):Prop where
 nod:(F++W.map Prod.fst).Nodup
 out:∀ x∈F++W.map Prod.fst,¬O x
 rch:∀ x∈F++W.map Prod.fst,Clo (fun a b=>b∈adj a∧¬O b) (fun x=>x=s) x
 way:(W.map Prod.fst).Pairwise (Rch adj)
 part:∀ p∈W,∀ k y,k < p.2→(adj p.1)[k]?=some y→O y∨y∈F++W.map Prod.fst
 left:∀ x∈F,∀ y∈adj x,O y∨y∈F++W.map Prod.fst
 has:s∈F++W.map Prod.fst
theorem Dfs.inv {F:List Nat} {W:List (Nat×Nat)} (h:Dfs adj O s F W):DfsI adj O s F W:=by
 induction h with
 | start h0=>
  refine ⟨by simp,fun x hx=>?_,fun x hx=>?_,by simp,fun p hp k y hk=>?_,(fun x hx=>by cases hx),by simp⟩
  ·simp at hx; rw [hx]; exact h0
  ·simp at hx; exact .base hx
  ·simp at hp; rw [hp] at hk; exact absurd hk (Nat.not_lt_zero k)
 | @finish F W x hd ih=>
  have hmem:∀ y,y∈F++(W++[(x,(adj x).length)]).map Prod.fst↔y∈(F++[x])++W.map Prod.fst:=fun y=>by
   simp only [List.map_append,List.map_cons,List.map_nil,List.mem_append,List.mem_singleton]
   constructor
   ·rintro (h | h | h)
    ·exact .inl (.inl h)
    ·exact .inr h
    ·exact .inl (.inr h)
   ·rintro ((h | h) | h)
    ·exact .inl h
    ·exact .inr (.inr h)
    ·exact .inr (.inl h)
  refine ⟨?_,fun y hy=>ih.out y ((hmem y).2 hy),fun y hy=>ih.rch y ((hmem y).2 hy),?_,fun p hp k y hk hy=>?_,fun z hz y hy=>?_,(hmem s).1 ih.has⟩
  ·refine (List.Perm.nodup_iff ?_).1 ih.nod
   simp only [List.map_append,List.map_cons,List.map_nil,List.append_assoc]
   exact List.Perm.append_left F List.perm_append_comm
  ·have:=ih.way
   rw [List.map_append,List.pairwise_append] at this
   exact this.1
  ·exact (ih.part p (List.mem_append_left _ hp) k y hk hy).imp id fun h=>(hmem y).1 h
  ·rcases List.mem_append.1 hz with h1 | h1
   ·exact (ih.left z h1 y hy).imp id fun h=>(hmem y).1 h
   ·rw [List.mem_singleton.1 h1] at hy
    obtain ⟨k,hk⟩:=List.mem_iff_getElem?.1 hy
    exact (ih.part (x,(adj x).length) (by simp) k y (List.getElem?_eq_some_iff.1 hk).1 hk).imp id fun h=>(hmem y).1 h
 | @skip F W x k y hd hy hs ih=>
  have hfst:(W++[(x,k+1)]).map Prod.fst=(W++[(x,k)]).map Prod.fst:=by simp
  refine ⟨by rw [hfst]; exact ih.nod,by rw [hfst]; exact ih.out,by rw [hfst]; exact ih.rch,by rw [hfst]; exact ih.way,fun p hp j z hj hz=>?_,by rw [hfst]; exact ih.left,by rw [hfst]; exact ih.has⟩
  rw [hfst]
  rcases List.mem_append.1 hp with h1 | h1
  ·exact ih.part p (List.mem_append_left _ h1) j z hj hz
  ·rw [List.mem_singleton.1 h1] at hj hz
   by_cases hjk:j=k
   ·subst hjk
    rw [show (adj (x,j+1).1)[j]?=(adj x)[j]? from rfl,hy] at hz
    rw [← Option.some.inj hz]
    rcases hs with h2 | h2 | h2
    ·exact .inl h2
    ·exact .inr (List.mem_append_left _ h2)
    ·exact .inr (List.mem_append_right _ h2)
   ·have hj':j < k+1:=hj
    exact ih.part (x,k) (by simp) j z (by show j < k; omega) hz
 | @push F W x k y hd hy hs ih=>
  have hfst:(W++[(x,k+1)]++[(y,0)]).map Prod.fst=(W++[(x,k)]).map Prod.fst++[y]:=by simp
  have hyx:y∈adj x:=List.mem_of_getElem? hy
  have hxm:x∈F++(W++[(x,k)]).map Prod.fst:=by simp
  have hno:¬O y:=fun h=>hs (.inl h)
  have hnm:y∉F++(W++[(x,k)]).map Prod.fst:=fun h=>by
   rcases List.mem_append.1 h with h1 | h1
   ·exact hs (.inr (.inl h1))
   ·exact hs (.inr (.inr h1))
  have hup:∀ {z},z∈F++(W++[(x,k)]).map Prod.fst→z∈F++(W++[(x,k+1)]++[(y,0)]).map Prod.fst:=fun {z} h=>by
   rw [hfst,← List.append_assoc]; exact List.mem_append_left _ h
  have hcase:∀ {z},z∈F++(W++[(x,k+1)]++[(y,0)]).map Prod.fst→z∈F++(W++[(x,k)]).map Prod.fst∨z=y:=fun {z} h=>by
   rw [hfst,← List.append_assoc,List.mem_append,List.mem_singleton] at h; exact h
  have hyin:y∈F++(W++[(x,k+1)]++[(y,0)]).map Prod.fst:=by simp
  refine ⟨?_,fun z hz=>?_,fun z hz=>?_,?_,fun p hp j z hj hz=>?_,fun z hz v hv=>(ih.left z hz v hv).imp id hup,hup ih.has⟩
  ·rw [hfst,← List.append_assoc,List.nodup_append]
   refine ⟨ih.nod,by simp,fun a ha b hb=>?_⟩
   rw [List.mem_singleton.1 hb]
   rintro rfl
   exact hnm ha
  ·rcases hcase hz with h1 | h1
   ·exact ih.out z h1
   ·rw [h1]; exact hno
  ·rcases hcase hz with h1 | h1
   ·exact ih.rch z h1
   ·rw [h1]; exact .step (ih.rch x hxm) ⟨hyx,hno⟩
  ·rw [hfst,List.pairwise_append]
   refine ⟨ih.way,by simp,fun a ha b hb=>?_⟩
   rw [List.mem_singleton.1 hb]
   have hxy:Rch adj x y:=.step (.base rfl) hyx
   have hw:=ih.way
   rw [List.map_append,List.pairwise_append] at hw
   rw [List.map_append] at ha
   rcases List.mem_append.1 ha with h1 | h1
   ·exact (hw.2.2 a h1 x (by simp)).trans hxy
   ·simp at h1; rw [h1]; exact hxy
  ·rcases List.mem_append.1 hp with h1 | h1
   ·rcases List.mem_append.1 h1 with h2 | h2
    ·exact (ih.part p (List.mem_append_left _ h2) j z hj hz).imp id hup
    ·rw [List.mem_singleton.1 h2] at hj hz
     by_cases hjk:j=k
     ·subst hjk
      rw [show (adj (x,j+1).1)[j]?=(adj x)[j]? from rfl,hy] at hz
      rw [← Option.some.inj hz]
      exact .inr hyin
     ·have hj':j < k+1:=hj
      exact (ih.part (x,k) (by simp) j z (by show j < k; omega) hz).imp id hup
   ·rw [List.mem_singleton.1 h1] at hj; exact absurd hj (Nat.not_lt_zero j)
theorem Dfs.reach {F:List Nat} (h:Dfs adj O s F []) (x:Nat):x∈F↔Clo (fun a b=>b∈adj a∧¬O b) (fun x=>x=s) x:=by
 have hi:=h.inv
 constructor
 ·intro hx; exact hi.rch x (by simpa using hx)
 ·intro hx
  refine hx.of (Q:=fun x=>x∈F) (fun y hy=>?_) fun a b ha hb=>?_
  ·rw [hy]; simpa using hi.has
  ·rcases hi.left a ha b hb.1 with h1 | h1
   ·exact absurd h1 hb.2
   ·simpa using h1
def Behind (ord:List Nat) (v u:Nat):Prop:=∃ A B,ord=A++u :: B∧(v∈A∨v=u)
theorem Behind.more {ord:List Nat} {v u:Nat} (h:Behind ord v u) (l:List Nat):Behind (ord++l) v u:=by
 obtain ⟨A,B,h1,h2⟩:=h
 exact ⟨A,B++l,by rw [h1]; simp,h2⟩
theorem Behind.last {ord:List Nat} {x v:Nat} (h:v∈ord++[x]):Behind (ord++[x]) v x:=by
 refine ⟨ord,[],rfl,?_⟩
 rcases List.mem_append.1 h with h1 | h1
 ·exact .inl h1
 ·exact .inr (List.mem_singleton.1 h1)
def LastOf (adj:Nat→List Nat) (ord:List Nat) (u:Nat):Prop:=∀ v,Rch adj u v→∃ u',Both adj u u'∧Behind ord v u'
theorem LastOf.more {ord:List Nat} {u:Nat} (h:LastOf adj ord u) (l:List Nat):LastOf adj (ord++l) u:=fun v hv=>by
 obtain ⟨u',h1,h2⟩:=h v hv
 exact ⟨u',h1,h2.more l⟩
structure OrdOk (adj:Nat→List Nat) (ord:List Nat):Prop where
 nod:ord.Nodup
 shut:∀ u∈ord,∀ y∈adj u,y∈ord
 last:∀ u∈ord,LastOf adj ord u
theorem Dfs.order {ord0 F:List Nat} {W:List (Nat×Nat)} (h0:OrdOk adj ord0) (h:Dfs adj (fun x=>x∈ord0) s F W):∀ u∈ord0++F,(∃ w∈W.map Prod.fst,Both adj u w)∨LastOf adj (ord0++F) u:=by
 induction h with
 | start _=>intro u hu; rw [List.append_nil] at hu ⊢; exact .inr (h0.last u hu)
 | @finish F W x hd ih=>
  have hi:=hd.inv
  have hx:(∃ w∈W.map Prod.fst,Both adj x w)∨LastOf adj (ord0++(F++[x])) x:=by
   by_cases hex:∃ w∈W.map Prod.fst,Both adj x w
   ·exact .inl hex
   ·right
    have hin:∀ v,Rch adj x v→v∈ord0++(F++[x])∧Rch adj x v:=fun v hv=>
     hv.of (Q:=fun v=>v∈ord0++(F++[x])∧Rch adj x v) (fun y hy=>by rw [hy]; exact ⟨by simp,.refl x⟩) fun a b ⟨ha1,ha2⟩ hb=>by
      refine ⟨?_,.step ha2 hb⟩
      rcases List.mem_append.1 ha1 with h1 | h1
      ·exact List.mem_append_left _ (h0.shut a h1 b hb)
      ·have hl : b ∈ ord0 ∨ b ∈ F ++ (W ++ [(x, (adj x).length)]).map Prod.fst := by
         rcases List.mem_append.1 h1 with h2 | h2
         · exact hi.left a h2 b hb
         · rw [List.mem_singleton.1 h2] at hb
           obtain ⟨k, hk⟩ := List.mem_iff_getElem?.1 hb
           exact hi.part (x, (adj x).length) (by simp) k b (List.getElem?_eq_some_iff.1 hk).1 hk
       rcases hl with h2 | h2
       · exact List.mem_append_left _ h2
       · rw [List.map_append, ← List.append_assoc] at h2
         rcases List.mem_append.1 h2 with h3 | h3
         · rcases List.mem_append.1 h3 with h4 | h4
           · simp [h4]
           · exfalso
             have hw := hi.way
             rw [List.map_append, List.pairwise_append] at hw
             exact hex ⟨b, h4, .step ha2 hb, hw.2.2 b h4 x (by simp)⟩
         · simp at h3; simp [h3]
    exact fun v hv=>⟨x,⟨.refl x,.refl x⟩,by rw [← List.append_assoc]; exact Behind.last (by rw [List.append_assoc]; exact (hin v hv).1)⟩
  intro u hu
  rw [← List.append_assoc] at hu
  rcases List.mem_append.1 hu with h1 | h1
  ·rcases ih u h1 with ⟨w,hw,hb⟩ | h2
   ·rw [List.map_append] at hw
    rcases List.mem_append.1 hw with h3 | h3
    ·exact .inl ⟨w,h3,hb⟩
    ·simp at h3
     subst h3
     rcases hx with ⟨w',h4,h5⟩ | h4
     ·exact .inl ⟨w',h4,hb.trans h5⟩
     ·right
      intro v hv
      obtain ⟨u',h5,h6⟩:=h4 v (hb.2.trans hv)
      exact ⟨u',hb.trans h5,h6⟩
   ·right; rw [← List.append_assoc]; exact h2.more [x]
  ·rw [List.mem_singleton.1 h1]; exact hx
 | @skip F W x k y hd hy hs ih=>
  have hfst:(W++[(x,k+1)]).map Prod.fst=(W++[(x,k)]).map Prod.fst:=by simp
  rw [hfst]; exact ih
 | @push F W x k y hd hy hs ih=>
  intro u hu
  rcases ih u hu with ⟨w,hw,hb⟩ | h2
  ·exact .inl ⟨w, by simp at hw ⊢; rcases hw with ⟨j, h1⟩ | h1
                     · exact .inl ⟨j, h1⟩
                     · exact .inr (.inl h1), hb⟩
  ·exact .inr h2
theorem Dfs.ok {ord0 F:List Nat} (h0:OrdOk adj ord0) (h:Dfs adj (fun x=>x∈ord0) s F []):OrdOk adj (ord0++F):=by
 have hi:=h.inv
 refine ⟨?_,fun u hu y hy=>?_,fun u hu=>?_⟩
 ·rw [List.nodup_append]
  refine ⟨h0.nod,by simpa using hi.nod,fun a ha b hb=>?_⟩
  rintro rfl
  exact hi.out a (by simpa using hb) ha
 ·rcases List.mem_append.1 hu with h1 | h1
  ·exact List.mem_append_left _ (h0.shut u h1 y hy)
  ·rcases hi.left u h1 y hy with h2 | h2
   ·exact List.mem_append_left _ h2
   ·exact List.mem_append_right _ (by simpa using h2)
 ·rcases h.order h0 u hu with ⟨w,hw,_⟩ | h2
  ·cases hw
  ·exact h2
theorem ring_of {bdj:Nat→List Nat} {ord A B:List Nat} {D:Nat→Prop} {r:Nat} (hb:∀ a b,b∈bdj a↔a∈adj b) (ho:OrdOk adj ord) (he:ord=A++r :: B) (hB:∀ x∈B,D x) (hD:∀ x y,D x→Both adj x y→D y) (hr:¬D r) (hall:∀ x,Rch adj x r→x∈ord) (x:Nat):
  Clo (fun a b=>b∈bdj a∧¬D b) (fun x=>x=r) x↔Both adj r x:=by
 constructor
 ·intro h
  have hx:¬D x∧Rch adj x r:=h.of (Q:=fun x=>¬D x∧Rch adj x r) (fun y hy=>by rw [hy]; exact ⟨hr,.refl r⟩) fun a b ⟨_,h2⟩ hb2=>⟨hb2.2,Rch.trans (.step (.base rfl) ((hb a b).1 hb2.1)) h2⟩
  obtain ⟨x',h1,A',B',h2,h3⟩:=ho.last x (hall x hx.2) r hx.2
  have hx':¬D x':=fun h=>hx.1 (hD x' x h h1.symm)
  have hxr:x'=r:=by
   have hnd:=ho.nod
   by_cases hne:x'=r
   ·exact hne
   exfalso
   have hrA:r∈A':=h3.resolve_right fun h=>hne h.symm
   obtain ⟨A1,A2,hA⟩:=List.append_of_mem hrA
   have he2:A1++r :: (A2++x' :: B')=A++r :: B:=by rw [← he,h2,hA]; simp
   have hn1:r∉A:=by rw [he,List.nodup_append] at hnd; exact fun h=>hnd.2.2 r h r List.mem_cons_self rfl
   have hn2:r∉A1:=by
    rw [h2,hA] at hnd
    simp only [List.append_assoc,List.cons_append] at hnd
    rw [List.nodup_append] at hnd
    exact fun h=>hnd.2.2 r h r List.mem_cons_self rfl
   have hlen:A1=A:=by
    clear he h2 hA hrA ho hB hall hnd
    induction A1 generalizing A with
    | nil=>
     cases A with
     | nil=>rfl
     | cons a A=>simp at he2; exact absurd (he2.1 ▸ List.mem_cons_self) hn1
    | cons a A1 ih=>
     cases A with
     | nil=>simp at he2; exact absurd (he2.1 ▸ List.mem_cons_self) hn2
     | cons b A=>
      simp only [List.cons_append,List.cons.injEq] at he2
      rw [he2.1,ih he2.2 (fun h=>hn1 (List.mem_cons_of_mem _ h)) (fun h=>hn2 (List.mem_cons_of_mem _ h))]
   rw [hlen] at he2
   have:=List.append_cancel_left he2
   injection this with _ h4
   exact hx' (hB x' (by rw [← h4]; simp))
  rw [hxr] at h1
  exact h1.symm
 ·rintro ⟨h1,h2⟩
  have:=B1c h2
  have key:∀ {y},Clo (fun a b=>Arc adj b a) (fun z=>z=r) y→Rch adj r y→Clo (fun a b=>b∈bdj a∧¬D b) (fun z=>z=r) y:=by
   intro y hy
   refine hy.of (Q:=fun y=>Rch adj y r∧(Rch adj r y→Clo (fun a b=>b∈bdj a∧¬D b) (fun z=>z=r) y)) (fun z hz=>by rw [hz]; exact ⟨.refl r,fun _=>.base rfl⟩) (fun a b ⟨ha1,ha2⟩ hab=>?_) |>.2
   have hba:Rch adj b r:=Rch.trans (.step (.base rfl) hab) ha1
   refine ⟨hba,fun hrb=>?_⟩
   have hra:Rch adj r a:=.step hrb hab
   refine .step (ha2 hra) ⟨(hb a b).2 hab,fun hD'=>hr (hD b r hD' ⟨hba,hrb⟩)⟩
  exact key this h1
end
theorem Dfs.le {adj:Nat→List Nat} {O:Nat→Prop} {s:Nat} {F:List Nat} {W:List (Nat×Nat)} (h:Dfs adj O s F W):∀ p∈W,p.2≤(adj p.1).length:=by
 induction h with
 | start _=>intro p hp; simp at hp; rw [hp]; exact Nat.zero_le _
 | finish _ ih=>exact fun p hp=>ih p (List.mem_append_left _ hp)
 | @skip F W x k y hd hy hs ih=>
  intro p hp
  rcases List.mem_append.1 hp with h1 | h1
  ·exact ih p (List.mem_append_left _ h1)
  ·rw [List.mem_singleton.1 h1]; exact (List.getElem?_eq_some_iff.1 hy).1
 | @push F W x k y hd hy hs ih=>
  intro p hp
  rcases List.mem_append.1 hp with h1 | h1
  ·rcases List.mem_append.1 h1 with h2 | h2
   ·exact ih p (List.mem_append_left _ h2)
   ·rw [List.mem_singleton.1 h2]; exact (List.getElem?_eq_some_iff.1 hy).1
  ·rw [List.mem_singleton.1 h1]; exact Nat.zero_le _
theorem C1j (f:Nat→Nat):∀ {L M:List Nat},L.Nodup→(∀ x∈L,x∈M)→(L.map f).sum≤(M.map f).sum
 | [],M,_,_=>Nat.zero_le _
 | x :: L,M,hn,hm=>by
  obtain ⟨A,B,rfl⟩:=List.append_of_mem (hm x List.mem_cons_self)
  obtain ⟨h1,h2⟩:=List.nodup_cons.1 hn
  have ih:=C1j f (L:=L) (M:=A++B) h2 fun y hy=>by
   rcases List.mem_append.1 (hm y (List.mem_cons_of_mem _ hy)) with h3 | h3
   ·exact List.mem_append_left _ h3
   ·rcases List.mem_cons.1 h3 with h4 | h4
    ·subst h4; exact absurd hy h1
    ·exact List.mem_append_right _ h4
  simp only [List.map_cons,List.sum_cons,List.map_append,List.sum_append] at ih ⊢
  omega
def A3z (adj:Nat→List Nat) (F:List Nat) (W:List (Nat×Nat)):Nat:=(F.map fun x=>(adj x).length+2).sum+(W.map fun p=>p.2+1).sum
theorem C5t {adj:Nat→List Nat} {O:Nat→Prop} {s n:Nat} {F:List Nat} {W:List (Nat×Nat)} (h:Dfs adj O s F W) (hn:∀ x∈F++W.map Prod.fst,x < n):A3z adj F W≤((List.range n).map fun x=>(adj x).length+2).sum:=by
 have h1:=C1j (fun x=>(adj x).length+2) h.inv.nod (M:=List.range n) fun x hx=>List.mem_range.2 (hn x hx)
 refine Nat.le_trans ?_ h1
 unfold A3z
 rw [List.map_append,List.sum_append]
 refine Nat.add_le_add_left ?_ _
 have hle:=h.le
 clear h h1 hn
 induction W with
 | nil=>exact Nat.le_refl _
 | cons p W ih=>
  have:=hle p List.mem_cons_self
  have:=ih fun q hq=>hle q (List.mem_cons_of_mem _ hq)
  simp only [List.map_cons,List.sum_cons]
  omega
theorem Arr.uniq {H:AH} {g k s:Nat} {v w:List Value} (h:Arr H g k s v) (h':Arr H g k s w):v=w:=by
 obtain ⟨rs,r,h1,h2,h3,h4,h5⟩:=h
 obtain ⟨rs',r',k1,k2,k3,k4,k5⟩:=h'
 rw [h1] at k1
 injection k1 with k1; injection k1 with k1 _
 subst k1
 rw [h2] at k2
 rw [← h5,← k5,Option.some.inj k2]
theorem Buf.second {P:Program} {t e:Nat} {H:AH} {v:Value} {l:List (List Value)} {b:Option Nat} (hu:P.underlying t=some (.slice e)) (hs:A9b P e=some 2) (h:Buf H 2 v l b) (hw:Wf H) {i:Nat} {a c:Value} (hx:l[i]?=some [a,c]):
  ∃ g o k,A9a P t v (.int .i64 (i:Int))=some (.pointer (some ⟨g,o,some k⟩))∧H.cell ⟨g,o,some k⟩=some a∧H.cell ⟨g,o+1,some k⟩=some c∧b=some g∧∀ w,∃ H',H.write ⟨g,o+1,some k⟩ [w]=some H'∧Buf H' 2 v (l.set i [a,w]) b∧Chg (fun y=>b=some y) H H'∧H'.next=H.next:=by
 have hi:=(List.getElem?_eq_some_iff.1 hx).1
 have hset:=fun w=>h.set (P:=P) hw (i:=i) (x:=[a,w]) hi rfl
 obtain ⟨g',o',k',i1,i2,i3⟩:=h.toSl.at hu hs hx .i64
 cases h with
 | void _=>simp at hi
 | own g k cap l vals ha h0 h1 h2 h3 h4=>
  have hia:=A1r (P:=P) (t:=t) (g:=g) (o:=0) (k:=k) (n:=l.length) (c:=cap) (j:=.i64) hu hs hi
  rw [i1] at hia
  injection hia with hia; injection hia with hia; injection hia with hia
  injection hia with q1 q2 q3
  injection q3 with q3
  subst q1 q3
  have c0:=i3 0 a rfl
  have c1:=i3 1 c rfl
  rw [q2] at i1 i2 c0 c1
  simp only [Nat.zero_add,Nat.add_zero] at i1 i2 c0 c1
  have hll:l.length * 2≤vals.length:=by rw [← h1]; exact Nat.mul_le_mul_right 2 h2
  refine ⟨g',i * 2,k',i1,c0,c1,rfl,fun w=>?_⟩
  obtain ⟨H',e1,e2,e3,e4⟩:=ha.write hw (i:=i * 2+1) (vs:=[w]) (by simp; omega)
  refine ⟨H',e1,?_,e4.weak fun y hy=>by rw [hy],e3⟩
  obtain ⟨p,H2,f1,f2,f3,f4,f5⟩:=hset w
  have hp:=f1 hu hs (j:=.i64)
  rw [i1] at hp
  injection hp with hp; injection hp with hp; injection hp with hp
  subst hp
  obtain ⟨H3,g1,g2,g3,g4⟩:=ha.write hw (i:=i * 2) (vs:=[a,w]) (by simp; omega)
  rw [g1] at f2
  have hh:=Option.some.inj f2
  subst hh
  have hcell:vals[i * 2]?=some a:=by rw [← ha.cell]; exact c0
  have hsame:setCells vals (i * 2) [a,w]=setCells vals (i * 2+1) [w]:=by
   show setCells (vals.set (i * 2) a) (i * 2+1) [w]=_
   congr 1
   refine List.ext_getElem? fun q=>?_
   rw [List.getElem?_set]
   split
   ·rename_i hq; subst hq
    rw [hcell]; split
    ·rfl
    ·rename_i hq; exact absurd (List.getElem?_eq_some_iff.1 hcell).1 hq
   ·rfl
  rw [hsame] at g2
  generalize hv:Value.slice (some ⟨g',0,some k'⟩) l.length cap=v2 at f3
  generalize hl2:l.set i [a,w]=l2 at f3
  cases f3 with
  | own _ k5 cap5 _ vals5 ha5 m0 m1 m2 m3 m4=>
   simp only [Value.slice.injEq,Option.some.injEq,Addr.mk.injEq,true_and] at hv
   obtain ⟨hv1,_,hv3⟩:=hv
   subst hv1 hv3
   have:=ha5.uniq g2
   subst this
   have r:=Buf.own (H:=H') (s:=2) g' k' cap l2 _ e2 m0 m1 m2 m3 m4
   exact r
end Go.Proofs.Sh
