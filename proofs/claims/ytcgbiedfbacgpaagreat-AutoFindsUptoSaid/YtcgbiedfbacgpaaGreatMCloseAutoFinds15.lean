/- A part of the proof: ShFinite. -/
import Derived.Test.YtcgbiedfbacgpaaGreatMCloseAutoFinds13
set_option linter.unusedVariables false
set_option linter.unusedSimpArgs false
/- A graph has words of any length just if an arc that reads a symbol lies in a ring. -/
set_option linter.unusedVariables false
set_option linter.unusedSimpArgs false
namespace Go.Proofs.Sh
open Go
section
variable {E any:Nat→Nat→Prop} {end_:Nat→Prop}
def B6s (E any:Nat→Nat→Prop) (a b:Nat):Prop:=E a b∨any a b
theorem A42 {a b m:Nat} (h:Clo (B6s E any) (fun x=>x=a) b):A8g E any end_ m b→∃ k,m≤k∧A8g E any end_ k a:=by
 have:=B1c h
 refine this.of (Q:=fun x=>∀ m,A8g E any end_ m b→∃ k,m≤k∧A8g E any end_ k x) (fun x hx m hm=>⟨m,Nat.le_refl m,by rw [hx]; exact hm⟩) (fun x y hx hyx m hm=>?_) m
 obtain ⟨k,h1,h2⟩:=hx m hm
 rcases hyx with h3 | h3
 ·exact ⟨k,h1,A9n (.step (.base rfl) h3) h2⟩
 ·exact ⟨k+1,by omega,A6l.2 ⟨x,⟨y,.base rfl,h3⟩,h2⟩⟩
theorem B09 {t:Nat} (h:Clo (fun a b=>B6s E any b a) end_ t):∃ m,A8g E any end_ m t:=by
 obtain ⟨u,h1,h2⟩:=A5r.1 h
 obtain ⟨k,_,h3⟩:=A42 (m:=0) h1 (show A8g E any end_ 0 u from .base h2)
 exact ⟨k,h3⟩
theorem B9x {r s t:Nat} (hs:any s t) (hts:Clo (B6s E any) (fun x=>x=t) s) (h0:Clo (B6s E any) (fun x=>x=r) s) (he:∃ m,A8g E any end_ m t) (K:Nat):∃ j,K≤j∧A8g E any end_ j r:=by
 have key:∀ K,∃ j,K≤j∧A8g E any end_ j s:=fun K=>by
  induction K with
  | zero=>
   obtain ⟨m,hm⟩:=he
   exact ⟨m+1,Nat.zero_le _,A6l.2 ⟨t,⟨s,.base rfl,hs⟩,hm⟩⟩
  | succ K ih=>
   obtain ⟨j,h1,h2⟩:=ih
   obtain ⟨k,h3,h4⟩:=A42 hts h2
   exact ⟨k+1,by omega,A6l.2 ⟨t,⟨s,.base rfl,hs⟩,h4⟩⟩
 obtain ⟨j,h1,h2⟩:=key K
 obtain ⟨k,h3,h4⟩:=A42 h0 h2
 exact ⟨k,by omega,h4⟩
theorem twice {n:Nat} (q:Nat→Nat) (hq:∀ i,i≤n→q i < n):∃ a b,a < b∧b≤n∧q a=q b:=by
 refine Classical.byContradiction fun hno=>?_
 have hnd:((List.range (n+1)).map q).Nodup:=by
  rw [List.nodup_iff_pairwise_ne,List.pairwise_map]
  refine List.Pairwise.imp_of_mem (R:=fun a b=>a < b) (fun {a b} ha hb hab he=>hno ⟨a,b,hab,by have:=List.mem_range.1 hb; omega,he⟩) List.pairwise_lt_range
 have:=A3n hnd fun x hx=>by
  obtain ⟨i,hi,rfl⟩:=List.mem_map.1 hx
  exact hq i (by have:=List.mem_range.1 hi; omega)
 simp at this
 omega
theorem A41 {E2:Nat→Nat→Prop} (he:∀ a b,E a b→E2 a b) {S:Nat→Prop} {t:Nat} (h:Clo E S t):Clo E2 S t:=h.of (fun _ hs=>.base hs) fun a b ha hab=>.step ha (he a b hab)
theorem C6q {a b c:Nat} {E2:Nat→Nat→Prop} (h:Clo E2 (fun x=>x=a) b) (k:Clo E2 (fun x=>x=b) c):Clo E2 (fun x=>x=a) c:=k.of (fun x hx=>by rw [hx]; exact h) fun x y hx hxy=>.step hx hxy
theorem B24 {n r j:Nat} (hn:∀ s t,any s t→t < n) (h0:r < n) (h:A8g E any end_ j r) (hj:n≤j):∃ u v,any u v∧Clo (B6s E any) (fun x=>x=v) u:=by
 obtain ⟨q,h1,h2,_⟩:=A4w.1 h
 have hq:∀ i,i≤n→q i < n:=fun i hi=>by
  cases i with
  | zero=>rw [h1]; exact h0
  | succ i=>
   obtain ⟨u,_,h3⟩:=h2 i (by omega)
   exact hn _ _ h3
 obtain ⟨a,b,hab,hbn,he⟩:=twice q hq
 have step:∀ i,i < j→Clo (B6s E any) (fun x=>x=q i) (q (i+1)):=fun i hi=>by
  obtain ⟨u,h3,h4⟩:=h2 i hi
  exact .step (A41 (fun _ _=>.inl) h3) (.inr h4)
 have walk:∀ d,a+1+d≤j→Clo (B6s E any) (fun x=>x=q (a+1)) (q (a+1+d)):=fun d=>by
  induction d with
  | zero=>intro _; exact .base rfl
  | succ d ih=>intro hd; exact C6q (ih (by omega)) (step (a+1+d) (by omega))
 obtain ⟨u,h3,h4⟩:=h2 a (by omega)
 refine ⟨u,q (a+1),h4,?_⟩
 have h5:=walk (b - (a+1)) (by omega)
 rw [show a+1+(b - (a+1))=b by omega,← he] at h5
 exact C6q h5 (A41 (fun _ _=>.inl) h3)
end
section
variable {ed ed':Int→Nat→Nat→Prop} {us:Nat→Prop} {f:Nat→Nat} {end_ end':Nat→Prop}
theorem TrimOf.root (h:TrimOf ed ed' us f end_ end') {s:Nat} (hs:us s):Clo (fun a b=>∃ x,ed' x a b) (fun x=>x=0) (f s):=by
 have h1:=(h.use s).1 hs
 exact (h1.1.of (Q:=fun s=>Clo (fun s t=>∃ x,ed x s t) (fun s=>s=0) s∧(us s→Clo (fun a b=>∃ x,ed' x a b) (fun x=>x=0) (f s))) (fun s hs=>⟨.base hs,fun _=>by rw [hs,h.f0]; exact .base rfl⟩) fun s t ⟨h2,h3⟩ hst=>by
  refine ⟨.step h2 hst,fun ht=>?_⟩
  obtain ⟨x,hx⟩:=hst
  have hus:us s:=(h.use s).2 ⟨h2,.step ((h.use t).1 ht).2 ⟨x,hx⟩⟩
  exact .step (h3 hus) ⟨x,(h.edge x _ _).2 ⟨s,t,hus,ht,rfl,rfl,hx⟩⟩).2 hs
theorem TrimOf.leaf (h:TrimOf ed ed' us f end_ end') {s:Nat} (hs:us s):Clo (fun a b=>∃ x,ed' x b a) end' (f s):=by
 have h1:=(h.use s).1 hs
 refine (h1.2.of (Q:=fun s=>Clo (fun s t=>∃ x,ed x t s) end_ s∧(us s→Clo (fun a b=>∃ x,ed' x b a) end' (f s))) (fun s he=>⟨.base he,fun hs=>.base ((h.fin _).2 ⟨s,hs,rfl,he⟩)⟩) fun s t ⟨h2,h3⟩ hst=>?_).2 hs
 refine ⟨.step h2 hst,fun ht=>?_⟩
 obtain ⟨x,hx⟩:=hst
 have hus:us s:=(h.use s).2 ⟨.step ((h.use t).1 ht).1 ⟨x,hx⟩,h2⟩
 exact .step (h3 hus) ⟨x,(h.edge x _ _).2 ⟨t,s,ht,hus,rfl,rfl,hx⟩⟩
end
end Go.Proofs.Sh
