/- A part of the proof: DataIn. -/
import Derived.Test.YtcgbiedfbacgpaaGreatMClose2AutoOf9
import Derived.Test.YtcgbiedfbacgpaaGreatRows
set_option linter.unusedVariables false
set_option linter.unusedSimpArgs false
/- What comes in: lists of texts, nets. -/
set_option maxHeartbeats 4000000
set_option maxRecDepth 20000
set_option linter.unusedSimpArgs false
set_option linter.unusedVariables false
namespace Go.Proofs.YtcgbiedfbacgpaaGreat
open Go Go.Proofs Go.Proofs.Sh
section
variable {K:Type}
theorem bulk_pos:∀ (d:DataW K),1≤Rows.uptoBulk d
 | .lit l=>by cases l <;> simp [Rows.uptoBulk]
 | .nil=>by simp [Rows.uptoBulk]
 | .ptr d=>by simp [Rows.uptoBulk]
 | .slice a b=>by simp [Rows.uptoBulk]
 | .agg a=>by simp [Rows.uptoBulk]
 | .iface n d=>by simp [Rows.uptoBulk]
 | .map es=>by simp [Rows.uptoBulk]
 | .held h=>by simp [Rows.uptoBulk]
theorem C9f:∀ (ds:List (DataW K)),ds.length≤Rows.uptoBulkAll ds
 | []=>Nat.zero_le _
 | d :: ds=>by
  have:=bulk_pos d
  have:=C9f ds
  simp only [Rows.uptoBulkAll,List.length_cons]; omega
theorem C7f:∀ {ds:List (DataW K)} {d:DataW K},d∈ds→Rows.uptoBulk d≤Rows.uptoBulkAll ds
 | d :: ds,x,h=>by
  simp only [Rows.uptoBulkAll]
  rcases List.mem_cons.1 h with rfl | h
  ·omega
  ·have:=C7f h; omega
theorem B5o {α β:Type} {f:α→β}:∀ {l:List β},(∀ x∈l,∃ a,x=f a)→∃ L:List α,l=L.map f
 | [],_=>⟨[],rfl⟩
 | x :: l,h=>by
  obtain ⟨a,rfl⟩:=h x List.mem_cons_self
  obtain ⟨L,rfl⟩:=B5o (l:=l) fun y hy=>h y (List.mem_cons_of_mem _ hy)
  exact ⟨a :: L,rfl⟩
theorem C5z {α:Type} {enc:α→List Value} {H:AH} {f t e s:Nat} {cs:List Value} {d:DataW K} (R:α→DataW K→Prop) (hu:Tryz.prog.underlying t=some (.slice e)) (hs:Tryz.prog.cellsOf e=s)
  (hR:∀ f x y,RD Tryz.prog H f e x y→∃ a,x=enc a∧R a y) (h:RD Tryz.prog H f t cs d):
  ∃ u,∃ L:List α,∃ ds,cs=[u]∧Sl H u s (L.map enc)∧L.length=ds.length∧(∀ (i:Nat) a y,L[i]?=some a→ds[i]?=some y→enc a=enc a→∃ a',enc a'=enc a∧R a' y)∧Rows.uptoBulkAll ds < Rows.uptoBulk d:=by
 obtain ⟨l,ds,⟨u,rfl,hsl⟩,hlen,hel,hd⟩:=RD.slice hu hs h
 have hget:∀ (i:Nat) x,l[i]?=some x→∃ y a,ds[i]?=some y∧x=enc a∧R a y:=by
  intro i x hx
  have hi:=(List.getElem?_eq_some_iff.1 hx).1
  have hy:ds[i]?=some (ds[i]'(by omega)):=List.getElem?_eq_getElem (by omega)
  obtain ⟨f',hf⟩:=hel i x _ hx hy
  obtain ⟨a,h1,h2⟩:=hR f' x _ hf
  exact ⟨_,a,hy,h1,h2⟩
 obtain ⟨L,rfl⟩:=B5o (f:=enc) (l:=l) fun x hx=>by
  obtain ⟨i,hi⟩:=List.mem_iff_getElem?.1 hx
  obtain ⟨y,a,_,h2,_⟩:=hget i x hi
  exact ⟨a,h2⟩
 refine ⟨u,L,ds,rfl,hsl,by simpa using hlen,fun i a y ha hy _=>?_,?_⟩
 ·obtain ⟨y',a',h1,h2,h3⟩:=hget i (enc a) (by simp [ha])
  rw [hy] at h1
  injection h1 with h1
  subst h1
  exact ⟨a',h2.symm,h3⟩
 ·rcases hd with ⟨rfl,rfl⟩ | ⟨sp,rfl⟩
  ·simp [Rows.uptoBulk,Rows.uptoBulkAll]
  ·simp only [Rows.uptoBulk]; omega
theorem str_in {H:AH} {f:Nat} {x:List Value} {y:DataW K} (h:RD Tryz.prog H f 9 x y):∃ s,x=A5a s∧y=.lit (.string s.data.toList):=RD.str Tryz.underlying9 h
theorem B3x:∀ {L:List ByteArray} {ds:List (DataW K)},L.length=ds.length→(∀ (i:Nat) a y,L[i]?=some a→ds[i]?=some y→y=.lit (.string a.data.toList))→Rows.uptoBulkAll ds=A7r L+L.length
 | [],[],_,_=>rfl
 | [],_ :: _,h,_=>by simp at h
 | _ :: _,[],h,_=>by simp at h
 | a :: L,d :: ds,h,hr=>by
  have h0:=hr 0 a d rfl rfl
  have ih:=B3x (L:=L) (ds:=ds) (by simpa using h) fun i a y h1 h2=>hr (i+1) a y (by simpa using h1) (by simpa using h2)
  subst h0
  have e:a.data.toList.length=a.size:=by rw [Array.length_toList]; rfl
  simp only [Rows.uptoBulkAll,Rows.uptoBulk,ih,A7r,List.map_cons,List.sum_cons,List.length_cons,e]
  omega
theorem B92 {a b:ByteArray} (h:A5a a=A5a b):a=b:=by
 simp only [A5a,List.cons.injEq,Value.string.injEq,and_true] at h; exact h
theorem C2s {H:AH} {f:Nat} {cs:List Value} {d:DataW K} (h:RD Tryz.prog H f 22 cs d):∃ u,∃ L:List ByteArray,cs=[u]∧Sl H u 1 (L.map A5a)∧A7r L+L.length < Rows.uptoBulk d:=by
 obtain ⟨u,L,ds,h1,h2,h3,h4,h5⟩:=C5z (enc:=A5a) (fun s y=>y=.lit (.string s.data.toList)) Tryz.underlying22 cells_9 (fun f x y hf=>str_in hf) h
 refine ⟨u,L,h1,h2,?_⟩
 rw [← B3x h3 fun i a y ha hy=>by
  obtain ⟨a',e,hr⟩:=h4 i a y ha hy rfl
  rw [← B92 e]; exact hr]
 exact h5
theorem C7n {L:List ByteArray} {x:ByteArray} (h:x∈L):x.size≤A7r L:=by
 induction L with
 | nil=>cases h
 | cons a L ih=>
  simp only [A7r,List.map_cons,List.sum_cons] at ih ⊢
  rcases List.mem_cons.1 h with rfl | h
  ·omega
  ·have:=ih h; omega
theorem five {c:List Value} (h:c.length=5):∃ a b x y z,c=[a,b,x,y,z]:=by
 match c,h with
 | [a,b,x,y,z],_=>exact ⟨a,b,x,y,z,rfl⟩
theorem two {c:List Value} (h:c.length=2):∃ a b,c=[a,b]:=by
 match c,h with
 | [a,b],_=>exact ⟨a,b,rfl⟩
end
end Go.Proofs.YtcgbiedfbacgpaaGreat
