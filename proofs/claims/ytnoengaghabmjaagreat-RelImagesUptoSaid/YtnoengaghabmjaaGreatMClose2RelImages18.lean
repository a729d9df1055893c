/- A part of the proof: TrimPair, ImgPair, RelSlot, MakeKit, Sides2, WordVal, RelImage, Same, LawMade, LawRelKit, JagTwo, IsOver, DataIn. -/
import Derived.Test.YtnoengaghabmjaaGreatMClose2RelImages16
import Derived.Test.YtnoengaghabmjaaGreatMClose2RelImages10
import Derived.Test.YtnoengaghabmjaaGreatMClose2RelImages14
import Derived.Test.YtnoengaghabmjaaGreatMClose2RelImages17
import Derived.Test.YtnoengaghabmjaaGreatMClose2RelImages8
import Derived.Test.YtnoengaghabmjaaGreatMClose2RelImages2
import Derived.Test.YtnoengaghabmjaaGreatMClose2RelImages5
import Derived.Test.YtnoengaghabmjaaGreatMClose2RelImages1
import Derived.Test.YtnoengaghabmjaaGreatMClose2RelImages9
import Derived.Test.YtnoengaghabmjaaGreatMClose2RelImages13
import Derived.Test.YtnoengaghabmjaaGreatRows
set_option linter.unusedVariables false
set_option linter.unusedSimpArgs false
/- A trimmed graph as a relation. -/
set_option maxHeartbeats 4000000
set_option maxRecDepth 20000
set_option linter.unusedSimpArgs false
set_option linter.unusedVariables false
namespace Go.Proofs.YtnoengaghabmjaaGreat
open Go Go.Proofs Go.Proofs.Sh
theorem C5f {E:List (List GE)} {s t:Nat}:A3p E (fun _=>True) s t↔∃ a b,A0q E s a b t:=by
 unfold A3p A0q
 constructor
 ·rintro ⟨r,h1,e,h2,h3,_⟩; exact ⟨_,_,r,h1,e,h2,h3,rfl,rfl⟩
 ·rintro ⟨a,b,r,h1,e,h2,h3,_⟩; exact ⟨r,h1,e,h2,h3,trivial⟩
theorem TrimI.rel {E:List (List GE)} {ends:List Int} {U:List Bool} {n:Nat} {R:List (List GE)} {es:List Int} (h:TrimI E ends U (1+A4j U n) n R es) (hE:E.length=n) (hU:U.length=n) (hto:∀ r∈E,∀ e∈r,e.1 < n) (hu:∀ t:Nat,U[t]?=some true↔A0z E ends t):
  TrimR (A0q E) (A0q R) (fun s=>U[s]?=some true) (numU U) (endP ends) (endP es):=by
 have hlt:∀ s,U[s]?=some true→s < n:=fun s hs=>by rw [← hU]; exact (List.getElem?_eq_some_iff.1 hs).1
 refine ⟨fun x a b y=>?_,fun a=>?_,B2b U,fun s t hs ht he=>A07 hs ht he,fun s=>?_⟩
 ·constructor
  ·rintro ⟨r',h1,e',h2,h3,h4,h5⟩
   by_cases hex:∃ s,U[s]?=some true∧numU U s=x
   ·obtain ⟨s,hs,rfl⟩:=hex
    have hsn:=hlt s hs
    have hr:E[s]?=some (E[s]'(by rw [hE]; exact hsn)):=List.getElem?_eq_getElem _
    generalize E[s]'(by rw [hE]; exact hsn)=r at hr
    rw [h.row s r hsn hs hr] at h1
    rw [← Option.some.inj h1] at h2
    obtain ⟨e,h6,h7⟩:=List.mem_map.1 h2
    obtain ⟨h8,h9⟩:=List.mem_filter.1 h6
    subst h7
    exact ⟨s,e.1,hs,of_decide_eq_true h9,rfl,h3.symm,r,hr,e,h8,rfl,h4,h5⟩
   ·have ha:x < 1+A4j U n:=by rw [← h.lr]; exact (List.getElem?_eq_some_iff.1 h1).1
    rw [h.non x ha fun s _ hs he=>hex ⟨s,hs,he⟩] at h1
    rw [← Option.some.inj h1] at h2
    cases h2
  ·rintro ⟨s,t,hs,ht,rfl,rfl,r,h1,e,h2,h3,h4⟩
   refine ⟨_,h.row s r (hlt s hs) hs h1,(numU U e.1,e.2),List.mem_map.2 ⟨e,List.mem_filter.2 ⟨h2,decide_eq_true (by rw [h3]; exact ht)⟩,rfl⟩,by rw [h3],h4⟩
 ·unfold endP
  constructor
  ·intro ha
   by_cases hex:∃ s,U[s]?=some true∧numU U s=a
   ·obtain ⟨s,hs,rfl⟩:=hex
    exact ⟨s,hs,rfl,by rw [← h.fin s (hlt s hs) hs]; exact ha⟩
   ·rw [h.nof a fun s _ hs he=>hex ⟨s,hs,he⟩] at ha
    exact absurd ha (Int.lt_irrefl 0)
  ·rintro ⟨s,hs,rfl,h1⟩
   rw [h.fin s (hlt s hs) hs]; exact h1
 ·rw [hu]
  unfold A0z
  have e1:(A3p E fun _=>True)=fun s t=>∃ a b,A0q E s a b t:=funext fun s=>funext fun t=>propext C5f
  rw [e1]
  rfl
theorem TrimI.ok {E:List (List GE)} {ends:List Int} {U:List Bool} {n:Nat} {R:List (List GE)} {es:List Int} (h:TrimI E ends U (1+A4j U n) n R es) (hE:E.length=n) (hU:U.length=n) {m:Int} {Q:Int×Int×Int→Prop} (hto:∀ r∈E,∀ e∈r,e.1 < n∧Q e.2):∀ r∈R,∀ e∈r,e.1 < 1+A4j U n∧Q e.2:=by
 have hk:∃ k,∀ r∈E,r.length≤k:=by
  clear h hE hU hto
  induction E with
  | nil=>exact ⟨0,fun r hr=>by cases hr⟩
  | cons q E ih=>
   obtain ⟨k,hk⟩:=ih
   refine ⟨k+q.length,fun r hr=>?_⟩
   rcases List.mem_cons.1 hr with h | h
   ·rw [h]; omega
   ·have:=hk r h; omega
 obtain ⟨k,hk⟩:=hk
 intro r hr
 obtain ⟨s,hs⟩:=List.mem_iff_getElem?.1 hr
 exact (h.to hE hU (k:=k) (fun s r hr=>⟨hk r (List.mem_of_getElem? hr),hto r (List.mem_of_getElem? hr)⟩) s r hs).2
theorem TrimI.sumAll {E:List (List GE)} {ends:List Int} {U:List Bool} {n m:Nat} {R:List (List GE)} {es:List Int} (h:TrimI E ends U m n R es) (hE:E.length=n):(R.map List.length).sum≤(E.map List.length).sum:=by
 have:=h.sum
 rwa [List.take_of_length_le (by omega)] at this
end Go.Proofs.YtnoengaghabmjaaGreat
/- The words below a word, as a graph. -/
namespace Go.Proofs.YtnoengaghabmjaaGreat
open Go Go.Proofs Go.Proofs.Sh
theorem C3j {σ τ α:Type} {A:Arcs σ α} {B:Arcs τ α} {g:σ→τ} {Q:σ→Prop} (h:∀ s a b t,Q s→A s a b t→Q t∧B (g s) a b (g t)) {s t:σ} {x y:List α} (k:Sh.Way A s x y t) (hs:Q s):Sh.Way B (g s) x y (g t):=by
 induction k with
 | nil s=>exact .nil _
 | cons h1 _ ih=>
  obtain ⟨h2,h3⟩:=h _ _ _ _ hs h1
  exact .cons h3 (ih h2)
section
variable {n:Nat} {w:List Nat} {E:List (List GE)} {ends:List Int}
theorem C9d (hn:0 < n) {i s:Nat} (hi:i≤w.length) (hs:s < n):(imgE n w E)[i * n+s]?=some (A2m n w i (E.getD s [])):=by
 have hlt:i * n+s < (w.length+1) * n:=by
  have:i * n≤w.length * n:=Nat.mul_le_mul_right n hi
  rw [Nat.succ_mul]; omega
 unfold imgE imgP
 rw [List.getElem?_map,List.getElem?_range hlt]
 unfold B4x
 have e1:(i * n+s) / n=i:=by rw [Nat.mul_comm,Nat.mul_add_div hn,Nat.div_eq_of_lt hs]; omega
 have e2:(i * n+s) % n=s:=by rw [Nat.mul_comm,Nat.mul_add_mod,Nat.mod_eq_of_lt hs]
 rw [Option.map_some,e1,e2]
theorem B33 (hn:0 < n) (hto:∀ r∈E,∀ e∈r,e.1 < n) {i s:Nat} (hi:i≤w.length) (hs:s < n) (a b:Option Nat) (k:Nat):A0q (imgE n w E) (i * n+s) a b k↔∃ j t,k=j * n+t∧t < n∧j≤w.length∧imgA (A0q E) w (i,s) a b (j,t):=by
 have ht:∀ e∈E.getD s [],e.1 < n:=fun e he=>by
  rw [List.getD_eq_getElem?_getD] at he
  cases h:E[s]? with
  | none=>rw [h] at he; cases he
  | some r=>rw [h] at he; exact hto r (List.mem_of_getElem? h) e he
 have hr:∀ e,e∈E.getD s []↔∃ r,E[s]?=some r∧e∈r:=fun e=>by
  rw [List.getD_eq_getElem?_getD]
  cases h:E[s]? with
  | none=>simp
  | some r=>simp
 unfold imgA
 constructor
 ·rintro ⟨r,h1,e,h2,h3,h4,h5⟩
  rw [C9d hn hi hs] at h1
  rw [← Option.some.inj h1] at h2
  obtain ⟨e0,h6,h7⟩:=List.mem_flatMap.1 h2
  have h8:=ht e0 h6
  obtain ⟨r0,h9,h10⟩:=(hr e0).1 h6
  unfold A0o at h7
  split at h7
  ·rename_i hneg
   have e1:=List.mem_singleton.1 h7
   subst e1
   refine ⟨i,e0.1,h3.symm,h8,hi,by rw [← h4,← h5],none,⟨r0,h9,e0,h10,rfl,?_,h5⟩,rfl⟩
   unfold labN; rw [if_pos hneg]
  ·rename_i hneg
   split at h7
   ·rename_i hw
    have e1:=List.mem_singleton.1 h7
    subst e1
    obtain ⟨c,hc,he⟩:=Option.map_eq_some_iff.1 hw
    have hil:=(List.getElem?_eq_some_iff.1 hc).1
    refine ⟨i+1,e0.1,h3.symm,h8,by omega,by rw [← h4,← h5],some c,⟨r0,h9,e0,h10,rfl,?_,h5⟩,hc,rfl⟩
    unfold labN; rw [if_neg hneg,← he]; rfl
   ·cases h7
 ·rintro ⟨j,t,rfl,h2,h3,h4,c,⟨r,h5,e,h6,h7,h8,h9⟩,h10⟩
  simp only at h4 h5 h7 h8 h9 h10
  subst h4
  refine ⟨_,C9d hn hi hs,(j * n+t,e.2.2.1,e.2.2.1,e.2.2.2),List.mem_flatMap.2 ⟨e,(hr e).2 ⟨r,h5,h6⟩,?_⟩,rfl,h9,h9⟩
  unfold A0o
  cases c with
  | none=>
   have hj:j=i:=h10
   have hneg:e.2.1 < 0:=by
    unfold labN at h8
    split at h8
    ·assumption
    ·cases h8
   rw [if_pos hneg,hj,h7]
   exact List.mem_singleton.2 rfl
  | some c=>
   obtain ⟨h11,rfl⟩:=h10
   have hpos:¬e.2.1 < 0∧e.2.1=(c:Int):=by
    unfold labN at h8
    split at h8
    ·cases h8
    ·rename_i h12
     have:=Option.some.inj h8
     exact ⟨h12,by omega⟩
   rw [if_neg hpos.1,h11,Option.map_some,hpos.2,if_pos rfl,h7]
   exact List.mem_singleton.2 rfl
theorem C5k (hn:0 < n) (hl:ends.length=n) {j t:Nat} (hj:j≤w.length) (ht:t < n):endP (List.replicate (w.length * n) 0++ends) (j * n+t)↔j=w.length∧endP ends t:=by
 unfold endP
 rw [List.getD_eq_getElem?_getD]
 by_cases h:j=w.length
 ·subst h
  rw [List.getElem?_append_right (by rw [List.length_replicate]; omega),List.length_replicate,Nat.add_sub_cancel_left,← List.getD_eq_getElem?_getD]
  simp
 ·have : j * n + t < w.length * n := by
    have : (j + 1) * n ≤ w.length * n := Nat.mul_le_mul_right n (by omega)
    rw [Nat.succ_mul] at this
    omega
  rw [List.getElem?_append_left (by rw [List.length_replicate]; exact this), List.getElem?_replicate, if_pos this]
  simp [h]
theorem img_rel' (hn:0 < n) (hl:ends.length=n) (hto:∀ r∈E,∀ e∈r,e.1 < n) (u v:List Nat):RelP (A0q (imgE n w E)) (endP (List.replicate (w.length * n) 0++ends)) u v↔u=v∧RelP (A0q E) (endP ends) w u:=by
 rw [← img_rel]
 have g0:(0:Nat) * n+0=0:=by simp
 constructor
 ·rintro ⟨k,h1,h2⟩
  rw [← g0] at h2
  obtain ⟨⟨j,t⟩,rfl,⟨h3,h4⟩,h5⟩:=Way.pull (A:=imgA (A0q E) w) (g:=fun p:Nat×Nat=>p.1 * n+p.2) (Q:=fun p=>p.1≤w.length∧p.2 < n) (fun p a b k hp hb=>by
   obtain ⟨j,t,h3,h4,h5,h6⟩:=(B33 hn hto hp.1 hp.2 a b k).1 hb
   exact ⟨(j,t),h3,⟨h5,h4⟩,h6⟩) (s:=(0,0)) h2 ⟨Nat.zero_le _,hn⟩
  obtain ⟨h6,h7⟩:=(C5k hn hl h3 h4).1 h1
  subst h6
  exact ⟨t,h7,h5⟩
 ·rintro ⟨t,h1,h2⟩
  have ht:t < n:=by
   unfold endP at h1
   rcases Nat.lt_or_ge t n with h | h
   ·exact h
   ·rw [List.getD_eq_getElem?_getD,List.getElem?_eq_none (by omega)] at h1
    exact absurd h1 (Int.lt_irrefl 0)
  have h3:=C3j (B:=A0q (imgE n w E)) (g:=fun p:Nat×Nat=>p.1 * n+p.2) (Q:=fun p=>p.1≤w.length∧p.2 < n) (fun p a b q hp hb=>by
   have hq:q.1≤w.length∧q.2 < n:=by
    obtain ⟨_,c,⟨r,h4,e,h5,h6,_⟩,h7⟩:=hb
    exact ⟨B4m h7 hp.1,by rw [← h6]; exact hto r (List.mem_of_getElem? h4) e h5⟩
   exact ⟨hq,(B33 hn hto hp.1 hp.2 a b _).2 ⟨q.1,q.2,rfl,hq.2,hq.1,hb⟩⟩) h2 ⟨Nat.zero_le _,hn⟩
  simp only [g0] at h3
  exact ⟨_,(C5k hn hl (Nat.le_refl _) ht).2 ⟨rfl,h1⟩,h3⟩
theorem imgE_len:(imgE n w E).length=(w.length+1) * n:=B70 _ _ _ _
theorem imgE_ok (hn:0 < n) {m:Int} (hto:∀ r∈E,∀ e∈r,e.1 < n∧e.2.1 < m∧e.2.2.1 < m∧e.2.2.2=0):∀ r∈imgE n w E,∀ e∈r,e.1 < (w.length+1) * n∧e.2.1 < m∧e.2.2.1 < m∧e.2.2.2=0∧e.2.1=e.2.2.1:=by
 intro r hr e he
 obtain ⟨k,hk,rfl⟩:=List.mem_map.1 hr
 have hk:=List.mem_range.1 hk
 obtain ⟨e0,h6,h7⟩:=List.mem_flatMap.1 he
 have h8:e0.1 < n∧e0.2.1 < m∧e0.2.2.1 < m∧e0.2.2.2=0:=by
  rw [List.getD_eq_getElem?_getD] at h6
  cases h:E[k % n]? with
  | none=>rw [h] at h6; cases h6
  | some r=>rw [h] at h6; exact hto r (List.mem_of_getElem? h) e0 h6
 have hq:k / n≤w.length:=by
  have:k / n < w.length+1:=Nat.div_lt_of_lt_mul (by rw [Nat.mul_comm]; exact hk)
  omega
 unfold A0o at h7
 split at h7
 ·rw [List.mem_singleton.1 h7]
  refine ⟨?_,h8.2.2.1,h8.2.2.1,h8.2.2.2,rfl⟩
  have:k / n * n≤w.length * n:=Nat.mul_le_mul_right n hq
  show k / n * n+e0.1 < _
  rw [Nat.succ_mul]; omega
 ·split at h7
  ·rename_i hw
   obtain ⟨c,hc,_⟩:=Option.map_eq_some_iff.1 hw
   have hil:=(List.getElem?_eq_some_iff.1 hc).1
   rw [List.mem_singleton.1 h7]
   refine ⟨?_,h8.2.2.1,h8.2.2.1,h8.2.2.2,rfl⟩
   have:(k / n+1) * n≤w.length * n:=Nat.mul_le_mul_right n hil
   show (k / n+1) * n+e0.1 < _
   rw [Nat.succ_mul w.length]; omega
  ·cases h7
theorem imgE_row {k0:Nat} (hE:∀ r∈E,r.length≤k0):∀ r∈imgE n w E,r.length≤k0:=by
 intro r hr
 obtain ⟨k,hk,rfl⟩:=List.mem_map.1 hr
 refine Nat.le_trans (A79 _ _ _ _) ?_
 rw [List.getD_eq_getElem?_getD]
 cases h:E[k % n]? with
 | none=>simp
 | some r=>exact hE r (List.mem_of_getElem? h)
theorem B97 (hn:0 < n) (hE:E.length=n):∀ i,((imgP n w E (i * n)).map List.length).sum≤i * (E.map List.length).sum
 | 0=>by simp [imgP]
 | i+1=>by
  have ih:=B97 hn hE i
  have key:∀ s,s≤n→((imgP n w E (i * n+s)).map List.length).sum≤i * (E.map List.length).sum+((E.take s).map List.length).sum:=fun s=>by
   induction s with
   | zero=>intro _; simpa using ih
   | succ s ihs=>
    intro hs
    have h1:=ihs (by omega)
    have hsE:s < E.length:=by omega
    have ht:E.take (s+1)=E.take s++[E[s]]:=by rw [List.take_add_one,List.getElem?_eq_getElem hsE]; rfl
    have hat:(B4x n w E (i * n+s)).length≤E[s].length:=by
     unfold B4x
     have e1:(i * n+s) % n=s:=by rw [Nat.mul_comm,Nat.mul_add_mod,Nat.mod_eq_of_lt (by omega)]
     rw [e1,List.getD_eq_getElem?_getD,List.getElem?_eq_getElem hsE]
     exact A79 _ _ _ _
    rw [← Nat.add_assoc,B4t,ht,List.map_append,List.map_append,List.sum_append,List.sum_append]
    simp only [List.map_cons,List.map_nil,List.sum_cons,List.sum_nil]
    omega
  have:=key n (Nat.le_refl _)
  rw [List.take_of_length_le (by omega)] at this
  rw [Nat.succ_mul,Nat.succ_mul]
  exact this
theorem imgE_sum (hn:0 < n) (hE:E.length=n):((imgE n w E).map List.length).sum≤(w.length+1) * (E.map List.length).sum:=B97 hn hE _
end
end Go.Proofs.YtnoengaghabmjaaGreat
/- What functions that join nets have alike: the place of the result, what comes out. -/
namespace Go.Proofs.YtnoengaghabmjaaGreat
open Go Go.Proofs Go.Proofs.Sh
def A52:Value:=.agg #[.slice none 0 0,.int .i64 0,.slice none 0 0,.slice none 0 0]
def JoinOut (H H':AH) (sigma:List ByteArray) (err:Int) (P:List ByteArray→List ByteArray→Prop) (r:Value):Prop:=
 Kept H H'∧∃ mv,r=.tuple #[mv,.int .i64 err]∧(err≠0→mv=A52)∧(err=0→∃ M:NetD,(∀ H2,(∀ y,H.next≤y→H2.objs.get y=H'.objs.get y)→Nonempty (A2p H2 mv M))∧A0f M∧A0j M=0∧M.sigma=sigma∧∀ x y,A9p M x y↔P x y)
structure Slot (H0:AH) (go:Nat):Prop where
 ob:Sh.Obj H0 go 4 [.slice none 0 0,.int .i64 0,.slice none 0 0,.slice none 0 0] true
 lt:go < H0.next
theorem Slot.new {H:AH}:Slot (H.new 4 [.slice none 0 0,.int .i64 0,.slice none 0 0,.slice none 0 0]).2 H.next:=⟨Sh.Obj.new (H:=H) 4 _,Nat.lt_succ_self _⟩
theorem Slot.put {H0 H':AH} {go:Nat} (h:Slot H0 go) (hk:Kept H0 H') {a b c d:Value} (ha:isCell a=true) (hb:isCell b=true) (hc:isCell c=true) (hd:isCell d=true):
  ∃ H'',A9g Tryz.prog 26 H' (.agg #[a,b,c,d]) (.pointer (some ⟨go,0,some 0⟩))=some H''∧H''.cells ⟨go,0,some 0⟩ 4=some [a,b,c,d]∧Chg (fun y=>y=go) H' H''∧H''.next=H'.next:=by
 have o0':Sh.Obj H' go 4 [.slice none 0 0,.int .i64 0,.slice none 0 0,.slice none 0 0] true:=by
  have o0:=h.ob
  unfold Sh.Obj at o0 ⊢
  rw [hk.old go h.lt]; exact o0
 obtain ⟨H6,w6,ar6,v6,z6⟩:=o0'.arr.write hk.wf (i:=0) (vs:=[a,b,c,d]) (by simp)
 have sc6:setCells [.slice none 0 0,.int .i64 0,.slice none 0 0,.slice none 0 0] 0 [a,b,c,d]=[a,b,c,d]:=rfl
 rw [sc6] at ar6
 refine ⟨H6,?_,ar6.cells (i:=0) (n:=4) (by simp),z6,v6⟩
 rw [A7p (vs:=[a,b,c,d]) A1t rfl (by simp [ha,hb,hc,hd])]
 exact w6
theorem netZ:A5l Tryz.prog 26 []=some (.agg #[.slice none 0 0,.int .i64 0,.slice none 0 0,.slice none 0 0]):=by
 have va:∀ xs:Array Value,A8a (.agg xs)=xs.toList:=fun _=>rfl
 refine A7i (pl:=[(0,1),(1,1),(2,1),(3,1)]) Tryz.underlying26 A62 (by kernel_rfl) ?_
 simp [A6t,va]
theorem JoinOut.bad {H H':AH} {sigma:List ByteArray} {err:Int} {P:List ByteArray→List ByteArray→Prop} (hk:Kept H H') (he:err≠0):JoinOut H H' sigma err P (.tuple #[.agg [Value.slice none 0 0,.int .i64 0,.slice none 0 0,.slice none 0 0].toArray,.int .i64 err]):=
 ⟨hk,_,rfl,fun _=>rfl,fun h=>absurd h he⟩
theorem B1g (N:NetD):(A3m N).length=N.states.toNat:=by unfold A3m; rw [A5e]
theorem A2w (N:NetD):(A7l N N.ends).length=N.states.toNat:=by unfold A7l; rw [List.length_map,A5e]
theorem A6y (N:NetD):(A9j N N.ends).length=N.states.toNat:=by unfold A9j; rw [List.length_map,A5e]
theorem B0a {N:NetD} (h:A0j N=0):∀ r∈A3m N,∀ e∈r,e.1 < N.states.toNat∧e.2.1 < (N.sigma.length:Int)∧e.2.2.1 < (N.sigma.length:Int)∧e.2.2.2=0:=fun r hr e he=>by
 obtain ⟨hok,_,hf⟩:=A4k h
 obtain ⟨s,hs⟩:=List.mem_iff_getElem?.1 hr
 obtain ⟨a,ha,_,rfl⟩:=(A3x hs e).1 he
 obtain ⟨_,_,k1,k2,k3,k4⟩:=hok.arc a ha
 simp only [NetD.free,Bool.and_eq_true,List.all_eq_true,decide_eq_true_eq] at hf
 exact ⟨by simp only; omega,A94 hok k3,A94 hok k4,hf.1 a ha⟩
theorem B7i {N:NetD} (h:A0j N=0):∀ r∈A3m N,r.length≤60000∧∀ e∈r,e.1 < N.states.toNat:=fun r hr=>by
 obtain ⟨hok,_,_⟩:=A4k h
 obtain ⟨s,hs⟩:=List.mem_iff_getElem?.1 hr
 exact ⟨Nat.le_trans (A9z hs) hok.ar,fun e he=>(B0a h r hr e he).1⟩
theorem C0a {N:NetD} (h:A0j N=0):∀ c∈A9j N N.ends,c=0:=fun c hc=>by
 obtain ⟨hok,_,hf⟩:=A4k h
 simp only [NetD.free,Bool.and_eq_true,List.all_eq_true,decide_eq_true_eq] at hf
 unfold A9j at hc
 obtain ⟨r,hr,rfl⟩:=List.mem_map.1 hc
 obtain ⟨s,hs⟩:=List.mem_iff_getElem?.1 hr
 refine B3u fun x hx=>?_
 obtain ⟨e,he,_,rfl⟩:=(A3x hs x).1 hx
 exact hf.2 e he
theorem B4u {l:List Int} (h:∀ c∈l,c=0) (s:Nat):l.getD s 0=0:=by
 rw [List.getD_eq_getElem?_getD]
 cases hg:l[s]? with
 | none=>rfl
 | some c=>exact h c (List.mem_of_getElem? hg)
theorem B92 {H:AH} (h:Wf H) {y:Nat} (hy:H.next≤y):H.objs.get y=none:=by
 cases hg:H.objs.get y with
 | none=>rfl
 | some x=>have:=h y x hg; omega
theorem C6b {N:NetD} (h:A0j N=0):((A3m N).map List.length).sum=N.arcs.length:=by
 obtain ⟨hok,_,_⟩:=A4k h
 unfold A3m
 have key:∀ (l:List ArcD),(∀ a∈l,0≤a.fr∧a.fr < N.states)→((rowsOf ArcD.fr (fun a=>(a.to.toNat,A8k N.sigma a.inn,A8k N.sigma a.out,a.cost)) N.states.toNat l).map List.length).sum=l.length:=fun l hl=>by
  unfold rowsOf
  rw [List.map_map]
  have e:(List.length ∘ fun (s:Nat)=>(l.filter fun a=>decide (a.fr=(s:Int))).map fun a=>(a.to.toNat,A8k N.sigma a.inn,A8k N.sigma a.out,a.cost))=fun (s:Nat)=>(l.filter fun a=>decide (a.fr=(s:Int))).length:=by
   funext s; simp
  rw [e]
  clear e
  induction l with
  | nil=>
   generalize N.states.toNat=m
   induction m with
   | zero=>rfl
   | succ m ihm=>rw [List.range_succ,List.map_append,List.sum_append,ihm]; rfl
  | cons a l ih=>
   have h1:=ih fun b hb=>hl b (List.mem_cons_of_mem _ hb)
   obtain ⟨h2,h3⟩:=hl a List.mem_cons_self
   have h4:∀ (m:Nat),((List.range m).map fun (s:Nat)=>((a :: l).filter fun b=>decide (b.fr=(s:Int))).length).sum=((List.range m).map fun (s:Nat)=>(l.filter fun b=>decide (b.fr=(s:Int))).length).sum+(if a.fr.toNat < m then 1 else 0):=fun m=>by
    induction m with
    | zero=>simp
    | succ m ihm=>
     rw [List.range_succ,List.map_append,List.sum_append,List.map_append,List.sum_append,ihm]
     simp only [List.map_cons,List.map_nil,List.sum_cons,List.sum_nil,Nat.add_zero]
     by_cases hm:a.fr=(m:Int)
     ·rw [List.filter_cons_of_pos (by simpa using hm),if_neg (by omega),if_pos (by omega),List.length_cons]; omega
     ·rw [List.filter_cons_of_neg (by simpa using hm)]
      by_cases hlt:a.fr.toNat < m
      ·rw [if_pos hlt,if_pos (by omega)]; omega
      ·rw [if_neg hlt,if_neg (by omega)]; omega
   rw [h4,h1,if_pos (by omega),List.length_cons]
 exact key N.arcs fun a ha=>⟨(hok.arc a ha).1,(hok.arc a ha).2.1⟩
end Go.Proofs.YtnoengaghabmjaaGreat
/- What comes out of functions that make one net of another one. -/
namespace Go.Proofs.YtnoengaghabmjaaGreat
open Go Go.Proofs Go.Proofs.Sh
def MakeOut (H H':AH) (sigma:List ByteArray) (err:Int) (P:List ByteArray→List ByteArray→Prop) (Q:NetD→Prop) (r:Value):Prop:=
 Kept H H'∧∃ mv,r=.tuple #[mv,.int .i64 err]∧(err≠0→mv=A52)∧(err=0→∃ M:NetD,(∀ H2,(∀ y,H.next≤y→H2.objs.get y=H'.objs.get y)→Nonempty (A2p H2 mv M))∧A0f M∧A0j M=0∧M.sigma=sigma∧(∀ x y,A9p M x y↔P x y)∧Q M)
theorem MakeOut.bad {H H':AH} {sigma:List ByteArray} {err:Int} {P:List ByteArray→List ByteArray→Prop} {Q:NetD→Prop} (hk:Kept H H') (he:err≠0):MakeOut H H' sigma err P Q (.tuple #[.agg [Value.slice none 0 0,.int .i64 0,.slice none 0 0,.slice none 0 0].toArray,.int .i64 err]):=
 ⟨hk,_,rfl,fun _=>rfl,fun h=>absurd h he⟩
theorem MakeOut.put {H H3 H4:AH} {go:Nat} {sigma:List ByteArray} {P:List ByteArray→List ByteArray→Prop} {Q:NetD→Prop} {mv:Value} {M:NetD} (sl:Slot H3 go) (gol:H.next≤go) (k3:Kept H H3) (k4:Kept H3 H4) {base:Nat} (hb:H3.next≤base) (hM:∀ H2,(∀ y,base≤y→H2.objs.get y=H4.objs.get y)→Nonempty (A2p H2 mv M)) (m1:A0f M) (m2:A0j M=0) (m3:M.sigma=sigma) (m4:∀ x y,A9p M x y↔P x y) (m5:Q M):
  ∃ H5 sg ar en,mv=.agg #[sg,.int .i64 M.states,ar,en]∧A9g Tryz.prog 26 H4 mv (.pointer (some ⟨go,0,some 0⟩))=some H5∧H5.cells ⟨go,0,some 0⟩ 4=some [sg,.int .i64 M.states,ar,en]∧Wf H5∧MakeOut H H5 sigma 0 P Q (.tuple #[.agg [sg,.int .i64 M.states,ar,en].toArray,.int .i64 0]):=by
 obtain ⟨⟨sgM,arM,enM,rfl,z1,z2,z3⟩⟩:=hM H4 fun _ _=>rfl
 obtain ⟨H5,s5,c5,z5,x5⟩:=sl.put k4 z1.isCell (show isCell (.int .i64 M.states)=true from rfl) z2.isCell z3.isCell
 have hgl:=sl.lt
 refine ⟨H5,sgM,arM,enM,rfl,s5,c5,z5.wf,(k3.trans k4).then gol (z5.weak fun y hy=>by omega),_,rfl,fun h=>absurd rfl h,fun _=>⟨M,fun H6 h6=>hM H6 fun y hy=>(h6 y (by have:=k3.next; omega)).trans ?_,m1,m2,m3,m4,m5⟩⟩
 by_cases hyl:y < H4.next
 ·exact z5.old y hyl (by omega)
 ·have q1:=B92 k4.wf (y:=y) (by omega)
  have q2:=B92 z5.wf (y:=y) (by omega)
  rw [q1,q2]
theorem B8a {sigma:List ByteArray} {E:List (List GE)} {ends costs:List Int} {n:Nat} {M:NetD} (hM:B3y sigma E ends costs n M) (h:∀ r∈E,∀ e∈r,e.2.1=e.2.2.1):∀ a∈M.arcs,a.inn=a.out:=by
 intro a ha
 obtain ⟨s,r,hr,e,he,rfl⟩:=(hM.arc a).1 ha
 unfold A95
 simp only [h r (List.mem_of_getElem? hr) e he]
end Go.Proofs.YtnoengaghabmjaaGreat
/- The other sides of a net's edges: as they are, turned, above twice, below twice. -/
namespace Go.Proofs.YtnoengaghabmjaaGreat
open Go Go.Proofs Go.Proofs.Sh
def fStr (e:GE):Int×Int:=(e.2.1,e.2.2.1)
theorem turn_str (E:List (List GE)):A4r fStr E=E:=by
 unfold A4r
 have:∀ r:List GE,r.map (B1d fStr)=r:=fun r=>by
  induction r with
  | nil=>rfl
  | cons e r ih=>rw [List.map_cons,ih]; rfl
 induction E with
 | nil=>rfl
 | cons r E ih=>rw [List.map_cons,ih,this]
theorem B5t {H:AH} {e:Nat×Int×Int×Int} (hw:Wf H):Sh.Call Tryz.prog (knows 10) 78 [.agg (A8c e).toArray] H (fun r H'=>Kept H H'∧r=.tuple #[.int .i64 (fStr e).1,.int .i64 (fStr e).2]):=by
 refine A1b rfl Tryz.func78 rfl (Nat.le_of_ble_eq_true rfl) ?_
 have hres:Tryz.f78.results.toList=[.tmp 2,.tmp 3]:=rfl
 have c1:(H.new 4 (A8c e)).2.cell ⟨H.next,1,some 0⟩=some (.int .i64 e.2.1):=A2k _ _ _
 have c2:(H.new 4 (A8c e)).2.cell ⟨H.next,2,some 0⟩=some (.int .i64 e.2.2.1):=A2k _ _ _
 simp only [↓Sh.dn,sx,Nat.reduceBEq,reduceCtorEq,Nat.reduceEqDiff,geNew]
 first | refine (B9k (by kernel_rfl)).2 ?_ | skip
 simp only [↓Sh.dn,sx,Nat.reduceBEq,reduceCtorEq,Nat.reduceEqDiff,c1,c2,hres]
 exact ⟨Kept.new hw 4 _,rfl⟩
theorem B1k {H:AH} (hw:Wf H):Sh.Call Tryz.prog (knows 10) 34 [] H (fun r H'=>Kept H H'∧r=.agg #[.func (.func 78) #[] #[]]):=by
 refine A1b rfl Tryz.func34 rfl (Nat.le_of_ble_eq_true rfl) ?_
 have hres:Tryz.f34.results.toList=[.cell 0 61]:=rfl
 have ca:(H.new 1 [Value.func (.func 78) #[] #[]]).2.cells ⟨H.next,0,some 0⟩ 1=some [Value.func (.func 78) #[] #[]]:=(Sh.Obj.new (H:=H) 1 _).cells (i:=0) (n:=1) (by simp)
 have hc:isCell (Value.func (.func 78) #[] #[])=true:=rfl
 simp only [↓Sh.dn,sx,Nat.reduceBEq,reduceCtorEq,Nat.reduceEqDiff,B7x (show isCell .nilFunc=true from rfl),C3f hc,C8k hc,sideOver,hres,ca,Option.map_some]
 exact Kept.new hw 1 _
end Go.Proofs.YtnoengaghabmjaaGreat
/- What is wrong with a word: by the reference, by the program. -/
namespace Go.Proofs.YtnoengaghabmjaaGreat
open Go Go.Proofs Go.Proofs.Sh
def A0k (l:List ByteArray):Int:=if (decide (60 < l.length) || A5j l)=true then 3 else if l.all A7q=true then 0 else 1
theorem refWord {H:AH} {v:Value} {l:List ByteArray} (hs:Sl H v 1 (l.map A9a)) (hl:l.length≤1048576) (hlx:∀ x∈l,x.size≤1048576) (hw:Wf H):
  Sh.Call Tryz.prog (knows 10) 35 [v] H (fun r H'=>Kept H H'∧r=.int .i64 (A0k l)):=by
 refine A1b rfl Tryz.func35 rfl (Nat.le_of_ble_eq_true rfl) ?_
 have hres:Tryz.f35.results.toList=[.tmp 2]:=rfl
 have hlen:=hs.len Tryz.underlying22 H
 have e60:decide ((60:Int) < ((l.length:Nat):Int))=decide (60 < l.length):=by by_cases h:60 < l.length <;> simp [h] <;> omega
 simp only [↓Sh.dn,sx,Nat.reduceBEq,reduceCtorEq,Nat.reduceEqDiff,hlen,List.length_map,e60]
 by_cases h60:60 < l.length
 ·simp only [↓Sh.dn,sx,Nat.reduceBEq,reduceCtorEq,Nat.reduceEqDiff,h60,decide_true,hres,A0k,Bool.true_or,Kept.refl hw]
 ·simp only [↓Sh.dn,sx,Nat.reduceBEq,reduceCtorEq,Nat.reduceEqDiff,h60,decide_false]
  obtain ⟨r1,H1,hd1,hk1,rfl⟩:=C0k hs hl hw
  refine ⟨_,_,hd1,?_⟩
  cases hL:(l.any fun s=>decide (16 < s.size)) with
  | true=>simp only [↓Sh.dn,sx,Nat.reduceBEq,reduceCtorEq,Nat.reduceEqDiff,hres,hL,A0k,A5j,h60,decide_false,Bool.false_or,hk1]
  | false=>
   simp only [↓Sh.dn,sx,Nat.reduceBEq,reduceCtorEq,Nat.reduceEqDiff]
   obtain ⟨r2,H2,hd2,rfl,rfl⟩:=B0f (hs.grow (hk1.grow hw)) hl hlx hk1.wf
   refine ⟨_,_,hd2,?_⟩
   cases hA:l.all A7q with
   | false=>simp only [↓Sh.dn,sx,Nat.reduceBEq,reduceCtorEq,Nat.reduceEqDiff,hres,hL,hA,A0k,A5j,h60,decide_false,Bool.false_or,hk1]
   | true=>simp only [↓Sh.dn,sx,Nat.reduceBEq,reduceCtorEq,Nat.reduceEqDiff,hres,hL,hA,A0k,A5j,h60,decide_false,Bool.false_or,hk1]
theorem symsWord {H:AH} {v:Value} {l:List ByteArray} (hs:Sl H v 1 (l.map A9a)) (hl:l.length≤1048576) (hlx:∀ x∈l,x.size≤1048576) (hw:Wf H):
  Sh.Call Tryz.prog (knows 10) 41 [v] H (fun r H'=>Kept H H'∧r=.int .i64 (A0k l)):=by
 refine A1b rfl Tryz.func41 rfl (Nat.le_of_ble_eq_true rfl) ?_
 have hres:Tryz.f41.results.toList=[.tmp 2]:=rfl
 have hlen:=hs.len Tryz.underlying22 H
 have e60:decide ((60:Int) < ((l.length:Nat):Int))=decide (60 < l.length):=by by_cases h:60 < l.length <;> simp [h] <;> omega
 simp only [↓Sh.dn,sx,Nat.reduceBEq,reduceCtorEq,Nat.reduceEqDiff,hlen,List.length_map,e60]
 by_cases h60:60 < l.length
 ·simp only [↓Sh.dn,sx,Nat.reduceBEq,reduceCtorEq,Nat.reduceEqDiff,h60,decide_true,hres,A0k,Bool.true_or,Kept.refl hw]
 simp only [↓Sh.dn,sx,Nat.reduceBEq,reduceCtorEq,Nat.reduceEqDiff,h60,decide_false]
 obtain ⟨r1,H1,hd1,hk1,rfl⟩:=A2q (caps:=[]) (fid:=91) (fun s=>decide (16 < s.size)) hs hl hw (fun H' hk x hx=>(B1e (H:=H') (x:=x)).mono fun r H'' h=>by rcases h with ⟨rfl,h⟩; exact ⟨Kept.refl hk.wf,h⟩)
 refine ⟨_,_,hd1,?_⟩
 cases hL:(l.any fun s=>decide (16 < s.size)) with
 | true=>simp only [↓Sh.dn,sx,Nat.reduceBEq,reduceCtorEq,Nat.reduceEqDiff,hres,hL,A0k,A5j,h60,decide_false,Bool.false_or,hk1]
 | false=>
  have hs1:=hs.grow (hk1.grow hw)
  have h16:∀ x∈l,decide (x.size≤16)=true:=by
   intro x hx
   have:=List.any_eq_false.1 hL x hx
   simp only [decide_eq_true_eq,Nat.not_lt] at this
   simpa using this
  have hsy:∀ x∈l,A7q x=chOk x:=by intro x hx; rw [B4h,h16 x hx,Bool.and_true]
  obtain ⟨r2,H2,hd2,hk2,rfl⟩:=A2q (caps:=[]) (fid:=92) (fun s=>!chOk s) hs1 hl hk1.wf (fun H' hk x hx=>by
   refine A1b rfl Tryz.func92 rfl (Nat.le_of_ble_eq_true rfl) ?_
   have hres:Tryz.f92.results.toList=[.tmp 2]:=rfl
   obtain ⟨r3,H3,hd3,rfl,rfl⟩:=A65 (H:=H') (x:=x) (hlx x hx)
   simp only [↓Sh.dn,sx,Nat.reduceBEq,reduceCtorEq,Nat.reduceEqDiff]
   refine ⟨_,_,hd3,?_⟩
   simp only [↓Sh.dn,sx,Nat.reduceBEq,reduceCtorEq,Nat.reduceEqDiff,hres,Kept.refl hk.wf])
  simp only [↓Sh.dn,sx,Nat.reduceBEq,reduceCtorEq,Nat.reduceEqDiff]
  refine ⟨_,_,hd2,?_⟩
  have hall:(l.any fun s=>!chOk s)=!l.all A7q:=by
   rw [List.all_eq_not_any_not,Bool.not_not]
   apply Bool.eq_iff_iff.2
   simp only [List.any_eq_true]
   exact ⟨fun ⟨x,h1,h2⟩=>⟨x,h1,by rw [hsy x h1]; exact h2⟩,fun ⟨x,h1,h2⟩=>⟨x,h1,by rw [← hsy x h1]; exact h2⟩⟩
  cases hA:l.all A7q with
  | false=>
   rw [hA] at hall
   simp only [↓Sh.dn,sx,Nat.reduceBEq,reduceCtorEq,Nat.reduceEqDiff,hres,hL,hA,hall,Bool.not_false,A0k,A5j,h60,decide_false,Bool.false_or,hk1.trans hk2]
  | true=>
   rw [hA] at hall
   simp only [↓Sh.dn,sx,Nat.reduceBEq,reduceCtorEq,Nat.reduceEqDiff,hres,hL,hA,hall,Bool.not_true,A0k,A5j,h60,decide_false,Bool.false_or,hk1.trans hk2]
end Go.Proofs.YtnoengaghabmjaaGreat
/- rel.Image: an acceptor of the words below a word. -/
namespace Go.Proofs.YtnoengaghabmjaaGreat
open Go Go.Proofs Go.Proofs.Sh
theorem word_len {w:List ByteArray} (h:A0k w=0):w.length≤60:=by
 unfold A0k at h
 split at h
 ·cases h
 ·rename_i h1
  simp only [Bool.or_eq_true,decide_eq_true_eq,not_or] at h1
  omega
structure ImgG (N:NetD) (x:List ByteArray) (f:GE→Int×Int) (R:List (List GE)) (es cs:List Int) (m:Nat):Prop where
 ok:B0j N.sigma R es cs m
 like:∀ r∈R,∀ e∈r,e.2.1=e.2.2.1
 rel:∀ u v,RelP (A0q R) (endP es) u v↔u=v∧RelP (A0q (A4r f (A3m N))) (endP (A7l N N.ends)) (x.map (ixN N.sigma)) u
theorem relImg {H:AH} {v ux:Value} {N:NetD} {x:List ByteArray} {fid:Nat} (f:GE→Int×Int) (hp:∀ {H:AH} (e:GE),Wf H→Sh.Call Tryz.prog (knows 10) fid [.agg (A8c e).toArray] H (fun r H'=>Kept H H'∧r=.tuple #[.int .i64 (f e).1,.int .i64 (f e).2]))
  (hf:∀ {m:Int} (e:GE),0≤m→e.2.1 < m→e.2.2.1 < m→(f e).1 < m∧(f e).2 < m) (h:A2p H v N) (hsm:A0f N) (hE:A0j N=0) (hx:Sl H ux 1 (x.map A9a)) (hxl:x.length≤60) (hsz:(x.length+1) * N.states.toNat≤3000) (hsa:(x.length+1) * N.arcs.length≤60000) (hw:Wf H):
  Sh.Call Tryz.prog (knows 10) 42 [v,ux,.agg #[.func (.func fid) #[] #[]]] H (fun r H'=>Kept H H'∧(x.all (A7m N.sigma)=false→r=.tuple #[.pointer none,.bool false])∧(x.all (A7m N.sigma)=true→∃ g,r=.tuple #[.pointer (some ⟨g,0,some 0⟩),.bool true]∧∃ (X:Nat→Prop) (R:List (List GE)) (es cs:List Int) (m:Nat),GrX H' X g N.sigma (A7c R) es cs∧ImgG N x f R es cs m)):=by
 refine A1b rfl Tryz.func42 rfl (Nat.le_of_ble_eq_true rfl) ?_
 have hres:Tryz.f42.results.toList=[.tmp 6,.tmp 7]:=rfl
 obtain ⟨okN,_,_⟩:=A4k hE
 obtain ⟨sg,ar,en,rfl,hsg,har,hen⟩:=h
 have hb1:=NetBox.of (N:=N) hw hsg har hen
 have k1:Kept H (H.new 4 [sg,.int .i64 N.states,ar,en]).2:=Kept.new hw 4 _
 simp only [↓Sh.dn,sx,Nat.reduceBEq,reduceCtorEq,Nat.reduceEqDiff,A1p hsg.isCell har.isCell hen.isCell]
 generalize H.next=gg at hb1 ⊢
 generalize (H.new 4 [sg,.int .i64 N.states,ar,en]).2=H1 at hb1 k1 ⊢
 have hc:isCell (Value.func (.func fid) #[] #[])=true:=rfl
 have ks:=Kept.new k1.wf 1 [Value.func (.func fid) #[] #[]]
 have cs2:(H1.new 1 [Value.func (.func fid) #[] #[]]).2.cells ⟨H1.next,0,some 0⟩ 1=some [Value.func (.func fid) #[] #[]]:=(Sh.Obj.new (H:=H1) 1 _).cells (i:=0) (n:=1) (by simp)
 have hb2:=hb1.kept k1.wf ks
 have k2:=k1.trans ks
 simp only [↓Sh.dn,sx,Nat.reduceBEq,reduceCtorEq,Nat.reduceEqDiff,B7x hc]
 generalize H1.next=gs at cs2 ⊢
 generalize (H1.new 1 [Value.func (.func fid) #[] #[]]).2=H2 at cs2 hb2 k2 ks ⊢
 obtain ⟨r3,H3,hd3,k3,zw,rfl,hzw⟩:=C0l hb2.hsg okN.asc hsm.sg (hx.grow (k2.grow hw)) (by omega) k2.wf
 simp only [↓Sh.dn,sx,Nat.reduceBEq,reduceCtorEq,Nat.reduceEqDiff,hb2.c0,hb2.c1,hb2.c2,hb2.c3,hb2.ca,A3a hb2,A2a hb2,A1a hb2]
 refine ⟨_,_,hd3,?_⟩
 have k13:=k2.trans k3
 cases hax:x.all (A7m N.sigma) with
 | false=>
  simp only [↓Sh.dn,sx,Nat.reduceBEq,reduceCtorEq,Nat.reduceEqDiff,hres]
  exact k13
 | true=>
 obtain ⟨bw,hbw,_⟩:=hzw hax
 have hxm:∀ z∈x,z∈N.sigma:=fun z hz=>A8h.1 (List.all_eq_true.1 hax z hz)
 rw [ix_cells okN.asc hxm] at hbw
 have hb3:=hb2.kept k2.wf k3
 have a1:=okN.st1
 have a2:=okN.st2
 obtain ⟨r4,H4,hd4,k4,g1,rfl,base1,hbase1,hG1⟩:=graphOf hb3.netAt okN hsm k3.wf
 rw [← B8t okN] at hG1
 obtain ⟨r5,H5,hd5,k5,g2,X2,rfl,hX2⟩:=C7m (n:=N.states.toNat) (fid:=fid) f (hG1.own k4.wf) hp (B1g N) (A2w N) (A6y N) (by omega) (by omega) hsm.sg (B7i hE) k4.wf
 have k35:=k4.trans k5
 have hw5:=hbw.toSl.grow (k35.grow k3.wf)
 have hwl:(x.map (ixN N.sigma)).length=x.length:=List.length_map _
 have hTR:=turn_row (f:=f) (B7i hE)
 have hTO:=turn_ok (f:=f) (n:=N.states.toNat) (m:=(N.sigma.length:Int)) (fun e h1 h2=>hf e (Int.natCast_nonneg _) h1 h2) (B0a hE)
 have hTL:(A4r f (A3m N)).length=N.states.toNat:=by rw [C5h,B1g]
 obtain ⟨r6,H6,hd6,k6,g3,rfl,X3,hX3⟩:=C0c hX2 hw5 hTL (A2w N) (A6y N) (by omega) (by omega) (by rw [hwl]; omega) hsm.sg hTR k5.wf
 have hn0:0 < N.states.toNat:=by omega
 have hIO:=imgE_ok (w:=x.map (ixN N.sigma)) hn0 hTO
 have hIR:=imgE_row (n:=N.states.toNat) (w:=x.map (ixN N.sigma)) (fun r hr=>(hTR r hr).1)
 have hIS:=imgE_sum (w:=x.map (ixN N.sigma)) hn0 hTL
 have hIL:(imgE N.states.toNat (x.map (ixN N.sigma)) (A4r f (A3m N))).length=(x.length+1) * N.states.toNat:=by rw [imgE_len,hwl]
 have hil:=fun u v=>img_rel' (w:=x.map (ixN N.sigma)) (E:=A4r f (A3m N)) (ends:=A7l N N.ends) hn0 (A2w N) (C3g fun r hr e he=>(B0a hE r hr e he).1) u v
 rw [hwl] at hX3 hil hIS hIO
 rw [turn_sum,C6b hE] at hIS
 have hn3:1≤(x.length+1) * N.states.toNat:=Nat.mul_pos (by omega) hn0
 have hel:(List.replicate (x.length * N.states.toNat) 0++A7l N N.ends).length=(x.length+1) * N.states.toNat:=by rw [List.length_append,List.length_replicate,A2w,Nat.succ_mul]
 have hcl:(List.replicate (x.length * N.states.toNat) 0++A9j N N.ends).length=(x.length+1) * N.states.toNat:=by rw [List.length_append,List.length_replicate,A6y,Nat.succ_mul]
 have hcz:∀ c∈List.replicate (x.length * N.states.toNat) 0++A9j N N.ends,c=0:=fun c hc=>by
  rcases List.mem_append.1 hc with h | h
  ·exact (List.mem_replicate.1 h).2
  ·exact C0a hE c h
 generalize imgE N.states.toNat (x.map (ixN N.sigma)) (A4r f (A3m N))=EI at hX3 hIO hIR hIS hIL hil
 generalize List.replicate (x.length * N.states.toNat) 0++A7l N N.ends=eI at hX3 hel hil
 generalize List.replicate (x.length * N.states.toNat) 0++A9j N N.ends=cI at hX3 hcl hcz
 generalize (x.length+1) * N.states.toNat=n3 at hsz hIL hn3 hel hcl hIO
 obtain ⟨sv,av,ev,cv,vals,hR⟩:=hX3.read
 have hPG:PG H6 g3 n3 60000 EI eI sv av ev cv vals N.sigma cI:=⟨hR,hIL,hel,hn3,hsz,fun s r hr=>⟨hIR r (List.mem_of_getElem? hr),fun e he=>(hIO r (List.mem_of_getElem? hr) e he).1⟩⟩
 obtain ⟨r7,H7,hd7,k7,g4,rfl,U,R,es,cs,X4,_,hX4,hcs,hzs,hUl,hUi,hT,hm⟩:=C2a hPG hsm.sg hcl k6.wf
 have hTok:=hT.ok hIL hUl (m:=0) (Q:=fun l=>l.1 < (N.sigma.length:Int)∧l.2.1 < (N.sigma.length:Int)∧l.2.2=0∧l.1=l.2.1) fun r hr e he=>hIO r hr e he
 have hTsum:=hT.sumAll hIL
 have hrel:=hT.rel hIL hUl (fun r hr e he=>(hIO r hr e he).1) hUi
 have hImg:ImgG N x f R es cs (1+A4j U n3):=⟨⟨hT.lr,hT.le,hcs,by omega,by omega,fun r hr e he=>⟨(hTok r hr e he).1,(hTok r hr e he).2.1,(hTok r hr e he).2.2.1,(hTok r hr e he).2.2.2.1⟩,by omega,B4u (hzs hcz)⟩,fun r hr e he=>(hTok r hr e he).2.2.2.2,fun u v=>(hrel.rel u v).trans (hil u v)⟩
 have cs3:=A1m (k3.grow k2.wf) cs2
 have hvqS:veq (.agg #[Value.func (.func fid) #[] #[]]) (.agg #[Value.func (.func fid) #[] #[]])=true:=A93 (by simp [veqs,veq,A5a])
 have hvqN:veq (.agg #[sg,.int .i64 N.states,ar,en]) (.agg #[sg,.int .i64 N.states,ar,en])=true:=A93 (by simp only [A4s,A4x,A6d,hsg.veq,har.veq,hen.veq,Bool.and_self])
 have hvz:=hbw.veq
 simp only [↓Sh.dn,sx,Nat.reduceBEq,reduceCtorEq,Nat.reduceEqDiff]
 refine A0x (fl:=[(0,false),(1,false),(4,true),(2,false),(3,true),(5,true),(6,true),(7,true),(8,true)]) (by kernel_rfl) (by kernel_rfl) k3.wf ?_
 simp only [↓Sh.dn,sx,Nat.reduceBEq,reduceCtorEq,Nat.reduceEqDiff,wpg,A8u,isEff,A2c,isRead,A3g,A6d,A2g,A8d,A6c,forall_eq,forall_eq',hb3.c0,hb3.c1,hb3.c2,hb3.c3,hb3.ca,A3a hb3,A2a hb3,A1a hb3,Option.map_some,hvqN,hvz,cs3]
 refine ⟨hvqS,_,_,hd4,k4.wf,k4.grow k3.wf,?_⟩
 first | refine ⟨_,_,hd5,k5.wf,k5.grow k4.wf,?_⟩ | refine ⟨_,_,hd5,k5.wf,?_⟩
 first | refine ⟨_,_,hd6,k6.wf,k6.grow k5.wf,?_⟩ | refine ⟨_,_,hd6,k6.wf,?_⟩
 refine ⟨_,_,hd7,k7.wf,?_⟩
 simp only [↓Sh.dn,sx,Nat.reduceBEq,reduceCtorEq,Nat.reduceEqDiff,wpg,A8u,isEff,A2c,isRead,A3g,A6d,A2g,A8d,A6c,forall_eq,forall_eq',hres]
 exact ⟨k13.trans ((k35.trans k6).trans k7),g4,rfl,X4,R,es,cs,hX4,_,hImg⟩
def A1i (N:NetD) (x:List ByteArray):Int:=if A0j N≠0 then A0j N else if A0k x≠0 then A0k x else if (decide (40 < N.states) || decide (400 < N.arcs.length))=true then 3 else 0
theorem relImage {H:AH} {v ux:Value} {N:NetD} {x:List ByteArray} (h:A2p H v N) (hsm:A0f N) (hx:Sl H ux 1 (x.map A9a)) (hxl:x.length≤1048576) (hxx:∀ z∈x,z.size≤1048576) (hw:Wf H):
  Sh.Call Tryz.prog (knows 10) 16 [v,ux] H (fun r H'=>MakeOut H H' N.sigma (A1i N x) (fun y z=>y=z∧A9p N x y) (fun M=>∀ a∈M.arcs,a.inn=a.out) r):=by
 refine A1b rfl Tryz.func16 rfl (Nat.le_of_ble_eq_true rfl) ?_
 have hres:Tryz.f16.results.toList=[.cell 4 26,.tmp 5]:=rfl
 obtain ⟨sg,ar,en,rfl,hsg,har,hen⟩:=h
 have hb1:=NetBox.of (N:=N) hw hsg har hen
 have k1:Kept H (H.new 4 [sg,.int .i64 N.states,ar,en]).2:=Kept.new hw 4 _
 simp only [↓Sh.dn,sx,Nat.reduceBEq,reduceCtorEq,Nat.reduceEqDiff,A1p hsg.isCell har.isCell hen.isCell,A4c]
 generalize H.next=gg at hb1 ⊢
 generalize (H.new 4 [sg,.int .i64 N.states,ar,en]).2=H1 at hb1 k1 ⊢
 have sl:Slot (H1.new 4 [.slice none 0 0,.int .i64 0,.slice none 0 0,.slice none 0 0]).2 H1.next:=Slot.new
 have k3:=k1.news 4 [.slice none 0 0,.int .i64 0,.slice none 0 0,.slice none 0 0]
 have hb3:=hb1.new k1.wf 4 [.slice none 0 0,.int .i64 0,.slice none 0 0,.slice none 0 0]
 have gol:H.next≤H1.next:=k1.next
 generalize H1.next=go at sl gol ⊢
 generalize (H1.new 4 [.slice none 0 0,.int .i64 0,.slice none 0 0,.slice none 0 0]).2=H3 at sl k3 hb3 ⊢
 clear hb1 k1 H1
 obtain ⟨r4,H4,hd4,k4,rfl⟩:=B9v hb3.netAt hsm k3.wf
 simp only [↓Sh.dn,sx,Nat.reduceBEq,reduceCtorEq,Nat.reduceEqDiff,hb3.c0,hb3.c1,hb3.c2,hb3.c3,hb3.ca,A3a hb3,A2a hb3,A1a hb3,Option.map_some]
 refine ⟨_,_,hd4,?_⟩
 by_cases hE:A0j N=0
 case neg=>
  have e1:A1i N x=A0j N:=by unfold A1i; rw [if_pos hE]
  obtain ⟨Hz,sz,cz,zz,_⟩:=sl.put k4 (a:=.slice none 0 0) (b:=.int .i64 0) (c:=.slice none 0 0) (d:=.slice none 0 0) rfl rfl rfl rfl
  simp only [↓Sh.dn,sx,Nat.reduceBEq,reduceCtorEq,Nat.reduceEqDiff,hE,decide_false,netZ,sz,hres,cz,Option.map_some,e1]
  exact MakeOut.bad ((k3.trans k4).then gol (zz.weak fun y hy=>by omega)) hE
 obtain ⟨okN,_,_⟩:=A4k hE
 have k34:=k3.trans k4
 obtain ⟨r5,H5,hd5,k5,rfl⟩:=symsWord (hx.grow (k34.grow hw)) hxl hxx k34.wf
 have k45:=k4.trans k5
 simp only [↓Sh.dn,sx,Nat.reduceBEq,reduceCtorEq,Nat.reduceEqDiff,hE,decide_true]
 refine ⟨_,_,hd5,?_⟩
 by_cases hX:A0k x=0
 case neg=>
  have e1:A1i N x=A0k x:=by unfold A1i; rw [if_neg (by simpa using hE),if_pos hX]
  obtain ⟨Hz,sz,cz,zz,_⟩:=sl.put k45 (a:=.slice none 0 0) (b:=.int .i64 0) (c:=.slice none 0 0) (d:=.slice none 0 0) rfl rfl rfl rfl
  simp only [↓Sh.dn,sx,Nat.reduceBEq,reduceCtorEq,Nat.reduceEqDiff,hX,decide_false,netZ,sz,hres,cz,Option.map_some,e1]
  exact MakeOut.bad ((k3.trans k45).then gol (zz.weak fun y hy=>by omega)) hX
 have hb5:=hb3.kept k3.wf k45
 have hlenA:=fun H'=>hb5.har.len Tryz.underlying23 H'
 simp only [List.length_map] at hlenA
 have d2:decide ((400:Int) < (N.arcs.length:Int))=decide (400 < N.arcs.length):=decide_eq_decide.2 (by omega)
 have hbadsz:(decide (40 < N.states) || decide (400 < N.arcs.length))=true→A1i N x=3:=fun h=>by unfold A1i; rw [if_neg (by simpa using hE),if_neg (by simpa using hX),if_pos h]
 cases p1:decide (40 < N.states) with
 | true=>
  have e1:=hbadsz (by rw [p1]; rfl)
  obtain ⟨Hz,sz,cz,zz,_⟩:=sl.put k45 (a:=.slice none 0 0) (b:=.int .i64 0) (c:=.slice none 0 0) (d:=.slice none 0 0) rfl rfl rfl rfl
  simp only [↓Sh.dn,sx,Nat.reduceBEq,reduceCtorEq,Nat.reduceEqDiff,hX,decide_true,hb5.c0,hb5.c1,hb5.c2,hb5.c3,hb5.ca,A3a hb5,A2a hb5,A1a hb5,p1,netZ,sz,hres,cz,Option.map_some,e1]
  exact MakeOut.bad ((k3.trans k45).then gol (zz.weak fun y hy=>by omega)) (by decide)
 | false=>
 cases p2:decide (400 < N.arcs.length) with
 | true=>
  have e1:=hbadsz (by rw [p1,p2]; rfl)
  obtain ⟨Hz,sz,cz,zz,_⟩:=sl.put k45 (a:=.slice none 0 0) (b:=.int .i64 0) (c:=.slice none 0 0) (d:=.slice none 0 0) rfl rfl rfl rfl
  simp only [↓Sh.dn,sx,Nat.reduceBEq,reduceCtorEq,Nat.reduceEqDiff,hX,decide_true,hb5.c0,hb5.c1,hb5.c2,hb5.c3,hb5.ca,A3a hb5,A2a hb5,A1a hb5,p1,hlenA,d2,p2,netZ,sz,hres,cz,Option.map_some,e1]
  exact MakeOut.bad ((k3.trans k45).then gol (zz.weak fun y hy=>by omega)) (by decide)
 | false=>
 have e1:A1i N x=0:=by unfold A1i; rw [if_neg (by simpa using hE),if_neg (by simpa using hX),if_neg (by rw [p1,p2]; simp)]
 have hx60:=word_len hX
 have b1:=okN.st1
 have q1:N.states≤40:=by have:=of_decide_eq_false p1; omega
 have q2:N.arcs.length≤400:=by have:=of_decide_eq_false p2; omega
 have sz1:(x.length+1) * N.states.toNat≤3000:=Nat.le_trans (Nat.mul_le_mul (show x.length+1≤61 by omega) (show N.states.toNat≤40 by omega)) (by decide)
 have sz2:(x.length+1) * N.arcs.length≤60000:=Nat.le_trans (Nat.mul_le_mul (show x.length+1≤61 by omega) q2) (by decide)
 obtain ⟨r6,H6,hd6,k6,rfl⟩:=B1k (k3.trans k45).wf
 have k46:=k45.trans k6
 have hb6:=hb3.kept k3.wf k46
 obtain ⟨r7,H7,hd7,k7,himg,hok⟩:=relImg (fid:=78) fStr (fun e hw=>B5t hw) (fun e _ h1 h2=>⟨h1,h2⟩) hb6.netAt hsm hE (hx.grow ((k3.trans k46).grow hw)) hx60 sz1 sz2 (k3.trans k46).wf
 have k47:=k46.trans k7
 have hb7:=hb3.kept k3.wf k47
 have hvqN:veq (.agg #[sg,.int .i64 N.states,ar,en]) (.agg #[sg,.int .i64 N.states,ar,en])=true:=A93 (by simp only [A4s,A4x,A6d,hsg.veq,har.veq,hen.veq,Bool.and_self])
 have hvx:=hx.veq
 simp only [↓Sh.dn,sx,Nat.reduceBEq,reduceCtorEq,Nat.reduceEqDiff,hX,decide_true,hb5.c0,hb5.c1,hb5.c2,hb5.c3,hb5.ca,A3a hb5,A2a hb5,A1a hb5,p1,hlenA,d2,p2]
 refine A0x (fl:=[(0,false),(1,true),(2,false),(3,true),(4,true),(5,true),(6,true),(7,true),(8,true)]) (by kernel_rfl) (by kernel_rfl) (k3.trans k45).wf ?_
 simp only [↓Sh.dn,sx,Nat.reduceBEq,reduceCtorEq,Nat.reduceEqDiff,wpg,A8u,isEff,A2c,isRead,A3g,A6d,A2g,A8d,A6c,forall_eq,forall_eq',hb5.c0,hb5.c1,hb5.c2,hb5.c3,hb5.ca,A3a hb5,A2a hb5,A1a hb5,hb6.c0,hb6.c1,hb6.c2,hb6.c3,hb6.ca,A3a hb6,A2a hb6,A1a hb6,Option.map_some,hvqN,hvx]
 refine ⟨_,_,hd6,k6.wf,k6.grow (k3.trans k45).wf,?_⟩
 refine ⟨_,_,hd7,k7.wf,?_⟩
 cases hax:x.all (A7m N.sigma) with
 | false=>
  have h1:=himg hax
  subst h1
  obtain ⟨r8,H8,hd8,k8,g,rfl,hG8⟩:=A6w (n:=1) hb7.hsg hsm.sg (by decide) k7.wf
  have hX8:GrX H8 (fun y=>H7.next≤y∧y < H8.next) g N.sigma (A7c [[]]) [0] [0]:=by simpa [A7c] using hG8.own k8.wf
  have hRO:B0j N.sigma [[]] [0] [0] 1:=⟨rfl,rfl,rfl,by decide,by decide,fun r hr e he=>(by rw [List.mem_singleton.1 hr] at he; cases he),by decide,B4u fun c hc=>List.mem_singleton.1 hc⟩
  obtain ⟨r9,H9,hd9,k9,M,hM,m1,m2,m3,m4,m5,m6⟩:=B26 hX8 hRO.le hRO.ln hRO.lc hRO.n1 hRO.n2 hsm.sg (fun r hr e he=>⟨(hRO.to r hr e he).1,(hRO.to r hr e he).2.1,(hRO.to r hr e he).2.2.1⟩) (by decide) k8.wf
  have hNO:B3y N.sigma [[]] [0] [0] 1 M:=⟨m1,m2,m3,m4,m5,m6⟩
  have k48:=k47.trans k8
  have hrel:∀ y z,A9p M y z↔y=z∧A9p N x y:=fun y z=>by
   rw [B9f hNO hRO okN.sig]
   constructor
   ·rintro ⟨_,t,ht,_⟩
    unfold endP at ht
    cases t with
    | zero=>exact absurd ht (by decide)
    | succ t=>simp at ht
   ·rintro ⟨_,h1⟩
    have:=List.all_eq_true.2 fun z hz=>A8h.2 ((A58 okN h1).1 z hz)
    rw [hax] at this; cases this
  obtain ⟨H10,sgM,arM,enM,rfl,s10,c10,w10,hfin⟩:=MakeOut.put (sigma:=N.sigma) (P:=fun y z=>y=z∧A9p N x y) (Q:=fun M=>∀ a∈M.arcs,a.inn=a.out) sl gol k3 (k48.trans k9) k48.next hM (B5b hNO hRO hsm.sg hsm.sx) (A76 hNO hRO okN.sig) m1 hrel (B8a hNO fun r hr e he=>by rw [List.mem_singleton.1 hr] at he; cases he)
  simp only [↓Sh.dn,sx,Nat.reduceBEq,reduceCtorEq,Nat.reduceEqDiff,wpg,A8u,isEff,A2c,isRead,A3g,A6d,A2g,A8d,A6c,forall_eq,forall_eq',hb7.c0,hb7.c1,hb7.c2,hb7.c3,hb7.ca,A3a hb7,A2a hb7,A1a hb7]
  refine ⟨_,_,hd8,?_⟩
  refine ⟨_,_,hd9,?_⟩
  simp only [↓Sh.dn,sx,Nat.reduceBEq,reduceCtorEq,Nat.reduceEqDiff,s10,hres,c10,Option.map_some,e1]
  exact hfin
 | true=>
  obtain ⟨g,rfl,X,R,es,cs,m,hX,hI⟩:=hok hax
  have hRO:=hI.ok
  obtain ⟨r9,H9,hd9,k9,M,hM,m1,m2,m3,m4,m5,m6⟩:=B26 hX hRO.le hRO.ln hRO.lc hRO.n1 hRO.n2 hsm.sg (fun r hr e he=>⟨(hRO.to r hr e he).1,(hRO.to r hr e he).2.1,(hRO.to r hr e he).2.2.1⟩) (by have:=hRO.sum; omega) k7.wf
  have hNO:B3y N.sigma R es cs m M:=⟨m1,m2,m3,m4,m5,m6⟩
  have hxm:∀ z∈x,z∈N.sigma:=fun z hz=>A8h.1 (List.all_eq_true.1 hax z hz)
  have hrel:∀ y z,A9p M y z↔y=z∧A9p N x y:=fun y z=>by
   rw [B9f hNO hRO okN.sig,hI.rel,turn_str]
   constructor
   ·rintro ⟨⟨h1,h2⟩,h3,h4⟩
    have h5:y=z:=A4w (S:=fun z=>z∈N.sigma) (B0z okN.asc) h1 h2 h3
    exact ⟨h5,(B0h okN x y).2 ⟨⟨hxm,h1⟩,h4⟩⟩
   ·rintro ⟨rfl,h1⟩
    obtain ⟨⟨_,h2⟩,h3⟩:=(B0h okN x y).1 h1
    exact ⟨⟨h2,h2⟩,rfl,h3⟩
  obtain ⟨H10,sgM,arM,enM,rfl,s10,c10,w10,hfin⟩:=MakeOut.put (sigma:=N.sigma) (P:=fun y z=>y=z∧A9p N x y) (Q:=fun M=>∀ a∈M.arcs,a.inn=a.out) sl gol k3 (k47.trans k9) k47.next hM (B5b hNO hRO hsm.sg hsm.sx) (A76 hNO hRO okN.sig) m1 hrel (B8a hNO hI.like)
  simp only [↓Sh.dn,sx,Nat.reduceBEq,reduceCtorEq,Nat.reduceEqDiff,wpg,A8u,isEff,A2c,isRead,A3g,A6d,A2g,A8d,A6c,forall_eq,forall_eq']
  refine ⟨_,_,hd9,?_⟩
  simp only [↓Sh.dn,sx,Nat.reduceBEq,reduceCtorEq,Nat.reduceEqDiff,s10,hres,c10,Option.map_some,e1]
  exact hfin
end Go.Proofs.YtnoengaghabmjaaGreat
/- Whether lists of texts are equal; a text is put into a list; ascending lists. -/
namespace Go.Proofs.YtnoengaghabmjaaGreat
open Go Go.Proofs Go.Proofs.Sh
def ordW:List ByteArray→List ByteArray→Int
 | [],[]=>0
 | [],_ :: _=>-1
 | _ :: _,[]=>1
 | a :: x,b :: y=>if A2l a b=true then -1 else if a=b then ordW x y else 1
theorem B6u:∀ l,ordW l l=0
 | []=>rfl
 | a :: x=>by simp [ordW,A4m,B6u x]
theorem C9e:∀ {l m:List ByteArray},ordW l m=0↔l=m
 | [],[]=>by simp [ordW]
 | [],_ :: _=>by simp [ordW]
 | _ :: _,[]=>by simp [ordW]
 | a :: x,b :: y=>by
  unfold ordW
  by_cases h:A2l a b=true
  ·rw [if_pos h]
   constructor
   ·intro h1; cases h1
   ·intro h1; injection h1 with h1 _; rw [h1,A4m] at h; cases h
  ·rw [if_neg h]
   by_cases h2:a=b
   ·rw [if_pos h2,C9e,h2]; simp
   ·rw [if_neg h2]; simp [h2]
theorem A11:∀ {i:Nat} {l m:List ByteArray},l.take i=m.take i→ordW l m=ordW (l.drop i) (m.drop i)
 | 0,l,m,_=>rfl
 | i+1,[],[],_=>rfl
 | i+1,[],_ :: _,h=>by simp at h
 | i+1,_ :: _,[],h=>by simp at h
 | i+1,a :: x,b :: y,h=>by
  simp only [List.take_succ_cons,List.cons.injEq] at h
  obtain ⟨h1,h2⟩:=h
  subst h1
  simp only [List.drop_succ_cons]
  rw [← A11 h2]
  unfold ordW
  rw [A4m]
  cases x <;> cases y <;> simp [ordW]
theorem refOrdW {H:AH} {v u:Value} {l m:List ByteArray} (hl:Sl H v 1 (l.map A9a)) (hm:Sl H u 1 (m.map A9a)) (hll:l.length≤1048576) (hml:m.length≤1048576) (hw:Wf H):
  Sh.Call Tryz.prog (knows 10) 100 [v,u] H (fun r H'=>H'=H∧r=.int .i64 (ordW l m)):=by
 refine A1b rfl Tryz.func100 rfl (Nat.le_of_ble_eq_true rfl) ?_
 have hres:Tryz.f100.results.toList=[.tmp 4]:=rfl
 have hlen:=fun H'=>hl.len Tryz.underlying22 H'
 have mlen:=fun H'=>hm.len Tryz.underlying22 H'
 simp only [List.length_map] at hlen mlen
 simp only [↓Sh.dn,sx,Nat.reduceBEq,reduceCtorEq,Nat.reduceEqDiff]
 have hmin:min l.length m.length≤1048576:=by omega
 refine A9f (min l.length m.length) 5 (List.range' 5 31) (fun i F H'=>H'=H∧l.take i=m.take i) (by simp only [↓Sh.dn,sx,Nat.reduceBEq,reduceCtorEq,Nat.reduceEqDiff]) ⟨rfl,rfl⟩ ?_ ?_
 ·rintro i F H' hi hF f5 ⟨rfl,htk⟩ k
  have f0:=hF 0 rfl
  have f1:=hF 1 rfl
  simp only [↓Sh.dn,sx,Nat.reduceBEq,reduceCtorEq,Nat.reduceEqDiff] at f0 f1
  have hi1:i < l.length:=by omega
  have hi2:i < m.length:=by omega
  obtain ⟨p1,hia1,hc1⟩:=Sl.elem (s:=1) Tryz.underlying22 A1l hl (i:=i) (u:=.string l[i]) (by rw [List.getElem?_map,List.getElem?_eq_getElem hi1]; rfl)
  obtain ⟨p2,hia2,hc2⟩:=Sl.elem (s:=1) Tryz.underlying22 A1l hm (i:=i) (u:=.string m[i]) (by rw [List.getElem?_map,List.getElem?_eq_getElem hi2]; rfl)
  have ho:∀ k:Int,ordW (l[i] :: l.drop (i+1)) (m[i] :: m.drop (i+1))=k→ordW l m=k:=fun k hk=>by
   rw [A11 htk,List.drop_eq_getElem_cons hi1,List.drop_eq_getElem_cons hi2]; exact hk
  have ht1:l.take (i+1)=l.take i++[l[i]]:=by rw [List.take_add_one,List.getElem?_eq_getElem hi1]; rfl
  have ht2:m.take (i+1)=m.take i++[m[i]]:=by rw [List.take_add_one,List.getElem?_eq_getElem hi2]; rfl
  generalize l[i]=x at hc1 ho ht1
  generalize m[i]=y at hc2 ho ht2
  simp only [↓Sh.dn,sx,Nat.reduceBEq,reduceCtorEq,Nat.reduceEqDiff,f0,f1,f5,hlen,mlen,A4a,hi1,hi2,decide_true,hia1,hc1,hia2,hc2]
  cases hlt:A2l x y with
  | true=>
   have:=ho (-1) (by simp [ordW,hlt])
   simp only [↓Sh.dn,sx,Nat.reduceBEq,reduceCtorEq,Nat.reduceEqDiff,hres,this]
  | false=>
   by_cases hxy:x=y
   ·simp only [↓Sh.dn,sx,Nat.reduceBEq,reduceCtorEq,Nat.reduceEqDiff,f0,f1,f5,hia1,hc1,hia2,hc2,hlt,hxy,decide_true,A4m,wrap_succ hi hmin]
    exact k _ _ (by repeat (first | refine Same.put ?_ rfl | exact Same.rfl' _)) (by simp only [↓Sh.dn,sx,Nat.reduceBEq,reduceCtorEq,Nat.reduceEqDiff]) ⟨rfl,by rw [ht1,ht2,htk,hxy]⟩
   ·have:=ho 1 (by simp [ordW,hlt,hxy])
    simp only [↓Sh.dn,sx,Nat.reduceBEq,reduceCtorEq,Nat.reduceEqDiff,f0,f1,f5,hia1,hc1,hia2,hc2,hlt,hxy,decide_false,hres,this]
 ·rintro F H' hF f5 ⟨rfl,htk⟩
  have f0:=hF 0 rfl
  have f1:=hF 1 rfl
  simp only [↓Sh.dn,sx,Nat.reduceBEq,reduceCtorEq,Nat.reduceEqDiff] at f0 f1
  by_cases h1:l.length < m.length
  ·have e:min l.length m.length=l.length:=by omega
   rw [e] at f5 htk
   have:ordW l m=-1:=by
    rw [A11 htk,List.drop_length,List.drop_eq_getElem_cons h1]; rfl
   simp only [↓Sh.dn,sx,Nat.reduceBEq,reduceCtorEq,Nat.reduceEqDiff,f0,f1,f5,hlen,mlen,A4a,Nat.lt_irrefl,h1,decide_true,decide_false,hres,this]
  ·have e:min l.length m.length=m.length:=by omega
   rw [e] at f5 htk
   by_cases h2:m.length < l.length
   ·have : ordW l m = 1 := by
      rw [A11 htk, List.drop_length, List.drop_eq_getElem_cons h2]; rfl
    simp only [↓Sh.dn, sx, Nat.reduceBEq, reduceCtorEq, Nat.reduceEqDiff, f0, f1, f5, hlen, mlen, A4a, Nat.lt_irrefl, h1, h2, decide_true, decide_false, hres, this]
   ·have heq : l = m := by
      rw [List.take_length, List.take_of_length_le (by omega)] at htk
      exact htk
    have : ordW l m = 0 := by rw [heq, B6u]
    simp only [↓Sh.dn, sx, Nat.reduceBEq, reduceCtorEq, Nat.reduceEqDiff, f0, f1, f5, hlen, mlen, A4a, Nat.lt_irrefl, h1, h2, decide_true, decide_false, hres, this]
theorem refOrder {H:AH} {v u:Value} {l m:List ByteArray} (hl:Sl H v 1 (l.map A9a)) (hm:Sl H u 1 (m.map A9a)) (hll:l.length≤1048576) (hml:m.length≤1048576) (hw:Wf H):
  Sh.Call Tryz.prog (knows 10) 100 [v,u] H (fun r H'=>H'=H∧∃ k:Int,r=.int .i64 k∧(k=0↔l=m)):=by
 refine (refOrdW hl hm hll hml hw).mono ?_
 rintro r H' ⟨rfl,rfl⟩
 exact ⟨rfl,_,rfl,C9e⟩
theorem refSame {H:AH} {v u:Value} {l m:List ByteArray} (hl:Sl H v 1 (l.map A9a)) (hm:Sl H u 1 (m.map A9a)) (hll:l.length≤1048576) (hml:m.length≤1048576) (hw:Wf H):
  Sh.Call Tryz.prog (knows 10) 47 [v,u] H (fun r H'=>H'=H∧r=.bool (decide (l=m))):=by
 refine A1b rfl Tryz.func47 rfl (Nat.le_of_ble_eq_true rfl) ?_
 have hres:Tryz.f47.results.toList=[.tmp 4]:=rfl
 obtain ⟨r,H1,hd,rfl,k,rfl,hk⟩:=refOrder hl hm hll hml hw
 simp only [↓Sh.dn,sx,Nat.reduceBEq,reduceCtorEq,Nat.reduceEqDiff]
 refine ⟨_,_,hd,?_⟩
 have:decide (k=0)=decide (l=m):=decide_eq_decide.2 hk
 simp only [↓Sh.dn,sx,Nat.reduceBEq,reduceCtorEq,Nat.reduceEqDiff,hres,this]
structure LS (H:AH) (base:Nat) (z:Value) (l:List ByteArray) (ob:Option Nat):Prop where
 bf:Buf H 1 z (l.map A9a) ob
 fr:∀ y,ob=some y→base≤y
theorem LS.void (H:AH) (base:Nat):LS H base (.slice none 0 0) [] none:=⟨.void none,fun y hy=>by cases hy⟩
theorem LS.kept {H H':AH} {base:Nat} {z:Value} {l:List ByteArray} {ob:Option Nat} (h:LS H base z l ob) (hw:Wf H) (hk:Kept H H'):LS H' base z l ob:=⟨h.bf.kept hw hk,h.fr⟩
end Go.Proofs.YtnoengaghabmjaaGreat
/- What the laws of chapter 05 ask of a net that is made. -/
namespace Go.Proofs.YtnoengaghabmjaaGreat
open Go Go.Proofs Go.Proofs.Sh
theorem boolEq {c b:Bool}:abin Tryz.prog 4 c .eql (.bool b) (.bool b)=some (.bool true):=by
 unfold abin aeq B0d A3f
 simp only [eqT,Tryz.underlying4,cond_true,beq_self_eq_true,Option.map_some]
theorem lawNone {H:AH} (hw:Wf H):Sh.Call Tryz.prog (knows 10) 18 [A52] H (fun r H'=>Kept H H'∧r=.bool true):=by
 refine A1b rfl Tryz.func18 rfl (Nat.le_of_ble_eq_true rfl) ?_
 have hres:Tryz.f18.results.toList=[.tmp 2]:=rfl
 have hb:=NetBox.of (N:=⟨[],0,[],[]⟩) hw (Sl.nil H 1) (Sl.nil H 5) (Sl.nil H 2)
 have k:=Kept.new hw 4 [.slice none 0 0,.int .i64 (NetD.states ⟨[],0,[],[]⟩),.slice none 0 0,.slice none 0 0]
 unfold A52
 simp only [↓Sh.dn,sx,Nat.reduceBEq,reduceCtorEq,Nat.reduceEqDiff,A4c]
 simp only [] at hb k
 generalize H.next=gg at hb ⊢
 generalize (H.new 4 [.slice none 0 0,.int .i64 0,.slice none 0 0,.slice none 0 0]).2=H1 at hb k ⊢
 have z:((0:Nat):Int)=0:=rfl
 have l0:=fun H'=>hb.hsg.len Tryz.underlying22 H'
 have l2:=fun H'=>hb.har.len Tryz.underlying23 H'
 have l3:=fun H'=>hb.hen.len Tryz.underlying24 H'
 simp only [List.map_nil,List.length_nil,z] at l0 l2 l3
 simp only [↓Sh.dn,sx,Nat.reduceBEq,reduceCtorEq,Nat.reduceEqDiff,hb.c0,hb.c1,hb.c2,hb.c3,hb.ca,A3a hb,A2a hb,A1a hb,l0,l2,l3,List.length_nil,z,eq_self,decide_true,hres]
 exact k
theorem lawMade {H:AH} {mv usg ux uy:Value} {M:NetD} {sigma x y:List ByteArray} (hM:A2p H mv M) (hsm:A0f M) (hE:A0j M=0) (hs:M.sigma=sigma) (hsg:Sl H usg 1 (sigma.map A9a)) (hsl:sigma.length≤1048576) (hx:Sl H ux 1 (x.map A9a)) (hy:Sl H uy 1 (y.map A9a)) (hxl:x.length≤400) (hyl:y.length≤400) {b:Bool} (hb:b=tB (A9p M x y)) (hw:Wf H):
  Sh.Call Tryz.prog (knows 10) 20 [mv,usg,ux,uy,.bool b] H (fun r H'=>Kept H H'∧r=.bool true):=by
 subst hb
 refine A1b rfl Tryz.func20 rfl (Nat.le_of_ble_eq_true rfl) ?_
 have hres:Tryz.f20.results.toList=[.tmp 10]:=rfl
 obtain ⟨sg,ar,en,rfl,s1,s2,s3⟩:=hM
 have hb1:=NetBox.of (N:=M) hw s1 s2 s3
 have k1:=Kept.new hw 4 [sg,.int .i64 M.states,ar,en]
 simp only [↓Sh.dn,sx,Nat.reduceBEq,reduceCtorEq,Nat.reduceEqDiff,A1p s1.isCell s2.isCell s3.isCell]
 generalize H.next=gg at hb1 ⊢
 generalize (H.new 4 [sg,.int .i64 M.states,ar,en]).2=H1 at hb1 k1 ⊢
 obtain ⟨r2,H2,hd2,k2,rfl⟩:=B4o hb1.netAt hsm k1.wf
 have k12:=k1.trans k2
 have hb2:=hb1.kept k1.wf k2
 obtain ⟨r3,H3,hd3,rfl,rfl⟩:=refSame hb2.hsg (hsg.grow (k12.grow hw)) (by rw [hs]; exact hsl) hsl k12.wf
 obtain ⟨okM,_,_⟩:=A4k hE
 obtain ⟨r4,H4,hd4,k4,rfl⟩:=C6e hb2.netAt okM hsm (hx.grow (k12.grow hw)) (hy.grow (k12.grow hw)) hxl hyl k12.wf
 rw [decide_eq_true hs] at hd3
 rw [hE] at hd2
 simp only [↓Sh.dn,sx,Nat.reduceBEq,reduceCtorEq,Nat.reduceEqDiff,hb1.c0,hb1.c1,hb1.c2,hb1.c3,hb1.ca,A3a hb1,A2a hb1,A1a hb1,Option.map_some]
 refine ⟨_,_,hd2,?_⟩
 simp only [↓Sh.dn,sx,Nat.reduceBEq,reduceCtorEq,Nat.reduceEqDiff,hb2.c0,hb2.c1,hb2.c2,hb2.c3,hb2.ca,A3a hb2,A2a hb2,A1a hb2,Option.map_some,eq_self,decide_true]
 refine ⟨_,_,hd3,?_⟩
 simp only [↓Sh.dn,sx,Nat.reduceBEq,reduceCtorEq,Nat.reduceEqDiff,hb2.c0,hb2.c1,hb2.c2,hb2.c3,hb2.ca,A3a hb2,A2a hb2,A1a hb2,Option.map_some]
 refine ⟨_,_,hd4,?_⟩
 simp only [↓Sh.dn,sx,Nat.reduceBEq,reduceCtorEq,Nat.reduceEqDiff,boolEq,hres]
 exact k12.trans k4
end Go.Proofs.YtnoengaghabmjaaGreat
/- What laws of relations have alike: whether nets and words are far too large. -/
namespace Go.Proofs.YtnoengaghabmjaaGreat
open Go Go.Proofs Go.Proofs.Sh
theorem lawLong {H:AH} {v:Value} {ws:List (List ByteArray)} {vs:List Value} (h:JagR H v 1 (ws.map fun w=>w.map A9a) vs) (hl:ws.length≤1048576):
  Sh.Call Tryz.prog (knows 10) 9 [v] H (fun r H'=>H'=H∧r=.bool (ws.any fun w=>decide (240 < w.length))):=by
 refine A1b rfl Tryz.func9 rfl (Nat.le_of_ble_eq_true rfl) ?_
 have hres:Tryz.f9.results.toList=[.tmp 2]:=rfl
 have hlen:∀ H',A6a Tryz.prog .len [30] [v] H'=some (.int .i64 (ws.length:Int),H'):=fun H'=>by
  rw [h.sl.len Tryz.underlying30,List.length_map,h.len,List.length_map]
 simp only [↓Sh.dn,sx,Nat.reduceBEq,reduceCtorEq,Nat.reduceEqDiff]
 refine A9f ws.length 3 (List.range' 3 14) (fun i F H'=>H'=H∧∀ w∈ws.take i,¬240 < w.length) (by simp only [↓Sh.dn,sx,Nat.reduceBEq,reduceCtorEq,Nat.reduceEqDiff]) ⟨rfl,by simp⟩ ?_ ?_
 ·rintro i F H' hi hF f3 ⟨rfl,hall⟩ k
  have f0:=hF 0 rfl
  simp only [↓Sh.dn,sx,Nat.reduceBEq,reduceCtorEq,Nat.reduceEqDiff] at f0
  obtain ⟨g1,o1,q1,w1,i1,c1,s1⟩:=h.at Tryz.underlying30 A92 (i:=i) (r:=ws[i].map A9a) (by rw [List.getElem?_map,List.getElem?_eq_getElem hi]; rfl)
  have htk:ws.take (i+1)=ws.take i++[ws[i]]:=by rw [List.take_add_one,List.getElem?_eq_getElem hi]; rfl
  have hm:ws[i]∈ws:=List.getElem_mem hi
  generalize ws[i]=w at s1 htk hm
  have hlw:=s1.len Tryz.underlying22 H'
  simp only [List.length_map] at hlw
  have d:decide ((240:Int) < (w.length:Int))=decide (240 < w.length):=decide_eq_decide.2 (by omega)
  by_cases hd:240 < w.length
  ·have:(ws.any fun w=>decide (240 < w.length))=true:=List.any_eq_true.2 ⟨w,hm,decide_eq_true hd⟩
   simp only [↓Sh.dn,sx,Nat.reduceBEq,reduceCtorEq,Nat.reduceEqDiff,f0,f3,hlen,A4a,hi,decide_true,i1,c1,hlw,d,hd,hres,this]
  ·simp only [↓Sh.dn,sx,Nat.reduceBEq,reduceCtorEq,Nat.reduceEqDiff,f0,f3,hlen,A4a,hi,decide_true,i1,c1,hlw,d,hd,decide_false,A3b hi (by omega)]
   refine k _ _ (by repeat (first | refine Same.put ?_ rfl | exact Same.rfl' _)) (by simp only [↓Sh.dn,sx,Nat.reduceBEq,reduceCtorEq,Nat.reduceEqDiff]) ⟨rfl,fun u hu=>?_⟩
   rw [htk] at hu
   rcases List.mem_append.1 hu with h2 | h2
   ·exact hall u h2
   ·rw [List.mem_singleton.1 h2]; exact hd
 ·rintro F H' hF f3 ⟨rfl,hall⟩
  have f0:=hF 0 rfl
  simp only [↓Sh.dn,sx,Nat.reduceBEq,reduceCtorEq,Nat.reduceEqDiff] at f0
  rw [List.take_length] at hall
  have:(ws.any fun w=>decide (240 < w.length))=false:=by
   rw [List.any_eq_false]
   intro w hw
   rw [decide_eq_true_eq]; exact hall w hw
  simp only [↓Sh.dn,sx,Nat.reduceBEq,reduceCtorEq,Nat.reduceEqDiff,f0,f3,hlen,A4a,Nat.lt_irrefl,decide_false,hres,this]
def NetRow (H:AH) (r:List Value):Prop:=∃ (N:NetD) (sg ar en:Value),r=[sg,.int .i64 N.states,ar,en]∧Sl H sg 1 (N.sigma.map A9a)∧Sl H ar 5 (N.arcs.map ArcD.cells)∧Sl H en 2 (N.ends.map EndD.cells)∧A0f N
theorem lawOver {H:AH} {v:Value} {rows:List (List Value)} (h:Sl H v 4 rows) (hl:rows.length≤1048576) (hr:∀ r∈rows,NetRow H r):
  Sh.Call Tryz.prog (knows 10) 8 [v] H (fun r H'=>H'=H∧∃ b,r=.bool b):=by
 refine A1b rfl Tryz.func8 rfl (Nat.le_of_ble_eq_true rfl) ?_
 have hres:Tryz.f8.results.toList=[.tmp 2]:=rfl
 have hlen:∀ H',A6a Tryz.prog .len [52] [v] H'=some (.int .i64 (rows.length:Int),H'):=fun H'=>h.len Tryz.underlying52 H'
 simp only [↓Sh.dn,sx,Nat.reduceBEq,reduceCtorEq,Nat.reduceEqDiff]
 refine A9f rows.length 4 (List.range' 3 100) (fun i F H'=>H'=H∧∃ n,F.get 3=some (.int .i64 n)) (by simp only [↓Sh.dn,sx,Nat.reduceBEq,reduceCtorEq,Nat.reduceEqDiff]) ⟨rfl,0,by simp only [↓Sh.dn,sx,Nat.reduceBEq,reduceCtorEq,Nat.reduceEqDiff]⟩ ?_ ?_
 ·rintro i F H' hi hF f4 ⟨rfl,n,f3⟩ k
  have f0:=hF 0 rfl
  simp only [↓Sh.dn,sx,Nat.reduceBEq,reduceCtorEq,Nat.reduceEqDiff] at f0
  obtain ⟨g1,o1,q1,i1,_,c1⟩:=h.at Tryz.underlying52 A1t (i:=i) (List.getElem?_eq_getElem hi) .i64
  obtain ⟨N,sg,ar,en,hrow,hsg,har,hen,hsm⟩:=hr _ (List.getElem_mem hi)
  have d0:=c1 0 sg (by rw [hrow]; rfl)
  have d2:=c1 2 ar (by rw [hrow]; rfl)
  have d3:=c1 3 en (by rw [hrow]; rfl)
  simp only [Nat.add_zero] at d0
  have l0:=fun H'=>hsg.len Tryz.underlying22 H'
  have l2:=fun H'=>har.len Tryz.underlying23 H'
  have l3:=fun H'=>hen.len Tryz.underlying24 H'
  simp only [List.length_map] at l0 l2 l3
  have hs0:=hsm.sg
  have hs2:=hsm.ar
  simp only [↓Sh.dn,sx,Nat.reduceBEq,reduceCtorEq,Nat.reduceEqDiff,f0,f4,hlen,A4a,hi,decide_true,i1,d0,l0]
  have e0:decide ((400:Int) < (N.sigma.length:Int))=decide (400 < N.sigma.length):=decide_eq_decide.2 (by omega)
  have e2:decide ((120000:Int) < (N.arcs.length:Int))=decide (120000 < N.arcs.length):=decide_eq_decide.2 (by omega)
  have e3:decide ((120000:Int) < (N.ends.length:Int))=decide (120000 < N.ends.length):=decide_eq_decide.2 (by omega)
  cases h0:decide (400 < N.sigma.length) with
  | true=>simp only [↓Sh.dn,sx,Nat.reduceBEq,reduceCtorEq,Nat.reduceEqDiff,e0,h0,hres]
  | false=>
  cases h2:decide (120000 < N.arcs.length) with
  | true=>simp only [↓Sh.dn,sx,Nat.reduceBEq,reduceCtorEq,Nat.reduceEqDiff,e0,h0,f0,f4,i1,d2,l2,e2,h2,hres]
  | false=>
  cases h3:decide (120000 < N.ends.length) with
  | true=>simp only [↓Sh.dn,sx,Nat.reduceBEq,reduceCtorEq,Nat.reduceEqDiff,e0,h0,f0,f4,i1,d2,l2,e2,h2,d3,l3,e3,h3,hres]
  | false=>
  simp only [↓Sh.dn,sx,Nat.reduceBEq,reduceCtorEq,Nat.reduceEqDiff,e0,h0,f0,f4,i1,d2,l2,e2,h2,d3,l3,e3,h3]
  refine A9f N.sigma.length 5 (List.range' 38 21++[3,5]) (fun q F2 H2=>H2=H'∧∃ n,F2.get 3=some (.int .i64 n)) (by simp only [↓Sh.dn,sx,Nat.reduceBEq,reduceCtorEq,Nat.reduceEqDiff]) ⟨rfl,n,by simp only [↓Sh.dn,sx,Nat.reduceBEq,reduceCtorEq,Nat.reduceEqDiff,f3]⟩ ?_ ?_
  ·rintro q F2 H2 hq hF2 f5 ⟨rfl,n2,g3⟩ k2
   have g0:=hF2 0 rfl
   have g4:=hF2 4 rfl
   simp only [↓Sh.dn,sx,Nat.reduceBEq,reduceCtorEq,Nat.reduceEqDiff,f0,f4] at g0 g4
   obtain ⟨p2,j2,e2'⟩:=Sl.elem (s:=1) Tryz.underlying22 A1l hsg (i:=q) (u:=.string N.sigma[q]) (by rw [List.getElem?_map,List.getElem?_eq_getElem hq]; rfl)
   simp only [↓Sh.dn,sx,Nat.reduceBEq,reduceCtorEq,Nat.reduceEqDiff,g0,g3,g4,f5,i1,d0,l0,A4a,hq,decide_true,j2,e2',A3b hq (by omega)]
   exact k2 _ _ (by repeat (first | refine Same.put ?_ rfl | exact Same.rfl' _)) (by simp only [↓Sh.dn,sx,Nat.reduceBEq,reduceCtorEq,Nat.reduceEqDiff]) ⟨rfl,_,by simp only [↓Sh.dn,sx,Nat.reduceBEq,reduceCtorEq,Nat.reduceEqDiff]; rfl⟩
  ·rintro F2 H2 hF2 f5 ⟨rfl,n2,g3⟩
   have g0:=hF2 0 rfl
   have g4:=hF2 4 rfl
   simp only [↓Sh.dn,sx,Nat.reduceBEq,reduceCtorEq,Nat.reduceEqDiff,f0,f4] at g0 g4
   simp only [↓Sh.dn,sx,Nat.reduceBEq,reduceCtorEq,Nat.reduceEqDiff,g0,g4,f5,i1,d0,l0,A4a,Nat.lt_irrefl,decide_false]
   refine A2u (m:=N.arcs.length) (fun m F3 H3=>H3=H2∧Same (List.range' 38 61++[3,6]) F2 F3∧∃ q n,m+q=N.arcs.length∧F3.get 6=some (.int .i64 ((q:Nat):Int))∧F3.get 3=some (.int .i64 n)) ⟨rfl,(by repeat (first | refine Same.put ?_ rfl | exact Same.rfl' _)),0,n2,by omega,by simp only [↓Sh.dn,sx,Nat.reduceBEq,reduceCtorEq,Nat.reduceEqDiff]; rfl,by simp only [↓Sh.dn,sx,Nat.reduceBEq,reduceCtorEq,Nat.reduceEqDiff,g3]⟩ ?_
   rintro m F3 H3 ⟨rfl,hS,q,n3,hmq,e6,e3'⟩ k3
   have u0:=hS 0 rfl
   have u4:=hS 4 rfl
   simp only [↓Sh.dn,sx,Nat.reduceBEq,reduceCtorEq,Nat.reduceEqDiff,g0,g4] at u0 u4
   have wi:=A3b hi (by omega)
   have fin:Same (List.range' 3 100) F F3:=by
    refine Same.trans ?_ (hS.sub rfl)
    refine Same.trans ?_ (hF2.sub rfl)
    exact (by repeat (first | refine Same.put ?_ rfl | exact Same.rfl' _))
   by_cases hq:q < N.arcs.length
   ·cases hn:decide (n3≤240000) with
    | false=>
     simp only [↓Sh.dn,sx,Nat.reduceBEq,reduceCtorEq,Nat.reduceEqDiff,u0,u4,e6,e3',i1,d2,l2,A4a,hq,decide_true,hn,wi]
     refine k _ _ ?_ (by simp only [↓Sh.dn,sx,Nat.reduceBEq,reduceCtorEq,Nat.reduceEqDiff]) ⟨rfl,n3,by simp only [↓Sh.dn,sx,Nat.reduceBEq,reduceCtorEq,Nat.reduceEqDiff,e3']⟩
     repeat refine Same.put ?_ rfl
     exact fin
    | true=>
     obtain ⟨ga,oa,ka,ja,_,ca⟩:=har.at Tryz.underlying23 A3l (i:=q) (x:=N.arcs[q].cells) (by simp [hq]) .i64
     have x1:=ca 1 (.string N.arcs[q].inn) rfl
     have x2:=ca 2 (.string N.arcs[q].out) rfl
     simp only [↓Sh.dn,sx,Nat.reduceBEq,reduceCtorEq,Nat.reduceEqDiff,u0,u4,e6,e3',i1,d2,l2,A4a,hq,decide_true,hn,ja,x1,x2,A3b hq (by omega)]
     refine k3 (N.arcs.length - (q+1)) _ _ (by omega) ⟨rfl,?_,q+1,_,by omega,by simp only [↓Sh.dn,sx,Nat.reduceBEq,reduceCtorEq,Nat.reduceEqDiff],by simp only [↓Sh.dn,sx,Nat.reduceBEq,reduceCtorEq,Nat.reduceEqDiff]; rfl⟩
     repeat refine Same.put ?_ rfl
     exact hS
   ·have hd:decide (q < N.arcs.length)=false:=decide_eq_false hq
    simp only [↓Sh.dn,sx,Nat.reduceBEq,reduceCtorEq,Nat.reduceEqDiff,u0,u4,e6,i1,d2,l2,A4a,hd,wi]
    refine k _ _ ?_ (by simp only [↓Sh.dn,sx,Nat.reduceBEq,reduceCtorEq,Nat.reduceEqDiff]) ⟨rfl,n3,by simp only [↓Sh.dn,sx,Nat.reduceBEq,reduceCtorEq,Nat.reduceEqDiff,e3']⟩
    repeat refine Same.put ?_ rfl
    exact fin
 ·rintro F H' hF f4 ⟨rfl,n,f3⟩
  have f0:=hF 0 rfl
  simp only [↓Sh.dn,sx,Nat.reduceBEq,reduceCtorEq,Nat.reduceEqDiff] at f0
  simp only [↓Sh.dn,sx,Nat.reduceBEq,reduceCtorEq,Nat.reduceEqDiff,f0,f3,f4,hlen,A4a,Nat.lt_irrefl,decide_false,hres]
end Go.Proofs.YtnoengaghabmjaaGreat
/- Two lists in a row. -/
namespace Go.Proofs.YtnoengaghabmjaaGreat
open Go Go.Proofs Go.Proofs.Sh
theorem two_jag {H:AH} {u v:Value} {x y:List ByteArray} (hu:Sl H u 1 (x.map A9a)) (hv:Sl H v 1 (y.map A9a)) (hw:Wf H):JagR (H.new 1 [u,v]).2 (.slice (some ⟨H.next,0,some 0⟩) 2 2) 1 ([x,y].map fun w=>w.map A9a) [u,v]:=by
 have k:=Kept.new hw 1 [u,v]
 refine ⟨(Buf.fresh (H:=H) (s:=1) (xs:=[[u],[v]]) hw (by
  intro x hx
  simp only [List.mem_cons,List.not_mem_nil,or_false] at hx
  rcases hx with rfl | rfl <;> rfl) (by simp) 2 rfl).toSl,rfl,fun i w' r h1 h2=>?_⟩
 match i with
 | 0=>
  simp only [List.map_cons,List.map_nil,List.getElem?_cons_zero,Option.some.injEq] at h1 h2
  subst h1 h2
  exact hu.grow (k.grow hw)
 | 1=>
  simp only [List.map_cons,List.map_nil,List.getElem?_cons_succ,List.getElem?_cons_zero,Option.some.injEq] at h1 h2
  subst h1 h2
  exact hv.grow (k.grow hw)
 | i+2=>simp at h1
end Go.Proofs.YtnoengaghabmjaaGreat
/- Whether there is far more in a net than may be. -/
namespace Go.Proofs.YtnoengaghabmjaaGreat
open Go Go.Proofs Go.Proofs.Sh
def B3m (l:List ByteArray):Nat:=(l.map fun s=>s.size).sum
end Go.Proofs.YtnoengaghabmjaaGreat
/- What comes in: lists of texts, nets. -/
namespace Go.Proofs.YtnoengaghabmjaaGreat
open Go Go.Proofs Go.Proofs.Sh
section
variable {K:Type}
theorem bulk_pos:∀ (d:DataW K),1≤Rows.uptoBulk d
 | .lit l=>by cases l <;> simp [Rows.uptoBulk]
 | .nil=>by simp [Rows.uptoBulk]
 | .ptr d=>by simp [Rows.uptoBulk]
 | .slice a b=>by simp [Rows.uptoBulk]
 | .agg a=>by simp [Rows.uptoBulk]
 | .iface n d=>by simp [Rows.uptoBulk]
 | .map es=>by simp [Rows.uptoBulk]
 | .held h=>by simp [Rows.uptoBulk]
theorem B6l:∀ (ds:List (DataW K)),ds.length≤Rows.uptoBulkAll ds
 | []=>Nat.zero_le _
 | d :: ds=>by
  have:=bulk_pos d
  have:=B6l ds
  simp only [Rows.uptoBulkAll,List.length_cons]; omega
theorem A36:∀ {ds:List (DataW K)} {d:DataW K},d∈ds→Rows.uptoBulk d≤Rows.uptoBulkAll ds
 | d :: ds,x,h=>by
  simp only [Rows.uptoBulkAll]
  rcases List.mem_cons.1 h with rfl | h
  ·omega
  ·have:=A36 h; omega
theorem B9g {α β:Type} {f:α→β}:∀ {l:List β},(∀ x∈l,∃ a,x=f a)→∃ L:List α,l=L.map f
 | [],_=>⟨[],rfl⟩
 | x :: l,h=>by
  obtain ⟨a,rfl⟩:=h x List.mem_cons_self
  obtain ⟨L,rfl⟩:=B9g (l:=l) fun y hy=>h y (List.mem_cons_of_mem _ hy)
  exact ⟨a :: L,rfl⟩
theorem B2w {α:Type} {enc:α→List Value} {H:AH} {f t e s:Nat} {cs:List Value} {d:DataW K} (R:α→DataW K→Prop) (hu:Tryz.prog.underlying t=some (.slice e)) (hs:Tryz.prog.cellsOf e=s)
  (hR:∀ f x y,RD Tryz.prog H f e x y→∃ a,x=enc a∧R a y) (h:RD Tryz.prog H f t cs d):
  ∃ u,∃ L:List α,∃ ds,cs=[u]∧Sl H u s (L.map enc)∧L.length=ds.length∧(∀ (i:Nat) a y,L[i]?=some a→ds[i]?=some y→enc a=enc a→∃ a',enc a'=enc a∧R a' y)∧Rows.uptoBulkAll ds < Rows.uptoBulk d:=by
 obtain ⟨l,ds,⟨u,rfl,hsl⟩,hlen,hel,hd⟩:=RD.slice hu hs h
 have hget:∀ (i:Nat) x,l[i]?=some x→∃ y a,ds[i]?=some y∧x=enc a∧R a y:=by
  intro i x hx
  have hi:=(List.getElem?_eq_some_iff.1 hx).1
  have hy:ds[i]?=some (ds[i]'(by omega)):=List.getElem?_eq_getElem (by omega)
  obtain ⟨f',hf⟩:=hel i x _ hx hy
  obtain ⟨a,h1,h2⟩:=hR f' x _ hf
  exact ⟨_,a,hy,h1,h2⟩
 obtain ⟨L,rfl⟩:=B9g (f:=enc) (l:=l) fun x hx=>by
  obtain ⟨i,hi⟩:=List.mem_iff_getElem?.1 hx
  obtain ⟨y,a,_,h2,_⟩:=hget i x hi
  exact ⟨a,h2⟩
 refine ⟨u,L,ds,rfl,hsl,by simpa using hlen,fun i a y ha hy _=>?_,?_⟩
 ·obtain ⟨y',a',h1,h2,h3⟩:=hget i (enc a) (by simp [ha])
  rw [hy] at h1
  injection h1 with h1
  subst h1
  exact ⟨a',h2.symm,h3⟩
 ·rcases hd with ⟨rfl,rfl⟩ | ⟨sp,rfl⟩
  ·simp [Rows.uptoBulk,Rows.uptoBulkAll]
  ·simp only [Rows.uptoBulk]; omega
theorem C2l {H:AH} {f:Nat} {x:List Value} {y:DataW K} (h:RD Tryz.prog H f 9 x y):∃ s,x=A9a s∧y=.lit (.string s.data.toList):=RD.str Tryz.underlying9 h
theorem B3i {H:AH} {f:Nat} {x:List Value} {y:DataW K} (h:RD Tryz.prog H f 3 x y):∃ n,x=[.int .i64 n]∧-9223372036854775808≤n∧n < 9223372036854775808:=RD.int Tryz.underlying3 h
theorem B8n:∀ {L:List ByteArray} {ds:List (DataW K)},L.length=ds.length→(∀ (i:Nat) a y,L[i]?=some a→ds[i]?=some y→y=.lit (.string a.data.toList))→Rows.uptoBulkAll ds=B3m L+L.length
 | [],[],_,_=>rfl
 | [],_ :: _,h,_=>by simp at h
 | _ :: _,[],h,_=>by simp at h
 | a :: L,d :: ds,h,hr=>by
  have h0:=hr 0 a d rfl rfl
  have ih:=B8n (L:=L) (ds:=ds) (by simpa using h) fun i a y h1 h2=>hr (i+1) a y (by simpa using h1) (by simpa using h2)
  subst h0
  have e:a.data.toList.length=a.size:=by rw [Array.length_toList]; rfl
  simp only [Rows.uptoBulkAll,Rows.uptoBulk,ih,B3m,List.map_cons,List.sum_cons,List.length_cons,e]
  omega
theorem B9y {a b:ByteArray} (h:A9a a=A9a b):a=b:=by
 simp only [A9a,List.cons.injEq,Value.string.injEq,and_true] at h; exact h
theorem C8d {H:AH} {f:Nat} {cs:List Value} {d:DataW K} (h:RD Tryz.prog H f 22 cs d):∃ u,∃ L:List ByteArray,cs=[u]∧Sl H u 1 (L.map A9a)∧B3m L+L.length < Rows.uptoBulk d:=by
 obtain ⟨u,L,ds,h1,h2,h3,h4,h5⟩:=B2w (enc:=A9a) (fun s y=>y=.lit (.string s.data.toList)) Tryz.underlying22 C9f (fun f x y hf=>C2l hf) h
 refine ⟨u,L,h1,h2,?_⟩
 rw [← B8n h3 fun i a y ha hy=>by
  obtain ⟨a',e,hr⟩:=h4 i a y ha hy rfl
  rw [← B9y e]; exact hr]
 exact h5
theorem B6o {L:List ByteArray} {x:ByteArray} (h:x∈L):x.size≤B3m L:=by
 induction L with
 | nil=>cases h
 | cons a L ih=>
  simp only [B3m,List.map_cons,List.sum_cons] at ih ⊢
  rcases List.mem_cons.1 h with rfl | h
  ·omega
  ·have:=ih h; omega
theorem four {c:List Value} (h:c.length=4):∃ a b x y,c=[a,b,x,y]:=by
 match c,h with
 | [a,b,x,y],_=>exact ⟨a,b,x,y,rfl⟩
theorem five {c:List Value} (h:c.length=5):∃ a b x y z,c=[a,b,x,y,z]:=by
 match c,h with
 | [a,b,x,y,z],_=>exact ⟨a,b,x,y,z,rfl⟩
theorem two {c:List Value} (h:c.length=2):∃ a b,c=[a,b]:=by
 match c,h with
 | [a,b],_=>exact ⟨a,b,rfl⟩
theorem A0n {ds:List (DataW K)} {n i:Nat} (h:ds.length=n) (hi:i < n):∃ x,ds[i]?=some x:=⟨ds[i]'(by omega),List.getElem?_eq_getElem (by omega)⟩
theorem arc_in {H:AH} {f:Nat} {x:List Value} {y:DataW K} (h:RD Tryz.prog H f 54 x y):∃ a:ArcD,x=a.cells∧True:=by
 ·obtain ⟨f',ds,rfl,h1,h2,h3⟩:=RD.struct Tryz.underlying54 h
  rw [B62] at h1
  obtain ⟨a,b,c,d,e,rfl⟩:=five h1
  have h2':ds.length=5:=h2
  obtain ⟨d0,e0⟩:=A0n h2' (i:=0) (by omega)
  obtain ⟨d1,e1⟩:=A0n h2' (i:=1) (by omega)
  obtain ⟨d2,e2⟩:=A0n h2' (i:=2) (by omega)
  obtain ⟨d3,e3⟩:=A0n h2' (i:=3) (by omega)
  obtain ⟨d4,e4⟩:=A0n h2' (i:=4) (by omega)
  have g0:=h3 0 _ _ rfl e0
  have g1:=h3 1 _ _ rfl e1
  have g2:=h3 2 _ _ rfl e2
  have g3:=h3 3 _ _ rfl e3
  have g4:=h3 4 _ _ rfl e4
  simp only [B5y,C9f,List.drop_zero,List.drop_succ_cons,List.take_succ_cons,List.take_zero,List.getElem_toArray,List.getElem_cons_zero,List.getElem_cons_succ] at g0 g1 g2 g3 g4
  obtain ⟨n0,q0,_⟩:=B3i g0
  obtain ⟨s1,q1,_⟩:=C2l g1
  obtain ⟨s2,q2,_⟩:=C2l g2
  obtain ⟨n3,q3,_⟩:=B3i g3
  obtain ⟨n4,q4,_⟩:=B3i g4
  simp only [A9a,List.cons.injEq,and_true] at q0 q1 q2 q3 q4
  subst q0 q1 q2 q3 q4
  exact ⟨⟨n0,s1,s2,n3,n4⟩,rfl,trivial⟩
theorem end_in {H:AH} {f:Nat} {x:List Value} {y:DataW K} (h:RD Tryz.prog H f 56 x y):∃ a:EndD,x=a.cells∧True:=by
 ·obtain ⟨f',ds,rfl,h1,h2,h3⟩:=RD.struct Tryz.underlying56 h
  rw [B21] at h1
  obtain ⟨a,b,rfl⟩:=two h1
  have h2':ds.length=2:=h2
  obtain ⟨d0,e0⟩:=A0n h2' (i:=0) (by omega)
  obtain ⟨d1,e1⟩:=A0n h2' (i:=1) (by omega)
  have g0:=h3 0 _ _ rfl e0
  have g1:=h3 1 _ _ rfl e1
  simp only [B5y,List.drop_zero,List.drop_succ_cons,List.take_succ_cons,List.take_zero,List.getElem_toArray,List.getElem_cons_zero,List.getElem_cons_succ] at g0 g1
  obtain ⟨n0,q0,_⟩:=B3i g0
  obtain ⟨n1,q1,_⟩:=B3i g1
  simp only [List.cons.injEq,and_true] at q0 q1
  subst q0 q1
  exact ⟨⟨n0,n1⟩,rfl,trivial⟩
theorem agg_of {v:Value} {a b:Value} {l:List Value} (h:A8a v=a :: b :: l):v=.agg (a :: b :: l).toArray:=by
 cases v <;> simp only [A8a] at h <;> try (cases h; done)
 rw [← h]
theorem net_in {H:AH} {f:Nat} {v:Value} {d:DataW K} (h:RD Tryz.prog H f 26 (A8a v) d) (hb:Rows.uptoBulk d≤1048576):∃ N:NetD,Nonempty (A2p H v N)∧A0f N∧B3m N.sigma≤1048576:=by
 ·obtain ⟨f',ds,rfl,h1,h2,h3⟩:=RD.struct Tryz.underlying26 h
  rw [cells_26] at h1
  obtain ⟨a,b,c,e,hv⟩:=four h1
  rw [hv] at h3
  have h2':ds.length=4:=h2
  obtain ⟨d0,e0⟩:=A0n h2' (i:=0) (by omega)
  obtain ⟨d1,e1⟩:=A0n h2' (i:=1) (by omega)
  obtain ⟨d2,e2⟩:=A0n h2' (i:=2) (by omega)
  obtain ⟨d3,e3⟩:=A0n h2' (i:=3) (by omega)
  have g0:=h3 0 _ _ rfl e0
  have g1:=h3 1 _ _ rfl e1
  have g2:=h3 2 _ _ rfl e2
  have g3:=h3 3 _ _ rfl e3
  simp only [B5y,cells_22,cells_23,cells_24,List.drop_zero,List.drop_succ_cons,List.take_succ_cons,List.take_zero,List.getElem_toArray,List.getElem_cons_zero,List.getElem_cons_succ] at g0 g1 g2 g3
  obtain ⟨u0,L0,q0,s0,b0⟩:=C8d g0
  obtain ⟨n1,q1,_⟩:=B3i g1
  obtain ⟨u2,L2,ds2,q2,s2,k2,_,b2⟩:=B2w (enc:=ArcD.cells) (fun _ _=>True) Tryz.underlying23 B62 (fun f x y hf=>arc_in hf) g2
  obtain ⟨u3,L3,ds3,q3,s3,k3,_,b3⟩:=B2w (enc:=EndD.cells) (fun _ _=>True) Tryz.underlying24 B21 (fun f x y hf=>end_in hf) g3
  simp only [List.cons.injEq,and_true] at q0 q1 q2 q3
  subst q0 q1 q2 q3
  have m0:=A36 (List.mem_of_getElem? e0)
  have m2:=A36 (List.mem_of_getElem? e2)
  have m3:=A36 (List.mem_of_getElem? e3)
  have l2:=B6l ds2
  have l3:=B6l ds3
  simp only [Rows.uptoBulk] at hb
  refine ⟨⟨L0,n1,L2,L3⟩,⟨⟨a,c,e,agg_of hv,s0,s2,s3⟩⟩,⟨?_,?_,?_,fun x hx=>?_⟩,?_⟩
  ·show L0.length≤_; omega
  ·show L2.length≤_; omega
  ·show L3.length≤_; omega
  ·have:=B6o hx; show x.size≤_; have h':x.size≤B3m L0:=this; omega
  ·show B3m L0≤_; omega
end
end Go.Proofs.YtnoengaghabmjaaGreat
