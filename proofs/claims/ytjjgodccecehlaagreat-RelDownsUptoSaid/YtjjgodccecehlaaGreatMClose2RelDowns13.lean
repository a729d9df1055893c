/- A part of the proof: TrimPair, ImgPair, RelSlot, MakeKit, Sides2, WordVal, RelImage, RefAbove. -/
import Derived.Test.YtjjgodccecehlaaGreatMClose2RelDowns11
import Derived.Test.YtjjgodccecehlaaGreatMClose2RelDowns12
import Derived.Test.YtjjgodccecehlaaGreatMClose2RelDowns9
import Derived.Test.YtjjgodccecehlaaGreatMClose2RelDowns6
import Derived.Test.YtjjgodccecehlaaGreatMClose2RelDowns5
set_option linter.unusedVariables false
set_option linter.unusedSimpArgs false
/- A trimmed graph as a relation. -/
set_option maxHeartbeats 4000000
set_option maxRecDepth 20000
namespace Go.Proofs.YtjjgodccecehlaaGreat
open Go Go.Proofs Go.Proofs.Sh
theorem C14{E:List (List GE)}{s t:Nat}:A5e E (fun _=>True) s t↔∃a b,A8m E s a b t:=by
 unfold A5e A8m;constructor
 ·rintro⟨r,h1,e,h2,h3,_⟩;exact⟨_,_,r,h1,e,h2,h3,rfl,rfl⟩
 ·rintro⟨a,b,r,h1,e,h2,h3,_⟩;exact⟨r,h1,e,h2,h3,trivial⟩
theorem TrimI.rel{E:List (List GE)}{ends:List Int}{U:List Bool}{n:Nat}{R:List (List GE)}{es:List Int}(h:TrimI E ends U (1+A2k U n) n R es)(hE:E.length=n)(hU:U.length=n)(hto:∀r∈E,∀e∈r,e.1<n)(hu:∀t:Nat,U[t]?=some true↔A72 E ends t):
  TrimR (A8m E) (A8m R) (fun s=>U[s]?=some true) (numU U) (endP ends) (endP es):=by
 have hlt:∀s,U[s]?=some true→s<n:=fun s hs=>by rw[←hU];exact(List.getElem?_eq_some_iff.1 hs).1
 refine⟨fun x a b y=>?_,fun a=>?_,B9l U,fun s t hs ht he=>B1c hs ht he,fun s=>?_⟩
 ·constructor
  ·rintro⟨r',h1,e',h2,h3,h4,h5⟩
   by_cases hex:∃s,U[s]?=some true∧numU U s=x
   ·obtain⟨s,hs,rfl⟩:=hex
    have hsn:=hlt s hs;have hr:E[s]?=some (E[s]'(by rw[hE];exact hsn)):=List.getElem?_eq_getElem _;generalize E[s]'(by rw[hE];exact hsn)=r at hr;rw[h.row s r hsn hs hr]at h1;rw[←Option.some.inj h1]at h2;obtain⟨e,h6,h7⟩:=List.mem_map.1 h2;obtain⟨h8,h9⟩:=List.mem_filter.1 h6;subst h7;exact⟨s,e.1,hs,of_decide_eq_true h9,rfl,h3.symm,r,hr,e,h8,rfl,h4,h5⟩
   ·have ha:x<1+A2k U n:=by rw[←h.lr];exact(List.getElem?_eq_some_iff.1 h1).1
    rw[h.non x ha fun s _ hs he=>hex ⟨s,hs,he⟩]at h1;rw[←Option.some.inj h1]at h2;cases h2
  ·rintro⟨s,t,hs,ht,rfl,rfl,r,h1,e,h2,h3,h4⟩
   refine⟨_,h.row s r (hlt s hs) hs h1,(numU U e.1,e.2),List.mem_map.2 ⟨e,List.mem_filter.2 ⟨h2,decide_eq_true (by rw[h3];exact ht)⟩,rfl⟩,by rw[h3],h4⟩
 ·unfold endP
  constructor
  ·intro ha
   by_cases hex:∃s,U[s]?=some true∧numU U s=a
   ·obtain⟨s,hs,rfl⟩:=hex
    exact⟨s,hs,rfl,by rw[←h.fin s (hlt s hs) hs];exact ha⟩
   ·rw[h.nof a fun s _ hs he=>hex ⟨s,hs,he⟩]at ha
    exact absurd ha (Int.lt_irrefl 0)
  ·rintro⟨s,hs,rfl,h1⟩
   rw[h.fin s (hlt s hs) hs];exact h1
 ·rw[hu]
  unfold A72;have e1:(A5e E fun _=>True)=fun s t=>∃a b,A8m E s a b t:=funext fun s=>funext fun t=>propext C14;rw[e1];rfl
theorem TrimI.ok{E:List (List GE)}{ends:List Int}{U:List Bool}{n:Nat}{R:List (List GE)}{es:List Int}(h:TrimI E ends U (1+A2k U n) n R es)(hE:E.length=n)(hU:U.length=n){m:Int}{Q:Int×Int×Int→Prop}(hto:∀r∈E,∀e∈r,e.1<n∧Q e.2):∀r∈R,∀e∈r,e.1<1+A2k U n∧Q e.2:=by
 have hk:∃k,∀r∈E,r.length≤k:=by
  clear h hE hU hto
  induction E with
  | nil=>exact⟨0,fun r hr=>by cases hr⟩
  | cons q E ih=>
   obtain⟨k,hk⟩:=ih;refine⟨k+q.length,fun r hr=>?_⟩;rcases List.mem_cons.1 hr with h|h
   ·rw[h];omega
   ·have:=hk r h;omega
 obtain⟨k,hk⟩:=hk;intro r hr;obtain⟨s,hs⟩:=List.mem_iff_getElem?.1 hr;exact(h.to hE hU (k:=k) (fun s r hr=>⟨hk r (List.mem_of_getElem? hr),hto r (List.mem_of_getElem? hr)⟩) s r hs).2
theorem TrimI.sumAll{E:List (List GE)}{ends:List Int}{U:List Bool}{n m:Nat}{R:List (List GE)}{es:List Int}(h:TrimI E ends U m n R es)(hE:E.length=n):(R.map List.length).sum≤(E.map List.length).sum:=by
 have:=h.sum
 rwa [List.take_of_length_le (by omega)]at this
theorem TrimI.rowLe{E:List (List GE)}{ends:List Int}{U:List Bool}{n:Nat}{R:List (List GE)}{es:List Int}(h:TrimI E ends U (1+A2k U n) n R es)(hE:E.length=n)(hU:U.length=n){k:Nat}(hk:∀r∈E,r.length≤k):∀r∈R,r.length≤k:=by
 intro r' hr';obtain⟨x,h1⟩:=List.mem_iff_getElem?.1 hr';by_cases hex:∃s,U[s]?=some true∧numU U s=x
 ·obtain⟨s,hs,rfl⟩:=hex
  have hsn:s<n:=by rw[←hU];exact(List.getElem?_eq_some_iff.1 hs).1
  obtain⟨r,hr⟩:∃r,E[s]?=some r:=⟨E[s]'(by rw[hE];exact hsn),List.getElem?_eq_getElem _⟩
  have hkk:=hk r (List.mem_of_getElem? hr);rw[h.row s r hsn hs hr]at h1;rw[←Option.some.inj h1];unfold A1j;rw[List.length_map];exact Nat.le_trans (List.length_filter_le _ _) hkk
 ·have ha:x<1+A2k U n:=by rw[←h.lr];exact(List.getElem?_eq_some_iff.1 h1).1
  rw[h.non x ha fun s _ hs he=>hex ⟨s,hs,he⟩]at h1;rw[←Option.some.inj h1];exact Nat.zero_le _
theorem B21{σ τ α:Type}{A:Arcs σ α}{B:Arcs τ α}{g:σ→τ}{Q:σ→Prop}(h:∀s a b t,Q s→A s a b t→Q t∧B (g s) a b (g t)){s t:σ}{x y:List α}(k:Sh.Way A s x y t)(hs:Q s):Sh.Way B (g s) x y (g t):=by
 induction k with
 | nil s=>exact .nil _
 | cons h1 _ ih=>
  obtain⟨h2,h3⟩:=h _ _ _ _ hs h1;exact .cons h3 (ih h2)
section
variable {n:Nat} {w:List Nat} {E:List (List GE)} {ends:List Int}
theorem C61(hn:0<n){i s:Nat}(hi:i≤w.length)(hs:s<n):(imgE n w E)[i*n+s]?=some (A6o n w i (E.getD s [])):=by
 have hlt:i*n+s<(w.length+1)*n:=by
  have:i*n≤w.length*n:=Nat.mul_le_mul_right n hi;rw[Nat.succ_mul];omega
 unfold imgE imgP;rw[List.getElem?_map,List.getElem?_range hlt];unfold C4e;have e1:(i*n+s)/n=i:=by rw[Nat.mul_comm,Nat.mul_add_div hn,Nat.div_eq_of_lt hs];omega
 have e2:(i*n+s) % n=s:=by rw[Nat.mul_comm,Nat.mul_add_mod,Nat.mod_eq_of_lt hs]
 rw[Option.map_some,e1,e2]
theorem C0n(hn:0<n)(hto:∀r∈E,∀e∈r,e.1<n){i s:Nat}(hi:i≤w.length)(hs:s<n)(a b:Option Nat)(k:Nat):A8m (imgE n w E) (i*n+s) a b k↔∃j t,k=j*n+t∧t<n∧j≤w.length∧imgA (A8m E) w (i,s) a b (j,t):=by
 have ht:∀e∈E.getD s [],e.1<n:=fun e he=>by
  rw[List.getD_eq_getElem?_getD]at he;cases h:E[s]? with
  | none=>rw[h]at he;cases he
  | some r=>rw[h]at he;exact hto r (List.mem_of_getElem? h) e he
 have hr:∀e,e∈E.getD s []↔∃r,E[s]?=some r∧e∈r:=fun e=>by
  rw[List.getD_eq_getElem?_getD];cases h:E[s]? with
  | none=>simp
  | some r=>simp
 unfold imgA;constructor
 ·rintro⟨r,h1,e,h2,h3,h4,h5⟩
  rw[C61 hn hi hs]at h1;rw[←Option.some.inj h1]at h2;obtain⟨e0,h6,h7⟩:=List.mem_flatMap.1 h2;have h8:=ht e0 h6;obtain⟨r0,h9,h10⟩:=(hr e0).1 h6;unfold A2r at h7;split at h7
  ·rename_i hneg
   have e1:=List.mem_singleton.1 h7;subst e1;refine⟨i,e0.1,h3.symm,h8,hi,by rw[←h4,←h5],none,⟨r0,h9,e0,h10,rfl,?_,h5⟩,rfl⟩;unfold labN;rw[if_pos hneg]
  ·rename_i hneg
   split at h7
   ·rename_i hw
    have e1:=List.mem_singleton.1 h7;subst e1;obtain⟨c,hc,he⟩:=Option.map_eq_some_iff.1 hw;have hil:=(List.getElem?_eq_some_iff.1 hc).1;refine⟨i+1,e0.1,h3.symm,h8,by omega,by rw[←h4,←h5],some c,⟨r0,h9,e0,h10,rfl,?_,h5⟩,hc,rfl⟩;unfold labN;rw[if_neg hneg,←he];rfl
   ·cases h7
 ·rintro⟨j,t,rfl,h2,h3,h4,c,⟨r,h5,e,h6,h7,h8,h9⟩,h10⟩
  simp only at h4 h5 h7 h8 h9 h10;subst h4;refine⟨_,C61 hn hi hs,(j*n+t,e.2.2.1,e.2.2.1,e.2.2.2),List.mem_flatMap.2 ⟨e,(hr e).2 ⟨r,h5,h6⟩,?_⟩,rfl,h9,h9⟩;unfold A2r;cases c with
  | none=>
   have hj:j=i:=h10;have hneg:e.2.1<0:=by
    unfold labN at h8;split at h8
    ·assumption
    ·cases h8
   rw[if_pos hneg,hj,h7];exact List.mem_singleton.2 rfl
  | some c=>
   obtain⟨h11,rfl⟩:=h10;have hpos:¬e.2.1<0∧e.2.1=(c:Int):=by
    unfold labN at h8;split at h8
    ·cases h8
    ·rename_i h12
     have:=Option.some.inj h8;exact⟨h12,by omega⟩
   rw[if_neg hpos.1,h11,Option.map_some,hpos.2,if_pos rfl,h7];exact List.mem_singleton.2 rfl
theorem C16(hn:0<n)(hl:ends.length=n){j t:Nat}(hj:j≤w.length)(ht:t<n):endP (List.replicate (w.length*n) 0++ends) (j*n+t)↔j=w.length∧endP ends t:=by
 unfold endP;rw[List.getD_eq_getElem?_getD];by_cases h:j=w.length
 ·subst h
  rw[List.getElem?_append_right (by rw[List.length_replicate];omega),List.length_replicate,Nat.add_sub_cancel_left,←List.getD_eq_getElem?_getD];simp
 ·have : j * n + t < w.length * n := by
    have : (j + 1)*n ≤ w.length*n := Nat.mul_le_mul_right n (by omega);rw[Nat.succ_mul]at this;omega
  rw[List.getElem?_append_left (by rw[List.length_replicate];exact this), List.getElem?_replicate, if_pos this];simp[h]
theorem img_rel'(hn:0<n)(hl:ends.length=n)(hto:∀r∈E,∀e∈r,e.1<n)(u v:List Nat):RelP (A8m (imgE n w E)) (endP (List.replicate (w.length*n) 0++ends)) u v↔u=v∧RelP (A8m E) (endP ends) w u:=by
 rw[←C28];have g0:(0:Nat)*n+0=0:=by simp
 constructor
 ·rintro⟨k,h1,h2⟩
  rw[←g0]at h2;obtain⟨⟨j,t⟩,rfl,⟨h3,h4⟩,h5⟩:=Way.pull (A:=imgA (A8m E) w) (g:=fun p:Nat×Nat=>p.1*n+p.2) (Q:=fun p=>p.1≤w.length∧p.2<n) (fun p a b k hp hb=>by
   obtain⟨j,t,h3,h4,h5,h6⟩:=(C0n hn hto hp.1 hp.2 a b k).1 hb;exact⟨(j,t),h3,⟨h5,h4⟩,h6⟩) (s:=(0,0)) h2 ⟨Nat.zero_le _,hn⟩
  obtain⟨h6,h7⟩:=(C16 hn hl h3 h4).1 h1;subst h6;exact⟨t,h7,h5⟩
 ·rintro⟨t,h1,h2⟩
  have ht:t<n:=by
   unfold endP at h1;rcases Nat.lt_or_ge t n with h|h
   ·exact h
   ·rw[List.getD_eq_getElem?_getD,List.getElem?_eq_none (by omega)]at h1
    exact absurd h1 (Int.lt_irrefl 0)
  have h3:=B21 (B:=A8m (imgE n w E)) (g:=fun p:Nat×Nat=>p.1*n+p.2) (Q:=fun p=>p.1≤w.length∧p.2<n) (fun p a b q hp hb=>by
   have hq:q.1≤w.length∧q.2<n:=by
    obtain⟨_,c,⟨r,h4,e,h5,h6,_⟩,h7⟩:=hb;exact⟨B4w h7 hp.1,by rw[←h6];exact hto r (List.mem_of_getElem? h4) e h5⟩
   exact⟨hq,(C0n hn hto hp.1 hp.2 a b _).2 ⟨q.1,q.2,rfl,hq.2,hq.1,hb⟩⟩) h2 ⟨Nat.zero_le _,hn⟩
  simp only[g0]at h3;exact⟨_,(C16 hn hl (Nat.le_refl _) ht).2 ⟨rfl,h1⟩,h3⟩
theorem imgE_len:(imgE n w E).length=(w.length+1)*n:=C2m _ _ _ _
theorem imgE_ok(hn:0<n){m:Int}(hto:∀r∈E,∀e∈r,e.1<n∧e.2.1<m∧e.2.2.1<m∧e.2.2.2=0):∀r∈imgE n w E,∀e∈r,e.1<(w.length+1)*n∧e.2.1<m∧e.2.2.1<m∧e.2.2.2=0∧e.2.1=e.2.2.1:=by
 intro r hr e he;obtain⟨k,hk,rfl⟩:=List.mem_map.1 hr;have hk:=List.mem_range.1 hk;obtain⟨e0,h6,h7⟩:=List.mem_flatMap.1 he;have h8:e0.1<n∧e0.2.1<m∧e0.2.2.1<m∧e0.2.2.2=0:=by
  rw[List.getD_eq_getElem?_getD]at h6;cases h:E[k % n]? with
  | none=>rw[h]at h6;cases h6
  | some r=>rw[h]at h6;exact hto r (List.mem_of_getElem? h) e0 h6
 have hq:k/n≤w.length:=by
  have:k/n<w.length+1:=Nat.div_lt_of_lt_mul (by rw[Nat.mul_comm];exact hk);omega
 unfold A2r at h7;split at h7
 ·rw[List.mem_singleton.1 h7]
  refine⟨?_,h8.2.2.1,h8.2.2.1,h8.2.2.2,rfl⟩;have:k/n*n≤w.length*n:=Nat.mul_le_mul_right n hq;show k/n*n+e0.1<_;rw[Nat.succ_mul];omega
 ·split at h7
  ·rename_i hw
   obtain⟨c,hc,_⟩:=Option.map_eq_some_iff.1 hw;have hil:=(List.getElem?_eq_some_iff.1 hc).1;rw[List.mem_singleton.1 h7];refine⟨?_,h8.2.2.1,h8.2.2.1,h8.2.2.2,rfl⟩;have:(k/n+1)*n≤w.length*n:=Nat.mul_le_mul_right n hil;show (k/n+1)*n+e0.1<_;rw[Nat.succ_mul w.length];omega
  ·cases h7
theorem imgE_row{k0:Nat}(hE:∀r∈E,r.length≤k0):∀r∈imgE n w E,r.length≤k0:=by
 intro r hr;obtain⟨k,hk,rfl⟩:=List.mem_map.1 hr;refine Nat.le_trans (B8k _ _ _ _) ?_;rw[List.getD_eq_getElem?_getD];cases h:E[k % n]? with
 | none=>simp
 | some r=>exact hE r (List.mem_of_getElem? h)
theorem C7p(hn:0<n)(hE:E.length=n):∀i,((imgP n w E (i*n)).map List.length).sum≤i*(E.map List.length).sum
 | 0=>by simp[imgP]
 | i+1=>by
  have ih:=C7p hn hE i;have key:∀s,s≤n→((imgP n w E (i*n+s)).map List.length).sum≤i*(E.map List.length).sum+((E.take s).map List.length).sum:=fun s=>by
   induction s with
   | zero=>intro _;simpa using ih
   | succ s ihs=>
    intro hs;have h1:=ihs (by omega);have hsE:s<E.length:=by omega
    have ht:E.take (s+1)=E.take s++[E[s]]:=by rw[List.take_add_one,List.getElem?_eq_getElem hsE];rfl
    have hat:(C4e n w E (i*n+s)).length≤E[s].length:=by
     unfold C4e;have e1:(i*n+s) % n=s:=by rw[Nat.mul_comm,Nat.mul_add_mod,Nat.mod_eq_of_lt (by omega)]
     rw[e1,List.getD_eq_getElem?_getD,List.getElem?_eq_getElem hsE];exact B8k _ _ _ _
    rw[←Nat.add_assoc,B94,ht,List.map_append,List.map_append,List.sum_append,List.sum_append];simp only[List.map_cons,List.map_nil,List.sum_cons,List.sum_nil];omega
  have:=key n (Nat.le_refl _);rw[List.take_of_length_le (by omega)]at this;rw[Nat.succ_mul,Nat.succ_mul];exact this
theorem imgE_sum(hn:0<n)(hE:E.length=n):((imgE n w E).map List.length).sum≤(w.length+1)*(E.map List.length).sum:=C7p hn hE _
end
def zeroNet:Value:=.agg #[.slice none 0 0,.int .i64 0,.slice none 0 0,.slice none 0 0]
structure Slot(H0:AH)(go:Nat):Prop where
 ob:Sh.Obj H0 go 4 [.slice none 0 0,.int .i64 0,.slice none 0 0,.slice none 0 0] true
 lt:go<H0.next
theorem Slot.new{H:AH}:Slot (H.new 4 [.slice none 0 0,.int .i64 0,.slice none 0 0,.slice none 0 0]).2 H.next:=⟨Sh.Obj.new (H:=H) 4 _,Nat.lt_succ_self _⟩
theorem Slot.put{H0 H':AH}{go:Nat}(h:Slot H0 go)(hk:Kept H0 H'){a b c d:Value}(ha:isCell a=true)(hb:isCell b=true)(hc:isCell c=true)(hd:isCell d=true):
  ∃H'',A0e Tryz.prog 26 H' (.agg #[a,b,c,d]) (.pointer (some ⟨go,0,some 0⟩))=some H''∧H''.cells ⟨go,0,some 0⟩ 4=some [a,b,c,d]∧Chg (fun y=>y=go) H' H''∧H''.next=H'.next:=by
 have o0':Sh.Obj H' go 4 [.slice none 0 0,.int .i64 0,.slice none 0 0,.slice none 0 0] true:=by
  have o0:=h.ob;unfold Sh.Obj at o0 ⊢;rw[hk.old go h.lt];exact o0
 obtain⟨H6,w6,ar6,v6,z6⟩:=o0'.arr.write hk.wf (i:=0) (vs:=[a,b,c,d]) (by simp);have sc6:setCells [.slice none 0 0,.int .i64 0,.slice none 0 0,.slice none 0 0] 0 [a,b,c,d]=[a,b,c,d]:=rfl;rw[sc6]at ar6;refine⟨H6,?_,ar6.cells (i:=0) (n:=4) (by simp),z6,v6⟩;rw[A0s (vs:=[a,b,c,d]) A0u rfl (by simp[ha,hb,hc,hd])];exact w6
theorem B9t(N:NetD):(A1l N).length=N.states.toNat:=by unfold A1l;rw[A7e]
theorem A81(N:NetD):(A8j N N.ends).length=N.states.toNat:=by unfold A8j;rw[List.length_map,A7e]
theorem A24(N:NetD):(A5l N N.ends).length=N.states.toNat:=by unfold A5l;rw[List.length_map,A7e]
theorem B6e{N:NetD}(h:A9j N=0):∀r∈A1l N,∀e∈r,e.1<N.states.toNat∧e.2.1<(N.sigma.length:Int)∧e.2.2.1<(N.sigma.length:Int)∧e.2.2.2=0:=fun r hr e he=>by
 obtain⟨hok,_,hf⟩:=A3t h;obtain⟨s,hs⟩:=List.mem_iff_getElem?.1 hr;obtain⟨a,ha,_,rfl⟩:=(A1p hs e).1 he;obtain⟨_,_,k1,k2,k3,k4⟩:=hok.arc a ha;simp only[NetD.free,Bool.and_eq_true,List.all_eq_true,decide_eq_true_eq]at hf;exact⟨by simp only;omega,B4b hok k3,B4b hok k4,hf.1 a ha⟩
theorem B4r{N:NetD}(h:A9j N=0):∀r∈A1l N,r.length≤60000∧∀e∈r,e.1<N.states.toNat:=fun r hr=>by
 obtain⟨hok,_,_⟩:=A3t h;obtain⟨s,hs⟩:=List.mem_iff_getElem?.1 hr;exact⟨Nat.le_trans (B2k hs) hok.ar,fun e he=>(B6e h r hr e he).1⟩
theorem C4s{N:NetD}(h:A9j N=0):∀c∈A5l N N.ends,c=0:=fun c hc=>by
 obtain⟨hok,_,hf⟩:=A3t h;simp only[NetD.free,Bool.and_eq_true,List.all_eq_true,decide_eq_true_eq]at hf;unfold A5l at hc;obtain⟨r,hr,rfl⟩:=List.mem_map.1 hc;obtain⟨s,hs⟩:=List.mem_iff_getElem?.1 hr;refine B57 fun x hx=>?_;obtain⟨e,he,_,rfl⟩:=(A1p hs x).1 hx;exact hf.2 e he
theorem C59{l:List Int}(h:∀c∈l,c=0)(s:Nat):l.getD s 0=0:=by
 rw[List.getD_eq_getElem?_getD];cases hg:l[s]? with
 | none=>rfl
 | some c=>exact h c (List.mem_of_getElem? hg)
theorem C5m{H:AH}(h:Wf H){y:Nat}(hy:H.next≤y):H.objs.get y=none:=by
 cases hg:H.objs.get y with
 | none=>rfl
 | some x=>have:=h y x hg;omega
theorem C3s{N:NetD}(h:A9j N=0):((A1l N).map List.length).sum=N.arcs.length:=by
 obtain⟨hok,_,_⟩:=A3t h;unfold A1l;have key:∀(l:List ArcD),(∀a∈l,0≤a.fr∧a.fr<N.states)→((rowsOf ArcD.fr (fun a=>(a.to.toNat,A0m N.sigma a.inn,A0m N.sigma a.out,a.cost)) N.states.toNat l).map List.length).sum=l.length:=fun l hl=>by
  unfold rowsOf;rw[List.map_map];have e:(List.length∘fun(s:Nat)=>(l.filter fun a=>decide (a.fr=(s:Int))).map fun a=>(a.to.toNat,A0m N.sigma a.inn,A0m N.sigma a.out,a.cost))=fun(s:Nat)=>(l.filter fun a=>decide (a.fr=(s:Int))).length:=by
   funext s;simp
  rw[e];clear e
  induction l with
  | nil=>
   generalize N.states.toNat=m
   induction m with
   | zero=>rfl
   | succ m ihm=>rw[List.range_succ,List.map_append,List.sum_append,ihm];rfl
  | cons a l ih=>
   have h1:=ih fun b hb=>hl b (List.mem_cons_of_mem _ hb);obtain⟨h2,h3⟩:=hl a List.mem_cons_self;have h4:∀(m:Nat),((List.range m).map fun(s:Nat)=>((a :: l).filter fun b=>decide (b.fr=(s:Int))).length).sum=((List.range m).map fun(s:Nat)=>(l.filter fun b=>decide (b.fr=(s:Int))).length).sum+(if a.fr.toNat<m then 1 else 0):=fun m=>by
    induction m with
    | zero=>simp
    | succ m ihm=>
     rw[List.range_succ,List.map_append,List.sum_append,List.map_append,List.sum_append,ihm];simp only[List.map_cons,List.map_nil,List.sum_cons,List.sum_nil,Nat.add_zero];by_cases hm:a.fr=(m:Int)
     ·rw[List.filter_cons_of_pos (by simpa using hm),if_neg (by omega),if_pos (by omega),List.length_cons];omega
     ·rw[List.filter_cons_of_neg (by simpa using hm)]
      by_cases hlt:a.fr.toNat<m
      ·rw[if_pos hlt,if_pos (by omega)];omega
      ·rw[if_neg hlt,if_neg (by omega)];omega
   rw[h4,h1,if_pos (by omega),List.length_cons]
 exact key N.arcs fun a ha=>⟨(hok.arc a ha).1,(hok.arc a ha).2.1⟩
def MakeOut(H H':AH)(sigma:List ByteArray)(err:Int)(P:List ByteArray→List ByteArray→Prop)(Q:NetD→Prop)(r:Value):Prop:=
 Kept H H'∧∃mv,r=.tuple #[mv,.int .i64 err]∧(err≠0→mv=zeroNet)∧(err=0→∃M:NetD,(∀H2,(∀y,H.next≤y→H2.objs.get y=H'.objs.get y)→Nonempty (A8v H2 mv M))∧A3g M∧A9j M=0∧M.sigma=sigma∧(∀x y,A3k M x y↔P x y)∧Q M)
theorem MakeOut.put{H H3 H4:AH}{go:Nat}{sigma:List ByteArray}{P:List ByteArray→List ByteArray→Prop}{Q:NetD→Prop}{mv:Value}{M:NetD}(sl:Slot H3 go)(gol:H.next≤go)(k3:Kept H H3)(k4:Kept H3 H4){base:Nat}(hb:H3.next≤base)(hM:∀H2,(∀y,base≤y→H2.objs.get y=H4.objs.get y)→Nonempty (A8v H2 mv M))(m1:A3g M)(m2:A9j M=0)(m3:M.sigma=sigma)(m4:∀x y,A3k M x y↔P x y)(m5:Q M):
  ∃H5 sg ar en,mv=.agg #[sg,.int .i64 M.states,ar,en]∧A0e Tryz.prog 26 H4 mv (.pointer (some ⟨go,0,some 0⟩))=some H5∧H5.cells ⟨go,0,some 0⟩ 4=some [sg,.int .i64 M.states,ar,en]∧Wf H5∧MakeOut H H5 sigma 0 P Q (.tuple #[.agg [sg,.int .i64 M.states,ar,en].toArray,.int .i64 0]):=by
 obtain⟨⟨sgM,arM,enM,rfl,z1,z2,z3⟩⟩:=hM H4 fun _ _=>rfl
 obtain⟨H5,s5,c5,z5,x5⟩:=sl.put k4 z1.isCell (show isCell (.int .i64 M.states)=true from rfl) z2.isCell z3.isCell;have hgl:=sl.lt;refine⟨H5,sgM,arM,enM,rfl,s5,c5,z5.wf,(k3.trans k4).then gol (z5.weak fun y hy=>by omega),_,rfl,fun h=>absurd rfl h,fun _=>⟨M,fun H6 h6=>hM H6 fun y hy=>(h6 y (by have:=k3.next;omega)).trans ?_,m1,m2,m3,m4,m5⟩⟩;by_cases hyl:y<H4.next
 ·exact z5.old y hyl (by omega)
 ·have q1:=C5m k4.wf (y:=y) (by omega)
  have q2:=C5m z5.wf (y:=y) (by omega);rw[q1,q2]
def fStr(e:GE):Int×Int:=(e.2.1,e.2.2.1)
theorem turn_str(E:List (List GE)):A2p fStr E=E:=by
 unfold A2p;have:∀r:List GE,r.map (B4k fStr)=r:=fun r=>by
  induction r with
  | nil=>rfl
  | cons e r ih=>rw[List.map_cons,ih];rfl
 induction E with
 | nil=>rfl
 | cons r E ih=>rw[List.map_cons,ih,this]
theorem B90{H:AH}{e:Nat×Int×Int×Int}(hw:Wf H):Sh.Call Tryz.prog (knows 7) 43 [.agg (A6c e).toArray] H (fun r H'=>Kept H H'∧r=.tuple #[.int .i64 (fStr e).1,.int .i64 (fStr e).2]):=by
 refine A3a rfl Tryz.func43 rfl (Nat.le_of_ble_eq_true rfl) ?_;have hres:Tryz.f43.results.toList=[.tmp 2,.tmp 3]:=rfl;have c1:(H.new 4 (A6c e)).2.cell ⟨H.next,1,some 0⟩=some (.int .i64 e.2.1):=A3i _ _ _;have c2:(H.new 4 (A6c e)).2.cell ⟨H.next,2,some 0⟩=some (.int .i64 e.2.2.1):=A3i _ _ _;simp only[↓Sh.dn,sx,Nat.reduceEqDiff,C5x]
 first|refine(A9a (by kernel_rfl)).2 ?_|skip
 simp only[sx,Nat.reduceEqDiff,c1,c2,hres];exact⟨Kept.new hw 4 _,rfl⟩
theorem B7v{H:AH}(hw:Wf H):Sh.Call Tryz.prog (knows 7) 18 [] H (fun r H'=>Kept H H'∧r=.agg #[.func (.func 43) #[] #[]]):=by
 refine A3a rfl Tryz.func18 rfl (Nat.le_of_ble_eq_true rfl) ?_;have hres:Tryz.f18.results.toList=[.cell 0 52]:=rfl;have ca:(H.new 1 [Value.func (.func 43) #[] #[]]).2.cells ⟨H.next,0,some 0⟩ 1=some [Value.func (.func 43) #[] #[]]:=(Sh.Obj.new (H:=H) 1 _).cells (i:=0) (n:=1) (by simp);have hc:isCell (Value.func (.func 43) #[] #[])=true:=rfl;simp only[↓Sh.dn,sx,reduceCtorEq,B7m (show isCell .nilFunc=true from rfl),B68 hc,B96 hc,C8p,hres,ca];exact Kept.new hw 1 _
theorem sideTurn{H:AH}{e:Nat×Int×Int×Int}(hw:Wf H):Sh.Call Tryz.prog (knows 7) 57 [.agg (A6c e).toArray] H (fun r H'=>Kept H H'∧r=.tuple #[.int .i64 (C09 e).1,.int .i64 (C09 e).2]):=by
 refine A3a rfl Tryz.func57 rfl (Nat.le_of_ble_eq_true rfl) ?_;have hres:Tryz.f57.results.toList=[.tmp 2,.tmp 3]:=rfl;have c1:(H.new 4 (A6c e)).2.cell ⟨H.next,1,some 0⟩=some (.int .i64 e.2.1):=A3i _ _ _;have c2:(H.new 4 (A6c e)).2.cell ⟨H.next,2,some 0⟩=some (.int .i64 e.2.2.1):=A3i _ _ _;simp only[↓Sh.dn,sx,Nat.reduceEqDiff,C5x]
 first|refine(A9a (by kernel_rfl)).2 ?_|skip
 simp only[sx,Nat.reduceEqDiff,c1,c2,hres];exact⟨Kept.new hw 4 _,rfl⟩
theorem C99{H:AH}(hw:Wf H):Sh.Call Tryz.prog (knows 7) 24 [] H (fun r H'=>Kept H H'∧r=.agg #[.func (.func 57) #[] #[]]):=by
 refine A3a rfl Tryz.func24 rfl (Nat.le_of_ble_eq_true rfl) ?_;have hres:Tryz.f24.results.toList=[.cell 0 52]:=rfl;have ca:(H.new 1 [Value.func (.func 57) #[] #[]]).2.cells ⟨H.next,0,some 0⟩ 1=some [Value.func (.func 57) #[] #[]]:=(Sh.Obj.new (H:=H) 1 _).cells (i:=0) (n:=1) (by simp);have hc:isCell (Value.func (.func 57) #[] #[])=true:=rfl;simp only[↓Sh.dn,sx,reduceCtorEq,B7m (show isCell .nilFunc=true from rfl),B68 hc,B96 hc,C8p,hres,ca];exact Kept.new hw 1 _
def A8k(l:List ByteArray):Int:=if (decide (60<l.length)||A6k l)=true then 3 else if l.all A5u=true then 0 else 1
theorem refWord{H:AH}{v:Value}{l:List ByteArray}(hs:Sl H v 1 (l.map A7a))(hl:l.length≤1048576)(hlx:∀x∈l,x.size≤1048576)(hw:Wf H):
  Sh.Call Tryz.prog (knows 7) 20 [v] H (fun r H'=>Kept H H'∧r=.int .i64 (A8k l)):=by
 refine A3a rfl Tryz.func20 rfl (Nat.le_of_ble_eq_true rfl) ?_;have hres:Tryz.f20.results.toList=[.tmp 2]:=rfl;have hlen:=hs.len Tryz.underlying22 H;have e60:decide ((60:Int)<((l.length:Nat):Int))=decide (60<l.length):=by by_cases h:60<l.length<;>simp[h]<;>omega
 simp only[↓Sh.dn,sx,reduceCtorEq,hlen,List.length_map,e60];by_cases h60:60<l.length
 ·simp only[↓Sh.dn,sx,Nat.reduceEqDiff,h60,decide_true,hres,A8k,Kept.refl hw]
 ·simp only[↓Sh.dn,sx,reduceCtorEq,Nat.reduceEqDiff,h60,decide_false]
  obtain⟨r1,H1,hd1,hk1,rfl⟩:=C45 hs hl hw;refine⟨_,_,hd1,?_⟩;cases hL:(l.any fun s=>decide (16<s.size)) with
  | true=>simp only[↓Sh.dn,sx,hres,hL,A8k,A6k,h60,decide_false,hk1]
  | false=>
   simp only[↓Sh.dn,sx,reduceCtorEq];obtain⟨r2,H2,hd2,rfl,rfl⟩:=B6s (hs.grow (hk1.grow hw)) hl hlx hk1.wf;refine⟨_,_,hd2,?_⟩;cases hA:l.all A5u with
   | false=>simp only[↓Sh.dn,sx,hres,hL,hA,A8k,A6k,h60,decide_false,hk1]
   | true=>simp only[↓Sh.dn,sx,hres,hL,hA,A8k,A6k,h60,decide_false,hk1]
theorem symsWord{H:AH}{v:Value}{l:List ByteArray}(hs:Sl H v 1 (l.map A7a))(hl:l.length≤1048576)(hlx:∀x∈l,x.size≤1048576)(hw:Wf H):
  Sh.Call Tryz.prog (knows 7) 32 [v] H (fun r H'=>Kept H H'∧r=.int .i64 (A8k l)):=by
 refine A3a rfl Tryz.func32 rfl (Nat.le_of_ble_eq_true rfl) ?_;have hres:Tryz.f32.results.toList=[.tmp 2]:=rfl;have hlen:=hs.len Tryz.underlying22 H;have e60:decide ((60:Int)<((l.length:Nat):Int))=decide (60<l.length):=by by_cases h:60<l.length<;>simp[h]<;>omega
 simp only[↓Sh.dn,sx,reduceCtorEq,hlen,List.length_map,e60];by_cases h60:60<l.length
 ·simp only[↓Sh.dn,sx,Nat.reduceEqDiff,h60,decide_true,hres,A8k,Kept.refl hw]
 simp only[↓Sh.dn,sx,reduceCtorEq,Nat.reduceEqDiff,h60,decide_false];obtain⟨r1,H1,hd1,hk1,rfl⟩:=A2u (caps:=[]) (fid:=70) (fun s=>decide (16<s.size)) hs hl hw (fun H' hk x hx=>(B1u (H:=H') (x:=x)).mono fun r H'' h=>by rcases h with⟨rfl,h⟩;exact⟨Kept.refl hk.wf,h⟩);refine⟨_,_,hd1,?_⟩;cases hL:(l.any fun s=>decide (16<s.size)) with
 | true=>simp only[↓Sh.dn,sx,hres,hL,A8k,A6k,h60,decide_false,hk1]
 | false=>
  have hs1:=hs.grow (hk1.grow hw);have h16:∀x∈l,decide (x.size≤16)=true:=by
   intro x hx;have:=List.any_eq_false.1 hL x hx;simp only[decide_eq_true_eq,Nat.not_lt]at this
   simpa using this
  have hsy:∀x∈l,A5u x=chOk x:=by intro x hx;rw[B9q,h16 x hx,Bool.and_true]
  obtain⟨r2,H2,hd2,hk2,rfl⟩:=A2u (caps:=[]) (fid:=71) (fun s=>!chOk s) hs1 hl hk1.wf (fun H' hk x hx=>by
   refine A3a rfl Tryz.func71 rfl (Nat.le_of_ble_eq_true rfl) ?_;have hres:Tryz.f71.results.toList=[.tmp 2]:=rfl;obtain⟨r3,H3,hd3,rfl,rfl⟩:=B4a (H:=H') (x:=x) (hlx x hx);simp only[↓Sh.dn,sx,reduceCtorEq];refine⟨_,_,hd3,?_⟩;simp only[sx,hres,Kept.refl hk.wf])
  simp only[↓Sh.dn,sx,reduceCtorEq];refine⟨_,_,hd2,?_⟩;have hall:(l.any fun s=>!chOk s)=!l.all A5u:=by
   rw[List.all_eq_not_any_not,Bool.not_not];apply Bool.eq_iff_iff.2;simp only[List.any_eq_true];exact⟨fun⟨x,h1,h2⟩=>⟨x,h1,by rw[hsy x h1];exact h2⟩,fun⟨x,h1,h2⟩=>⟨x,h1,by rw[←hsy x h1];exact h2⟩⟩
  cases hA:l.all A5u with
  | false=>
   rw[hA]at hall;simp only[↓Sh.dn,sx,hres,hL,hA,hall,A8k,A6k,h60,decide_false,hk1.trans hk2]
  | true=>
   rw[hA]at hall;simp only[↓Sh.dn,sx,hres,hL,hA,hall,A8k,A6k,h60,decide_false,hk1.trans hk2]
theorem C3m{w:List ByteArray}(h:A8k w=0):w.length≤60:=by
 unfold A8k at h;split at h
 ·cases h
 ·rename_i h1
  simp only[Bool.or_eq_true,decide_eq_true_eq,not_or]at h1;omega
structure ImgW(N:NetD)(x:List ByteArray)(f:GE→Int×Int)(R:List (List GE))(es cs:List Int)(m:Nat):Prop where
 le:R.length=m
 ln:es.length=m
 lc:cs.length=m
 n1:1≤m
 n2:m≤(x.length+1)*N.states.toNat
 to:∀r∈R,∀e∈r,e.1<m∧e.2.1<(N.sigma.length:Int)∧e.2.2.1<(N.sigma.length:Int)∧e.2.2.2=0
 row:∀r∈R,r.length≤60000
 sum:(R.map List.length).sum≤(x.length+1)*N.arcs.length
 zero:∀s,cs.getD s 0=0
 like:∀r∈R,∀e∈r,e.2.1=e.2.2.1
 rel:∀u v,RelP (A8m R) (endP es) u v↔u=v∧RelP (A8m (A2p f (A1l N))) (endP (A8j N N.ends)) (x.map (ixN N.sigma)) u
theorem relImgW{H:AH}{v ux:Value}{N:NetD}{x:List ByteArray}{fid:Nat}(f:GE→Int×Int)(hp:∀{H:AH} (e:GE),Wf H→Sh.Call Tryz.prog (knows 7) fid [.agg (A6c e).toArray] H (fun r H'=>Kept H H'∧r=.tuple #[.int .i64 (f e).1,.int .i64 (f e).2]))
  (hf:∀{m:Int} (e:GE),0≤m→e.2.1<m→e.2.2.1<m→(f e).1<m∧(f e).2<m) (h:A8v H v N) (hsm:A3g N) (hE:A9j N=0) (hx:Sl H ux 1 (x.map A7a)) (hxl:x.length≤60) (hsz:(x.length+1)*N.states.toNat≤100000) (hw:Wf H):
  Sh.Call Tryz.prog (knows 7) 41 [v,ux,.agg #[.func (.func fid) #[] #[]]] H (fun r H'=>Kept H H'∧(x.all (A3n N.sigma)=false→r=.tuple #[.pointer none,.bool false])∧(x.all (A3n N.sigma)=true→∃g,r=.tuple #[.pointer (some ⟨g,0,some 0⟩),.bool true]∧∃(X:Nat→Prop) (R:List (List GE)) (es cs:List Int) (m:Nat),GrX H' X g N.sigma (A9d R) es cs∧ImgW N x f R es cs m)):=by
 refine A3a rfl Tryz.func41 rfl (Nat.le_of_ble_eq_true rfl) ?_;have hres:Tryz.f41.results.toList=[.tmp 6,.tmp 7]:=rfl;obtain⟨okN,_,_⟩:=A3t hE;obtain⟨sg,ar,en,rfl,hsg,har,hen⟩:=h;have hb1:=NetBox.of (N:=N) hw hsg har hen;have k1:Kept H (H.new 4 [sg,.int .i64 N.states,ar,en]).2:=Kept.new hw 4 _;simp only[↓Sh.dn,sx,Nat.reduceEqDiff,A3u hsg.isCell har.isCell hen.isCell];generalize H.next=gg at hb1 ⊢;generalize (H.new 4 [sg,.int .i64 N.states,ar,en]).2=H1 at hb1 k1 ⊢;have hc:isCell (Value.func (.func fid) #[] #[])=true:=rfl;have ks:=Kept.new k1.wf 1 [Value.func (.func fid) #[] #[]];have cs2:(H1.new 1 [Value.func (.func fid) #[] #[]]).2.cells ⟨H1.next,0,some 0⟩ 1=some [Value.func (.func fid) #[] #[]]:=(Sh.Obj.new (H:=H1) 1 _).cells (i:=0) (n:=1) (by simp);have hb2:=hb1.kept k1.wf ks;have k2:=k1.trans ks;simp only[sx,B7m hc];generalize H1.next=gs at cs2 ⊢;generalize (H1.new 1 [Value.func (.func fid) #[] #[]]).2=H2 at cs2 hb2 k2 ks ⊢;obtain⟨r3,H3,hd3,k3,zw,rfl,hzw⟩:=C83 hb2.hsg okN.asc hsm.sg (hx.grow (k2.grow hw)) (by omega) k2.wf;simp only[sx,hb2.c0];refine⟨_,_,hd3,?_⟩;have k13:=k2.trans k3;cases hax:x.all (A3n N.sigma) with
 | false=>
  simp only[↓Sh.dn,sx,Nat.reduceEqDiff,hres];exact k13
 | true=>
 obtain⟨bw,hbw,_⟩:=hzw hax;have hxm:∀z∈x,z∈N.sigma:=fun z hz=>A3h.1 (List.all_eq_true.1 hax z hz);rw[ix_cells okN.asc hxm]at hbw;have hb3:=hb2.kept k2.wf k3;have a1:=okN.st1;have a2:=okN.st2;obtain⟨r4,H4,hd4,k4,g1,rfl,base1,hbase1,hG1⟩:=graphOf hb3.netAt okN hsm k3.wf;rw[←B66 okN]at hG1;obtain⟨r5,H5,hd5,k5,g2,X2,rfl,hX2⟩:=C87 (n:=N.states.toNat) (fid:=fid) f (hG1.own k4.wf) hp (B9t N) (A81 N) (A24 N) (by omega) (by omega) hsm.sg (B4r hE) k4.wf;have k35:=k4.trans k5;have hw5:=hbw.toSl.grow (k35.grow k3.wf);have hwl:(x.map (ixN N.sigma)).length=x.length:=List.length_map _;have hTR:=turn_row (f:=f) (B4r hE);have hTO:=turn_ok (f:=f) (n:=N.states.toNat) (m:=(N.sigma.length:Int)) (fun e h1 h2=>hf e (Int.natCast_nonneg _) h1 h2) (B6e hE);have hTL:(A2p f (A1l N)).length=N.states.toNat:=by rw[C74,B9t]
 obtain⟨r6,H6,hd6,k6,g3,rfl,X3,hX3⟩:=C9r hX2 hw5 hTL (A81 N) (A24 N) (by omega) (by omega) (by rw[hwl];omega) hsm.sg hTR k5.wf;have hn0:0<N.states.toNat:=by omega
 have hIO:=imgE_ok (w:=x.map (ixN N.sigma)) hn0 hTO;have hIR:=imgE_row (n:=N.states.toNat) (w:=x.map (ixN N.sigma)) (fun r hr=>(hTR r hr).1);have hIS:=imgE_sum (w:=x.map (ixN N.sigma)) hn0 hTL;have hIL:(imgE N.states.toNat (x.map (ixN N.sigma)) (A2p f (A1l N))).length=(x.length+1)*N.states.toNat:=by rw[imgE_len,hwl]
 have hil:=fun u v=>img_rel' (w:=x.map (ixN N.sigma)) (E:=A2p f (A1l N)) (ends:=A8j N N.ends) hn0 (A81 N) (C4y fun r hr e he=>(B6e hE r hr e he).1) u v;rw[hwl]at hX3 hil hIS hIO;rw[turn_sum,C3s hE]at hIS;have hn3:1≤(x.length+1)*N.states.toNat:=Nat.mul_pos (by omega) hn0;have hel:(List.replicate (x.length*N.states.toNat) 0++A8j N N.ends).length=(x.length+1)*N.states.toNat:=by rw[List.length_append,List.length_replicate,A81,Nat.succ_mul]
 have hcl:(List.replicate (x.length*N.states.toNat) 0++A5l N N.ends).length=(x.length+1)*N.states.toNat:=by rw[List.length_append,List.length_replicate,A24,Nat.succ_mul]
 have hcz:∀c∈List.replicate (x.length*N.states.toNat) 0++A5l N N.ends,c=0:=fun c hc=>by
  rcases List.mem_append.1 hc with h|h
  ·exact(List.mem_replicate.1 h).2
  ·exact C4s hE c h
 generalize imgE N.states.toNat (x.map (ixN N.sigma)) (A2p f (A1l N))=EI at hX3 hIO hIR hIS hIL hil;generalize List.replicate (x.length*N.states.toNat) 0++A8j N N.ends=eI at hX3 hel hil;generalize List.replicate (x.length*N.states.toNat) 0++A5l N N.ends=cI at hX3 hcl hcz;obtain⟨n3,hn3e⟩:∃n3,(x.length+1)*N.states.toNat=n3:=⟨_,rfl⟩
 rw[hn3e]at hsz hIL hn3 hel hcl hIO;obtain⟨sv,av,ev,cv,vals,hR⟩:=hX3.read;have hPG:PG H6 g3 n3 60000 EI eI sv av ev cv vals N.sigma cI:=⟨hR,hIL,hel,hn3,hsz,fun s r hr=>⟨hIR r (List.mem_of_getElem? hr),fun e he=>(hIO r (List.mem_of_getElem? hr) e he).1⟩⟩
 obtain⟨r7,H7,hd7,k7,g4,rfl,U,R,es,cs,X4,_,hX4,hcs,hzs,hUl,hUi,hT,hm⟩:=C6t hPG hsm.sg hcl k6.wf;have hTok:=hT.ok hIL hUl (m:=0) (Q:=fun l=>l.1<(N.sigma.length:Int)∧l.2.1<(N.sigma.length:Int)∧l.2.2=0∧l.1=l.2.1) fun r hr e he=>hIO r hr e he;have hTsum:=hT.sumAll hIL;have hrel:=hT.rel hIL hUl (fun r hr e he=>(hIO r hr e he).1) hUi;have hImg:ImgW N x f R es cs (1+A2k U n3):=⟨hT.lr,hT.le,hcs,by omega,by rw[hn3e];exact hm,fun r hr e he=>⟨(hTok r hr e he).1,(hTok r hr e he).2.1,(hTok r hr e he).2.2.1,(hTok r hr e he).2.2.2.1⟩,hT.rowLe hIL hUl hIR,by omega,C59 (hzs hcz),fun r hr e he=>(hTok r hr e he).2.2.2.2,fun u v=>(hrel.rel u v).trans (hil u v)⟩
 have cs3:=A0n (k3.grow k2.wf) cs2;have hvqS:veq (.agg #[Value.func (.func fid) #[] #[]]) (.agg #[Value.func (.func fid) #[] #[]])=true:=B5e (by simp[veqs,veq]);have hvqN:veq (.agg #[sg,.int .i64 N.states,ar,en]) (.agg #[sg,.int .i64 N.states,ar,en])=true:=B5e (by simp only[A4z,A35,A9q,hsg.veq,har.veq,hen.veq,Bool.and_self]);have hvz:=hbw.veq;simp only[↓Sh.dn,sx,reduceCtorEq];refine A05 (fl:=[(0,false),(1,false),(4,true),(2,false),(3,true),(5,true),(6,true),(7,true),(8,true)]) (by kernel_rfl) (by kernel_rfl) k3.wf ?_;simp only[↓Sh.dn,sx,reduceCtorEq,Nat.reduceEqDiff,wpg,C8b,isEff,A2e,isRead,forall_eq',hb3.ca,hvqN,cs3];refine⟨hvqS,_,_,hd4,k4.wf,k4.grow k3.wf,?_⟩
 first|refine⟨_,_,hd5,k5.wf,k5.grow k4.wf,?_⟩|refine⟨_,_,hd5,k5.wf,?_⟩
 first|refine⟨_,_,hd6,k6.wf,k6.grow k5.wf,?_⟩|refine⟨_,_,hd6,k6.wf,?_⟩
 refine⟨_,_,hd7,k7.wf,?_⟩;simp only[sx,Nat.reduceEqDiff,hres];exact⟨k13.trans ((k35.trans k6).trans k7),g4,rfl,X4,R,es,cs,hX4,_,hImg⟩
end Go.Proofs.YtjjgodccecehlaaGreat
