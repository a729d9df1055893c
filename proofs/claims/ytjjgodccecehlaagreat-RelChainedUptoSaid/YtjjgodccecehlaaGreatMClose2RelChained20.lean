/- A part of the proof: TrimPair, ImgPair, MakeKit, Sides2, WordVal, RelImage, CmpLessInt, InsSortInt, SortSmallInt, BitsLen, BreakPatInt, HeapSortInt, PartitionInt, PartInsInt, PdqInt, SortSetInt, GraphRead, GraphClosed, GraphSteps, GraphMore, SpreadAlive, SpreadBeyond, GraphAlive, IndexFuncNat, GraphRun. -/
import Derived.Test.YtjjgodccecehlaaGreatMClose2RelChained18
import Derived.Test.YtjjgodccecehlaaGreatMClose2RelChained10
import Derived.Test.YtjjgodccecehlaaGreatMClose2RelChained14
import Derived.Test.YtjjgodccecehlaaGreatMClose2RelChained19
import Derived.Test.YtjjgodccecehlaaGreatMClose2RelChained16
import Derived.Test.YtjjgodccecehlaaGreatMClose2RelChained8
import Derived.Test.YtjjgodccecehlaaGreatMClose2RelChained2
import Derived.Test.YtjjgodccecehlaaGreatMClose2RelChained1
import Derived.Test.YtjjgodccecehlaaGreatMClose2RelChained6
import Derived.Test.YtjjgodccecehlaaGreatMClose2RelChained17
set_option linter.unusedVariables false
set_option linter.unusedSimpArgs false
/- A trimmed graph as a relation. -/
set_option maxHeartbeats 4000000
set_option maxRecDepth 20000
namespace Go.Proofs.YtjjgodccecehlaaGreat
open Go Go.Proofs Go.Proofs.Sh
theorem C35{E:List (List GE)}{s t:Nat}:A1e E (fun _=>True) s t↔∃a b,A5f E s a b t:=by
 unfold A1e A5f;constructor
 ·rintro⟨r,h1,e,h2,h3,_⟩;exact⟨_,_,r,h1,e,h2,h3,rfl,rfl⟩
 ·rintro⟨a,b,r,h1,e,h2,h3,_⟩;exact⟨r,h1,e,h2,h3,trivial⟩
theorem TrimI.rel{E:List (List GE)}{ends:List Int}{U:List Bool}{n:Nat}{R:List (List GE)}{es:List Int}(h:TrimI E ends U (1+A0j U n) n R es)(hE:E.length=n)(hU:U.length=n)(hto:∀r∈E,∀e∈r,e.1<n)(hu:∀t:Nat,U[t]?=some true↔A55 E ends t):
  TrimR (A5f E) (A5f R) (fun s=>U[s]?=some true) (numU U) (endP ends) (endP es):=by
 have hlt:∀s,U[s]?=some true→s<n:=fun s hs=>by rw[←hU];exact(List.getElem?_eq_some_iff.1 hs).1
 refine⟨fun x a b y=>?_,fun a=>?_,B3g U,fun s t hs ht he=>B1f hs ht he,fun s=>?_⟩
 ·constructor
  ·rintro⟨r',h1,e',h2,h3,h4,h5⟩
   by_cases hex:∃s,U[s]?=some true∧numU U s=x
   ·obtain⟨s,hs,rfl⟩:=hex
    have hsn:=hlt s hs;have hr:E[s]?=some (E[s]'(by rw[hE];exact hsn)):=List.getElem?_eq_getElem _;generalize E[s]'(by rw[hE];exact hsn)=r at hr;rw[h.row s r hsn hs hr]at h1;rw[←Option.some.inj h1]at h2;obtain⟨e,h6,h7⟩:=List.mem_map.1 h2;obtain⟨h8,h9⟩:=List.mem_filter.1 h6;subst h7;exact⟨s,e.1,hs,of_decide_eq_true h9,rfl,h3.symm,r,hr,e,h8,rfl,h4,h5⟩
   ·have ha:x<1+A0j U n:=by rw[←h.lr];exact(List.getElem?_eq_some_iff.1 h1).1
    rw[h.non x ha fun s _ hs he=>hex ⟨s,hs,he⟩]at h1;rw[←Option.some.inj h1]at h2;cases h2
  ·rintro⟨s,t,hs,ht,rfl,rfl,r,h1,e,h2,h3,h4⟩
   refine⟨_,h.row s r (hlt s hs) hs h1,(numU U e.1,e.2),List.mem_map.2 ⟨e,List.mem_filter.2 ⟨h2,decide_eq_true (by rw[h3];exact ht)⟩,rfl⟩,by rw[h3],h4⟩
 ·unfold endP
  constructor
  ·intro ha
   by_cases hex:∃s,U[s]?=some true∧numU U s=a
   ·obtain⟨s,hs,rfl⟩:=hex
    exact⟨s,hs,rfl,by rw[←h.fin s (hlt s hs) hs];exact ha⟩
   ·rw[h.nof a fun s _ hs he=>hex ⟨s,hs,he⟩]at ha
    exact absurd ha (Int.lt_irrefl 0)
  ·rintro⟨s,hs,rfl,h1⟩
   rw[h.fin s (hlt s hs) hs];exact h1
 ·rw[hu]
  unfold A55;have e1:(A1e E fun _=>True)=fun s t=>∃a b,A5f E s a b t:=funext fun s=>funext fun t=>propext C35;rw[e1];rfl
theorem TrimI.ok{E:List (List GE)}{ends:List Int}{U:List Bool}{n:Nat}{R:List (List GE)}{es:List Int}(h:TrimI E ends U (1+A0j U n) n R es)(hE:E.length=n)(hU:U.length=n){m:Int}{Q:Int×Int×Int→Prop}(hto:∀r∈E,∀e∈r,e.1<n∧Q e.2):∀r∈R,∀e∈r,e.1<1+A0j U n∧Q e.2:=by
 have hk:∃k,∀r∈E,r.length≤k:=by
  clear h hE hU hto
  induction E with
  | nil=>exact⟨0,fun r hr=>by cases hr⟩
  | cons q E ih=>
   obtain⟨k,hk⟩:=ih;refine⟨k+q.length,fun r hr=>?_⟩;rcases List.mem_cons.1 hr with h|h
   ·rw[h];omega
   ·have:=hk r h;omega
 obtain⟨k,hk⟩:=hk;intro r hr;obtain⟨s,hs⟩:=List.mem_iff_getElem?.1 hr;exact(h.to hE hU (k:=k) (fun s r hr=>⟨hk r (List.mem_of_getElem? hr),hto r (List.mem_of_getElem? hr)⟩) s r hs).2
theorem TrimI.sumAll{E:List (List GE)}{ends:List Int}{U:List Bool}{n m:Nat}{R:List (List GE)}{es:List Int}(h:TrimI E ends U m n R es)(hE:E.length=n):(R.map List.length).sum≤(E.map List.length).sum:=by
 have:=h.sum
 rwa [List.take_of_length_le (by omega)]at this
theorem TrimI.rowLe{E:List (List GE)}{ends:List Int}{U:List Bool}{n:Nat}{R:List (List GE)}{es:List Int}(h:TrimI E ends U (1+A0j U n) n R es)(hE:E.length=n)(hU:U.length=n){k:Nat}(hk:∀r∈E,r.length≤k):∀r∈R,r.length≤k:=by
 intro r' hr';obtain⟨x,h1⟩:=List.mem_iff_getElem?.1 hr';by_cases hex:∃s,U[s]?=some true∧numU U s=x
 ·obtain⟨s,hs,rfl⟩:=hex
  have hsn:s<n:=by rw[←hU];exact(List.getElem?_eq_some_iff.1 hs).1
  obtain⟨r,hr⟩:∃r,E[s]?=some r:=⟨E[s]'(by rw[hE];exact hsn),List.getElem?_eq_getElem _⟩
  have hkk:=hk r (List.mem_of_getElem? hr);rw[h.row s r hsn hs hr]at h1;rw[←Option.some.inj h1];unfold A5i;rw[List.length_map];exact Nat.le_trans (List.length_filter_le _ _) hkk
 ·have ha:x<1+A0j U n:=by rw[←h.lr];exact(List.getElem?_eq_some_iff.1 h1).1
  rw[h.non x ha fun s _ hs he=>hex ⟨s,hs,he⟩]at h1;rw[←Option.some.inj h1];exact Nat.zero_le _
theorem C5w{σ τ α:Type}{A:Arcs σ α}{B:Arcs τ α}{g:σ→τ}{Q:σ→Prop}(h:∀s a b t,Q s→A s a b t→Q t∧B (g s) a b (g t)){s t:σ}{x y:List α}(k:Sh.Way A s x y t)(hs:Q s):Sh.Way B (g s) x y (g t):=by
 induction k with
 | nil s=>exact .nil _
 | cons h1 _ ih=>
  obtain⟨h2,h3⟩:=h _ _ _ _ hs h1;exact .cons h3 (ih h2)
section
variable {n:Nat} {w:List Nat} {E:List (List GE)} {ends:List Int}
theorem C5y(hn:0<n){i s:Nat}(hi:i≤w.length)(hs:s<n):(imgE n w E)[i*n+s]?=some (A5n n w i (E.getD s [])):=by
 have hlt:i*n+s<(w.length+1)*n:=by
  have:i*n≤w.length*n:=Nat.mul_le_mul_right n hi;rw[Nat.succ_mul];omega
 unfold imgE imgP;rw[List.getElem?_map,List.getElem?_range hlt];unfold C0d;have e1:(i*n+s)/n=i:=by rw[Nat.mul_comm,Nat.mul_add_div hn,Nat.div_eq_of_lt hs];omega
 have e2:(i*n+s) % n=s:=by rw[Nat.mul_comm,Nat.mul_add_mod,Nat.mod_eq_of_lt hs]
 rw[Option.map_some,e1,e2]
theorem C9m(hn:0<n)(hto:∀r∈E,∀e∈r,e.1<n){i s:Nat}(hi:i≤w.length)(hs:s<n)(a b:Option Nat)(k:Nat):A5f (imgE n w E) (i*n+s) a b k↔∃j t,k=j*n+t∧t<n∧j≤w.length∧imgA (A5f E) w (i,s) a b (j,t):=by
 have ht:∀e∈E.getD s [],e.1<n:=fun e he=>by
  rw[List.getD_eq_getElem?_getD]at he;cases h:E[s]? with
  | none=>rw[h]at he;cases he
  | some r=>rw[h]at he;exact hto r (List.mem_of_getElem? h) e he
 have hr:∀e,e∈E.getD s []↔∃r,E[s]?=some r∧e∈r:=fun e=>by
  rw[List.getD_eq_getElem?_getD];cases h:E[s]? with
  | none=>simp
  | some r=>simp
 unfold imgA;constructor
 ·rintro⟨r,h1,e,h2,h3,h4,h5⟩
  rw[C5y hn hi hs]at h1;rw[←Option.some.inj h1]at h2;obtain⟨e0,h6,h7⟩:=List.mem_flatMap.1 h2;have h8:=ht e0 h6;obtain⟨r0,h9,h10⟩:=(hr e0).1 h6;unfold A9o at h7;split at h7
  ·rename_i hneg
   have e1:=List.mem_singleton.1 h7;subst e1;refine⟨i,e0.1,h3.symm,h8,hi,by rw[←h4,←h5],none,⟨r0,h9,e0,h10,rfl,?_,h5⟩,rfl⟩;unfold labN;rw[if_pos hneg]
  ·rename_i hneg
   split at h7
   ·rename_i hw
    have e1:=List.mem_singleton.1 h7;subst e1;obtain⟨c,hc,he⟩:=Option.map_eq_some_iff.1 hw;have hil:=(List.getElem?_eq_some_iff.1 hc).1;refine⟨i+1,e0.1,h3.symm,h8,by omega,by rw[←h4,←h5],some c,⟨r0,h9,e0,h10,rfl,?_,h5⟩,hc,rfl⟩;unfold labN;rw[if_neg hneg,←he];rfl
   ·cases h7
 ·rintro⟨j,t,rfl,h2,h3,h4,c,⟨r,h5,e,h6,h7,h8,h9⟩,h10⟩
  simp only at h4 h5 h7 h8 h9 h10;subst h4;refine⟨_,C5y hn hi hs,(j*n+t,e.2.2.1,e.2.2.1,e.2.2.2),List.mem_flatMap.2 ⟨e,(hr e).2 ⟨r,h5,h6⟩,?_⟩,rfl,h9,h9⟩;unfold A9o;cases c with
  | none=>
   have hj:j=i:=h10;have hneg:e.2.1<0:=by
    unfold labN at h8;split at h8
    ·assumption
    ·cases h8
   rw[if_pos hneg,hj,h7];exact List.mem_singleton.2 rfl
  | some c=>
   obtain⟨h11,rfl⟩:=h10;have hpos:¬e.2.1<0∧e.2.1=(c:Int):=by
    unfold labN at h8;split at h8
    ·cases h8
    ·rename_i h12
     have:=Option.some.inj h8;exact⟨h12,by omega⟩
   rw[if_neg hpos.1,h11,Option.map_some,hpos.2,if_pos rfl,h7];exact List.mem_singleton.2 rfl
theorem C0x(hn:0<n)(hl:ends.length=n){j t:Nat}(hj:j≤w.length)(ht:t<n):endP (List.replicate (w.length*n) 0++ends) (j*n+t)↔j=w.length∧endP ends t:=by
 unfold endP;rw[List.getD_eq_getElem?_getD];by_cases h:j=w.length
 ·subst h
  rw[List.getElem?_append_right (by rw[List.length_replicate];omega),List.length_replicate,Nat.add_sub_cancel_left,←List.getD_eq_getElem?_getD];simp
 ·have : j * n + t < w.length * n := by
    have : (j + 1)*n ≤ w.length*n := Nat.mul_le_mul_right n (by omega);rw[Nat.succ_mul]at this;omega
  rw[List.getElem?_append_left (by rw[List.length_replicate];exact this), List.getElem?_replicate, if_pos this];simp[h]
theorem img_rel'(hn:0<n)(hl:ends.length=n)(hto:∀r∈E,∀e∈r,e.1<n)(u v:List Nat):RelP (A5f (imgE n w E)) (endP (List.replicate (w.length*n) 0++ends)) u v↔u=v∧RelP (A5f E) (endP ends) w u:=by
 rw[←img_rel];have g0:(0:Nat)*n+0=0:=by simp
 constructor
 ·rintro⟨k,h1,h2⟩
  rw[←g0]at h2;obtain⟨⟨j,t⟩,rfl,⟨h3,h4⟩,h5⟩:=Way.pull (A:=imgA (A5f E) w) (g:=fun p:Nat×Nat=>p.1*n+p.2) (Q:=fun p=>p.1≤w.length∧p.2<n) (fun p a b k hp hb=>by
   obtain⟨j,t,h3,h4,h5,h6⟩:=(C9m hn hto hp.1 hp.2 a b k).1 hb;exact⟨(j,t),h3,⟨h5,h4⟩,h6⟩) (s:=(0,0)) h2 ⟨Nat.zero_le _,hn⟩
  obtain⟨h6,h7⟩:=(C0x hn hl h3 h4).1 h1;subst h6;exact⟨t,h7,h5⟩
 ·rintro⟨t,h1,h2⟩
  have ht:t<n:=by
   unfold endP at h1;rcases Nat.lt_or_ge t n with h|h
   ·exact h
   ·rw[List.getD_eq_getElem?_getD,List.getElem?_eq_none (by omega)]at h1
    exact absurd h1 (Int.lt_irrefl 0)
  have h3:=C5w (B:=A5f (imgE n w E)) (g:=fun p:Nat×Nat=>p.1*n+p.2) (Q:=fun p=>p.1≤w.length∧p.2<n) (fun p a b q hp hb=>by
   have hq:q.1≤w.length∧q.2<n:=by
    obtain⟨_,c,⟨r,h4,e,h5,h6,_⟩,h7⟩:=hb;exact⟨C2q h7 hp.1,by rw[←h6];exact hto r (List.mem_of_getElem? h4) e h5⟩
   exact⟨hq,(C9m hn hto hp.1 hp.2 a b _).2 ⟨q.1,q.2,rfl,hq.2,hq.1,hb⟩⟩) h2 ⟨Nat.zero_le _,hn⟩
  simp only[g0]at h3;exact⟨_,(C0x hn hl (Nat.le_refl _) ht).2 ⟨rfl,h1⟩,h3⟩
theorem imgE_len:(imgE n w E).length=(w.length+1)*n:=C6k _ _ _ _
theorem imgE_ok(hn:0<n){m:Int}(hto:∀r∈E,∀e∈r,e.1<n∧e.2.1<m∧e.2.2.1<m∧e.2.2.2=0):∀r∈imgE n w E,∀e∈r,e.1<(w.length+1)*n∧e.2.1<m∧e.2.2.1<m∧e.2.2.2=0∧e.2.1=e.2.2.1:=by
 intro r hr e he;obtain⟨k,hk,rfl⟩:=List.mem_map.1 hr;have hk:=List.mem_range.1 hk;obtain⟨e0,h6,h7⟩:=List.mem_flatMap.1 he;have h8:e0.1<n∧e0.2.1<m∧e0.2.2.1<m∧e0.2.2.2=0:=by
  rw[List.getD_eq_getElem?_getD]at h6;cases h:E[k % n]? with
  | none=>rw[h]at h6;cases h6
  | some r=>rw[h]at h6;exact hto r (List.mem_of_getElem? h) e0 h6
 have hq:k/n≤w.length:=by
  have:k/n<w.length+1:=Nat.div_lt_of_lt_mul (by rw[Nat.mul_comm];exact hk);omega
 unfold A9o at h7;split at h7
 ·rw[List.mem_singleton.1 h7]
  refine⟨?_,h8.2.2.1,h8.2.2.1,h8.2.2.2,rfl⟩;have:k/n*n≤w.length*n:=Nat.mul_le_mul_right n hq;show k/n*n+e0.1<_;rw[Nat.succ_mul];omega
 ·split at h7
  ·rename_i hw
   obtain⟨c,hc,_⟩:=Option.map_eq_some_iff.1 hw;have hil:=(List.getElem?_eq_some_iff.1 hc).1;rw[List.mem_singleton.1 h7];refine⟨?_,h8.2.2.1,h8.2.2.1,h8.2.2.2,rfl⟩;have:(k/n+1)*n≤w.length*n:=Nat.mul_le_mul_right n hil;show (k/n+1)*n+e0.1<_;rw[Nat.succ_mul w.length];omega
  ·cases h7
theorem imgE_row{k0:Nat}(hE:∀r∈E,r.length≤k0):∀r∈imgE n w E,r.length≤k0:=by
 intro r hr;obtain⟨k,hk,rfl⟩:=List.mem_map.1 hr;refine Nat.le_trans (B6h _ _ _ _) ?_;rw[List.getD_eq_getElem?_getD];cases h:E[k % n]? with
 | none=>simp
 | some r=>exact hE r (List.mem_of_getElem? h)
theorem C5p(hn:0<n)(hE:E.length=n):∀i,((imgP n w E (i*n)).map List.length).sum≤i*(E.map List.length).sum
 | 0=>by simp[imgP]
 | i+1=>by
  have ih:=C5p hn hE i;have key:∀s,s≤n→((imgP n w E (i*n+s)).map List.length).sum≤i*(E.map List.length).sum+((E.take s).map List.length).sum:=fun s=>by
   induction s with
   | zero=>intro _;simpa using ih
   | succ s ihs=>
    intro hs;have h1:=ihs (by omega);have hsE:s<E.length:=by omega
    have ht:E.take (s+1)=E.take s++[E[s]]:=by rw[List.take_add_one,List.getElem?_eq_getElem hsE];rfl
    have hat:(C0d n w E (i*n+s)).length≤E[s].length:=by
     unfold C0d;have e1:(i*n+s) % n=s:=by rw[Nat.mul_comm,Nat.mul_add_mod,Nat.mod_eq_of_lt (by omega)]
     rw[e1,List.getD_eq_getElem?_getD,List.getElem?_eq_getElem hsE];exact B6h _ _ _ _
    rw[←Nat.add_assoc,B28,ht,List.map_append,List.map_append,List.sum_append,List.sum_append];simp only[List.map_cons,List.map_nil,List.sum_cons,List.sum_nil];omega
  have:=key n (Nat.le_refl _);rw[List.take_of_length_le (by omega)]at this;rw[Nat.succ_mul,Nat.succ_mul];exact this
theorem imgE_sum(hn:0<n)(hE:E.length=n):((imgE n w E).map List.length).sum≤(w.length+1)*(E.map List.length).sum:=C5p hn hE _
end
def MakeOut(H H':AH)(sigma:List ByteArray)(err:Int)(P:List ByteArray→List ByteArray→Prop)(Q:NetD→Prop)(r:Value):Prop:=
 Kept H H'∧∃mv,r=.tuple #[mv,.int .i64 err]∧(err≠0→mv=C4b)∧(err=0→∃M:NetD,(∀H2,(∀y,H.next≤y→H2.objs.get y=H'.objs.get y)→Nonempty (A6v H2 mv M))∧A0f M∧A9f M=0∧M.sigma=sigma∧(∀x y,A3j M x y↔P x y)∧Q M)
theorem MakeOut.bad{H H':AH}{sigma:List ByteArray}{err:Int}{P:List ByteArray→List ByteArray→Prop}{Q:NetD→Prop}(hk:Kept H H')(he:err≠0):MakeOut H H' sigma err P Q (.tuple #[.agg [Value.slice none 0 0,.int .i64 0,.slice none 0 0,.slice none 0 0].toArray,.int .i64 err]):=
 ⟨hk,_,rfl,fun _=>rfl,fun h=>absurd h he⟩
theorem MakeOut.put{H H3 H4:AH}{go:Nat}{sigma:List ByteArray}{P:List ByteArray→List ByteArray→Prop}{Q:NetD→Prop}{mv:Value}{M:NetD}(sl:Slot H3 go)(gol:H.next≤go)(k3:Kept H H3)(k4:Kept H3 H4){base:Nat}(hb:H3.next≤base)(hM:∀H2,(∀y,base≤y→H2.objs.get y=H4.objs.get y)→Nonempty (A6v H2 mv M))(m1:A0f M)(m2:A9f M=0)(m3:M.sigma=sigma)(m4:∀x y,A3j M x y↔P x y)(m5:Q M):
  ∃H5 sg ar en,mv=.agg #[sg,.int .i64 M.states,ar,en]∧A7d Tryz.prog 26 H4 mv (.pointer (some ⟨go,0,some 0⟩))=some H5∧H5.cells ⟨go,0,some 0⟩ 4=some [sg,.int .i64 M.states,ar,en]∧Wf H5∧MakeOut H H5 sigma 0 P Q (.tuple #[.agg [sg,.int .i64 M.states,ar,en].toArray,.int .i64 0]):=by
 obtain⟨⟨sgM,arM,enM,rfl,z1,z2,z3⟩⟩:=hM H4 fun _ _=>rfl
 obtain⟨H5,s5,c5,z5,x5⟩:=sl.put k4 z1.isCell (show isCell (.int .i64 M.states)=true from rfl) z2.isCell z3.isCell;have hgl:=sl.lt;refine⟨H5,sgM,arM,enM,rfl,s5,c5,z5.wf,(k3.trans k4).then gol (z5.weak fun y hy=>by omega),_,rfl,fun h=>absurd rfl h,fun _=>⟨M,fun H6 h6=>hM H6 fun y hy=>(h6 y (by have:=k3.next;omega)).trans ?_,m1,m2,m3,m4,m5⟩⟩;by_cases hyl:y<H4.next
 ·exact z5.old y hyl (by omega)
 ·have q1:=B9e k4.wf (y:=y) (by omega)
  have q2:=B9e z5.wf (y:=y) (by omega);rw[q1,q2]
def fStr(e:GE):Int×Int:=(e.2.1,e.2.2.1)
theorem turn_str(E:List (List GE)):A5q fStr E=E:=by
 unfold A5q;have:∀r:List GE,r.map (B1n fStr)=r:=fun r=>by
  induction r with
  | nil=>rfl
  | cons e r ih=>rw[List.map_cons,ih];rfl
 induction E with
 | nil=>rfl
 | cons r E ih=>rw[List.map_cons,ih,this]
theorem B37{H:AH}{e:Nat×Int×Int×Int}(hw:Wf H):Sh.Call Tryz.prog (knows 7) 43 [.agg (A9a e).toArray] H (fun r H'=>Kept H H'∧r=.tuple #[.int .i64 (fStr e).1,.int .i64 (fStr e).2]):=by
 refine A5a rfl Tryz.func43 rfl (Nat.le_of_ble_eq_true rfl) ?_;have hres:Tryz.f43.results.toList=[.tmp 2,.tmp 3]:=rfl;have c1:(H.new 4 (A9a e)).2.cell ⟨H.next,1,some 0⟩=some (.int .i64 e.2.1):=A9h _ _ _;have c2:(H.new 4 (A9a e)).2.cell ⟨H.next,2,some 0⟩=some (.int .i64 e.2.2.1):=A9h _ _ _;simp only[↓Sh.dn,sx,Nat.reduceEqDiff,geNew]
 first|refine(A7c (by kernel_rfl)).2 ?_|skip
 simp only[sx,Nat.reduceEqDiff,c1,c2,hres];exact⟨Kept.new hw 4 _,rfl⟩
theorem B4u{H:AH}(hw:Wf H):Sh.Call Tryz.prog (knows 7) 18 [] H (fun r H'=>Kept H H'∧r=.agg #[.func (.func 43) #[] #[]]):=by
 refine A5a rfl Tryz.func18 rfl (Nat.le_of_ble_eq_true rfl) ?_;have hres:Tryz.f18.results.toList=[.cell 0 52]:=rfl;have ca:(H.new 1 [Value.func (.func 43) #[] #[]]).2.cells ⟨H.next,0,some 0⟩ 1=some [Value.func (.func 43) #[] #[]]:=(Sh.Obj.new (H:=H) 1 _).cells (i:=0) (n:=1) (by simp);have hc:isCell (Value.func (.func 43) #[] #[])=true:=rfl;simp only[↓Sh.dn,sx,reduceCtorEq,B2u (show isCell .nilFunc=true from rfl),D1d hc,C34 hc,sideOver,hres,ca];exact Kept.new hw 1 _
def A2h(l:List ByteArray):Int:=if (decide (60<l.length)||A8r l)=true then 3 else if l.all A92=true then 0 else 1
theorem C1h{H:AH}{v:Value}{l:List ByteArray}(hs:Sl H v 1 (l.map A6b))(hl:l.length≤1048576)(hlx:∀x∈l,x.size≤1048576)(hw:Wf H):
  Sh.Call Tryz.prog (knows 7) 32 [v] H (fun r H'=>Kept H H'∧r=.int .i64 (A2h l)):=by
 refine A5a rfl Tryz.func32 rfl (Nat.le_of_ble_eq_true rfl) ?_;have hres:Tryz.f32.results.toList=[.tmp 2]:=rfl;have hlen:=hs.len Tryz.underlying22 H;have e60:decide ((60:Int)<((l.length:Nat):Int))=decide (60<l.length):=by by_cases h:60<l.length<;>simp[h]<;>omega
 simp only[↓Sh.dn,sx,reduceCtorEq,hlen,List.length_map,e60];by_cases h60:60<l.length
 ·simp only[↓Sh.dn,sx,Nat.reduceEqDiff,h60,decide_true,hres,A2h,Kept.refl hw]
 simp only[↓Sh.dn,sx,reduceCtorEq,Nat.reduceEqDiff,h60,decide_false];obtain⟨r1,H1,hd1,hk1,rfl⟩:=A2t (caps:=[]) (fid:=70) (fun s=>decide (16<s.size)) hs hl hw (fun H' hk x hx=>(B2s (H:=H') (x:=x)).mono fun r H'' h=>by rcases h with⟨rfl,h⟩;exact⟨Kept.refl hk.wf,h⟩);refine⟨_,_,hd1,?_⟩;cases hL:(l.any fun s=>decide (16<s.size)) with
 | true=>simp only[↓Sh.dn,sx,hres,hL,A2h,A8r,h60,decide_false,hk1]
 | false=>
  have hs1:=hs.grow (hk1.grow hw);have h16:∀x∈l,decide (x.size≤16)=true:=by
   intro x hx;have:=List.any_eq_false.1 hL x hx;simp only[decide_eq_true_eq,Nat.not_lt]at this
   simpa using this
  have hsy:∀x∈l,A92 x=chOk x:=by intro x hx;rw[B4n,h16 x hx,Bool.and_true]
  obtain⟨r2,H2,hd2,hk2,rfl⟩:=A2t (caps:=[]) (fid:=71) (fun s=>!chOk s) hs1 hl hk1.wf (fun H' hk x hx=>by
   refine A5a rfl Tryz.func71 rfl (Nat.le_of_ble_eq_true rfl) ?_;have hres:Tryz.f71.results.toList=[.tmp 2]:=rfl;obtain⟨r3,H3,hd3,rfl,rfl⟩:=B3c (H:=H') (x:=x) (hlx x hx);simp only[↓Sh.dn,sx,reduceCtorEq];refine⟨_,_,hd3,?_⟩;simp only[sx,hres,Kept.refl hk.wf])
  simp only[↓Sh.dn,sx,reduceCtorEq];refine⟨_,_,hd2,?_⟩;have hall:(l.any fun s=>!chOk s)=!l.all A92:=by
   rw[List.all_eq_not_any_not,Bool.not_not];apply Bool.eq_iff_iff.2;simp only[List.any_eq_true];exact⟨fun⟨x,h1,h2⟩=>⟨x,h1,by rw[hsy x h1];exact h2⟩,fun⟨x,h1,h2⟩=>⟨x,h1,by rw[←hsy x h1];exact h2⟩⟩
  cases hA:l.all A92 with
  | false=>
   rw[hA]at hall;simp only[↓Sh.dn,sx,hres,hL,hA,hall,A2h,A8r,h60,decide_false,hk1.trans hk2]
  | true=>
   rw[hA]at hall;simp only[↓Sh.dn,sx,hres,hL,hA,hall,A2h,A8r,h60,decide_false,hk1.trans hk2]
theorem word_len{w:List ByteArray}(h:A2h w=0):w.length≤60:=by
 unfold A2h at h;split at h
 ·cases h
 ·rename_i h1
  simp only[Bool.or_eq_true,decide_eq_true_eq,not_or]at h1;omega
structure ImgW(N:NetD)(x:List ByteArray)(f:GE→Int×Int)(R:List (List GE))(es cs:List Int)(m:Nat):Prop where
 le:R.length=m
 ln:es.length=m
 lc:cs.length=m
 n1:1≤m
 n2:m≤(x.length+1)*N.states.toNat
 to:∀r∈R,∀e∈r,e.1<m∧e.2.1<(N.sigma.length:Int)∧e.2.2.1<(N.sigma.length:Int)∧e.2.2.2=0
 row:∀r∈R,r.length≤60000
 sum:(R.map List.length).sum≤(x.length+1)*N.arcs.length
 zero:∀s,cs.getD s 0=0
 like:∀r∈R,∀e∈r,e.2.1=e.2.2.1
 rel:∀u v,RelP (A5f R) (endP es) u v↔u=v∧RelP (A5f (A5q f (A8f N))) (endP (A1h N N.ends)) (x.map (ixN N.sigma)) u
theorem relImgW{H:AH}{v ux:Value}{N:NetD}{x:List ByteArray}{fid:Nat}(f:GE→Int×Int)(hp:∀{H:AH} (e:GE),Wf H→Sh.Call Tryz.prog (knows 7) fid [.agg (A9a e).toArray] H (fun r H'=>Kept H H'∧r=.tuple #[.int .i64 (f e).1,.int .i64 (f e).2]))
  (hf:∀{m:Int} (e:GE),0≤m→e.2.1<m→e.2.2.1<m→(f e).1<m∧(f e).2<m) (h:A6v H v N) (hsm:A0f N) (hE:A9f N=0) (hx:Sl H ux 1 (x.map A6b)) (hxl:x.length≤60) (hsz:(x.length+1)*N.states.toNat≤100000) (hw:Wf H):
  Sh.Call Tryz.prog (knows 7) 41 [v,ux,.agg #[.func (.func fid) #[] #[]]] H (fun r H'=>Kept H H'∧(x.all (A7r N.sigma)=false→r=.tuple #[.pointer none,.bool false])∧(x.all (A7r N.sigma)=true→∃g,r=.tuple #[.pointer (some ⟨g,0,some 0⟩),.bool true]∧∃(X:Nat→Prop) (R:List (List GE)) (es cs:List Int) (m:Nat),GrX H' X g N.sigma (A8b R) es cs∧ImgW N x f R es cs m)):=by
 refine A5a rfl Tryz.func41 rfl (Nat.le_of_ble_eq_true rfl) ?_;have hres:Tryz.f41.results.toList=[.tmp 6,.tmp 7]:=rfl;obtain⟨okN,_,_⟩:=A7h hE;obtain⟨sg,ar,en,rfl,hsg,har,hen⟩:=h;have hb1:=NetBox.of (N:=N) hw hsg har hen;have k1:Kept H (H.new 4 [sg,.int .i64 N.states,ar,en]).2:=Kept.new hw 4 _;simp only[↓Sh.dn,sx,Nat.reduceEqDiff,A9y hsg.isCell har.isCell hen.isCell];generalize H.next=gg at hb1 ⊢;generalize (H.new 4 [sg,.int .i64 N.states,ar,en]).2=H1 at hb1 k1 ⊢;have hc:isCell (Value.func (.func fid) #[] #[])=true:=rfl;have ks:=Kept.new k1.wf 1 [Value.func (.func fid) #[] #[]];have cs2:(H1.new 1 [Value.func (.func fid) #[] #[]]).2.cells ⟨H1.next,0,some 0⟩ 1=some [Value.func (.func fid) #[] #[]]:=(Sh.Obj.new (H:=H1) 1 _).cells (i:=0) (n:=1) (by simp);have hb2:=hb1.kept k1.wf ks;have k2:=k1.trans ks;simp only[sx,B2u hc];generalize H1.next=gs at cs2 ⊢;generalize (H1.new 1 [Value.func (.func fid) #[] #[]]).2=H2 at cs2 hb2 k2 ks ⊢;obtain⟨r3,H3,hd3,k3,zw,rfl,hzw⟩:=B9g hb2.hsg okN.asc hsm.sg (hx.grow (k2.grow hw)) (by omega) k2.wf;simp only[sx,hb2.c0];refine⟨_,_,hd3,?_⟩;have k13:=k2.trans k3;cases hax:x.all (A7r N.sigma) with
 | false=>
  simp only[↓Sh.dn,sx,Nat.reduceEqDiff,hres];exact k13
 | true=>
 obtain⟨bw,hbw,_⟩:=hzw hax;have hxm:∀z∈x,z∈N.sigma:=fun z hz=>A9g.1 (List.all_eq_true.1 hax z hz);rw[B3w okN.asc hxm]at hbw;have hb3:=hb2.kept k2.wf k3;have a1:=okN.st1;have a2:=okN.st2;obtain⟨r4,H4,hd4,k4,g1,rfl,base1,hbase1,hG1⟩:=B1x hb3.netAt okN hsm k3.wf;rw[←A1u okN]at hG1;obtain⟨r5,H5,hd5,k5,g2,X2,rfl,hX2⟩:=C4w (n:=N.states.toNat) (fid:=fid) f (hG1.own k4.wf) hp (A3s N) (A4s N) (A0t N) (by omega) (by omega) hsm.sg (A71 hE) k4.wf;have k35:=k4.trans k5;have hw5:=hbw.toSl.grow (k35.grow k3.wf);have hwl:(x.map (ixN N.sigma)).length=x.length:=List.length_map _;have hTR:=turn_row (f:=f) (A71 hE);have hTO:=turn_ok (f:=f) (n:=N.states.toNat) (m:=(N.sigma.length:Int)) (fun e h1 h2=>hf e (Int.natCast_nonneg _) h1 h2) (A8s hE);have hTL:(A5q f (A8f N)).length=N.states.toNat:=by rw[C72,A3s]
 obtain⟨r6,H6,hd6,k6,g3,rfl,X3,hX3⟩:=C5v hX2 hw5 hTL (A4s N) (A0t N) (by omega) (by omega) (by rw[hwl];omega) hsm.sg hTR k5.wf;have hn0:0<N.states.toNat:=by omega
 have hIO:=imgE_ok (w:=x.map (ixN N.sigma)) hn0 hTO;have hIR:=imgE_row (n:=N.states.toNat) (w:=x.map (ixN N.sigma)) (fun r hr=>(hTR r hr).1);have hIS:=imgE_sum (w:=x.map (ixN N.sigma)) hn0 hTL;have hIL:(imgE N.states.toNat (x.map (ixN N.sigma)) (A5q f (A8f N))).length=(x.length+1)*N.states.toNat:=by rw[imgE_len,hwl]
 have hil:=fun u v=>img_rel' (w:=x.map (ixN N.sigma)) (E:=A5q f (A8f N)) (ends:=A1h N N.ends) hn0 (A4s N) (C60 fun r hr e he=>(A8s hE r hr e he).1) u v;rw[hwl]at hX3 hil hIS hIO;rw[turn_sum,A59 hE]at hIS;have hn3:1≤(x.length+1)*N.states.toNat:=Nat.mul_pos (by omega) hn0;have hel:(List.replicate (x.length*N.states.toNat) 0++A1h N N.ends).length=(x.length+1)*N.states.toNat:=by rw[List.length_append,List.length_replicate,A4s,Nat.succ_mul]
 have hcl:(List.replicate (x.length*N.states.toNat) 0++A9i N N.ends).length=(x.length+1)*N.states.toNat:=by rw[List.length_append,List.length_replicate,A0t,Nat.succ_mul]
 have hcz:∀c∈List.replicate (x.length*N.states.toNat) 0++A9i N N.ends,c=0:=fun c hc=>by
  rcases List.mem_append.1 hc with h|h
  ·exact(List.mem_replicate.1 h).2
  ·exact A5v hE c h
 generalize imgE N.states.toNat (x.map (ixN N.sigma)) (A5q f (A8f N))=EI at hX3 hIO hIR hIS hIL hil;generalize List.replicate (x.length*N.states.toNat) 0++A1h N N.ends=eI at hX3 hel hil;generalize List.replicate (x.length*N.states.toNat) 0++A9i N N.ends=cI at hX3 hcl hcz;obtain⟨n3,hn3e⟩:∃n3,(x.length+1)*N.states.toNat=n3:=⟨_,rfl⟩
 rw[hn3e]at hsz hIL hn3 hel hcl hIO;obtain⟨sv,av,ev,cv,vals,hR⟩:=hX3.read;have hPG:PG H6 g3 n3 60000 EI eI sv av ev cv vals N.sigma cI:=⟨hR,hIL,hel,hn3,hsz,fun s r hr=>⟨hIR r (List.mem_of_getElem? hr),fun e he=>(hIO r (List.mem_of_getElem? hr) e he).1⟩⟩
 obtain⟨r7,H7,hd7,k7,g4,rfl,U,R,es,cs,X4,_,hX4,hcs,hzs,hUl,hUi,hT,hm⟩:=C0t hPG hsm.sg hcl k6.wf;have hTok:=hT.ok hIL hUl (m:=0) (Q:=fun l=>l.1<(N.sigma.length:Int)∧l.2.1<(N.sigma.length:Int)∧l.2.2=0∧l.1=l.2.1) fun r hr e he=>hIO r hr e he;have hTsum:=hT.sumAll hIL;have hrel:=hT.rel hIL hUl (fun r hr e he=>(hIO r hr e he).1) hUi;have hImg:ImgW N x f R es cs (1+A0j U n3):=⟨hT.lr,hT.le,hcs,by omega,by rw[hn3e];exact hm,fun r hr e he=>⟨(hTok r hr e he).1,(hTok r hr e he).2.1,(hTok r hr e he).2.2.1,(hTok r hr e he).2.2.2.1⟩,hT.rowLe hIL hUl hIR,by omega,B2j (hzs hcz),fun r hr e he=>(hTok r hr e he).2.2.2.2,fun u v=>(hrel.rel u v).trans (hil u v)⟩
 have cs3:=A8l (k3.grow k2.wf) cs2;have hvqS:veq (.agg #[Value.func (.func fid) #[] #[]]) (.agg #[Value.func (.func fid) #[] #[]])=true:=A0x (by simp[veqs,veq]);have hvqN:veq (.agg #[sg,.int .i64 N.states,ar,en]) (.agg #[sg,.int .i64 N.states,ar,en])=true:=A0x (by simp only[A1k,A7m,A3h,hsg.veq,har.veq,hen.veq,Bool.and_self]);have hvz:=hbw.veq;simp only[↓Sh.dn,sx,reduceCtorEq];refine A6u (fl:=[(0,false),(1,false),(4,true),(2,false),(3,true),(5,true),(6,true),(7,true),(8,true)]) (by kernel_rfl) (by kernel_rfl) k3.wf ?_;simp only[↓Sh.dn,sx,reduceCtorEq,Nat.reduceEqDiff,wpg,B7m,isEff,A2d,isRead,forall_eq',hb3.ca,hvqN,cs3];refine⟨hvqS,_,_,hd4,k4.wf,k4.grow k3.wf,?_⟩
 first|refine⟨_,_,hd5,k5.wf,k5.grow k4.wf,?_⟩|refine⟨_,_,hd5,k5.wf,?_⟩
 first|refine⟨_,_,hd6,k6.wf,k6.grow k5.wf,?_⟩|refine⟨_,_,hd6,k6.wf,?_⟩
 refine⟨_,_,hd7,k7.wf,?_⟩;simp only[sx,Nat.reduceEqDiff,hres];exact⟨k13.trans ((k35.trans k6).trans k7),g4,rfl,X4,R,es,cs,hX4,_,hImg⟩
theorem C5a{H:AH}{x:Int}:Sh.Call Tryz.prog (knows 7) 158 [Value.int .i64 x] H (fun r H'=>H'=H∧r=.bool false):=by
 refine A5a rfl Tryz.func158 rfl (Nat.le_of_ble_eq_true rfl) ?_;have hres:Tryz.f158.results.toList=[.tmp 2]:=rfl;simp only[↓Sh.dn,sx,reduceCtorEq,Nat.reduceEqDiff,hres,decide_true]
theorem C1t{H:AH}{x y:Int}:Sh.Call Tryz.prog (knows 7) 140 [Value.int .i64 x,Value.int .i64 y] H (fun r H'=>H'=H∧r=.bool (A2c x y)):=by
 refine A5a rfl Tryz.func140 rfl (Nat.le_of_ble_eq_true rfl) ?_;have hres:Tryz.f140.results.toList=[.tmp 4]:=rfl;obtain⟨r,H1,hd,rfl,rfl⟩:=C5a (H:=H) (x:=x);simp only[↓Sh.dn,sx,reduceCtorEq];refine⟨_,_,hd,?_⟩;simp only[↓Sh.dn,sx,reduceCtorEq,Nat.reduceEqDiff,hres]
 try rfl
theorem A6d{H:AH}{x y:Int}:Does Tryz.prog (knows 7) 140 [Value.int .i64 x,Value.int .i64 y] H (.bool (A2c x y)) H:=by
 obtain⟨r,H1,hd,rfl,rfl⟩:=C1t (H:=H) (x:=x) (y:=y);exact hd
abbrev A0e(H:AH)(g k n:Nat)(l:List Int):Prop:=Cells H g k n (l.map (Value.int .i64))
section
variable {H:AH} {g k n m cap i:Nat} {l:List Int}
theorem A9c{j:IntKind}(h:i<m):A4b Tryz.prog 71 (.slice (some ⟨g,0,some k⟩) m cap) (.int j (i:Int))=some (.pointer (some ⟨g,i,some k⟩)):=by
 rw[ia_71 h,Nat.mul_one,Nat.zero_add]
theorem A3c(h:A0e H g k n l)(hi:i<l.length):H.cell ⟨g,i,some k⟩=some (Value.int .i64 l[i]):=h.cell (by simp[hi])
theorem A2m{x:Int}{p:Addr}:A7d Tryz.prog 3 H (Value.int .i64 x) (.pointer (some p))=H.write p [Value.int .i64 x]:=A9b A1c rfl
theorem A7i(h:A0e H g k n l)(hw:Wf H){i j:Nat}(hi:i<l.length)(hj:j<l.length):
  ∃H1 H2,H.write ⟨g,i,some k⟩ [Value.int .i64 l[j]]=some H1∧H1.write ⟨g,j,some k⟩ [Value.int .i64 l[i]]=some H2∧A0e H2 g k n (swp l i j)∧Chg (fun y=>y=g) H H2∧H2.next=H.next:=by
 obtain⟨H1,H2,h1,h2,h3,h4,h5⟩:=Cells.swap h hw (i:=i) (j:=j) (x:=Value.int .i64 l[i]) (y:=Value.int .i64 l[j]) (by simp[hi]) (by simp[hj]);exact⟨H1,H2,h1,h2,by rw[swp_map]at h3;exact h3,h4,h5⟩
end
theorem B5d{H:AH}{g k n cap a b:Nat}{l:List Int}(hv:A0e H g k n l)(hw:Wf H)(hl:l.length≤16000000)(hab:a≤b)(hb:b≤l.length):
  Sh.Call Tryz.prog (knows 7) 134 [.slice (some ⟨g,0,some k⟩) l.length cap,.int .i64 (a:Int),.int .i64 (b:Int)] H
   (fun r H'=>∃l',Mix a b l l'∧Srt A2c a b l'∧A0e H' g k n l'∧Chg (fun y=>y=g) H H'):=by
 refine A5a rfl Tryz.func134 rfl (Nat.le_of_ble_eq_true rfl) ?_;have hres:Tryz.f134.results.toList=[]:=rfl;have hTO:=intTO;have w1:IntKind.wrap .i64 ((a:Int)+1)=((a+1:Nat):Int):=by rw[wrap64 (by omega) (by omega)];rfl
 simp only[↓Sh.dn,sx,w1]
 let Adj (i:Nat) (m:List Int):Prop:=∀(p:Nat) x y,a≤p→p+1<i→m[p]?=some x→m[p+1]?=some y→A2c y x=false
 refine A8d (fun m F H' => ∃ (i : Nat) (l1 : List Int), m = b - i ∧ a + 1 ≤ i ∧ (i ≤ b ∨ i = a + 1) ∧ Mix a b l l1 ∧ Adj i l1 ∧ A0e H' g k n l1 ∧ Chg (fun y => y = g) H H' ∧
     F.get 0 = some (.slice (some ⟨g, 0, some k⟩) l.length cap) ∧ F.get 1 = some (.int .i64 (a : Int)) ∧ F.get 2 = some (.int .i64 (b : Int)) ∧ F.get 6 = some (.int .i64 (i : Int))) (m := b-(a + 1))
   ⟨a + 1, l, rfl, by omega, .inr rfl, .refl l, fun p x y h1 h2 => by omega, hv, Chg.refl hw, by simp only[sx, reduceCtorEq], by simp only[sx, Nat.reduceEqDiff], by simp only[sx, Nat.reduceEqDiff], by simp only[sx]⟩ ?_
 rintro m F H' ⟨i,l1,rfl,hai,hib,hm,hadj,hv1,hc1,f0,f1,f2,f6⟩ kk;by_cases hlt:i<b
 ·simp only[↓Sh.dn,sx,Nat.reduceEqDiff,f2,f6,A2a,hlt,decide_true]
  refine A8d (fun m F' H2 => ∃ (j : Nat) (l2 : List Int), m = j ∧ a ≤ j ∧ j ≤ i ∧ Mix a b l l2 ∧ (∀ (p : Nat) x y, a ≤ p → p + 1 < i + 1 → p + 1 ≠ j → l2[p]? = some x → l2[p + 1]? = some y → A2c y x = false) ∧
      (∀x y, a<j → j<i → l2[j-1]? = some x → l2[j + 1]? = some y → A2c y x = false) ∧ A0e H2 g k n l2 ∧ Chg (fun y => y = g) H H2 ∧
      F'.get 0 = some (.slice (some ⟨g, 0, some k⟩) l.length cap) ∧ F'.get 1 = some (.int .i64 (a : Int)) ∧ F'.get 2 = some (.int .i64 (b : Int)) ∧ F'.get 6 = some (.int .i64 (i : Int)) ∧ F'.get 7 = some (.int .i64 (j : Int))) (m := i)
    ⟨i, l1, rfl, by omega, Nat.le_refl _, hm, fun p x y h1 h2 h3 => hadj p x y h1 (by omega), fun x y h1 h2 => by omega, hv1, hc1, by simp only[sx, reduceCtorEq, f0], by simp only[sx, Nat.reduceEqDiff, f1], by simp only[sx, Nat.reduceEqDiff, f2], by simp only[sx, Nat.reduceEqDiff, f6], by simp only[sx]⟩ ?_
  rintro j F' H2 ⟨_,l2,rfl,haj,hji,hm2,hA,hB,hv2,hc2,g0,g1,g2,g6,g7⟩ k2;have hlen:=hm2.length;have wi:IntKind.wrap .i64 ((i:Int)+1)=((i+1:Nat):Int):=by rw[wrap64 (by omega) (by omega)];rfl
  simp only[↓Sh.dn];refine(A7c (by kernel_rfl)).2 ?_;by_cases hgt:a<j
  ·have wj:IntKind.wrap .i64 ((j:Int)-1)=((j-1:Nat):Int):=by rw[wrap64 (by omega) (by omega)];omega
   have hj1:j<l2.length:=by omega
   have hj2:j-1<l2.length:=by omega
   have i1:=A9c (g:=g) (k:=k) (cap:=cap) (m:=l.length) (i:=j) (j:=.i64) (by omega);have i2:=A9c (g:=g) (k:=k) (cap:=cap) (m:=l.length) (i:=j-1) (j:=.i64) (by omega);have r1:=A3c hv2 hj1;have r2:=A3c hv2 hj2;have q1:l2[j]?=some l2[j]:=List.getElem?_eq_getElem hj1;have q2:l2[j-1]?=some l2[j-1]:=List.getElem?_eq_getElem hj2;simp only[↓Sh.dn,sx,reduceCtorEq,Nat.reduceEqDiff,g0,g1,g7,A2a,hgt,decide_true,wj,i1,i2,r1,r2];refine⟨_,_,A6d,?_⟩;cases hc:A2c l2[j] l2[j-1] with
   | true=>
    simp only[↓Sh.dn,sx];refine(A7c (by kernel_rfl)).2 ?_;obtain⟨K1,K2,e1,e2,e3,e4,e5⟩:=A7i hv2 hc2.wf hj1 hj2;simp only[↓Sh.dn,sx,reduceCtorEq,Nat.reduceEqDiff,g0,g7,wj,i1,i2,r1,r2,A2m,e1,e2];refine k2 (j-1) _ _ (by omega) ⟨j-1,swp l2 j (j-1),rfl,by omega,by omega,hm2.swap (by omega) (by omega) (by omega) (by omega),fun p x y h1 h2 h3 hx hy=>?_,fun x y h1 h2 hx hy=>?_,e3,hc2.trans e4,by simp only[sx,reduceCtorEq,g0],by simp only[sx,Nat.reduceEqDiff,g1],by simp only[sx,Nat.reduceEqDiff,g2],by simp only[sx,Nat.reduceEqDiff,g6],by simp only[sx]⟩
    ·rw[swp_get hj1 hj2]at hx hy
     by_cases hp1:p+1=j
     ·have hp:p=j-1:=by omega
      rw[if_pos hp,q1]at hx;rw[if_neg (by omega),if_pos hp1,q2]at hy;rw[←Option.some.inj hx,←Option.some.inj hy];exact hTO.asymm hc
     ·by_cases hp2:p=j
      ·rw[if_neg (by omega),if_pos hp2,q2]at hx
       rw[if_neg (by omega),if_neg (by omega)]at hy;rw[←Option.some.inj hx];exact hB _ _ hgt (by omega) q2 (by rw[←hp2];exact hy)
      ·rw[if_neg (by omega),if_neg hp2]at hx
       rw[if_neg (by omega),if_neg (by omega)]at hy;exact hA p x y h1 h2 hp1 hx hy
    ·rw[swp_get hj1 hj2]at hx hy
     rw[if_neg (by omega),if_neg (by omega)]at hx;rw[if_neg (by omega),if_pos (by omega),q2]at hy;rw[←Option.some.inj hy];exact hA (j-2) _ _ (by omega) (by omega) (by omega) (by rw[show j-2=j-1-1 by omega];exact hx) (by rw[show j-2+1=j-1 by omega];exact q2)
   | false=>
    simp only[↓Sh.dn,sx,Nat.reduceBEq,Nat.reduceEqDiff,g6,wi];refine kk (b-(i+1)) _ _ (by omega) ⟨i+1,l2,rfl,by omega,.inl (by omega),hm2,fun p x y h1 h2 hx hy=>?_,hv2,hc2,by simp only[sx,reduceCtorEq,g0],by simp only[sx,Nat.reduceEqDiff,g1],by simp only[sx,Nat.reduceEqDiff,g2],by simp only[sx]⟩;by_cases hp:p+1=j
    ·have hp':p=j-1:=by omega
     rw[hp',q2]at hx;rw[hp,q1]at hy;rw[←Option.some.inj hx,←Option.some.inj hy];exact hc
    ·exact hA p x y h1 h2 hp hx hy
  ·simp only[↓Sh.dn,sx,Nat.reduceBEq,Nat.reduceEqDiff,g1,g7,A2a,hgt,decide_false,g6,wi]
   exact kk (b-(i+1)) _ _ (by omega) ⟨i+1,l2,rfl,by omega,.inl (by omega),hm2,fun p x y h1 h2 hx hy=>hA p x y h1 h2 (by omega) hx hy,hv2,hc2,by simp only[sx,reduceCtorEq,g0],by simp only[sx,Nat.reduceEqDiff,g1],by simp only[sx,Nat.reduceEqDiff,g2],by simp only[sx]⟩
 ·simp only[↓Sh.dn,sx,Nat.reduceEqDiff,f2,f6,A2a,hlt,decide_false,hres]
  exact⟨l1,hm,C3j hTO fun p x y h1 h2 hx hy=>hadj p x y h1 (by omega) hx hy,hv1,hc1⟩
section
variable {H:AH} {g k n cap a b:Nat} {l:List Int}
theorem B0l(hv:A0e H g k n l)(hw:Wf H)(hl:l.length≤16000000)(hab:a<b)(hb:b≤l.length):
  Sh.Call Tryz.prog (knows 7) 138 [.slice (some ⟨g,0,some k⟩) l.length cap,.int .i64 (a:Int),.int .i64 (b:Int)] H
   (fun r H'=>∃l',Mix a b l l'∧A0e H' g k n l'∧Chg (fun y=>y=g) H H'):=by
 refine A5a rfl Tryz.func138 rfl (Nat.le_of_ble_eq_true rfl) ?_;have hres:Tryz.f138.results.toList=[]:=rfl;have w1:IntKind.wrap .i64 ((b:Int)-1)=((b-1:Nat):Int):=by rw[wrap64 (by omega) (by omega)];omega
 simp only[↓Sh.dn,sx,Nat.reduceEqDiff,w1]
 refine A8d (fun m F H' => ∃ (i j : Nat) (l1 : List Int), m = b - i ∧ a ≤ i ∧ i + j + 1 = a + b ∧ i ≤ b ∧ Mix a b l l1 ∧ A0e H' g k n l1 ∧ Chg (fun y => y = g) H H' ∧
     F.get 0 = some (.slice (some ⟨g, 0, some k⟩) l.length cap) ∧ F.get 6 = some (.int .i64 (i : Int)) ∧ F.get 7 = some (.int .i64 (j : Int))) (m := b-a)
   ⟨a, b-1, l, rfl, by omega, by omega, by omega, .refl l, hv, Chg.refl hw, by simp only[sx, reduceCtorEq], by simp only[sx, Nat.reduceEqDiff], by simp only[sx]⟩ ?_
 rintro m F H' ⟨i,j,l1,rfl,hai,hij,hib,hm,hv1,hc1,f0,f6,f7⟩ kk;have hlen:=hm.length;by_cases hlt:i<j
 ·have hi:i<l1.length:=by omega
  have hj:j<l1.length:=by omega
  have wi:IntKind.wrap .i64 ((i:Int)+1)=((i+1:Nat):Int):=by rw[wrap64 (by omega) (by omega)];rfl
  have wj:IntKind.wrap .i64 ((j:Int)-1)=((j-1:Nat):Int):=by rw[wrap64 (by omega) (by omega)];omega
  have i1:=A9c (g:=g) (k:=k) (cap:=cap) (m:=l.length) (i:=i) (j:=.i64) (by omega);have i2:=A9c (g:=g) (k:=k) (cap:=cap) (m:=l.length) (i:=j) (j:=.i64) (by omega);have r1:=A3c hv1 hi;have r2:=A3c hv1 hj;obtain⟨K1,K2,e1,e2,e3,e4,e5⟩:=A7i hv1 hc1.wf hi hj;simp only[↓Sh.dn,sx,Nat.reduceEqDiff,f6,f7,A2a,hlt,decide_true];refine(A7c (by kernel_rfl)).2 ?_;simp only[↓Sh.dn,sx,reduceCtorEq,Nat.reduceEqDiff,f0,f6,f7,i1,i2,r1,r2,A2m,e1,e2,wi,wj];exact kk (b-(i+1)) _ _ (by omega) ⟨i+1,j-1,swp l1 i j,rfl,by omega,by omega,by omega,hm.swap (by omega) (by omega) (by omega) (by omega),e3,hc1.trans e4,by simp only[sx,reduceCtorEq,f0],by simp only[sx,Nat.reduceEqDiff],by simp only[sx]⟩
 ·simp only[↓Sh.dn,sx,Nat.reduceEqDiff,f6,f7,A2a,hlt,decide_false,hres]
  exact⟨l1,hm,hv1,hc1⟩
def B1j(H:AH)(p:Nat)(c:Int):Prop:=Arr H p 0 1 [.int .i64 c]
theorem B5l{i j p:Nat}{c:Int}(hv:A0e H g k n l)(hp:B1j H p c)(hpg:p≠g)(hw:Wf H)(hi:i<l.length)(hj:j<l.length):
  Sh.Call Tryz.prog (knows 7) 162 [.slice (some ⟨g,0,some k⟩) l.length cap,.int .i64 (i:Int),.int .i64 (j:Int),.pointer (some ⟨p,0,some 0⟩)] H
   (fun r H'=>∃i' j':Nat,r=.tuple #[.int .i64 (i':Int),.int .i64 (j':Int)]∧(i'=i∧j'=j∨i'=j∧j'=i)∧A0e H' g k n l∧∃c',B1j H' p c'∧Chg (fun y=>y=p) H H'):=by
 refine A5a rfl Tryz.func162 rfl (Nat.le_of_ble_eq_true rfl) ?_;have hres:Tryz.f162.results.toList=[.tmp 8,.tmp 9]:=rfl;have i1:=A9c (g:=g) (k:=k) (cap:=cap) (m:=l.length) (i:=i) (j:=.i64) hi;have i2:=A9c (g:=g) (k:=k) (cap:=cap) (m:=l.length) (i:=j) (j:=.i64) hj;have r1:=A3c hv hi;have r2:=A3c hv hj;have r3:H.cell ⟨p,0,some 0⟩=some (.int .i64 c):=hp.cell 0;simp only[↓Sh.dn,sx];refine(A7c (by kernel_rfl)).2 ?_;simp only[↓Sh.dn,sx,reduceCtorEq,Nat.reduceEqDiff,i1,i2,r1,r2];refine⟨_,_,A6d,?_⟩;cases hc:A2c l[j] l[i] with
 | true=>
  obtain⟨K1,e1,e2,e3,e4⟩:=hp.write hw (i:=0) (vs:=[.int .i64 (IntKind.wrap .i64 (c+1))]) (by simp);have st:A7d Tryz.prog 3 H (.int .i64 (IntKind.wrap .i64 (c+1))) (.pointer (some ⟨p,0,some 0⟩))=H.write ⟨p,0,some 0⟩ [.int .i64 (IntKind.wrap .i64 (c+1))]:=A9b A1c rfl;simp only[↓Sh.dn,sx,Nat.reduceEqDiff,r3,st,e1,hres];exact⟨j,i,rfl,.inr ⟨rfl,rfl⟩,hv.chg hw e4 (fun h=>hpg h.symm),_,e2,e4⟩
 | false=>
  simp only[↓Sh.dn,sx,Nat.reduceEqDiff,hres];exact⟨i,j,rfl,.inl ⟨rfl,rfl⟩,hv,c,hp,Chg.refl hw⟩
theorem B6k{i j m p:Nat}{c:Int}(hv:A0e H g k n l)(hp:B1j H p c)(hpg:p≠g)(hw:Wf H)(hi:i<l.length)(hj:j<l.length)(hm:m<l.length):
  Sh.Call Tryz.prog (knows 7) 157 [.slice (some ⟨g,0,some k⟩) l.length cap,.int .i64 (i:Int),.int .i64 (j:Int),.int .i64 (m:Int),.pointer (some ⟨p,0,some 0⟩)] H
   (fun r H'=>∃q:Nat,r=.int .i64 (q:Int)∧(q=i∨q=j∨q=m)∧A0e H' g k n l∧∃c',B1j H' p c'∧Chg (fun y=>y=p) H H'):=by
 refine A5a rfl Tryz.func157 rfl (Nat.le_of_ble_eq_true rfl) ?_;have hres:Tryz.f157.results.toList=[.tmp 10]:=rfl;obtain⟨r,H1,hd1,i1,j1,rfl,h1,hv1,c1,hp1,hc1⟩:=B5l (cap:=cap) hv hp hpg hw hi hj;have hi1:i1<l.length:=by omega
 have hj1:j1<l.length:=by omega
 obtain⟨r,H2,hd2,j2,m2,rfl,h2,hv2,c2,hp2,hc2⟩:=B5l (cap:=cap) hv1 hp1 hpg hc1.wf hj1 hm;have hj2:j2<l.length:=by omega
 obtain⟨r,H3,hd3,i3,j3,rfl,h3,hv3,c3,hp3,hc3⟩:=B5l (cap:=cap) hv2 hp2 hpg hc2.wf hi1 hj2;simp only[↓Sh.dn,sx,reduceCtorEq,Nat.reduceEqDiff];refine⟨_,_,hd1,?_⟩;simp only[sx];refine⟨_,_,hd2,?_⟩;simp only[sx];refine⟨_,_,hd3,?_⟩;simp only[sx,hres];exact⟨j3,rfl,by omega,hv3,c3,hp3,(hc1.trans hc2).trans hc3⟩
theorem A4p{i p:Nat}{c:Int}(hv:A0e H g k n l)(hp:B1j H p c)(hpg:p≠g)(hw:Wf H)(hl:l.length≤16000000)(h0:1≤i)(hi:i+1<l.length):
  Sh.Call Tryz.prog (knows 7) 156 [.slice (some ⟨g,0,some k⟩) l.length cap,.int .i64 (i:Int),.pointer (some ⟨p,0,some 0⟩)] H
   (fun r H'=>∃q:Nat,r=.int .i64 (q:Int)∧(i≤q+1∧q≤i+1)∧A0e H' g k n l∧∃c',B1j H' p c'∧Chg (fun y=>y=p) H H'):=by
 refine A5a rfl Tryz.func156 rfl (Nat.le_of_ble_eq_true rfl) ?_;have hres:Tryz.f156.results.toList=[.tmp 6]:=rfl;have w1:IntKind.wrap .i64 ((i:Int)-1)=((i-1:Nat):Int):=by rw[wrap64 (by omega) (by omega)];omega
 have w2:IntKind.wrap .i64 ((i:Int)+1)=((i+1:Nat):Int):=by rw[wrap64 (by omega) (by omega)];rfl
 obtain⟨r,H1,hd1,q,rfl,h1,hv1,c1,hp1,hc1⟩:=B6k (cap:=cap) (i:=i-1) (j:=i) (m:=i+1) hv hp hpg hw (by omega) (by omega) hi;simp only[↓Sh.dn,sx,reduceCtorEq,Nat.reduceEqDiff,w1,w2];refine⟨_,_,hd1,?_⟩;simp only[sx,hres];exact⟨q,rfl,by omega,by omega,hv1,c1,hp1,hc1⟩
theorem B5m(hv:A0e H g k n l)(hw:Wf H)(hl:l.length≤16000000)(hab:a+12<b)(hb:b≤l.length):
  Sh.Call Tryz.prog (knows 7) 137 [.slice (some ⟨g,0,some k⟩) l.length cap,.int .i64 (a:Int),.int .i64 (b:Int)] H
   (fun r H'=>∃q:Nat,∃h:Int,r=.tuple #[.int .i64 (q:Int),.int .i64 h]∧a≤q∧q<b∧A0e H' g k n l∧Kept H H'):=by
 refine A5a rfl Tryz.func137 rfl (Nat.le_of_ble_eq_true rfl) ?_;have hres:Tryz.f137.results.toList=[.tmp 6,.tmp 7]:=rfl;have al:anew Tryz.prog 3 H (.int .i64 0)=some (.pointer (some ⟨H.next,0,some 0⟩),(H.new 1 [.int .i64 0]).2):=A4x A1c rfl;have w0:IntKind.wrap .i64 ((b:Int)-(a:Int))=((b-a:Nat):Int):=by rw[wrap64 (by omega) (by omega)];omega
 have hq4:(Int.tdiv ((b-a:Nat):Int) 4)=(((b-a)/4:Nat):Int):=by rw[Int.tdiv_eq_ediv_of_nonneg (by omega)];rfl
 have B89:∀{t:TypeId} {c:Bool} {x y:Int},y≠0→abin Tryz.prog t c .quo (.int .i64 x) (.int .i64 y)=some (.int .i64 (IntKind.wrap .i64 (x.tdiv y))):=by
  intro t c x y h;simp only[abin,A5e,cond_true,aint,A3q,show (y == 0)=false from by simpa using h,cond_false]
 have wq:IntKind.wrap .i64 (((b-a)/4:Nat):Int)=(((b-a)/4:Nat):Int):=wrap64 (by omega) (by omega);have m1:IntKind.wrap .i64 ((((b-a)/4:Nat):Int)*1)=(((b-a)/4*1:Nat):Int):=by rw[wrap64 (by omega) (by omega)];omega
 have m2:IntKind.wrap .i64 ((((b-a)/4:Nat):Int)*2)=(((b-a)/4*2:Nat):Int):=by rw[wrap64 (by omega) (by omega)];omega
 have m3:IntKind.wrap .i64 ((((b-a)/4:Nat):Int)*3)=(((b-a)/4*3:Nat):Int):=by rw[wrap64 (by omega) (by omega)];omega
 have p1:IntKind.wrap .i64 ((a:Int)+(((b-a)/4*1:Nat):Int))=((a+(b-a)/4*1:Nat):Int):=by rw[wrap64 (by omega) (by omega)];rfl
 have p2:IntKind.wrap .i64 ((a:Int)+(((b-a)/4*2:Nat):Int))=((a+(b-a)/4*2:Nat):Int):=by rw[wrap64 (by omega) (by omega)];rfl
 have p3:IntKind.wrap .i64 ((a:Int)+(((b-a)/4*3:Nat):Int))=((a+(b-a)/4*3:Nat):Int):=by rw[wrap64 (by omega) (by omega)];rfl
 have d8:decide ((8:Int)≤((b-a:Nat):Int))=true:=by simp;omega
 have hk1:Kept H (H.new 1 [.int .i64 0]).2:=Kept.new hw 1 _;have hv0:A0e (H.new 1 [.int .i64 0]).2 g k n l:=hv.kept hw hk1;have hp0:B1j (H.new 1 [.int .i64 0]).2 H.next 0:=(Obj.new (H:=H) 1 [.int .i64 0]).arr;have hpg:H.next≠g:=by have:=hv.lt hw;omega
 simp only[↓Sh.dn,sx,Nat.reduceEqDiff,al,w0,B89 (show (4:Int)≠0 by decide),hq4,wq,m1,m2,m3,p1,p2,p3,d8];generalize (H.new 1 [.int .i64 0]).2=H1 at hk1 hv0 hp0 ⊢;by_cases h50:50≤b-a
 ·have d50:decide ((50:Int)≤((b-a:Nat):Int))=true:=by simp;omega
  obtain⟨r,H2,hd2,q1,rfl,h1,hv1,c1,hp1,hc1⟩:=A4p (cap:=cap) (i:=a+(b-a)/4*1) hv0 hp0 hpg hk1.wf hl (by omega) (by omega);obtain⟨r,H3,hd3,q2,rfl,h2,hv2,c2,hp2,hc2⟩:=A4p (cap:=cap) (i:=a+(b-a)/4*2) hv1 hp1 hpg hc1.wf hl (by omega) (by omega);obtain⟨r,H4,hd4,q3,rfl,h3,hv3,c3,hp3,hc3⟩:=A4p (cap:=cap) (i:=a+(b-a)/4*3) hv2 hp2 hpg hc2.wf hl (by omega) (by omega);obtain⟨r,H5,hd5,q4,rfl,h4,hv4,c4,hp4,hc4⟩:=B6k (cap:=cap) (i:=q1) (j:=q2) (m:=q3) hv3 hp3 hpg hc3.wf (by omega) (by omega) (by omega);have r9:H5.cell ⟨H.next,0,some 0⟩=some (.int .i64 c4):=hp4.cell 0;have hkk:Kept H H5:=(((hk1.chg.trans hc1).trans hc2).trans hc3 |>.trans hc4).kept fun x hx=>by omega
  simp only[↓Sh.dn,sx,reduceCtorEq,Nat.reduceEqDiff,d50];refine⟨_,_,hd2,?_⟩
  try simp only[↓Sh.dn,sx,Nat.reduceBEq,reduceCtorEq,Nat.reduceEqDiff]
  refine⟨_,_,hd3,?_⟩
  try simp only[↓Sh.dn,sx,Nat.reduceBEq,reduceCtorEq,Nat.reduceEqDiff]
  refine⟨_,_,hd4,?_⟩
  try simp only[↓Sh.dn,sx,Nat.reduceBEq,reduceCtorEq,Nat.reduceEqDiff]
  refine⟨_,_,hd5,?_⟩;simp only[sx,r9];by_cases z0:c4=0
  ·simp only[↓Sh.dn,sx,Nat.reduceEqDiff,z0,decide_true,hres]
   exact⟨q4,1,rfl,by omega,by omega,hv4,hkk⟩
  ·simp only[↓Sh.dn,sx,Nat.reduceEqDiff,z0,decide_false]
   by_cases z1:c4=12
   ·simp only[↓Sh.dn,sx,Nat.reduceEqDiff,z1,decide_true,hres]
    exact⟨q4,2,rfl,by omega,by omega,hv4,hkk⟩
   ·simp only[↓Sh.dn,sx,Nat.reduceEqDiff,z1,decide_false,hres]
    exact⟨q4,0,rfl,by omega,by omega,hv4,hkk⟩
 ·have d50:decide ((50:Int)≤((b-a:Nat):Int))=false:=by simp;omega
  obtain⟨r,H5,hd5,q4,rfl,h4,hv4,c4,hp4,hc4⟩:=B6k (cap:=cap) (i:=a+(b-a)/4*1) (j:=a+(b-a)/4*2) (m:=a+(b-a)/4*3) hv0 hp0 hpg hk1.wf (by omega) (by omega) (by omega);have r9:H5.cell ⟨H.next,0,some 0⟩=some (.int .i64 c4):=hp4.cell 0;have hkk:Kept H H5:=(hk1.chg.trans hc4).kept fun x hx=>by omega
  simp only[↓Sh.dn,sx,reduceCtorEq,Nat.reduceEqDiff,d50];refine⟨_,_,hd5,?_⟩;simp only[sx,r9];by_cases z0:c4=0
  ·simp only[↓Sh.dn,sx,Nat.reduceEqDiff,z0,decide_true,hres]
   exact⟨q4,1,rfl,by omega,by omega,hv4,hkk⟩
  ·simp only[↓Sh.dn,sx,Nat.reduceEqDiff,z0,decide_false]
   by_cases z1:c4=12
   ·simp only[↓Sh.dn,sx,Nat.reduceEqDiff,z1,decide_true,hres]
    exact⟨q4,2,rfl,by omega,by omega,hv4,hkk⟩
   ·simp only[↓Sh.dn,sx,Nat.reduceEqDiff,z1,decide_false,hres]
    exact⟨q4,0,rfl,by omega,by omega,hv4,hkk⟩
end
def C2h(x r:Nat):Prop:=x<2^r∧(x≠0→2^r≤2*x)∧r≤40
theorem D4c{x y u c:Nat}(hx:x<2^32)(hc:c≤16)(hy:y=x/2^c)(hy0:y≠0)(h1:y<2^u)(h2:y≠0→2^u≤2*y)(h3:u≤8):C2h x (c+u):=by
  subst hy;have e:2^(c+u)=2^u*2^c:=by rw[Nat.add_comm,Nat.pow_add]
  have hp:0<2^c:=Nat.two_pow_pos c;refine⟨?_,fun _=>?_,by omega⟩
  · rw[e]
    exact Nat.lt_mul_of_div_lt h1 hp |> fun h=>by rw[Nat.mul_comm];rw[Nat.mul_comm]at h;first|exact h|(rw[Nat.mul_comm];exact h)
  · rw[e]
    have h4:=h2 hy0;have h5:x/2^c*2^c≤x:=Nat.div_mul_le_self x (2^c)
    calc 2 ^ u * 2 ^ c ≤ 2 * (x / 2 ^ c) * 2 ^ c := Nat.mul_le_mul_right _ h4
      _=2*(x/2^c*2^c):=Nat.mul_assoc _ _ _
      _≤2*x:=Nat.mul_le_mul_left 2 h5
theorem C55{H:AH}{x:Nat}(hx:x<16777216):Sh.Call Tryz.prog (knows 7) 144 [.int .u64 (x:Int)] H (fun r H'=>H'=H∧∃c:Nat,r=.int .i64 (c:Int)∧C2h x c):=by
 refine A5a rfl Tryz.func144 rfl (Nat.le_of_ble_eq_true rfl) ?_;have hres:Tryz.f144.results.toList=[.tmp 2]:=rfl;have d1:decide ((4294967296:Int)≤(x:Int))=false:=by simp;omega
 simp only[↓Sh.dn,sx,reduceCtorEq,d1];by_cases h2:65536≤x
 ·have d2:decide ((65536:Int)≤(x:Int))=true:=by simp;omega
  have s2:A4j false .u64 (x:Int) 16=some (.int .u64 ((x/2^16:Nat):Int)):=C43 (c:=16) (by omega);have hlt:x/2^16<256:=by omega
  have d3:decide ((256:Int)≤((x/2^16:Nat):Int))=false:=by simp;omega
  have w8:IntKind.wrap .u8 ((x/2^16:Nat):Int)=((x/2^16:Nat):Int):=C89 (by omega) (by omega);have w16:IntKind.wrap .i64 ((0:Int)+16)=16:=wrap64 (by omega) (by omega);simp only[↓Sh.dn,sx,reduceCtorEq,Nat.reduceEqDiff,d2,C76,s2,d3,w16,w8];refine B6u Tryz.underlying9 (by kernel_rfl) hlt fun u u1 u2 u3=>?_;have wu:IntKind.wrap .i64 (u:Int)=(u:Int):=wrap64 (by omega) (by omega);have ws:IntKind.wrap .i64 ((16:Int)+(u:Int))=((16+u:Nat):Int):=by rw[wrap64 (by omega) (by omega)];rfl
  simp only[sx,wu,ws,hres];exact⟨16+u,rfl,D4c (by omega) (by omega) rfl (by omega) u1 u2 u3⟩
 ·have d2:decide ((65536:Int)≤(x:Int))=false:=by simp;omega
  by_cases h3:256≤x
  ·have d3:decide ((256:Int)≤(x:Int))=true:=by simp;omega
   have s2:A4j false .u64 (x:Int) 8=some (.int .u64 ((x/2^8:Nat):Int)):=C43 (c:=8) (by omega);have hlt:x/2^8<256:=by omega
   have w8:IntKind.wrap .u8 ((x/2^8:Nat):Int)=((x/2^8:Nat):Int):=C89 (by omega) (by omega);have w16:IntKind.wrap .i64 ((0:Int)+8)=8:=wrap64 (by omega) (by omega);simp only[↓Sh.dn,sx,reduceCtorEq,Nat.reduceEqDiff,d2,d3,C76,s2,w16,w8];refine B6u Tryz.underlying9 (by kernel_rfl) hlt fun u u1 u2 u3=>?_;have wu:IntKind.wrap .i64 (u:Int)=(u:Int):=wrap64 (by omega) (by omega);have ws:IntKind.wrap .i64 ((8:Int)+(u:Int))=((8+u:Nat):Int):=by rw[wrap64 (by omega) (by omega)];rfl
   simp only[sx,wu,ws,hres];exact⟨8+u,rfl,D4c (by omega) (by omega) rfl (by omega) u1 u2 u3⟩
  ·have d3:decide ((256:Int)≤(x:Int))=false:=by simp;omega
   have w8:IntKind.wrap .u8 (x:Int)=(x:Int):=C89 (by omega) (by omega);simp only[↓Sh.dn,sx,reduceCtorEq,Nat.reduceEqDiff,d2,d3,w8];refine B6u Tryz.underlying9 (by kernel_rfl) (by omega) fun u u1 u2 u3=>?_;have wu:IntKind.wrap .i64 (u:Int)=(u:Int):=wrap64 (by omega) (by omega);have ws:IntKind.wrap .i64 ((0:Int)+(u:Int))=(u:Int):=by rw[wrap64 (by omega) (by omega)];omega
   simp only[sx,wu,ws,hres];exact⟨u,rfl,u1,u2,by omega⟩
theorem bitsLen{H:AH}{x:Nat}(hx:x<16777216):Sh.Call Tryz.prog (knows 7) 132 [.int .u64 (x:Int)] H (fun r H'=>H'=H∧∃c:Nat,r=.int .i64 (c:Int)∧C2h x c):=by
 refine A5a rfl Tryz.func132 rfl (Nat.le_of_ble_eq_true rfl) ?_;have hres:Tryz.f132.results.toList=[.tmp 2]:=rfl;obtain⟨r,H1,hd,rfl,c,rfl,hc⟩:=C55 (H:=H) hx;simp only[↓Sh.dn,sx,reduceCtorEq];refine⟨_,_,hd,?_⟩;simp only[sx,hres];exact⟨c,rfl,hc⟩
theorem nextPow{H:AH}{x:Nat}(hx:x<16777216):Sh.Call Tryz.prog (knows 7) 154 [.int .i64 (x:Int)] H (fun r H'=>H'=H∧∃c:Nat,r=.int .u64 ((2^c:Nat):Int)∧C2h x c):=by
 refine A5a rfl Tryz.func154 rfl (Nat.le_of_ble_eq_true rfl) ?_;have hres:Tryz.f154.results.toList=[.tmp 2]:=rfl;have w:IntKind.wrap .u64 (x:Int)=(x:Int):=A8u (by omega) (by omega);obtain⟨r,H1,hd,rfl,c,rfl,hc⟩:=bitsLen (H:=H) hx;simp only[↓Sh.dn,sx,reduceCtorEq,w];refine⟨_,_,hd,?_⟩;have sh:A4j true .u64 1 (c:Int)=some (.int .u64 ((2^c:Nat):Int)):=shl_one (by have:=hc.2.2;omega);simp only[sx,b_shl,sh,hres];exact⟨c,rfl,hc⟩
section
variable {H:AH} {g k n cap a b:Nat} {l:List Int}
theorem C6s{p:Nat}{z:Int}(hp:Arr H p 0 1 [.int .u64 z])(hw:Wf H):
  Sh.Call Tryz.prog (knows 7) 155 [.pointer (some ⟨p,0,some 0⟩)] H (fun r H'=>∃z',r=.int .u64 z'∧Arr H' p 0 1 [.int .u64 z']∧Chg (fun y=>y=p) H H'):=by
 refine A5a rfl Tryz.func155 rfl (Nat.le_of_ble_eq_true rfl) ?_;have hres:Tryz.f155.results.toList=[.tmp 2]:=rfl;have st:∀(H:AH) (z:Int),A7d Tryz.prog 182 H (.int .u64 z) (.pointer (some ⟨p,0,some 0⟩))=H.write ⟨p,0,some 0⟩ [.int .u64 z]:=fun H z=>A9b B1t rfl;obtain⟨s1,h1⟩:∃s,A4j true .u64 z 13=some (.int .u64 s):=B5t (b:=13);have r0:H.cell ⟨p,0,some 0⟩=some (.int .u64 z):=hp.cell 0;obtain⟨K1,e1,a1,n1,c1⟩:=hp.write hw (i:=0) (vs:=[.int .u64 (IntKind.wrap .u64 ((BitVec.ofInt IntKind.u64.bits z) ^^^ (BitVec.ofInt IntKind.u64.bits s1)).toNat)]) (by simp);simp only[↓Sh.dn,sx];refine(A7c (by kernel_rfl)).2 ?_;simp only[↓Sh.dn,sx,reduceCtorEq,Nat.reduceEqDiff,r0,b_shl,h1,b_xor,st,e1];generalize IntKind.wrap .u64 ((BitVec.ofInt IntKind.u64.bits z) ^^^ (BitVec.ofInt IntKind.u64.bits s1)).toNat=z1 at a1 e1 ⊢;obtain⟨s2,h2⟩:∃s,A4j false .u64 z1 7=some (.int .u64 s):=B5t (b:=7);have r1:K1.cell ⟨p,0,some 0⟩=some (.int .u64 z1):=a1.cell 0;obtain⟨K2,e2,a2,n2,c2⟩:=a1.write c1.wf (i:=0) (vs:=[.int .u64 (IntKind.wrap .u64 ((BitVec.ofInt IntKind.u64.bits z1) ^^^ (BitVec.ofInt IntKind.u64.bits s2)).toNat)]) (by simp[setCells]);refine(A7c (by kernel_rfl)).2 ?_;simp only[↓Sh.dn,sx,reduceCtorEq,Nat.reduceEqDiff,r1,C76,h2,b_xor,st,e2];generalize IntKind.wrap .u64 ((BitVec.ofInt IntKind.u64.bits z1) ^^^ (BitVec.ofInt IntKind.u64.bits s2)).toNat=z2 at a2 e2 ⊢;obtain⟨s3,h3⟩:∃s,A4j true .u64 z2 17=some (.int .u64 s):=B5t (b:=17);have r2:K2.cell ⟨p,0,some 0⟩=some (.int .u64 z2):=a2.cell 0;obtain⟨K3,e3,a3,n3,c3⟩:=a2.write c2.wf (i:=0) (vs:=[.int .u64 (IntKind.wrap .u64 ((BitVec.ofInt IntKind.u64.bits z2) ^^^ (BitVec.ofInt IntKind.u64.bits s3)).toNat)]) (by simp[setCells]);refine(A7c (by kernel_rfl)).2 ?_;simp only[↓Sh.dn,sx,reduceCtorEq,Nat.reduceEqDiff,r2,b_shl,h3,b_xor,st,e3];generalize IntKind.wrap .u64 ((BitVec.ofInt IntKind.u64.bits z2) ^^^ (BitVec.ofInt IntKind.u64.bits s3)).toNat=z3 at a3 e3 ⊢;have r3:K3.cell ⟨p,0,some 0⟩=some (.int .u64 z3):=a3.cell 0;simp only[sx,r3,hres];exact⟨z3,rfl,a3,(c1.trans c2).trans c3⟩
theorem B3d(hv:A0e H g k n l)(hw:Wf H)(hl:l.length≤16000000)(hab:a+12<b)(hb:b≤l.length):
  Sh.Call Tryz.prog (knows 7) 136 [.slice (some ⟨g,0,some k⟩) l.length cap,.int .i64 (a:Int),.int .i64 (b:Int)] H
   (fun r H'=>∃l',Mix a b l l'∧A0e H' g k n l'∧Chg (fun y=>y=g) H H'):=by
 refine A5a rfl Tryz.func136 rfl (Nat.le_of_ble_eq_true rfl) ?_;have hres:Tryz.f136.results.toList=[]:=rfl;have w0:IntKind.wrap .i64 ((b:Int)-(a:Int))=((b-a:Nat):Int):=by rw[wrap64 (by omega) (by omega)];omega
 have d8:decide ((8:Int)≤((b-a:Nat):Int))=true:=by simp;omega
 have wu:IntKind.wrap .u64 ((b-a:Nat):Int)=((b-a:Nat):Int):=A8u (by omega) (by omega);have al:anew Tryz.prog 182 H (.int .u64 0)=some (.pointer (some ⟨H.next,0,some 0⟩),(H.new 1 [.int .u64 0]).2):=A4x B1t rfl;have st:∀(H:AH) (p:Addr) (z:Int),A7d Tryz.prog 182 H (.int .u64 z) (.pointer (some p))=H.write p [.int .u64 z]:=fun H p z=>A9b B1t rfl;have ov:(H.new 1 [.int .u64 0]).2.write ⟨H.next,0,some 0⟩ [.int .u64 ((b-a:Nat):Int)]=some (H.new 1 [.int .u64 ((b-a:Nat):Int)]).2:=A3l rfl;have hq4:(Int.tdiv ((b-a:Nat):Int) 4)=(((b-a)/4:Nat):Int):=by rw[Int.tdiv_eq_ediv_of_nonneg (by omega)];rfl
 have wq:IntKind.wrap .i64 (((b-a)/4:Nat):Int)=(((b-a)/4:Nat):Int):=wrap64 (by omega) (by omega);have m2:IntKind.wrap .i64 ((((b-a)/4:Nat):Int)*2)=(((b-a)/4*2:Nat):Int):=by rw[wrap64 (by omega) (by omega)];omega
 have p2:IntKind.wrap .i64 ((a:Int)+(((b-a)/4*2:Nat):Int))=((a+(b-a)/4*2:Nat):Int):=by rw[wrap64 (by omega) (by omega)];rfl
 have q1:IntKind.wrap .i64 (((a+(b-a)/4*2:Nat):Int)-1)=((a+(b-a)/4*2-1:Nat):Int):=by rw[wrap64 (by omega) (by omega)];omega
 have q2:IntKind.wrap .i64 (((a+(b-a)/4*2:Nat):Int)+1)=((a+(b-a)/4*2+1:Nat):Int):=by rw[wrap64 (by omega) (by omega)];rfl
 have hk1:Kept H (H.new 1 [.int .u64 ((b-a:Nat):Int)]).2:=Kept.new hw 1 _;have hp0:Arr (H.new 1 [.int .u64 ((b-a:Nat):Int)]).2 H.next 0 1 [.int .u64 ((b-a:Nat):Int)]:=(Obj.new (H:=H) 1 _).arr;have hv0:=hv.kept hw hk1;have hpg:H.next≠g:=by have:=hv.lt hw;omega
 simp only[↓Sh.dn,sx,Nat.reduceEqDiff,w0,d8,wu,al,st,ov];generalize (H.new 1 [.int .u64 ((b-a:Nat):Int)]).2=H1 at hk1 hv0 hp0 ⊢;obtain⟨r,H2,hd,rfl,c,rfl,hc1,hc2,hc3⟩:=nextPow (H:=H1) (x:=b-a) (by omega);refine⟨_,_,hd,?_⟩;simp only[sx,B89 (show (4:Int)≠0 by decide),hq4,wq,m2,p2,q1];have hc2':=hc2 (by omega);have hpos:0<2^c:=Nat.two_pow_pos c;have wc:IntKind.wrap .u64 (((2^c:Nat):Int)-1)=((2^c-1:Nat):Int):=by
  rw[A8u (by omega) (by omega)];omega
 generalize hM:2^c=M at *
 refine A8d (fun m F H' => ∃ (i : Nat) (z : Int) (l1 : List Int), m = a + (b - a) / 4 * 2 + 2 - i ∧ a + (b - a) / 4 * 2 - 1 ≤ i ∧ Mix a b l l1 ∧ A0e H' g k n l1 ∧ Arr H' H.next 0 1 [.int .u64 z] ∧ Chg (fun y => y = g ∨ y = H.next) H2 H' ∧
     F.get 0 = some (.slice (some ⟨g, 0, some k⟩) l.length cap) ∧ F.get 1 = some (.int .i64 (a : Int)) ∧ F.get 6 = some (.int .i64 ((b-a : Nat) : Int)) ∧ F.get 7 = some (.pointer (some ⟨H.next, 0, some 0⟩)) ∧ F.get 8 = some (.int .u64 (M : Int)) ∧ F.get 9 = some (.int .i64 (i : Int))) (m := a + (b-a)/4*2 + 2-(a + (b-a)/4*2-1))
   ⟨a + (b-a)/4*2-1, _, l, rfl, by omega, .refl l, hv0, hp0, Chg.refl hk1.wf, by simp only[sx, reduceCtorEq], by simp only[sx, Nat.reduceEqDiff], by simp only[sx, Nat.reduceEqDiff], by simp only[sx, Nat.reduceEqDiff], by simp only[sx, Nat.reduceEqDiff], by simp only[sx]⟩ ?_
 rintro m F H' ⟨i,z,l1,rfl,hai,hm,hv1,hp1,hch,f0,f1,f6,f7,f8,f9⟩ kk;have hlen:=hm.length;by_cases hlt:i≤a+(b-a)/4*2+1
 ·have dl:decide ((i:Int)≤((a+(b-a)/4*2+1:Nat):Int))=true:=by simp;omega
  obtain⟨r,H3,hd3,z',rfl,hp2,hc3'⟩:=C6s hp1 hch.wf;have hv2:=hv1.chg hch.wf hc3' (fun h=>hpg h.symm);obtain⟨o,ho1,ho2⟩:=and_le z' (m:=M-1) (by omega);have wo:IntKind.wrap .i64 (o:Int)=(o:Int):=wrap64 (by omega) (by omega);simp only[↓Sh.dn,sx,Nat.reduceEqDiff,f1,f6,f9,B89 (show (4:Int)≠0 by decide),hq4,wq,m2,p2,q2,dl,f7];refine⟨_,_,hd3,?_⟩;simp only[sx,f8,wc,b_and,ho2,wo];have key:∀(o':Nat) (F':Fr),o'<b-a→F'.get 0=some (.slice (some ⟨g,0,some k⟩) l.length cap)→F'.get 1=some (.int .i64 (a:Int))→F'.get 6=some (.int .i64 ((b-a:Nat):Int))→F'.get 7=some (.pointer (some ⟨H.next,0,some 0⟩))→F'.get 8=some (.int .u64 (M:Int))→F'.get 9=some (.int .i64 (i:Int))→F'.get 10=some (.int .i64 (o':Int))→True:=fun _ _ _ _ _ _ _ _ _ _=>trivial;have wi:IntKind.wrap .i64 ((i:Int)+1)=((i+1:Nat):Int):=by rw[wrap64 (by omega) (by omega)];rfl
  by_cases hbig:b-a≤o
  ·have db:decide (((b-a:Nat):Int)≤(o:Int))=true:=by simp;omega
   have ws:IntKind.wrap .i64 ((o:Int)-((b-a:Nat):Int))=((o-(b-a):Nat):Int):=by rw[wrap64 (by omega) (by omega)];omega
   have wa:IntKind.wrap .i64 ((a:Int)+((o-(b-a):Nat):Int))=((a+(o-(b-a)):Nat):Int):=by rw[wrap64 (by omega) (by omega)];rfl
   have hi:i<l1.length:=by omega
   have hj:a+(o-(b-a))<l1.length:=by omega
   have i1:=A9c (g:=g) (k:=k) (cap:=cap) (m:=l.length) (i:=i) (j:=.i64) (by omega);have i2:=A9c (g:=g) (k:=k) (cap:=cap) (m:=l.length) (i:=a+(o-(b-a))) (j:=.i64) (by omega);have r1:=A3c hv2 hi;have r2:=A3c hv2 hj;obtain⟨K1,K2,e1,e2,e3,e4,e5⟩:=A7i hv2 hc3'.wf hi hj;simp only[↓Sh.dn,sx,Nat.reduceEqDiff,db,f6,ws];refine(A7c (by kernel_rfl)).2 ?_;simp only[↓Sh.dn,sx,reduceCtorEq,Nat.reduceEqDiff,f0,f1,f9,wa,i1,i2,r1,r2,A2m,e1,e2,wi];exact kk (a+(b-a)/4*2+2-(i+1)) _ _ (by omega) ⟨i+1,z',swp l1 i (a+(o-(b-a))),rfl,by omega,hm.swap (by omega) (by omega) (by omega) (by omega),e3,hp2.keep (e4.old _ (hp2.lt hc3'.wf) hpg),(hch.trans (hc3'.weak fun _ h=>.inr h)).trans (e4.weak fun _ h=>.inl h),by simp only[sx,reduceCtorEq,f0],by simp only[sx,Nat.reduceEqDiff,f1],by simp only[sx,Nat.reduceEqDiff,f6],by simp only[sx,Nat.reduceEqDiff,f7],by simp only[sx,Nat.reduceEqDiff,f8],by simp only[sx]⟩
  ·have db:decide (((b-a:Nat):Int)≤(o:Int))=false:=by simp;omega
   have wa:IntKind.wrap .i64 ((a:Int)+(o:Int))=((a+o:Nat):Int):=by rw[wrap64 (by omega) (by omega)];rfl
   have hi:i<l1.length:=by omega
   have hj:a+o<l1.length:=by omega
   have i1:=A9c (g:=g) (k:=k) (cap:=cap) (m:=l.length) (i:=i) (j:=.i64) (by omega);have i2:=A9c (g:=g) (k:=k) (cap:=cap) (m:=l.length) (i:=a+o) (j:=.i64) (by omega);have r1:=A3c hv2 hi;have r2:=A3c hv2 hj;obtain⟨K1,K2,e1,e2,e3,e4,e5⟩:=A7i hv2 hc3'.wf hi hj;simp only[↓Sh.dn,sx,db];refine(A7c (by kernel_rfl)).2 ?_;simp only[↓Sh.dn,sx,reduceCtorEq,Nat.reduceEqDiff,f0,f1,f9,wa,i1,i2,r1,r2,A2m,e1,e2,wi];exact kk (a+(b-a)/4*2+2-(i+1)) _ _ (by omega) ⟨i+1,z',swp l1 i (a+o),rfl,by omega,hm.swap (by omega) (by omega) (by omega) (by omega),e3,hp2.keep (e4.old _ (hp2.lt hc3'.wf) hpg),(hch.trans (hc3'.weak fun _ h=>.inr h)).trans (e4.weak fun _ h=>.inl h),by simp only[sx,reduceCtorEq,f0],by simp only[sx,Nat.reduceEqDiff,f1],by simp only[sx,Nat.reduceEqDiff,f6],by simp only[sx,Nat.reduceEqDiff,f7],by simp only[sx,Nat.reduceEqDiff,f8],by simp only[sx]⟩
 ·have dl:decide ((i:Int)≤((a+(b-a)/4*2+1:Nat):Int))=false:=by simp;omega
  simp only[↓Sh.dn,sx,Nat.reduceEqDiff,f1,f6,f9,B89 (show (4:Int)≠0 by decide),hq4,wq,m2,p2,q2,dl,hres];refine⟨l1,hm,hv1,?_⟩;exact⟨fun x hx hxg=>(hch.old x (Nat.lt_of_lt_of_le hx hk1.next) (fun h=>by rcases h with h|h;exact hxg h;omega)).trans (hk1.old x hx),Nat.le_trans hk1.next hch.next,hch.wf⟩
end
def B6b(l:List Int)(f lo hi:Nat):Prop:=∀(q r:Nat) x y,lo≤r→(q=2*r+1∨q=2*r+2)→q<hi→l[f+r]?=some x→l[f+q]?=some y→A2c x y=false
theorem C6q{l:List Int}{f hi:Nat}(h:B6b l f 0 hi)(hl:f+hi≤l.length):∀(q:Nat) x y,q<hi→l[f]?=some x→l[f+q]?=some y→A2c x y=false:=by
 intro q
 induction q using Nat.strongRecOn with
 | _ q ih=>
  intro x y hq hx hy;by_cases h0:q=0
  ·subst h0
   rw[Nat.add_zero,hx]at hy;rw[←Option.some.inj hy];exact intTO.irrefl x
  ·have hr:(q-1)/2<q:=by omega
   have hz:l[f+(q-1)/2]?=some (l[f+(q-1)/2]'(by omega)):=List.getElem?_eq_getElem (by omega);exact intTO.le_trans (h q ((q-1)/2) _ _ (Nat.zero_le _) (by omega) hq hz hy) (ih _ hr x _ (by omega) hx hz)
section
variable {H:AH} {g k n cap:Nat} {l:List Int}
theorem B5k{lo hi f:Nat}(hv:A0e H g k n l)(hw:Wf H)(hl:l.length≤16000000)(hlo:lo≤hi)(hb:f+hi≤l.length)(hh:B6b l f (lo+1) hi):
  Sh.Call Tryz.prog (knows 7) 153 [.slice (some ⟨g,0,some k⟩) l.length cap,.int .i64 (lo:Int),.int .i64 (hi:Int),.int .i64 (f:Int)] H
   (fun r H'=>∃l',Mix (f+lo) (f+hi) l l'∧B6b l' f lo hi∧A0e H' g k n l'∧Chg (fun y=>y=g) H H'):=by
 refine A5a rfl Tryz.func153 rfl (Nat.le_of_ble_eq_true rfl) ?_;have hres:Tryz.f153.results.toList=[]:=rfl;have hTO:=intTO;simp only[↓Sh.dn,sx]
 refine A8d (fun m F H' => ∃ (r : Nat) (l1 : List Int), m = hi - r ∧ lo ≤ r ∧ r ≤ hi ∧ Mix (f + lo) (f + hi) l l1 ∧
     (∀(q p : Nat) x y, lo ≤ p → p ≠ r → (q = 2*p + 1 ∨ q = 2*p + 2) → q<hi → l1[f + p]? = some x → l1[f + q]? = some y → A2c x y = false) ∧
     (∀(q p : Nat) x y, lo ≤ p → (r = 2*p + 1 ∨ r = 2*p + 2) → (q = 2*r + 1 ∨ q = 2*r + 2) → q<hi → l1[f + p]? = some x → l1[f + q]? = some y → A2c x y = false) ∧
     A0e H' g k n l1 ∧ Chg (fun y => y = g) H H' ∧
     F.get 0 = some (.slice (some ⟨g, 0, some k⟩) l.length cap) ∧ F.get 2 = some (.int .i64 (hi : Int)) ∧ F.get 3 = some (.int .i64 (f : Int)) ∧ F.get 8 = some (.int .i64 (r : Int))) (m := hi-lo)
   ⟨lo, l, rfl, Nat.le_refl _, hlo, .refl l, fun q p x y h1 h2 h3 h4 hx hy => hh q p x y (by omega) h3 h4 hx hy, fun q p x y h1 h2 => by omega, hv, Chg.refl hw, by simp only[sx, reduceCtorEq], by simp only[sx, Nat.reduceEqDiff], by simp only[sx, Nat.reduceEqDiff], by simp only[sx]⟩ ?_
 rintro m F H' ⟨r,l1,rfl,hr,hrh,hm,hA,hB,hv1,hc1,f0,f2,f3,f8⟩ kk;have hlen:=hm.length;have w1:IntKind.wrap .i64 ((2:Int)*(r:Int))=((2*r:Nat):Int):=by rw[wrap64 (by omega) (by omega)];rfl
 have w2:IntKind.wrap .i64 (((2*r:Nat):Int)+1)=((2*r+1:Nat):Int):=by rw[wrap64 (by omega) (by omega)];rfl
 have w3:IntKind.wrap .i64 (((2*r+1:Nat):Int)+1)=((2*r+1+1:Nat):Int):=by rw[wrap64 (by omega) (by omega)];rfl
 simp only[↓Sh.dn,sx,Nat.reduceEqDiff,f2,f8,w1,w2];by_cases hend:hi≤2*r+1
 ·have d:decide ((hi:Int)≤((2*r+1:Nat):Int))=true:=by simp;omega
  simp only[↓Sh.dn,sx,Nat.reduceBEq,d,hres];exact⟨l1,hm,fun q p x y h1 h2 h3 hx hy=>hA q p x y h1 (by omega) h2 h3 hx hy,hv1,hc1⟩
 have d:decide ((hi:Int)≤((2*r+1:Nat):Int))=false:=by simp;omega
 simp only[↓Sh.dn,sx,d];have jr:f+r<l1.length:=by omega
 have ir:=A9c (g:=g) (k:=k) (cap:=cap) (m:=l.length) (i:=f+r) (j:=.i64) (by omega);have gr:=A3c hv1 jr;have qr:l1[f+r]?=some l1[f+r]:=List.getElem?_eq_getElem jr;have wfr:IntKind.wrap .i64 ((f:Int)+(r:Int))=((f+r:Nat):Int):=by rw[wrap64 (by omega) (by omega)];rfl
 refine B11 (fun F' H2=>H2=H'∧F'.get 0=some (.slice (some ⟨g,0,some k⟩) l.length cap)∧F'.get 2=some (.int .i64 (hi:Int))∧F'.get 3=some (.int .i64 (f:Int))∧F'.get 8=some (.int .i64 (r:Int))∧F'.get 9=some (.int .i64 ((2*r+1:Nat):Int))∧
  ∃bb:Bool,F'.get 36=some (.bool bb)∧(bb=true→2*r+2<hi∧∀y z,l1[f+(2*r+1)]?=some y→l1[f+(2*r+2)]?=some z→A2c y z=true)∧(bb=false→2*r+2<hi→∀y z,l1[f+(2*r+1)]?=some y→l1[f+(2*r+2)]?=some z→A2c y z=false)) rfl ?_ ?_
 ·refine(A7c (by kernel_rfl)).2 ?_
  by_cases h2:2*r+1+1<hi
  ·have j1:f+(2*r+1)<l1.length:=by omega
   have j2:f+(2*r+1)+1<l1.length:=by omega
   have i1:=A9c (g:=g) (k:=k) (cap:=cap) (m:=l.length) (i:=f+(2*r+1)) (j:=.i64) (by omega);have i2:=A9c (g:=g) (k:=k) (cap:=cap) (m:=l.length) (i:=f+(2*r+1)+1) (j:=.i64) (by omega);have g1:=A3c hv1 j1;have g2:=A3c hv1 j2;have u1:IntKind.wrap .i64 ((f:Int)+((2*r+1:Nat):Int))=((f+(2*r+1):Nat):Int):=by rw[wrap64 (by omega) (by omega)];rfl
   have u2:IntKind.wrap .i64 (((f+(2*r+1):Nat):Int)+1)=((f+(2*r+1)+1:Nat):Int):=by rw[wrap64 (by omega) (by omega)];rfl
   simp only[↓Sh.dn,sx,reduceCtorEq,Nat.reduceEqDiff,f0,f2,f3,w3,A2a,h2,decide_true,u1,u2,i1,i2,g1,g2];refine⟨_,_,A6d,?_⟩;simp only[sx,f8];have e1:l1[f+(2*r+1)]?=some l1[f+(2*r+1)]:=List.getElem?_eq_getElem j1;have e2:l1[f+(2*r+2)]?=some l1[f+(2*r+1)+1]:=List.getElem?_eq_getElem j2;refine⟨fun hb y z hy hz=>?_,fun hb y z hy hz=>?_⟩
   ·rw[e1]at hy;rw[e2]at hz;rw[←Option.some.inj hy,←Option.some.inj hz];exact hb
   ·rw[e1]at hy;rw[e2]at hz;rw[←Option.some.inj hy,←Option.some.inj hz];exact hb
  ·simp only[↓Sh.dn,sx,reduceCtorEq,Nat.reduceEqDiff,f0,f2,f3,f8,w3,A2a,h2,decide_false]
   try (refine fun h=>by omega)
 rintro F1 H2 ⟨rfl,x0,x2,x3,x8,x9,bb,x36,hb1,hb2⟩;refine C22 (fun F' H3=>H3=H2∧F'.get 0=some (.slice (some ⟨g,0,some k⟩) l.length cap)∧F'.get 2=some (.int .i64 (hi:Int))∧F'.get 3=some (.int .i64 (f:Int))∧F'.get 8=some (.int .i64 (r:Int))∧
  ∃c:Nat,F'.get 9=some (.int .i64 (c:Int))∧(c=2*r+1∨c=2*r+2)∧c<hi∧(∀(q:Nat) y z,(q=2*r+1∨q=2*r+2)→q<hi→l1[f+c]?=some y→l1[f+q]?=some z→A2c y z=false)) rfl ?_ ?_
 ·cases bb with
  | true=>
   obtain⟨h1,h2⟩:=hb1 rfl;simp only[↓Sh.dn,sx,reduceCtorEq,Nat.reduceEqDiff,x0,x2,x3,x8,x9,x36,w3];refine⟨2*r+2,rfl,.inr rfl,h1,fun q y z hq hqh hy hz=>?_⟩;rcases hq with rfl|rfl
   ·exact hTO.asymm (h2 z y hz hy)
   ·rw[hy]at hz;rw[←Option.some.inj hz];exact hTO.irrefl y
  | false=>
   simp only[↓Sh.dn,sx,x0,x2,x3,x8,x9,x36];refine⟨2*r+1,rfl,.inl rfl,by omega,fun q y z hq hqh hy hz=>?_⟩;rcases hq with rfl|rfl
   ·rw[hy]at hz;rw[←Option.some.inj hz];exact hTO.irrefl y
   ·exact hb2 rfl hqh y z hy hz
 rintro F' H3 ⟨rfl,g0,g2,g3,g8,c,g9,hc,hch,hmax⟩;have jc:f+c<l1.length:=by omega
 have ic:=A9c (g:=g) (k:=k) (cap:=cap) (m:=l.length) (i:=f+c) (j:=.i64) (by omega);have gc:=A3c hv1 jc;have qc:l1[f+c]?=some l1[f+c]:=List.getElem?_eq_getElem jc;have wfc:IntKind.wrap .i64 ((f:Int)+(c:Int))=((f+c:Nat):Int):=by rw[wrap64 (by omega) (by omega)];rfl
 simp only[↓Sh.dn];refine(A7c (by kernel_rfl)).2 ?_;simp only[↓Sh.dn,sx,reduceCtorEq,Nat.reduceEqDiff,g0,g3,g8,g9,wfr,wfc,ir,ic,gr,gc];refine⟨_,_,A6d,?_⟩;cases hlt:A2c l1[f+r] l1[f+c] with
 | false=>
  simp only[↓Sh.dn,sx,hres];refine⟨l1,hm,fun q p x y h1 h2 h3 hx hy=>?_,hv1,hc1⟩;by_cases hp:p=r
  ·subst hp
   rw[qr]at hx;rw[←Option.some.inj hx];exact hTO.le_trans (hmax q _ _ h2 h3 qc hy) hlt
  ·exact hA q p x y h1 hp h2 h3 hx hy
 | true=>
  obtain⟨K1,K2,e1,e2,e3,e4,e5⟩:=A7i hv1 hc1.wf jr jc;simp only[↓Sh.dn,sx];refine(A7c (by kernel_rfl)).2 ?_;simp only[↓Sh.dn,sx,reduceCtorEq,Nat.reduceEqDiff,g0,g3,g8,g9,wfr,wfc,ir,ic,gr,gc,A2m,e1,e2];refine kk (hi-c) _ _ (by omega) ⟨c,swp l1 (f+r) (f+c),rfl,by omega,by omega,hm.swap (by omega) (by omega) (by omega) (by omega),fun q p x y h1 h2 h3 h4 hx hy=>?_,fun q p x y h1 h2 h3 h4 hx hy=>?_,e3,hc1.trans e4,by simp only[sx,reduceCtorEq,g0],by simp only[sx,Nat.reduceEqDiff,g2],by simp only[sx,Nat.reduceEqDiff,g3],by simp only[sx]⟩
  ·rw[swp_get jr jc]at hx hy
   by_cases hp:p=r
   ·subst hp
    rw[if_neg (by omega),if_pos rfl,qc]at hx;rw[←Option.some.inj hx];by_cases hq:q=c
    ·subst hq
     rw[if_pos rfl,qr]at hy;rw[←Option.some.inj hy];exact hTO.asymm hlt
    ·rw[if_neg (by omega),if_neg (by omega)]at hy
     exact hmax q _ _ h3 h4 qc hy
   ·rw[if_neg (by omega),if_neg (by omega)]at hx
    by_cases hq:q=r
    ·subst hq
     rw[if_neg (by omega),if_pos rfl]at hy;exact hB c p x _ h1 (by omega) hc hch hx hy
    ·by_cases hq2:q=c
     ·omega
     ·rw[if_neg (by omega),if_neg (by omega)]at hy
      exact hA q p x y h1 hp h3 h4 hx hy
  ·have hpr:p=r:=by omega
   subst hpr;rw[swp_get jr jc]at hx hy;rw[if_neg (by omega),if_pos rfl,qc]at hx;rw[if_neg (by omega),if_neg (by omega)]at hy;rw[←Option.some.inj hx];exact hA q c _ _ (by omega) (by omega) h3 h4 qc hy
theorem C0b{a b:Nat}(hv:A0e H g k n l)(hw:Wf H)(hl:l.length≤16000000)(hab:a<b)(hb:b≤l.length):
  Sh.Call Tryz.prog (knows 7) 135 [.slice (some ⟨g,0,some k⟩) l.length cap,.int .i64 (a:Int),.int .i64 (b:Int)] H
   (fun r H'=>∃l',Mix a b l l'∧Srt A2c a b l'∧A0e H' g k n l'∧Chg (fun y=>y=g) H H'):=by
 refine A5a rfl Tryz.func135 rfl (Nat.le_of_ble_eq_true rfl) ?_;have hres:Tryz.f135.results.toList=[]:=rfl;have hTO:=intTO;obtain⟨hi,rfl⟩:∃hi,b=a+hi:=⟨b-a,by omega⟩
 have w0:IntKind.wrap .i64 (((a+hi:Nat):Int)-(a:Int))=(hi:Int):=by rw[wrap64 (by omega) (by omega)];omega
 have w1:IntKind.wrap .i64 ((hi:Int)-1)=((hi-1:Nat):Int):=by rw[wrap64 (by omega) (by omega)];omega
 have hq2:(Int.tdiv ((hi-1:Nat):Int) 2)=(((hi-1)/2:Nat):Int):=by rw[Int.tdiv_eq_ediv_of_nonneg (by omega)];rfl
 have wq:IntKind.wrap .i64 (((hi-1)/2:Nat):Int)=(((hi-1)/2:Nat):Int):=wrap64 (by omega) (by omega);simp only[↓Sh.dn,sx,Nat.reduceEqDiff,w0,w1,B89 (show (2:Int)≠0 by decide),hq2,wq]
 refine B47 (fun F' H2 => ∃ l1 : List Int, Mix a (a + hi) l l1 ∧ B6b l1 a 0 hi ∧ A0e H2 g k n l1 ∧ Chg (fun y => y = g) H H2 ∧
     F'.get 0 = some (.slice (some ⟨g, 0, some k⟩) l.length cap) ∧ F'.get 6 = some (.int .i64 (a : Int)) ∧ F'.get 7 = some (.int .i64 0) ∧ F'.get 8 = some (.int .i64 (hi : Int))) (by rfl) ?_ ?_
 ·refine A8d (fun m F H' => ∃ l1 : List Int, m ≤ (hi - 1) / 2 + 1 ∧ Mix a (a + hi) l l1 ∧ B6b l1 a m hi ∧ A0e H' g k n l1 ∧ Chg (fun y => y = g) H H' ∧
    F.get 0 = some (.slice (some ⟨g, 0, some k⟩) l.length cap) ∧ F.get 6 = some (.int .i64 (a : Int)) ∧ F.get 7 = some (.int .i64 0) ∧ F.get 8 = some (.int .i64 (hi : Int)) ∧ F.get 9 = some (.int .i64 ((m : Int)-1))) (m := (hi-1)/2 + 1)
    ⟨l, Nat.le_refl _, .refl l, fun q r x y h1 h2 h3 => by omega, hv, Chg.refl hw, by simp only[sx, reduceCtorEq], by simp only[sx, Nat.reduceEqDiff], by simp only[sx, Nat.reduceEqDiff], by simp only[sx, Nat.reduceEqDiff], by simp only[sx];congr 2;omega⟩ ?_
  rintro m F H' ⟨l1, hmh, hm, hh, hv1, hc1, f0, f6, f7, f8, f9⟩ kk;have hlen := hm.length;cases m with
  | zero =>
    have d : decide ((0 : Int) ≤ ((0 : Nat) : Int)-1) = false := by simp
    simp only[↓Sh.dn, sx, reduceCtorEq, Nat.reduceEqDiff, f9, d, f0, f6, f7, f8];exact⟨l1, hm, hh, hv1, hc1⟩
  | succ m =>
    have e9 : ((m + 1 : Nat) : Int)-1 = (m : Int) := by omega
    rw[e9]at f9;have d : decide ((0 : Int) ≤ (m : Int)) = true := by simp
    obtain⟨r, H2, hd, l2, hm2, hh2, hv2, hc2⟩ := B5k (cap := cap) (lo := m) (hi := hi) (f := a) hv1 hc1.wf (by omega) (by omega) (by omega) hh;have wm : IntKind.wrap .i64 ((m : Int)-1) = (m : Int)-1 := wrap64 (by omega) (by omega);rw[hlen]at hd;simp only[↓Sh.dn, sx, reduceCtorEq, Nat.reduceEqDiff, f9, d, f0, f6, f8];refine⟨_, _, hd, ?_⟩;simp only[wm];exact kk m _ _ (by omega) ⟨l2, by omega, hm.trans (hm2.wide (by omega) (Nat.le_refl _)), hh2, hv2, hc1.trans hc2, by simp only[sx, reduceCtorEq, f0], by simp only[sx, Nat.reduceEqDiff, f6], by simp only[sx, Nat.reduceEqDiff, f7], by simp only[sx, Nat.reduceEqDiff, f8], by simp only[sx]⟩
 rintro F1 H1 ⟨l1,hm1,hh1,hv1,hc1,f0,f6,f7,f8⟩;have hlen1:=hm1.length;simp only[↓Sh.dn,sx,f8,w1]
 refine A8d (fun m F H' => ∃ l2 : List Int, m ≤ hi ∧ Mix a (a + hi) l l2 ∧ B6b l2 a 0 m ∧ (∀ (p q : Nat) x y, p < q → m ≤ q → q < hi → l2[a + p]? = some x → l2[a + q]? = some y → A2c y x = false) ∧ A0e H' g k n l2 ∧ Chg (fun y => y = g) H H' ∧
     F.get 0 = some (.slice (some ⟨g, 0, some k⟩) l.length cap) ∧ F.get 6 = some (.int .i64 (a : Int)) ∧ F.get 7 = some (.int .i64 0) ∧ F.get 10 = some (.int .i64 ((m : Int)-1))) (m := hi)
   ⟨l1, Nat.le_refl _, hm1, hh1, fun p q x y h1 h2 h3 => by omega, hv1, hc1, by simp only[sx, reduceCtorEq, f0], by simp only[sx, Nat.reduceEqDiff, f6], by simp only[sx, Nat.reduceEqDiff, f7], by simp only[sx];congr 2;omega⟩ ?_
 rintro m F H' ⟨l2,hmh,hm,hh,hT,hv2,hc2,f0,f6,f7,f10⟩ kk;have hlen:=hm.length;cases m with
 | zero=>
  have d:decide ((0:Int)≤((0:Nat):Int)-1)=false:=by simp
  simp only[↓Sh.dn,sx,f10,d,hres];refine⟨l2,hm,fun i j x y h1 h2 h3 hx hy=>?_,hv2,hc2⟩;by_cases hij:i=j
  ·subst hij
   rw[hx]at hy;rw[←Option.some.inj hy];exact hTO.irrefl x
  ·exact hT (i-a) (j-a) x y (by omega) (Nat.zero_le _) (by omega) (by rw[show a+(i-a)=i by omega];exact hx) (by rw[show a+(j-a)=j by omega];exact hy)
 | succ m=>
  have e10:((m+1:Nat):Int)-1=(m:Int):=by omega
  rw[e10]at f10;have d:decide ((0:Int)≤(m:Int))=true:=by simp
  have ja:a<l2.length:=by omega
  have jm:a+m<l2.length:=by omega
  have i1:=A9c (g:=g) (k:=k) (cap:=cap) (m:=l.length) (i:=a) (j:=.i64) (by omega);have i2:=A9c (g:=g) (k:=k) (cap:=cap) (m:=l.length) (i:=a+m) (j:=.i64) (by omega);have g1:=A3c hv2 ja;have g2:=A3c hv2 jm;have wam:IntKind.wrap .i64 ((a:Int)+(m:Int))=((a+m:Nat):Int):=by rw[wrap64 (by omega) (by omega)];rfl
  have wm:IntKind.wrap .i64 ((m:Int)-1)=(m:Int)-1:=wrap64 (by omega) (by omega);obtain⟨K1,K2,e1,e2,e3,e4,e5⟩:=A7i hv2 hc2.wf ja jm;have hsw:Mix a (a+(m+1)) l2 (swp l2 a (a+m)):=(Mix.refl l2).swap (by omega) (by omega) (by omega) (by omega);obtain⟨r,H3,hd,l3,hm3,hh3,hv3,hc3⟩:=B5k (cap:=cap) (lo:=0) (hi:=m) (f:=a) e3 e4.wf (by rw[A61];omega) (by omega) (by rw[A61];omega) (fun q p x y h1 h2 h3 hx hy=>by
   rw[swp_get ja jm,if_neg (by omega),if_neg (by omega)]at hx hy;exact hh q p x y (Nat.zero_le _) h2 (by omega) hx hy)
  rw[A61,hlen]at hd;have hmix:Mix a (a+(m+1)) l2 l3:=hsw.trans (hm3.wide (by omega) (by omega));have hl3:=hmix.length;simp only[↓Sh.dn,sx,f10,d];refine(A7c (by kernel_rfl)).2 ?_;simp only[↓Sh.dn,sx,reduceCtorEq,Nat.reduceEqDiff,f0,f6,f7,f10,wam,i1,i2,g1,g2,A2m,e1,e2];refine⟨_,_,hd,?_⟩;simp only[wm];have qa:l2[a]?=some l2[a]:=List.getElem?_eq_getElem ja;refine kk m _ _ (by omega) ⟨l3,by omega,hm.trans (hmix.wide (Nat.le_refl _) (by omega)),hh3,fun p q x y h1 h2 h3 hx hy=>?_,hv3,(hc2.trans e4).trans hc3,by simp only[sx,reduceCtorEq,f0],by simp only[sx,Nat.reduceEqDiff,f6],by simp only[sx,Nat.reduceEqDiff,f7],by simp only[sx]⟩;by_cases hq:q=m
  ·subst hq
   have hy':l3[a+q]?=some l2[a]:=by
    rw[hm3.out (.inr (by omega)),swp_get ja jm,if_pos rfl,qa]
   rw[hy']at hy;rw[←Option.some.inj hy];refine hmix.all (p:=fun x=>A2c l2[a] x=false) (by omega) (fun i z hi1 hi2 hz=>?_) (a+p) x (by omega) (by omega) hx;exact C6q hh (by omega) (i-a) _ _ (by omega) qa (by rw[show a+(i-a)=i by omega];exact hz)
  ·have hyq:l2[a+q]?=some y:=by rw[←hmix.out (.inr (by omega))];exact hy
   by_cases hp:p≤m
   ·refine hmix.all (p:=fun x=>A2c y x=false) (by omega) (fun i z hi1 hi2 hz=>?_) (a+p) x (by omega) (by omega) hx
    exact hT (i-a) q z y (by omega) (by omega) h3 (by rw[show a+(i-a)=i by omega];exact hz) hyq
   ·have hxp:l2[a+p]?=some x:=by rw[←hmix.out (.inr (by omega))];exact hx
    exact hT p q x y h1 (by omega) h3 hxp hyq
end
section
variable {H:AH} {g k n cap a b:Nat} {l:List Int}
theorem B64{p:Nat}(hv:A0e H g k n l)(hw:Wf H)(hl:l.length≤16000000)(hap:a≤p)(hpb:p<b)(hb:b≤l.length):
  Sh.Call Tryz.prog (knows 7) 142 [.slice (some ⟨g,0,some k⟩) l.length cap,.int .i64 (a:Int),.int .i64 (b:Int),.int .i64 (p:Int)] H
   (fun r H'=>∃(m:Nat) (al:Bool),r=.tuple #[.int .i64 (m:Int),.bool al]∧a≤m∧m<b∧∃l':List Int,Mix a b l l'∧∃y,l'[m]?=some y∧(∀(q:Nat) x,a≤q→q<m→l'[q]?=some x→A2c x y=true)∧(∀(q:Nat) x,m<q→q<b→l'[q]?=some x→A2c x y=false)∧A0e H' g k n l'∧Chg (fun y=>y=g) H H'):=by
 refine A5a rfl Tryz.func142 rfl (Nat.le_of_ble_eq_true rfl) ?_;have hTO:=intTO;have ja:a<l.length:=by omega
 have jp:p<l.length:=by omega
 have ia:=A9c (g:=g) (k:=k) (cap:=cap) (m:=l.length) (i:=a) (j:=.i64) ja;have ip:=A9c (g:=g) (k:=k) (cap:=cap) (m:=l.length) (i:=p) (j:=.i64) jp;have xa:=A3c hv ja;have xp:=A3c hv jp;have wa:IntKind.wrap .i64 ((a:Int)+1)=((a+1:Nat):Int):=by rw[wrap64 (by omega) (by omega)];rfl
 have wb:IntKind.wrap .i64 ((b:Int)-1)=((b-1:Nat):Int):=by rw[wrap64 (by omega) (by omega)];omega
 obtain⟨K1,H1,e1,e2,hv1,hc1,e5⟩:=A7i hv hw ja jp;have hm1:Mix a b l (swp l a p):=(Mix.refl l).swap (by omega) (by omega) (by omega) (by omega);simp only[↓Sh.dn,sx];refine(A7c (by kernel_rfl)).2 ?_;simp only[↓Sh.dn,sx,reduceCtorEq,Nat.reduceEqDiff,ia,ip,xa,xp,A2m,e1,e2,wa,wb];have hpa:(swp l a p)[a]?=some l[p]:=by
  rw[swp_get ja jp];by_cases h:a=p
  ·rw[if_pos h,List.getElem?_eq_getElem ja];simp only[h]
  ·rw[if_neg h,if_pos rfl];exact List.getElem?_eq_getElem jp
 generalize l[p]=pv at hpa xp e1;generalize hL0:swp l a p=l1 at hpa hm1 hv1;have hlen:=hm1.length;have xa:H1.cell ⟨g,a,some k⟩=some (Value.int .i64 pv):=hv1.cell (by simp[hpa]);have hres:Tryz.f142.results.toList=[.tmp 8,.tmp 9]:=rfl
 have last : ∀ (l1 : List Int) (H' : AH) (i j : Nat), Mix a b l l1 → l1[a]? = some pv → a ≤ j → j < b → (∀ (q : Nat) x, a + 1 ≤ q → q ≤ j → l1[q]? = some x → A2c x pv = true) → (∀ (q : Nat) x, j < q → q < b → l1[q]? = some x → A2c x pv = false) →
     Mix a b l (swp l1 j a) ∧ (swp l1 j a)[j]? = some pv ∧ (∀(q : Nat) x, a ≤ q → q<j → (swp l1 j a)[q]? = some x → A2c x pv = true) ∧ (∀(q : Nat) x, j<q → q<b → (swp l1 j a)[q]? = some x → A2c x pv = false) := by
   intro l1 H' i j hm hp hj hjb h1 h2;have hlen := hm.length;have jj : j<l1.length := by omega
   have ja : a<l1.length := by omega
   refine⟨hm.swap (by omega) (by omega) (by omega) (by omega), ?_, fun q x hq1 hq2 hx => ?_, fun q x hq1 hq2 hx => ?_⟩
   · rw[swp_get jj ja]
     by_cases h : j = a
     · rw[if_pos h, h];exact hp
     · rw[if_neg h, if_pos rfl];exact hp
   · rw[swp_get jj ja]at hx
     by_cases h : q = a
     · rw[if_pos h]at hx;exact h1 j x (by omega) (Nat.le_refl _) hx
     · rw[if_neg h, if_neg (by omega)]at hx;exact h1 q x (by omega) (by omega) hx
   · rw[swp_get jj ja, if_neg (by omega), if_neg (by omega)]at hx
     exact h2 q x hq1 hq2 hx
 obtain⟨MF1,hMF1⟩:∃M:Fr→AH→Prop,M=fun F' H9=>H1=H9∧∃v:Nat,F'.get 0=some (.slice (some ⟨g,0,some k⟩) l.length cap)∧F'.get 1=some (.int .i64 (a:Int))∧F'.get 10=some (.int .i64 ((v:Nat):Int))∧F'.get 11=some (.int .i64 (((b-1):Nat):Int))∧(a+1)≤v∧v≤(b-1)+1∧(∀(q:Nat) x,(a+1)≤q→q<v→l1[q]?=some x→A2c x pv=true)∧(v≤(b-1)→∀x,l1[v]?=some x→A2c x pv=false):=⟨_,rfl⟩
 refine B47 MF1 (by rfl) ?_ ?_
 ·refine A8d (fun m F' H9 => H1 = H9 ∧ ∃ v : Nat, m = (b - 1) + 1 - v ∧ F'.get 0 = some (.slice (some ⟨g, 0, some k⟩) l.length cap) ∧ F'.get 1 = some (.int .i64 (a : Int)) ∧ F'.get 10 = some (.int .i64 ((v : Nat) : Int)) ∧ F'.get 11 = some (.int .i64 (((b - 1) : Nat) : Int)) ∧ (a + 1) ≤ v ∧ v ≤ (b - 1) + 1 ∧ (∀ (q : Nat) x, (a + 1) ≤ q → q < v → l1[q]? = some x → A2c x pv = true)) (m := (b - 1) + 1 - (a + 1))
    ⟨rfl, (a + 1), rfl, by simp only[sx, reduceCtorEq], by simp only[sx, Nat.reduceEqDiff], by simp only[sx, Nat.reduceEqDiff], by simp only[sx], by omega, by omega, fun q x h1 h2 => by omega⟩ ?_
  rintro m F' H9 ⟨rfl, v, rfl, g0, g1, gi, gj, h1, h2, h3⟩ k2;simp only[↓Sh.dn];refine(A7c (by kernel_rfl)).2 ?_;by_cases hle : v ≤ (b-1)
  · have jv : v<l1.length := by omega
    have iv := A9c (g := g) (k := k) (cap := cap) (m := l.length) (i := v) (j := .i64) (by omega);have xv := A3c hv1 jv;have qv : l1[v]? = some l1[v] := List.getElem?_eq_getElem jv;have wv : IntKind.wrap .i64 ((v : Int) + 1) = ((v + 1 : Nat) : Int) := by rw[wrap64 (by omega) (by omega)];rfl
    simp only[↓Sh.dn, sx, reduceCtorEq, Nat.reduceEqDiff, g0, g1, gi, gj, A3t, hle, decide_true, iv, ia, xv, xa];refine⟨_, _, A6d, ?_⟩;cases hlt : A2c l1[v] pv with
    | true =>
      simp only[↓Sh.dn, sx, Nat.reduceEqDiff, gi, wv];refine k2 ((b-1) + 1-(v + 1)) _ _ (by omega) ⟨rfl, v + 1, rfl, by simp only[sx, reduceCtorEq, g0], by simp only[sx, Nat.reduceEqDiff, g1], by simp only[sx], by simp only[sx, Nat.reduceEqDiff, gj], by omega, by omega, fun q x hq1 hq2 hx => ?_⟩
      · by_cases hq : q = v
        · subst hq;rw[qv]at hx;rw[←Option.some.inj hx];exact hlt
        · exact h3 q x (by omega) (by omega) hx
    | false =>
      simp only[↓Sh.dn, sx, reduceCtorEq, Nat.reduceEqDiff, hMF1, g0, g1, gi, gj];exact⟨v, rfl, h1, h2, h3, fun _ x hx => by rw[qv]at hx;rw[←Option.some.inj hx];exact hlt⟩
  · simp only[↓Sh.dn, sx, reduceCtorEq, Nat.reduceEqDiff, hMF1, g0, g1, gi, gj, A3t, hle, decide_false]
    exact⟨v, rfl, h1, h2, h3, fun h => absurd h hle⟩
 intro F1 H9 h9;rw[hMF1]at h9;obtain⟨rfl,i1,u0,u1,ui,uj,u5,u6,u7,u8⟩:=h9;simp only[↓Sh.dn];obtain⟨MF2,hMF2⟩:∃M:Fr→AH→Prop,M=fun F' H9=>H1=H9∧∃v:Nat,F'.get 0=some (.slice (some ⟨g,0,some k⟩) l.length cap)∧F'.get 1=some (.int .i64 (a:Int))∧F'.get 10=some (.int .i64 ((i1:Nat):Int))∧F'.get 11=some (.int .i64 ((v:Nat):Int))∧i1≤v+1∧v≤(b-1)∧(∀(q:Nat) x,v<q→q≤(b-1)→l1[q]?=some x→A2c x pv=false)∧(i1≤v→∀x,l1[v]?=some x→A2c x pv=true):=⟨_,rfl⟩
 refine B47 MF2 (by rfl) ?_ ?_
 ·refine A8d (fun m F' H9 => H1 = H9 ∧ ∃ v : Nat, m = v ∧ F'.get 0 = some (.slice (some ⟨g, 0, some k⟩) l.length cap) ∧ F'.get 1 = some (.int .i64 (a : Int)) ∧ F'.get 10 = some (.int .i64 ((i1 : Nat) : Int)) ∧ F'.get 11 = some (.int .i64 ((v : Nat) : Int)) ∧ i1 ≤ v + 1 ∧ v ≤ (b - 1) ∧ (∀ (q : Nat) x, v < q → q ≤ (b - 1) → l1[q]? = some x → A2c x pv = false)) (m := (b - 1))
    ⟨rfl, (b-1), rfl, by simp only[u0], by simp only[u1], by simp only[ui], by simp only[uj], by omega, by omega, fun q x h1 h2 => by omega⟩ ?_
  rintro v F' H9 ⟨rfl, _, rfl, g0, g1, gi, gj, h1, h2, h3⟩ k2;simp only[↓Sh.dn];refine(A7c (by kernel_rfl)).2 ?_;by_cases hle : i1 ≤ v
  · have jv : v<l1.length := by omega
    have iv := A9c (g := g) (k := k) (cap := cap) (m := l.length) (i := v) (j := .i64) (by omega);have xv := A3c hv1 jv;have qv : l1[v]? = some l1[v] := List.getElem?_eq_getElem jv;have wv : IntKind.wrap .i64 ((v : Int)-1) = ((v-1 : Nat) : Int) := by rw[wrap64 (by omega) (by omega)];omega
    simp only[↓Sh.dn, sx, reduceCtorEq, Nat.reduceEqDiff, g0, g1, gi, gj, A3t, hle, decide_true, iv, ia, xv, xa];refine⟨_, _, A6d, ?_⟩;cases hlt : A2c l1[v] pv with
    | false =>
      simp only[↓Sh.dn, sx, Nat.reduceEqDiff, gj, wv];refine k2 ((v-1)) _ _ (by omega) ⟨rfl, v-1, rfl, by simp only[sx, reduceCtorEq, g0], by simp only[sx, Nat.reduceEqDiff, g1], by simp only[sx, Nat.reduceEqDiff, gi], by simp only[sx], by omega, by omega, fun q x hq1 hq2 hx => ?_⟩
      · by_cases hq : q = v
        · subst hq;rw[qv]at hx;rw[←Option.some.inj hx];exact hlt
        · exact h3 q x (by omega) (by omega) hx
    | true =>
      simp only[↓Sh.dn, sx, reduceCtorEq, Nat.reduceEqDiff, hMF2, g0, g1, gi, gj];exact⟨v, rfl, h1, h2, h3, fun _ x hx => by rw[qv]at hx;rw[←Option.some.inj hx];exact hlt⟩
  · simp only[↓Sh.dn, sx, reduceCtorEq, Nat.reduceEqDiff, hMF2, g0, g1, gi, gj, A3t, hle, decide_false]
    exact⟨v, rfl, h1, h2, h3, fun h => absurd h hle⟩
 intro F2 H9 h9;rw[hMF2]at h9;obtain⟨rfl,j1,w0,w1,wi,wj,w5,w6,w7,w8⟩:=h9;simp only[↓Sh.dn,sx,Nat.reduceEqDiff,wi,wj,A2a];by_cases hgt:j1<i1
 ·have jj:j1<l1.length:=by omega
  have ja1:a<l1.length:=by omega
  have ij:=A9c (g:=g) (k:=k) (cap:=cap) (m:=l.length) (i:=j1) (j:=.i64) (by omega);have xj:=A3c hv1 jj;have xa':=A3c hv1 ja1;obtain⟨L1,L2,d1,d2,hv2,hc2,d5⟩:=A7i hv1 hc1.wf jj ja1;obtain⟨p1,p2,p3,p4⟩:=last l1 H1 i1 j1 hm1 hpa (by omega) (by omega) (fun q x h1 h2 hx=>u7 q x h1 (by omega) hx) (fun q x h1 h2 hx=>w7 q x h1 (by omega) hx);simp only[↓Sh.dn,sx,hgt,decide_true];refine(A7c (by kernel_rfl)).2 ?_;simp only[↓Sh.dn,sx,reduceCtorEq,Nat.reduceEqDiff,w0,w1,wj,ij,ia,xj,xa',A2m,d1,d2,hres];exact⟨j1,_,rfl,by omega,by omega,swp l1 j1 a,p1,pv,p2,p3,p4,hv2,hc1.trans hc2⟩
 simp only[↓Sh.dn,sx,hgt,decide_false];have hij:i1<j1:=by
  by_cases h:i1=j1
  ·have h1:=u8 (by omega)
   have h2:=w8 (by omega);obtain⟨x,hx⟩:∃x,l1[i1]?=some x:=⟨_,List.getElem?_eq_getElem (by omega)⟩
   have a1:=h1 x hx;have a2:=h2 x (by rw[←h];exact hx);rw[a1]at a2;cases a2
  ·omega
 have ji1:i1<l1.length:=by omega
 have jj1:j1<l1.length:=by omega
 have ii:=A9c (g:=g) (k:=k) (cap:=cap) (m:=l.length) (i:=i1) (j:=.i64) (by omega);have ij:=A9c (g:=g) (k:=k) (cap:=cap) (m:=l.length) (i:=j1) (j:=.i64) (by omega);have xi:=A3c hv1 ji1;have xj:=A3c hv1 jj1;have yi:IntKind.wrap .i64 ((i1:Int)+1)=((i1+1:Nat):Int):=by rw[wrap64 (by omega) (by omega)];rfl
 have yj:IntKind.wrap .i64 ((j1:Int)-1)=((j1-1:Nat):Int):=by rw[wrap64 (by omega) (by omega)];omega
 obtain⟨L1,L2,d1,d2,hv2,hc2,d5⟩:=A7i hv1 hc1.wf ji1 jj1;refine(A7c (by kernel_rfl)).2 ?_;simp only[↓Sh.dn,sx,reduceCtorEq,Nat.reduceEqDiff,w0,wi,wj,ii,ij,xi,xj,A2m,d1,d2,yi,yj]
 have pair : ∀ (l1 : List Int) (i0 i1 j0 j1 : Nat), l1.length = l.length → l1[a]? = some pv → a + 1 ≤ i0 → i0 ≤ i1 → i1 < j1 → j1 ≤ j0 → j0 < b → (∀ (q : Nat) x, a + 1 ≤ q → q < i1 → l1[q]? = some x → A2c x pv = true) → (∀ (q : Nat) x, j1 < q → q < b → l1[q]? = some x → A2c x pv = false) →
     (∀x, l1[i1]? = some x → A2c x pv = false) → (∀x, l1[j1]? = some x → A2c x pv = true) → (swp l1 i1 j1)[a]? = some pv ∧ (∀(q : Nat) x, a + 1 ≤ q → q<i1 + 1 → (swp l1 i1 j1)[q]? = some x → A2c x pv = true) ∧ (∀(q : Nat) x, j1-1<q → q<b → (swp l1 i1 j1)[q]? = some x → A2c x pv = false) := by
   intro l1 i0 i1 j0 j1 hlen hp h1 h2 h3 h4 h5 hA hB hi hj;have ji : i1<l1.length := by omega
   have jj : j1<l1.length := by omega
   refine⟨by rw[swp_get ji jj, if_neg (by omega), if_neg (by omega)];exact hp, fun q x hq1 hq2 hx => ?_, fun q x hq1 hq2 hx => ?_⟩
   · rw[swp_get ji jj, if_neg (by omega)]at hx
     by_cases h : q = i1
     · rw[if_pos h]at hx;exact hj x hx
     · rw[if_neg h]at hx;exact hA q x hq1 (by omega) hx
   · rw[swp_get ji jj]at hx
     by_cases h : q = j1
     · rw[if_pos h]at hx;exact hi x hx
     · rw[if_neg h, if_neg (by omega)]at hx;exact hB q x (by omega) hq2 hx
 obtain⟨s1,s2,s3⟩:=pair l1 (a+1) i1 (b-1) j1 (by omega) hpa (Nat.le_refl _) (by omega) hij (by omega) (by omega) u7 (fun q x h1 h2 hx=>w7 q x h1 (by omega) hx) (u8 (by omega)) (w8 (by omega))
 refine A8d (fun m F' H2 => ∃ (i j : Nat) (l1 : List Int), m = j + 1 - i ∧ a + 1 ≤ i ∧ i ≤ j + 1 ∧ j < b ∧ Mix a b l l1 ∧ l1[a]? = some pv ∧ (∀ (q : Nat) x, a + 1 ≤ q → q < i → l1[q]? = some x → A2c x pv = true) ∧ (∀ (q : Nat) x, j < q → q < b → l1[q]? = some x → A2c x pv = false) ∧ A0e H2 g k n l1 ∧ Chg (fun y => y = g) H H2 ∧
     F'.get 0 = some (.slice (some ⟨g, 0, some k⟩) l.length cap) ∧ F'.get 1 = some (.int .i64 (a : Int)) ∧ F'.get 10 = some (.int .i64 ((i : Nat) : Int)) ∧ F'.get 11 = some (.int .i64 ((j : Nat) : Int))) (m := j1-1 + 1-(i1 + 1))
   ⟨i1 + 1, j1-1, swp l1 i1 j1, rfl, by omega, by omega, by omega, hm1.swap (by omega) (by omega) (by omega) (by omega), s1, s2, s3, hv2, hc1.trans hc2, by simp only[sx, reduceCtorEq, w0], by simp only[sx, Nat.reduceEqDiff, w1], by simp only[sx, Nat.reduceEqDiff], by simp only[sx]⟩ ?_
 clear xa xi xj hpa hm1 hv1 hlen ji1 jj1 s1 s2 s3 hv2 d1 d2 u7 u8 w7 w8;clear hL0;rintro m F H2 ⟨i0,j0,l1,rfl,hi0,hij0,hj0,hm1,hpa,hA,hB,hv1,hc1,f0,f1,fi,fj⟩ kk;have hlen:=hm1.length;have xa:H2.cell ⟨g,a,some k⟩=some (Value.int .i64 pv):=hv1.cell (by simp[hpa]);simp only[↓Sh.dn];obtain⟨MF3,hMF3⟩:∃M:Fr→AH→Prop,M=fun F' H9=>H2=H9∧∃v:Nat,F'.get 0=some (.slice (some ⟨g,0,some k⟩) l.length cap)∧F'.get 1=some (.int .i64 (a:Int))∧F'.get 10=some (.int .i64 ((v:Nat):Int))∧F'.get 11=some (.int .i64 ((j0:Nat):Int))∧i0≤v∧v≤j0+1∧(∀(q:Nat) x,i0≤q→q<v→l1[q]?=some x→A2c x pv=true)∧(v≤j0→∀x,l1[v]?=some x→A2c x pv=false):=⟨_,rfl⟩
 refine B47 MF3 (by rfl) ?_ ?_
 ·refine A8d (fun m F' H9 => H2 = H9 ∧ ∃ v : Nat, m = j0 + 1 - v ∧ F'.get 0 = some (.slice (some ⟨g, 0, some k⟩) l.length cap) ∧ F'.get 1 = some (.int .i64 (a : Int)) ∧ F'.get 10 = some (.int .i64 ((v : Nat) : Int)) ∧ F'.get 11 = some (.int .i64 ((j0 : Nat) : Int)) ∧ i0 ≤ v ∧ v ≤ j0 + 1 ∧ (∀ (q : Nat) x, i0 ≤ q → q < v → l1[q]? = some x → A2c x pv = true)) (m := j0 + 1 - i0)
    ⟨rfl, i0, rfl, by simp only[f0], by simp only[f1], by simp only[fi], by simp only[fj], by omega, by omega, fun q x h1 h2 => by omega⟩ ?_
  rintro m F' H9 ⟨rfl, v, rfl, g0, g1, gi, gj, h1, h2, h3⟩ k2;simp only[↓Sh.dn];refine(A7c (by kernel_rfl)).2 ?_;by_cases hle : v ≤ j0
  · have jv : v<l1.length := by omega
    have iv := A9c (g := g) (k := k) (cap := cap) (m := l.length) (i := v) (j := .i64) (by omega);have xv := A3c hv1 jv;have qv : l1[v]? = some l1[v] := List.getElem?_eq_getElem jv;have wv : IntKind.wrap .i64 ((v : Int) + 1) = ((v + 1 : Nat) : Int) := by rw[wrap64 (by omega) (by omega)];rfl
    simp only[↓Sh.dn, sx, reduceCtorEq, Nat.reduceEqDiff, g0, g1, gi, gj, A3t, hle, decide_true, iv, ia, xv, xa];refine⟨_, _, A6d, ?_⟩;cases hlt : A2c l1[v] pv with
    | true =>
      simp only[↓Sh.dn, sx, Nat.reduceEqDiff, gi, wv];refine k2 (j0 + 1-(v + 1)) _ _ (by omega) ⟨rfl, v + 1, rfl, by simp only[sx, reduceCtorEq, g0], by simp only[sx, Nat.reduceEqDiff, g1], by simp only[sx], by simp only[sx, Nat.reduceEqDiff, gj], by omega, by omega, fun q x hq1 hq2 hx => ?_⟩
      · by_cases hq : q = v
        · subst hq;rw[qv]at hx;rw[←Option.some.inj hx];exact hlt
        · exact h3 q x (by omega) (by omega) hx
    | false =>
      simp only[↓Sh.dn, sx, reduceCtorEq, Nat.reduceEqDiff, hMF3, g0, g1, gi, gj];exact⟨v, rfl, h1, h2, h3, fun _ x hx => by rw[qv]at hx;rw[←Option.some.inj hx];exact hlt⟩
  · simp only[↓Sh.dn, sx, reduceCtorEq, Nat.reduceEqDiff, hMF3, g0, g1, gi, gj, A3t, hle, decide_false]
    exact⟨v, rfl, h1, h2, h3, fun h => absurd h hle⟩
 intro F3 H9 h9;rw[hMF3]at h9;obtain⟨rfl,i2,u0,u1,ui,uj,u5,u6,u7,u8⟩:=h9;simp only[↓Sh.dn];obtain⟨MF4,hMF4⟩:∃M:Fr→AH→Prop,M=fun F' H9=>H2=H9∧∃v:Nat,F'.get 0=some (.slice (some ⟨g,0,some k⟩) l.length cap)∧F'.get 1=some (.int .i64 (a:Int))∧F'.get 10=some (.int .i64 ((i2:Nat):Int))∧F'.get 11=some (.int .i64 ((v:Nat):Int))∧i2≤v+1∧v≤j0∧(∀(q:Nat) x,v<q→q≤j0→l1[q]?=some x→A2c x pv=false)∧(i2≤v→∀x,l1[v]?=some x→A2c x pv=true):=⟨_,rfl⟩
 refine B47 MF4 (by rfl) ?_ ?_
 ·refine A8d (fun m F' H9 => H2 = H9 ∧ ∃ v : Nat, m = v ∧ F'.get 0 = some (.slice (some ⟨g, 0, some k⟩) l.length cap) ∧ F'.get 1 = some (.int .i64 (a : Int)) ∧ F'.get 10 = some (.int .i64 ((i2 : Nat) : Int)) ∧ F'.get 11 = some (.int .i64 ((v : Nat) : Int)) ∧ i2 ≤ v + 1 ∧ v ≤ j0 ∧ (∀ (q : Nat) x, v < q → q ≤ j0 → l1[q]? = some x → A2c x pv = false)) (m := j0)
    ⟨rfl, j0, rfl, by simp only[u0], by simp only[u1], by simp only[ui], by simp only[uj], by omega, by omega, fun q x h1 h2 => by omega⟩ ?_
  rintro v F' H9 ⟨rfl, _, rfl, g0, g1, gi, gj, h1, h2, h3⟩ k2;simp only[↓Sh.dn];refine(A7c (by kernel_rfl)).2 ?_;by_cases hle : i2 ≤ v
  · have jv : v<l1.length := by omega
    have iv := A9c (g := g) (k := k) (cap := cap) (m := l.length) (i := v) (j := .i64) (by omega);have xv := A3c hv1 jv;have qv : l1[v]? = some l1[v] := List.getElem?_eq_getElem jv;have wv : IntKind.wrap .i64 ((v : Int)-1) = ((v-1 : Nat) : Int) := by rw[wrap64 (by omega) (by omega)];omega
    simp only[↓Sh.dn, sx, reduceCtorEq, Nat.reduceEqDiff, g0, g1, gi, gj, A3t, hle, decide_true, iv, ia, xv, xa];refine⟨_, _, A6d, ?_⟩;cases hlt : A2c l1[v] pv with
    | false =>
      simp only[↓Sh.dn, sx, Nat.reduceEqDiff, gj, wv];refine k2 ((v-1)) _ _ (by omega) ⟨rfl, v-1, rfl, by simp only[sx, reduceCtorEq, g0], by simp only[sx, Nat.reduceEqDiff, g1], by simp only[sx, Nat.reduceEqDiff, gi], by simp only[sx], by omega, by omega, fun q x hq1 hq2 hx => ?_⟩
      · by_cases hq : q = v
        · subst hq;rw[qv]at hx;rw[←Option.some.inj hx];exact hlt
        · exact h3 q x (by omega) (by omega) hx
    | true =>
      simp only[↓Sh.dn, sx, reduceCtorEq, Nat.reduceEqDiff, hMF4, g0, g1, gi, gj];exact⟨v, rfl, h1, h2, h3, fun _ x hx => by rw[qv]at hx;rw[←Option.some.inj hx];exact hlt⟩
  · simp only[↓Sh.dn, sx, reduceCtorEq, Nat.reduceEqDiff, hMF4, g0, g1, gi, gj, A3t, hle, decide_false]
    exact⟨v, rfl, h1, h2, h3, fun h => absurd h hle⟩
 intro F4 H9 h9;rw[hMF4]at h9;obtain⟨rfl,j2,w0,w1,wi,wj,w5,w6,w7,w8⟩:=h9;have hA2:∀(q:Nat) x,a+1≤q→q<i2→l1[q]?=some x→A2c x pv=true:=by
  intro q x h1 h2 hx;by_cases h:q<i0
  ·exact hA q x h1 h hx
  ·exact u7 q x (by omega) h2 hx
 have hB2:∀(q:Nat) x,j2<q→q<b→l1[q]?=some x→A2c x pv=false:=by
  intro q x h1 h2 hx;by_cases h:j0<q
  ·exact hB q x h h2 hx
  ·exact w7 q x h1 (by omega) hx
 simp only[↓Sh.dn,sx,Nat.reduceEqDiff,wi,wj,A2a];by_cases hgt:j2<i2
 ·have jj:j2<l1.length:=by omega
  have ja1:a<l1.length:=by omega
  have ij:=A9c (g:=g) (k:=k) (cap:=cap) (m:=l.length) (i:=j2) (j:=.i64) (by omega);have xj:=A3c hv1 jj;have xa':=A3c hv1 ja1;obtain⟨L3,L4,d1,d2,hv2,hc2,d5⟩:=A7i hv1 hc1.wf jj ja1;obtain⟨p1,p2,p3,p4⟩:=last l1 H1 i2 j2 hm1 hpa (by omega) (by omega) (fun q x h1 h2 hx=>hA2 q x h1 (by omega) hx) (fun q x h1 h2 hx=>hB2 q x h1 h2 hx);simp only[↓Sh.dn,sx,Nat.reduceBEq,hgt,decide_true];refine(A7c (by kernel_rfl)).2 ?_;simp only[↓Sh.dn,sx,reduceCtorEq,Nat.reduceEqDiff,w0,w1,wj,ij,ia,xj,xa',A2m,d1,d2,hres];exact⟨j2,_,rfl,by omega,by omega,swp l1 j2 a,p1,pv,p2,p3,p4,hv2,hc1.trans hc2⟩
 simp only[↓Sh.dn,sx,hgt,decide_false];have hij2:i2<j2:=by
  by_cases h:i2=j2
  ·have h1:=u8 (by omega)
   have h2:=w8 (by omega);obtain⟨x,hx⟩:∃x,l1[i2]?=some x:=⟨_,List.getElem?_eq_getElem (by omega)⟩
   have a1:=h1 x hx;have a2:=h2 x (by rw[←h];exact hx);rw[a1]at a2;cases a2
  ·omega
 have ji1:i2<l1.length:=by omega
 have jj1:j2<l1.length:=by omega
 have ii2:=A9c (g:=g) (k:=k) (cap:=cap) (m:=l.length) (i:=i2) (j:=.i64) (by omega);have ij2:=A9c (g:=g) (k:=k) (cap:=cap) (m:=l.length) (i:=j2) (j:=.i64) (by omega);have xi:=A3c hv1 ji1;have xj:=A3c hv1 jj1;have yi2:IntKind.wrap .i64 ((i2:Int)+1)=((i2+1:Nat):Int):=by rw[wrap64 (by omega) (by omega)];rfl
 have yj2:IntKind.wrap .i64 ((j2:Int)-1)=((j2-1:Nat):Int):=by rw[wrap64 (by omega) (by omega)];omega
 obtain⟨L3,L4,d1,d2,hv2,hc2,d5⟩:=A7i hv1 hc1.wf ji1 jj1;obtain⟨s1,s2,s3⟩:=pair l1 i0 i2 j0 j2 (by omega) hpa hi0 (by omega) hij2 (by omega) (by omega) hA2 hB2 (u8 (by omega)) (w8 (by omega));refine(A7c (by kernel_rfl)).2 ?_;simp only[↓Sh.dn,sx,reduceCtorEq,Nat.reduceEqDiff,w0,wi,wj,ii2,ij2,xi,xj,A2m,d1,d2,yi2,yj2];exact kk (j2-1+1-(i2+1)) _ _ (by omega) ⟨i2+1,j2-1,swp l1 i2 j2,rfl,by omega,by omega,by omega,hm1.swap (by omega) (by omega) (by omega) (by omega),s1,s2,s3,hv2,hc1.trans hc2,by simp only[sx,reduceCtorEq,w0],by simp only[sx,Nat.reduceEqDiff,w1],by simp only[sx,Nat.reduceEqDiff],by simp only[sx]⟩
theorem B0a{p:Nat}(hv:A0e H g k n l)(hw:Wf H)(hl:l.length≤16000000)(hap:a≤p)(hpb:p<b)(hb:b≤l.length):
  Sh.Call Tryz.prog (knows 7) 141 [.slice (some ⟨g,0,some k⟩) l.length cap,.int .i64 (a:Int),.int .i64 (b:Int),.int .i64 (p:Int)] H
   (fun r H'=>∃m:Nat,r=.int .i64 (m:Int)∧a<m∧m≤b∧∃l':List Int,Mix a b l l'∧(∀(q:Nat) x,a≤q→q<m→l'[q]?=some x→A2c l[p] x=false)∧(∀(q:Nat) x,m≤q→q<b→l'[q]?=some x→A2c l[p] x=true)∧A0e H' g k n l'∧Chg (fun y=>y=g) H H'):=by
 refine A5a rfl Tryz.func141 rfl (Nat.le_of_ble_eq_true rfl) ?_;have hTO:=intTO;have ja:a<l.length:=by omega
 have jp:p<l.length:=by omega
 have ia:=A9c (g:=g) (k:=k) (cap:=cap) (m:=l.length) (i:=a) (j:=.i64) ja;have ip:=A9c (g:=g) (k:=k) (cap:=cap) (m:=l.length) (i:=p) (j:=.i64) jp;have xa:=A3c hv ja;have xp:=A3c hv jp;have wa:IntKind.wrap .i64 ((a:Int)+1)=((a+1:Nat):Int):=by rw[wrap64 (by omega) (by omega)];rfl
 have wb:IntKind.wrap .i64 ((b:Int)-1)=((b-1:Nat):Int):=by rw[wrap64 (by omega) (by omega)];omega
 obtain⟨K1,H1,e1,e2,hv1,hc1,e5⟩:=A7i hv hw ja jp;have hm1:Mix a b l (swp l a p):=(Mix.refl l).swap (by omega) (by omega) (by omega) (by omega);simp only[↓Sh.dn,sx];refine(A7c (by kernel_rfl)).2 ?_;simp only[↓Sh.dn,sx,reduceCtorEq,Nat.reduceEqDiff,ia,ip,xa,xp,A2m,e1,e2,wa,wb];have hpa:(swp l a p)[a]?=some l[p]:=by
  rw[swp_get ja jp];by_cases h:a=p
  ·rw[if_pos h,List.getElem?_eq_getElem ja];simp only[h]
  ·rw[if_neg h,if_pos rfl];exact List.getElem?_eq_getElem jp
 generalize l[p]=pv at hpa xp e1 ⊢;generalize hL0:swp l a p=l0 at hpa hm1 hv1;have hres:Tryz.f141.results.toList=[.tmp 8]:=rfl
 have pair : ∀ (l1 : List Int) (i1 j1 : Nat), l1.length = l.length → l1[a]? = some pv → a + 1 ≤ i1 → i1 < j1 → j1 < b → (∀ (q : Nat) x, a + 1 ≤ q → q < i1 → l1[q]? = some x → A2c pv x = false) → (∀ (q : Nat) x, j1 < q → q < b → l1[q]? = some x → A2c pv x = true) →
     (∀x, l1[i1]? = some x → A2c pv x = true) → (∀x, l1[j1]? = some x → A2c pv x = false) → (swp l1 i1 j1)[a]? = some pv ∧ (∀(q : Nat) x, a + 1 ≤ q → q<i1 + 1 → (swp l1 i1 j1)[q]? = some x → A2c pv x = false) ∧ (∀(q : Nat) x, j1-1<q → q<b → (swp l1 i1 j1)[q]? = some x → A2c pv x = true) := by
   intro l1 i1 j1 hlen hp h1 h3 h5 hA hB hi hj;have ji : i1<l1.length := by omega
   have jj : j1<l1.length := by omega
   refine⟨by rw[swp_get ji jj, if_neg (by omega), if_neg (by omega)];exact hp, fun q x hq1 hq2 hx => ?_, fun q x hq1 hq2 hx => ?_⟩
   · rw[swp_get ji jj, if_neg (by omega)]at hx
     by_cases h : q = i1
     · rw[if_pos h]at hx;exact hj x hx
     · rw[if_neg h]at hx;exact hA q x hq1 (by omega) hx
   · rw[swp_get ji jj]at hx
     by_cases h : q = j1
     · rw[if_pos h]at hx;exact hi x hx
     · rw[if_neg h, if_neg (by omega)]at hx;exact hB q x (by omega) hq2 hx
 refine A8d (fun m F' H2 => ∃ (i j : Nat) (l1 : List Int), m = j + 1 - i ∧ a + 1 ≤ i ∧ i ≤ j + 1 ∧ j < b ∧ Mix a b l l1 ∧ l1[a]? = some pv ∧ (∀ (q : Nat) x, a + 1 ≤ q → q < i → l1[q]? = some x → A2c pv x = false) ∧ (∀ (q : Nat) x, j < q → q < b → l1[q]? = some x → A2c pv x = true) ∧ A0e H2 g k n l1 ∧ Chg (fun y => y = g) H H2 ∧
     F'.get 0 = some (.slice (some ⟨g, 0, some k⟩) l.length cap) ∧ F'.get 1 = some (.int .i64 (a : Int)) ∧ F'.get 9 = some (.int .i64 ((i : Nat) : Int)) ∧ F'.get 10 = some (.int .i64 ((j : Nat) : Int))) (m := b-1 + 1-(a + 1))
   ⟨a + 1, b-1, l0, rfl, by omega, by omega, by omega, hm1, hpa, fun q x h1 h2 => by omega, fun q x h1 h2 => by omega, hv1, hc1, by simp only[sx, reduceCtorEq], by simp only[sx, Nat.reduceEqDiff], by simp only[sx, Nat.reduceEqDiff], by simp only[sx]⟩ ?_
 clear xa hpa hm1 hv1;clear hL0;rintro m F H2 ⟨i0,j0,l1,rfl,hi0,hij0,hj0,hm1,hpa,hA,hB,hv1,hc1,f0,f1,fi,fj⟩ kk;have hlen:=hm1.length;have xa:H2.cell ⟨g,a,some k⟩=some (Value.int .i64 pv):=hv1.cell (by simp[hpa]);simp only[↓Sh.dn];obtain⟨MF3,hMF3⟩:∃M:Fr→AH→Prop,M=fun F' H9=>H2=H9∧∃v:Nat,F'.get 0=some (.slice (some ⟨g,0,some k⟩) l.length cap)∧F'.get 1=some (.int .i64 (a:Int))∧F'.get 9=some (.int .i64 ((v:Nat):Int))∧F'.get 10=some (.int .i64 ((j0:Nat):Int))∧i0≤v∧v≤j0+1∧(∀(q:Nat) x,i0≤q→q<v→l1[q]?=some x→A2c pv x=false)∧(v≤j0→∀x,l1[v]?=some x→A2c pv x=true):=⟨_,rfl⟩
 refine B47 MF3 (by rfl) ?_ ?_
 ·refine A8d (fun m F' H9 => H2 = H9 ∧ ∃ v : Nat, m = j0 + 1 - v ∧ F'.get 0 = some (.slice (some ⟨g, 0, some k⟩) l.length cap) ∧ F'.get 1 = some (.int .i64 (a : Int)) ∧ F'.get 9 = some (.int .i64 ((v : Nat) : Int)) ∧ F'.get 10 = some (.int .i64 ((j0 : Nat) : Int)) ∧ i0 ≤ v ∧ v ≤ j0 + 1 ∧ (∀ (q : Nat) x, i0 ≤ q → q < v → l1[q]? = some x → A2c pv x = false)) (m := j0 + 1 - i0)
    ⟨rfl, i0, rfl, by simp only[f0], by simp only[f1], by simp only[fi], by simp only[fj], by omega, by omega, fun q x h1 h2 => by omega⟩ ?_
  rintro m F' H9 ⟨rfl, v, rfl, g0, g1, gi, gj, h1, h2, h3⟩ k2;simp only[↓Sh.dn];refine(A7c (by kernel_rfl)).2 ?_;by_cases hle : v ≤ j0
  · have jv : v<l1.length := by omega
    have iv := A9c (g := g) (k := k) (cap := cap) (m := l.length) (i := v) (j := .i64) (by omega);have xv := A3c hv1 jv;have qv : l1[v]? = some l1[v] := List.getElem?_eq_getElem jv;have wv : IntKind.wrap .i64 ((v : Int) + 1) = ((v + 1 : Nat) : Int) := by rw[wrap64 (by omega) (by omega)];rfl
    simp only[↓Sh.dn, sx, reduceCtorEq, Nat.reduceEqDiff, g0, g1, gi, gj, A3t, hle, decide_true, iv, ia, xv, xa];refine⟨_, _, A6d, ?_⟩;cases hlt : A2c pv l1[v] with
    | false =>
      simp only[↓Sh.dn, sx, Nat.reduceEqDiff, gi, wv];refine k2 (j0 + 1-(v + 1)) _ _ (by omega) ⟨rfl, v + 1, rfl, by simp only[sx, reduceCtorEq, g0], by simp only[sx, Nat.reduceEqDiff, g1], by simp only[sx], by simp only[sx, Nat.reduceEqDiff, gj], by omega, by omega, fun q x hq1 hq2 hx => ?_⟩
      · by_cases hq : q = v
        · subst hq;rw[qv]at hx;rw[←Option.some.inj hx];exact hlt
        · exact h3 q x (by omega) (by omega) hx
    | true =>
      simp only[↓Sh.dn, sx, reduceCtorEq, Nat.reduceEqDiff, hMF3, g0, g1, gi, gj];exact⟨v, rfl, h1, h2, h3, fun _ x hx => by rw[qv]at hx;rw[←Option.some.inj hx];exact hlt⟩
  · simp only[↓Sh.dn, sx, reduceCtorEq, Nat.reduceEqDiff, hMF3, g0, g1, gi, gj, A3t, hle, decide_false]
    exact⟨v, rfl, h1, h2, h3, fun h => absurd h hle⟩
 intro F3 H9 h9;rw[hMF3]at h9;obtain⟨rfl,i2,u0,u1,ui,uj,u5,u6,u7,u8⟩:=h9;simp only[↓Sh.dn];obtain⟨MF4,hMF4⟩:∃M:Fr→AH→Prop,M=fun F' H9=>H2=H9∧∃v:Nat,F'.get 0=some (.slice (some ⟨g,0,some k⟩) l.length cap)∧F'.get 1=some (.int .i64 (a:Int))∧F'.get 9=some (.int .i64 ((i2:Nat):Int))∧F'.get 10=some (.int .i64 ((v:Nat):Int))∧i2≤v+1∧v≤j0∧(∀(q:Nat) x,v<q→q≤j0→l1[q]?=some x→A2c pv x=true)∧(i2≤v→∀x,l1[v]?=some x→A2c pv x=false):=⟨_,rfl⟩
 refine B47 MF4 (by rfl) ?_ ?_
 ·refine A8d (fun m F' H9 => H2 = H9 ∧ ∃ v : Nat, m = v ∧ F'.get 0 = some (.slice (some ⟨g, 0, some k⟩) l.length cap) ∧ F'.get 1 = some (.int .i64 (a : Int)) ∧ F'.get 9 = some (.int .i64 ((i2 : Nat) : Int)) ∧ F'.get 10 = some (.int .i64 ((v : Nat) : Int)) ∧ i2 ≤ v + 1 ∧ v ≤ j0 ∧ (∀ (q : Nat) x, v < q → q ≤ j0 → l1[q]? = some x → A2c pv x = true)) (m := j0)
    ⟨rfl, j0, rfl, by simp only[u0], by simp only[u1], by simp only[ui], by simp only[uj], by omega, by omega, fun q x h1 h2 => by omega⟩ ?_
  rintro v F' H9 ⟨rfl, _, rfl, g0, g1, gi, gj, h1, h2, h3⟩ k2;simp only[↓Sh.dn];refine(A7c (by kernel_rfl)).2 ?_;by_cases hle : i2 ≤ v
  · have jv : v<l1.length := by omega
    have iv := A9c (g := g) (k := k) (cap := cap) (m := l.length) (i := v) (j := .i64) (by omega);have xv := A3c hv1 jv;have qv : l1[v]? = some l1[v] := List.getElem?_eq_getElem jv;have wv : IntKind.wrap .i64 ((v : Int)-1) = ((v-1 : Nat) : Int) := by rw[wrap64 (by omega) (by omega)];omega
    simp only[↓Sh.dn, sx, reduceCtorEq, Nat.reduceEqDiff, g0, g1, gi, gj, A3t, hle, decide_true, iv, ia, xv, xa];refine⟨_, _, A6d, ?_⟩;cases hlt : A2c pv l1[v] with
    | true =>
      simp only[↓Sh.dn, sx, Nat.reduceEqDiff, gj, wv];refine k2 ((v-1)) _ _ (by omega) ⟨rfl, v-1, rfl, by simp only[sx, reduceCtorEq, g0], by simp only[sx, Nat.reduceEqDiff, g1], by simp only[sx, Nat.reduceEqDiff, gi], by simp only[sx], by omega, by omega, fun q x hq1 hq2 hx => ?_⟩
      · by_cases hq : q = v
        · subst hq;rw[qv]at hx;rw[←Option.some.inj hx];exact hlt
        · exact h3 q x (by omega) (by omega) hx
    | false =>
      simp only[↓Sh.dn, sx, reduceCtorEq, Nat.reduceEqDiff, hMF4, g0, g1, gi, gj];exact⟨v, rfl, h1, h2, h3, fun _ x hx => by rw[qv]at hx;rw[←Option.some.inj hx];exact hlt⟩
  · simp only[↓Sh.dn, sx, reduceCtorEq, Nat.reduceEqDiff, hMF4, g0, g1, gi, gj, A3t, hle, decide_false]
    exact⟨v, rfl, h1, h2, h3, fun h => absurd h hle⟩
 intro F4 H9 h9;rw[hMF4]at h9;obtain⟨rfl,j2,w0,w1,wi,wj,w5,w6,w7,w8⟩:=h9;have hA2:∀(q:Nat) x,a+1≤q→q<i2→l1[q]?=some x→A2c pv x=false:=by
  intro q x h1 h2 hx;by_cases h:q<i0
  ·exact hA q x h1 h hx
  ·exact u7 q x (by omega) h2 hx
 have hB2:∀(q:Nat) x,j2<q→q<b→l1[q]?=some x→A2c pv x=true:=by
  intro q x h1 h2 hx;by_cases h:j0<q
  ·exact hB q x h h2 hx
  ·exact w7 q x h1 (by omega) hx
 simp only[↓Sh.dn,sx,Nat.reduceEqDiff,wi,wj,A2a];by_cases hgt:j2<i2
 ·simp only[↓Sh.dn,sx,Nat.reduceBEq,Nat.reduceEqDiff,hgt,decide_true,wi,hres]
  refine⟨i2,rfl,by omega,by omega,l1,hm1,fun q x h1 h2 hx=>?_,fun q x h1 h2 hx=>hB2 q x (by omega) h2 hx,hv1,hc1⟩;by_cases h:q=a
  ·subst h;rw[hpa]at hx;rw[←Option.some.inj hx];exact hTO.irrefl pv
  ·exact hA2 q x (by omega) h2 hx
 simp only[↓Sh.dn,sx,hgt,decide_false];have hij2:i2<j2:=by
  by_cases h:i2=j2
  ·have h1:=u8 (by omega)
   have h2:=w8 (by omega);obtain⟨x,hx⟩:∃x,l1[i2]?=some x:=⟨_,List.getElem?_eq_getElem (by omega)⟩
   have a1:=h1 x hx;have a2:=h2 x (by rw[←h];exact hx);rw[a1]at a2;cases a2
  ·omega
 have ji1:i2<l1.length:=by omega
 have jj1:j2<l1.length:=by omega
 have ii2:=A9c (g:=g) (k:=k) (cap:=cap) (m:=l.length) (i:=i2) (j:=.i64) (by omega);have ij2:=A9c (g:=g) (k:=k) (cap:=cap) (m:=l.length) (i:=j2) (j:=.i64) (by omega);have xi:=A3c hv1 ji1;have xj:=A3c hv1 jj1;have yi2:IntKind.wrap .i64 ((i2:Int)+1)=((i2+1:Nat):Int):=by rw[wrap64 (by omega) (by omega)];rfl
 have yj2:IntKind.wrap .i64 ((j2:Int)-1)=((j2-1:Nat):Int):=by rw[wrap64 (by omega) (by omega)];omega
 obtain⟨L3,L4,d1,d2,hv2,hc2,d5⟩:=A7i hv1 hc1.wf ji1 jj1;obtain⟨s1,s2,s3⟩:=pair l1 i2 j2 (by omega) hpa (by omega) hij2 (by omega) hA2 hB2 (u8 (by omega)) (w8 (by omega));refine(A7c (by kernel_rfl)).2 ?_;simp only[↓Sh.dn,sx,reduceCtorEq,Nat.reduceEqDiff,w0,wi,wj,ii2,ij2,xi,xj,A2m,d1,d2,yi2,yj2];exact kk (j2-1+1-(i2+1)) _ _ (by omega) ⟨i2+1,j2-1,swp l1 i2 j2,rfl,by omega,by omega,by omega,hm1.swap (by omega) (by omega) (by omega) (by omega),s1,s2,s3,hv2,hc1.trans hc2,by simp only[sx,reduceCtorEq,w0],by simp only[sx,Nat.reduceEqDiff,w1],by simp only[sx,Nat.reduceEqDiff],by simp only[sx]⟩
end
def B7l(a i:Nat)(m:List Int):Prop:=∀(p:Nat) x y,a≤p→p+1<i→m[p]?=some x→m[p+1]?=some y→A2c y x=false
def PreInt(a b:Nat)(l:List Int):Prop:=∀(q:Nat) x y,0<a→l[a-1]?=some y→a≤q→q<b→l[q]?=some x→A2c x y=false
theorem PreInt.mix{a b:Nat}{l m:List Int}(h:PreInt a b l)(hm:Mix a b l m)(hb:b≤l.length):PreInt a b m:=by
 intro q x y h0 hy h1 h2 hx;rw[hm.out (.inl (by omega))]at hy;exact hm.all (p:=fun x=>A2c x y=false) hb (fun i z hi1 hi2 hz=>h i z y h0 hy hi1 hi2 hz) q x h1 h2 hx
theorem A25{H:AH}{g k n cap a b:Nat}{l:List Int}(hv:A0e H g k n l)(hw:Wf H)(hl:l.length≤16000000)(hab:a<b)(hb:b≤l.length)(hpre:PreInt a b l):
  Sh.Call Tryz.prog (knows 7) 139 [.slice (some ⟨g,0,some k⟩) l.length cap,.int .i64 (a:Int),.int .i64 (b:Int)] H
   (fun r H'=>∃bb:Bool,r=.bool bb∧∃l',Mix a b l l'∧(bb=true→Srt A2c a b l')∧A0e H' g k n l'∧Chg (fun y=>y=g) H H'):=by
 refine A5a rfl Tryz.func139 rfl (Nat.le_of_ble_eq_true rfl) ?_;have hres:Tryz.f139.results.toList=[.tmp 6]:=rfl;have hTO:=intTO;have w1:IntKind.wrap .i64 ((a:Int)+1)=((a+1:Nat):Int):=by rw[wrap64 (by omega) (by omega)];rfl
 have wba:IntKind.wrap .i64 ((b:Int)-(a:Int))=((b-a:Nat):Int):=by rw[wrap64 (by omega) (by omega)];omega
 simp only[↓Sh.dn,sx,Nat.reduceEqDiff,w1]
 refine A8d (fun m F H' => ∃ (c i : Nat) (l1 : List Int), m = 5 - c ∧ c ≤ 5 ∧ a + 1 ≤ i ∧ i ≤ b ∧ Mix a b l l1 ∧ B7l a i l1 ∧ A0e H' g k n l1 ∧ Chg (fun y => y = g) H H' ∧
     F.get 0 = some (.slice (some ⟨g, 0, some k⟩) l.length cap) ∧ F.get 1 = some (.int .i64 (a : Int)) ∧ F.get 2 = some (.int .i64 (b : Int)) ∧ F.get 7 = some (.int .i64 (i : Int)) ∧ F.get 8 = some (.int .i64 (c : Int))) (m := 5)
   ⟨0, a + 1, l, rfl, by omega, by omega, by omega, .refl l, fun p x y h1 h2 => by omega, hv, Chg.refl hw, by simp only[sx, reduceCtorEq], by simp only[sx, Nat.reduceEqDiff], by simp only[sx, Nat.reduceEqDiff], by simp only[sx, Nat.reduceEqDiff], by simp only[sx];rfl⟩ ?_
 rintro m F H' ⟨c,i,l1,rfl,hc5,hai,hib,hm,hadj,hv1,hc1,f0,f1,f2,f7,f8⟩ kk;have hlen:=hm.length;by_cases hlt:c<5
 case neg=>
  have d:decide ((c:Int)<5)=false:=by simp;omega
  simp only[↓Sh.dn,sx,f8,d,hres];exact⟨l1,hm,hv1,hc1⟩
 have d:decide ((c:Int)<5)=true:=by simp;omega
 simp only[↓Sh.dn,sx,f8,d]
 obtain ⟨M1, hM1⟩ : ∃ M : Fr → AH → Prop, M = fun F' H9 => H' = H9 ∧ ∃ v : Nat, F'.get 0 = some (.slice (some ⟨g, 0, some k⟩) l.length cap) ∧ F'.get 1 = some (.int .i64 (a : Int)) ∧ F'.get 2 = some (.int .i64 (b : Int)) ∧ F'.get 7 = some (.int .i64 (v : Int)) ∧ F'.get 8 = some (.int .i64 (c : Int)) ∧
     i ≤ v ∧ v ≤ b ∧ B7l a v l1 := ⟨_, rfl⟩
 refine B47 M1 (by rfl) ?_ ?_
 ·refine A8d (fun m F' H9 => H' = H9 ∧ ∃ v : Nat, m = b - v ∧ F'.get 0 = some (.slice (some ⟨g, 0, some k⟩) l.length cap) ∧ F'.get 1 = some (.int .i64 (a : Int)) ∧ F'.get 2 = some (.int .i64 (b : Int)) ∧ F'.get 7 = some (.int .i64 (v : Int)) ∧ F'.get 8 = some (.int .i64 (c : Int)) ∧
    i ≤ v ∧ v ≤ b ∧ B7l a v l1) (m := b-i)
    ⟨rfl, i, rfl, by simp only[sx, reduceCtorEq, f0], by simp only[sx, Nat.reduceEqDiff, f1], by simp only[sx, Nat.reduceEqDiff, f2], by simp only[sx, Nat.reduceEqDiff, f7], by simp only[sx, Nat.reduceEqDiff, f8], Nat.le_refl _, hib, hadj⟩ ?_
  rintro m F' H9 ⟨rfl, v, rfl, g0, g1, g2, g7, g8, h1, h2, h3⟩ k2;simp only[↓Sh.dn];refine(A7c (by kernel_rfl)).2 ?_;by_cases hvb : v<b
  · have jv : v<l1.length := by omega
    have jw : v-1<l1.length := by omega
    have iv := A9c (g := g) (k := k) (cap := cap) (m := l.length) (i := v) (j := .i64) (by omega);have iw := A9c (g := g) (k := k) (cap := cap) (m := l.length) (i := v-1) (j := .i64) (by omega);have xv := A3c hv1 jv;have xw := A3c hv1 jw;have wv : IntKind.wrap .i64 ((v : Int)-1) = ((v-1 : Nat) : Int) := by rw[wrap64 (by omega) (by omega)];omega
    have wv2 : IntKind.wrap .i64 ((v : Int) + 1) = ((v + 1 : Nat) : Int) := by rw[wrap64 (by omega) (by omega)];rfl
    simp only[↓Sh.dn, sx, reduceCtorEq, Nat.reduceEqDiff, g0, g2, g7, A2a, hvb, decide_true, wv, iv, iw, xv, xw];refine⟨_, _, A6d, ?_⟩;cases hq : A2c l1[v] l1[v-1] with
    | false =>
      simp only[↓Sh.dn, sx, Nat.reduceEqDiff, g7, wv2];refine k2 (b-(v + 1)) _ _ (by omega) ⟨rfl, v + 1, rfl, by simp only[sx, reduceCtorEq, g0], by simp only[sx, Nat.reduceEqDiff, g1], by simp only[sx, Nat.reduceEqDiff, g2], by simp only[sx], by simp only[sx, Nat.reduceEqDiff, g8], by omega, by omega, fun p x y hp1 hp2 hx hy => ?_⟩;by_cases hpv : p + 1 = v
      · have e1 : l1[v]? = some l1[v] := List.getElem?_eq_getElem jv
        have e2 : l1[v-1]? = some l1[v-1] := List.getElem?_eq_getElem jw;rw[hpv, e1]at hy;rw[show p = v-1 by omega, e2]at hx;rw[←Option.some.inj hx, ←Option.some.inj hy];exact hq
      · exact h3 p x y hp1 (by omega) hx hy
    | true =>
      simp only[↓Sh.dn, sx, reduceCtorEq, Nat.reduceEqDiff, hM1, g0, g1, g2, g7, g8];exact⟨v, rfl, h1, h2, h3⟩
  · simp only[↓Sh.dn, sx, reduceCtorEq, Nat.reduceEqDiff, hM1, g0, g1, g2, g7, g8, A2a, hvb, decide_false]
    exact⟨v, rfl, h1, h2, h3⟩
 intro F1 H9 h9;rw[hM1]at h9;obtain⟨rfl,v,f0,f1,f2,f7,f8,hiv,hvb,hadj⟩:=h9;by_cases hend:v=b
 ·have d:decide ((v:Int)=(b:Int))=true:=by simp[hend]
  simp only[↓Sh.dn,sx,Nat.reduceEqDiff,f2,f7,d,hres];exact⟨l1,hm,C3j hTO (by rw[←hend];exact hadj),hv1,hc1⟩
 have d:decide ((v:Int)=(b:Int))=false:=by simp;omega
 simp only[↓Sh.dn,sx,Nat.reduceEqDiff,f1,f2,f7,d,wba];by_cases h50:b-a<50
 ·have d:decide (((b-a:Nat):Int)<50)=true:=by simp;omega
  simp only[↓Sh.dn,sx,d,hres];exact⟨l1,hm,hv1,hc1⟩
 have d:decide (((b-a:Nat):Int)<50)=false:=by simp;omega
 simp only[↓Sh.dn,sx,d];have jv:v<l1.length:=by omega
 have jw:v-1<l1.length:=by omega
 have iv:=A9c (g:=g) (k:=k) (cap:=cap) (m:=l.length) (i:=v) (j:=.i64) (by omega);have iw:=A9c (g:=g) (k:=k) (cap:=cap) (m:=l.length) (i:=v-1) (j:=.i64) (by omega);have xv:=A3c hv1 jv;have xw:=A3c hv1 jw;have wv:IntKind.wrap .i64 ((v:Int)-1)=((v-1:Nat):Int):=by rw[wrap64 (by omega) (by omega)];omega
 have wv2:IntKind.wrap .i64 ((v:Int)+1)=((v+1:Nat):Int):=by rw[wrap64 (by omega) (by omega)];rfl
 have wva:IntKind.wrap .i64 ((v:Int)-(a:Int))=((v-a:Nat):Int):=by rw[wrap64 (by omega) (by omega)];omega
 have wbv:IntKind.wrap .i64 ((b:Int)-(v:Int))=((b-v:Nat):Int):=by rw[wrap64 (by omega) (by omega)];omega
 have wc:IntKind.wrap .i64 ((c:Int)+1)=((c+1:Nat):Int):=by rw[wrap64 (by omega) (by omega)];rfl
 obtain⟨L1,L2,d1,d2,hv2,hc2,d5⟩:=A7i hv1 hc1.wf jv jw;have hm2:Mix a b l (swp l1 v (v-1)):=hm.swap (by omega) (by omega) (by omega) (by omega);refine(A7c (by kernel_rfl)).2 ?_;simp only[↓Sh.dn,sx,reduceCtorEq,Nat.reduceEqDiff,f0,f1,f7,wv,iv,iw,xv,xw,A2m,d1,d2,wva];have hA2:∀(p:Nat) x y,a≤p→p+1<v→p+1≠v-1→(swp l1 v (v-1))[p]?=some x→(swp l1 v (v-1))[p+1]?=some y→A2c y x=false:=by
  intro p x y h1 h2 h3 hx hy;rw[swp_get jv jw,if_neg (by omega),if_neg (by omega)]at hx hy;exact hadj p x y h1 (by omega) hx hy
 have hc12:=hc1.trans hc2;generalize swp l1 v (v-1)=l2 at hv2 hm2 hA2;obtain⟨M2,hM2⟩:∃M:Fr→AH→Prop,M=fun F' H9=>∃l3:List Int,Mix a b l l3∧B7l a v l3∧A0e H9 g k n l3∧Chg (fun y=>y=g) H H9∧F'.get 0=some (.slice (some ⟨g,0,some k⟩) l.length cap)∧F'.get 1=some (.int .i64 (a:Int))∧F'.get 2=some (.int .i64 (b:Int))∧F'.get 7=some (.int .i64 (v:Int))∧F'.get 8=some (.int .i64 (c:Int)):=⟨_,rfl⟩
 refine C22 M2 (by rfl) ?_ ?_
 ·by_cases hva:2≤v-a
  case neg=>
   have d:decide ((2:Int)≤((v-a:Nat):Int))=false:=by simp;omega
   simp only[↓Sh.dn,sx,reduceCtorEq,Nat.reduceEqDiff,d,hM2,f0,f1,f2,f7,f8];exact⟨l2,hm2,fun p x y h1 h2 hx hy=>by omega,hv2,hc12⟩
  have d:decide ((2:Int)≤((v-a:Nat):Int))=true:=by simp;omega
  simp only[↓Sh.dn,sx,Nat.reduceEqDiff,d,f7,wv]
  refine A8d (fun j F' H9 => ∃ l3 : List Int, a ≤ j ∧ j ≤ v - 1 ∧ Mix a b l l3 ∧ (∀ (p : Nat) x y, a ≤ p → p + 1 < v → p + 1 ≠ j → l3[p]? = some x → l3[p + 1]? = some y → A2c y x = false) ∧ (∀ x y, a < j → j + 1 < v → l3[j - 1]? = some x → l3[j + 1]? = some y → A2c y x = false) ∧ A0e H9 g k n l3 ∧ Chg (fun y => y = g) H H9 ∧
      F'.get 0 = some (.slice (some ⟨g, 0, some k⟩) l.length cap) ∧ F'.get 1 = some (.int .i64 (a : Int)) ∧ F'.get 2 = some (.int .i64 (b : Int)) ∧ F'.get 7 = some (.int .i64 (v : Int)) ∧ F'.get 8 = some (.int .i64 (c : Int)) ∧ F'.get 9 = some (.int .i64 (j : Int))) (m := v-1)
    ⟨l2, by omega, Nat.le_refl _, hm2, hA2, fun x y h1 h2 => by omega, hv2, hc12, by simp only[sx, reduceCtorEq, f0], by simp only[sx, Nat.reduceEqDiff, f1], by simp only[sx, Nat.reduceEqDiff, f2], by simp only[sx, Nat.reduceEqDiff, f7], by simp only[sx, Nat.reduceEqDiff, f8], by simp only[sx]⟩ ?_
  rintro j F' H9 ⟨l3,haj,hjv,hm3,hA,hB,hv3,hc3,g0,g1,g2,g7,g8,g9⟩ k2;have hlen3:=hm3.length;have hall:j=a→B7l a v l3:=fun h p x y h1 h2 hx hy=>hA p x y h1 h2 (by omega) hx hy;by_cases hj0:1≤j
  case neg=>
   have d:decide ((1:Int)≤(j:Int))=false:=by simp;omega
   simp only[↓Sh.dn,sx,reduceCtorEq,Nat.reduceEqDiff,g9,d,hM2,g0,g1,g2,g7,g8];exact⟨l3,hm3,hall (by omega),hv3,hc3⟩
  have d:decide ((1:Int)≤(j:Int))=true:=by simp;omega
  have jj:j<l3.length:=by omega
  have jj1:j-1<l3.length:=by omega
  have ij:=A9c (g:=g) (k:=k) (cap:=cap) (m:=l.length) (i:=j) (j:=.i64) (by omega);have ij1:=A9c (g:=g) (k:=k) (cap:=cap) (m:=l.length) (i:=j-1) (j:=.i64) (by omega);have xj:=A3c hv3 jj;have xj1:=A3c hv3 jj1;have q1:l3[j]?=some l3[j]:=List.getElem?_eq_getElem jj;have q2:l3[j-1]?=some l3[j-1]:=List.getElem?_eq_getElem jj1;have wj:IntKind.wrap .i64 ((j:Int)-1)=((j-1:Nat):Int):=by rw[wrap64 (by omega) (by omega)];omega
  simp only[↓Sh.dn,sx,g9,d];refine(A7c (by kernel_rfl)).2 ?_;simp only[↓Sh.dn,sx,reduceCtorEq,Nat.reduceEqDiff,g0,g9,wj,ij,ij1,xj,xj1];refine⟨_,_,A6d,?_⟩;cases hq:A2c l3[j] l3[j-1] with
  | false=>
   simp only[↓Sh.dn,sx,Nat.reduceBEq,reduceCtorEq,Nat.reduceEqDiff,hM2,g0,g1,g2,g7,g8];refine⟨l3,hm3,fun p x y h1 h2 hx hy=>?_,hv3,hc3⟩;by_cases hp:p+1=j
   ·rw[hp,q1]at hy
    rw[show p=j-1 by omega,q2]at hx;rw[←Option.some.inj hx,←Option.some.inj hy];exact hq
   ·exact hA p x y h1 h2 hp hx hy
  | true=>
   have haj':a<j:=by
    by_cases h:j=a
    ·subst h
     have:=hpre.mix hm3 hb j _ _ (by omega) q2 (Nat.le_refl _) hab q1;rw[this]at hq;cases hq
    ·omega
   obtain⟨L3,L4,c1,c2,hv4,hc4,c5⟩:=A7i hv3 hc3.wf jj jj1;simp only[↓Sh.dn,sx];refine(A7c (by kernel_rfl)).2 ?_;simp only[↓Sh.dn,sx,reduceCtorEq,Nat.reduceEqDiff,g0,g9,wj,ij,ij1,xj,xj1,A2m,c1,c2];refine k2 (j-1) _ _ (by omega) ⟨swp l3 j (j-1),by omega,by omega,hm3.swap (by omega) (by omega) (by omega) (by omega),fun p x y h1 h2 h3 hx hy=>?_,fun x y h1 h2 hx hy=>?_,hv4,hc3.trans hc4,by simp only[sx,reduceCtorEq,g0],by simp only[sx,Nat.reduceEqDiff,g1],by simp only[sx,Nat.reduceEqDiff,g2],by simp only[sx,Nat.reduceEqDiff,g7],by simp only[sx,Nat.reduceEqDiff,g8],by simp only[sx]⟩
   ·rw[swp_get jj jj1]at hx hy
    by_cases hp1:p+1=j
    ·have hp:p=j-1:=by omega
     rw[if_pos hp,q1]at hx;rw[if_neg (by omega),if_pos hp1,q2]at hy;rw[←Option.some.inj hx,←Option.some.inj hy];exact hTO.asymm hq
    ·by_cases hp2:p=j
     ·rw[if_neg (by omega),if_pos hp2,q2]at hx
      rw[if_neg (by omega),if_neg (by omega)]at hy;rw[←Option.some.inj hx];exact hB _ _ haj' (by omega) q2 (by rw[←hp2];exact hy)
     ·rw[if_neg (by omega),if_neg hp2]at hx
      rw[if_neg (by omega),if_neg (by omega)]at hy;exact hA p x y h1 h2 hp1 hx hy
   ·rw[swp_get jj jj1]at hx hy
    rw[if_neg (by omega),if_neg (by omega)]at hx;rw[if_neg (by omega),if_pos (by omega),q2]at hy;rw[←Option.some.inj hy];exact hA (j-2) _ _ (by omega) (by omega) (by omega) (by rw[show j-2=j-1-1 by omega];exact hx) (by rw[show j-2+1=j-1 by omega];exact q2)
 intro F2 H9 h9;rw[hM2]at h9;obtain⟨l3,hm3,hadj3,hv3,hc3,f0,f1,f2,f7,f8⟩:=h9;simp only[↓Sh.dn,sx,Nat.reduceEqDiff,f2,f7,wbv];obtain⟨M3,hM3⟩:∃M:Fr→AH→Prop,M=fun F' H9=>∃l3:List Int,Mix a b l l3∧B7l a v l3∧A0e H9 g k n l3∧Chg (fun y=>y=g) H H9∧F'.get 0=some (.slice (some ⟨g,0,some k⟩) l.length cap)∧F'.get 1=some (.int .i64 (a:Int))∧F'.get 2=some (.int .i64 (b:Int))∧F'.get 7=some (.int .i64 (v:Int))∧F'.get 8=some (.int .i64 (c:Int)):=⟨_,rfl⟩
 refine C22 M3 (by rfl) ?_ ?_
 ·by_cases hbv:2≤b-v
  case neg=>
   have d:decide ((2:Int)≤((b-v:Nat):Int))=false:=by simp;omega
   simp only[↓Sh.dn,sx,reduceCtorEq,Nat.reduceEqDiff,d,hM3,f0,f1,f2,f7,f8];exact⟨l3,hm3,hadj3,hv3,hc3⟩
  have d:decide ((2:Int)≤((b-v:Nat):Int))=true:=by simp;omega
  simp only[↓Sh.dn,sx,Nat.reduceEqDiff,d,f7,wv2]
  refine A8d (fun m F' H9 => ∃ (j : Nat) (l3 : List Int), m = b - j ∧ v + 1 ≤ j ∧ j ≤ b ∧ Mix a b l l3 ∧ B7l a v l3 ∧ A0e H9 g k n l3 ∧ Chg (fun y => y = g) H H9 ∧
      F'.get 0 = some (.slice (some ⟨g, 0, some k⟩) l.length cap) ∧ F'.get 1 = some (.int .i64 (a : Int)) ∧ F'.get 2 = some (.int .i64 (b : Int)) ∧ F'.get 7 = some (.int .i64 (v : Int)) ∧ F'.get 8 = some (.int .i64 (c : Int)) ∧ F'.get 10 = some (.int .i64 (j : Int))) (m := b-(v + 1))
    ⟨v + 1, l3, rfl, Nat.le_refl _, by omega, hm3, hadj3, hv3, hc3, by simp only[sx, reduceCtorEq, f0], by simp only[sx, Nat.reduceEqDiff, f1], by simp only[sx, Nat.reduceEqDiff, f2], by simp only[sx, Nat.reduceEqDiff, f7], by simp only[sx, Nat.reduceEqDiff, f8], by simp only[sx]⟩ ?_
  rintro m F' H9 ⟨j,l4,rfl,hvj,hjb,hm4,hadj4,hv4,hc4,g0,g1,g2,g7,g8,g10⟩ k2;have hlen4:=hm4.length;by_cases hjb':j<b
  case neg=>
   simp only[↓Sh.dn,sx,reduceCtorEq,Nat.reduceEqDiff,g2,g10,A2a,hjb',decide_false,hM3,g0,g1,g7,g8];exact⟨l4,hm4,hadj4,hv4,hc4⟩
  have jj:j<l4.length:=by omega
  have jj1:j-1<l4.length:=by omega
  have ij:=A9c (g:=g) (k:=k) (cap:=cap) (m:=l.length) (i:=j) (j:=.i64) (by omega);have ij1:=A9c (g:=g) (k:=k) (cap:=cap) (m:=l.length) (i:=j-1) (j:=.i64) (by omega);have xj:=A3c hv4 jj;have xj1:=A3c hv4 jj1;have wj:IntKind.wrap .i64 ((j:Int)-1)=((j-1:Nat):Int):=by rw[wrap64 (by omega) (by omega)];omega
  have wj2:IntKind.wrap .i64 ((j:Int)+1)=((j+1:Nat):Int):=by rw[wrap64 (by omega) (by omega)];rfl
  simp only[↓Sh.dn,sx,Nat.reduceEqDiff,g2,g10,A2a,hjb',decide_true];refine(A7c (by kernel_rfl)).2 ?_;simp only[↓Sh.dn,sx,reduceCtorEq,Nat.reduceEqDiff,g0,g10,wj,ij,ij1,xj,xj1];refine⟨_,_,A6d,?_⟩;cases hq:A2c l4[j] l4[j-1] with
  | false=>
   simp only[↓Sh.dn,sx,Nat.reduceBEq,reduceCtorEq,Nat.reduceEqDiff,hM3,g0,g1,g2,g7,g8];exact⟨l4,hm4,hadj4,hv4,hc4⟩
  | true=>
   obtain⟨L3,L4,c1,c2,hv5,hc5',c5⟩:=A7i hv4 hc4.wf jj jj1;simp only[↓Sh.dn,sx];refine(A7c (by kernel_rfl)).2 ?_;simp only[↓Sh.dn,sx,reduceCtorEq,Nat.reduceEqDiff,g0,g10,wj,ij,ij1,xj,xj1,A2m,c1,c2,wj2];refine k2 (b-(j+1)) _ _ (by omega) ⟨j+1,swp l4 j (j-1),rfl,by omega,by omega,hm4.swap (by omega) (by omega) (by omega) (by omega),fun p x y h1 h2 hx hy=>?_,hv5,hc4.trans hc5',by simp only[sx,reduceCtorEq,g0],by simp only[sx,Nat.reduceEqDiff,g1],by simp only[sx,Nat.reduceEqDiff,g2],by simp only[sx,Nat.reduceEqDiff,g7],by simp only[sx,Nat.reduceEqDiff,g8],by simp only[sx]⟩;rw[swp_get jj jj1,if_neg (by omega),if_neg (by omega)]at hx hy;exact hadj4 p x y h1 h2 hx hy
 intro F3 H10 h10;rw[hM3]at h10;obtain⟨l5,hm5,hadj5,hv5,hc5',f0,f1,f2,f7,f8⟩:=h10;simp only[↓Sh.dn,sx,f8,wc];exact kk (5-(c+1)) _ _ (by omega) ⟨c+1,v,l5,rfl,by omega,by omega,by omega,hm5,hadj5,hv5,hc5',by simp only[sx,reduceCtorEq,f0],by simp only[sx,Nat.reduceEqDiff,f1],by simp only[sx,Nat.reduceEqDiff,f2],by simp only[sx,Nat.reduceEqDiff,f7],by simp only[sx]⟩
theorem pdqInt{g k n cap:Nat}:∀(sz:Nat) {H:AH} {a b:Nat} {l:List Int} {lim:Int},b-a≤sz→A0e H g k n l→Wf H→l.length≤16000000→a≤b→b≤l.length→PreInt a b l→
  Sh.Call Tryz.prog (knows 7) 131 [.slice (some ⟨g,0,some k⟩) l.length cap,.int .i64 (a:Int),.int .i64 (b:Int),.int .i64 lim] H
   (fun r H'=>∃l',Mix a b l l'∧Srt A2c a b l'∧A0e H' g k n l'∧Chg (fun y=>y=g) H H'):=by
 intro sz
 induction sz using Nat.strongRecOn with
 | _ sz ih=>
 intro H a b l lim hsz hv hw hl hab hb hpre;refine A5a rfl Tryz.func131 rfl (Nat.le_of_ble_eq_true rfl) ?_;have hres:Tryz.f131.results.toList=[]:=rfl;have hTO:=intTO;simp only[↓Sh.dn,sx]
 refine A8d (fun m F H' => ∃ (a' b' : Nat) (l1 : List Int) (lm : Int) (x8 x9 : Bool), m = b' - a' ∧ a ≤ a' ∧ a' ≤ b' ∧ b' ≤ b ∧ Mix a b l l1 ∧ P3 A2c a a' b' b l1 ∧ PreInt a' b' l1 ∧ A0e H' g k n l1 ∧ Chg (fun y => y = g) H H' ∧
     F.get 0 = some (.slice (some ⟨g, 0, some k⟩) l.length cap) ∧ F.get 1 = some (.int .i64 (a' : Int)) ∧ F.get 2 = some (.int .i64 (b' : Int)) ∧ F.get 3 = some (.int .i64 lm) ∧ F.get 8 = some (.bool x8) ∧ F.get 9 = some (.bool x9)) (m := b-a)
   ⟨a, b, l, lim, true, true, rfl, Nat.le_refl _, hab, Nat.le_refl _, .refl l, fun p q x y h1 h2 h3 h4 => absurd ⟨h1, h3⟩ h4, hpre, hv, Chg.refl hw, by simp only[sx, reduceCtorEq], by simp only[sx, Nat.reduceEqDiff], by simp only[sx, Nat.reduceEqDiff], by simp only[sx, Nat.reduceEqDiff], by simp only[sx, Nat.reduceEqDiff], by simp only[sx]⟩ ?_
 rintro m F H' ⟨a',b',l1,lm,x8,x9,rfl,ha',hab',hb',hm,h3,hpr,hv1,hc1,f0,f1,f2,f3,f8,f9⟩ kk;have hlen:=hm.length;have hvl:l1.length=l.length:=hlen;have wba:IntKind.wrap .i64 ((b':Int)-(a':Int))=((b'-a':Nat):Int):=by rw[wrap64 (by omega) (by omega)];omega
 have fin:∀{H2:AH} {l2:List Int},Mix a' b' l1 l2→Srt A2c a' b' l2→Mix a b l l2∧Srt A2c a b l2:=fun{H2 l2} h1 h2=>⟨hm.trans (h1.wide ha' hb'),(h3.mix ha' hb' h1 (by omega)).srt hTO h2⟩
 simp only[↓Sh.dn,sx,Nat.reduceEqDiff,f1,f2,wba];by_cases h12:b'-a'≤12
 ·have d:decide (((b'-a':Nat):Int)≤12)=true:=by simp;omega
  obtain⟨r,H2,hd,l2,q1,q2,q3,q4⟩:=B5d (cap:=cap) hv1 hc1.wf (by omega) hab' (by omega);rw[hvl]at hd;simp only[↓Sh.dn,sx,reduceCtorEq,Nat.reduceEqDiff,d,f0,f1,f2];refine⟨_,_,hd,?_⟩;simp only[sx,hres];exact⟨l2,(fin (H2:=H2) q1 q2).1,(fin (H2:=H2) q1 q2).2,q3,hc1.trans q4⟩
 have d:decide (((b'-a':Nat):Int)≤12)=false:=by simp;omega
 simp only[↓Sh.dn,sx,Nat.reduceEqDiff,d,f3];by_cases hlm:lm=0
 ·obtain⟨r,H2,hd,l2,q1,q2,q3,q4⟩:=C0b (cap:=cap) hv1 hc1.wf (by omega) (by omega:a'<b') (by omega)
  rw[hvl]at hd;simp only[↓Sh.dn,sx,reduceCtorEq,Nat.reduceEqDiff,hlm,decide_true,f0,f1,f2];refine⟨_,_,hd,?_⟩;simp only[sx,hres];exact⟨l2,(fin (H2:=H2) q1 q2).1,(fin (H2:=H2) q1 q2).2,q3,hc1.trans q4⟩
 simp only[↓Sh.dn,sx,Nat.reduceEqDiff,hlm,decide_false,f8];obtain⟨M1,hM1⟩:∃M:Fr→AH→Prop,M=fun F' H9=>∃l2:List Int,Mix a' b' l1 l2∧A0e H9 g k n l2∧Chg (fun y=>y=g) H H9∧F'.get 0=some (.slice (some ⟨g,0,some k⟩) l.length cap)∧F'.get 1=some (.int .i64 (a':Int))∧F'.get 2=some (.int .i64 (b':Int))∧F'.get 8=some (.bool x8)∧F'.get 9=some (.bool x9)∧F'.get 10=some (.int .i64 ((b'-a':Nat):Int))∧∃lm,F'.get 3=some (.int .i64 lm):=⟨_,rfl⟩
 refine C22 M1 (by rfl) ?_ ?_
 ·cases x8 with
  | true=>
   simp only[↓Sh.dn,sx,reduceCtorEq,Nat.reduceEqDiff,hM1,f0,f1,f2,f3,f8,f9];exact⟨l1,.refl l1,hv1,hc1,lm,rfl⟩
  | false=>
   obtain⟨r,H2,hd,l2,q1,q3,q4⟩:=B3d (cap:=cap) hv1 hc1.wf (by omega) (by omega:a'+12<b') (by omega);rw[hvl]at hd;simp only[↓Sh.dn,sx,reduceCtorEq,Nat.reduceEqDiff,f0,f1,f2];refine⟨_,_,hd,?_⟩;simp only[sx,reduceCtorEq,Nat.reduceEqDiff,hM1,f0,f1,f2,f3,f8,f9];exact⟨l2,q1,q3,hc1.trans q4,_,rfl⟩
 intro F1 H1 h9;rw[hM1]at h9;obtain⟨l2,hm2,hv2,hc2,f0,f1,f2,f8,f9,f10,lm2,f3⟩:=h9;have hlen2:l2.length=l.length:=by rw[hm2.length];exact hlen
 obtain⟨r,H2,hd,q,hint,rfl,hq1,hq2,hv2',hk2⟩:=B5m (cap:=cap) hv2 hc2.wf (by omega) (by omega:a'+12<b') (by omega);have hc2':Chg (fun y=>y=g) H H2:=hc2.trans hk2.chg;rw[hlen2]at hd;simp only[↓Sh.dn,sx,Nat.reduceEqDiff,f0,f1,f2];refine⟨_,_,hd,?_⟩;simp only[sx];obtain⟨M2,hM2⟩:∃M:Fr→AH→Prop,M=fun F' H9=>∃l2:List Int,Mix a' b' l1 l2∧A0e H9 g k n l2∧Chg (fun y=>y=g) H H9∧F'.get 0=some (.slice (some ⟨g,0,some k⟩) l.length cap)∧F'.get 1=some (.int .i64 (a':Int))∧F'.get 2=some (.int .i64 (b':Int))∧F'.get 3=some (.int .i64 lm2)∧F'.get 8=some (.bool x8)∧F'.get 9=some (.bool x9)∧F'.get 10=some (.int .i64 ((b'-a':Nat):Int))∧∃q:Nat,a'≤q∧q<b'∧F'.get 11=some (.int .i64 (q:Int))∧∃hint,F'.get 12=some (.int .i64 hint):=⟨_,rfl⟩
 refine C22 M2 (by rfl) ?_ ?_
 ·by_cases hh:hint=2
  ·have e1:IntKind.wrap .i64 ((b':Int)-1)=((b'-1:Nat):Int):=by rw[wrap64 (by omega) (by omega)];omega
   have e2:IntKind.wrap .i64 ((q:Int)-(a':Int))=((q-a':Nat):Int):=by rw[wrap64 (by omega) (by omega)];omega
   have e3:IntKind.wrap .i64 (((b'-1:Nat):Int)-((q-a':Nat):Int))=((b'-1-(q-a'):Nat):Int):=by rw[wrap64 (by omega) (by omega)];omega
   obtain⟨r,H3,hd3,l3,p1,p2,p3⟩:=B0l (cap:=cap) hv2' hk2.wf (by omega) (by omega:a'<b') (by omega);rw[hlen2]at hd3;simp only[↓Sh.dn,sx,reduceCtorEq,Nat.reduceEqDiff,hh,decide_true,f0,f1,f2];refine⟨_,_,hd3,?_⟩;simp only[sx,reduceCtorEq,Nat.reduceEqDiff,hM2,f0,f1,f2,f3,f8,f9,f10,e1,e2,e3];exact⟨l3,hm2.trans p1,p2,hc2'.trans p3,b'-1-(q-a'),by omega,by omega,rfl,1,rfl⟩
  ·simp only[↓Sh.dn,sx,reduceCtorEq,Nat.reduceEqDiff,hh,decide_false,hM2,f0,f1,f2,f3,f8,f9,f10]
   exact⟨l2,hm2,hv2',hc2',q,hq1,hq2,rfl,hint,rfl⟩
 intro F2 H3 h9;rw[hM2]at h9;obtain⟨l3,hm3,hv3,hc3,f0,f1,f2,f3,f8,f9,f10,q,hq1,hq2,f11,hint,f12⟩:=h9;have hlen3:l3.length=l.length:=by rw[hm3.length];exact hlen
 obtain⟨M3,hM3⟩:∃M:Fr→AH→Prop,M=fun F' H9=>H3=H9∧F'.get 0=some (.slice (some ⟨g,0,some k⟩) l.length cap)∧F'.get 1=some (.int .i64 (a':Int))∧F'.get 2=some (.int .i64 (b':Int))∧F'.get 3=some (.int .i64 lm2)∧F'.get 8=some (.bool x8)∧F'.get 9=some (.bool x9)∧F'.get 10=some (.int .i64 ((b'-a':Nat):Int))∧F'.get 11=some (.int .i64 (q:Int))∧∃bb,F'.get 68=some (.bool bb):=⟨_,rfl⟩
 simp only[↓Sh.wp_seq];refine B11 M3 (by rfl) ?_ ?_
 ·cases x8 with
  | false=>
   simp only[↓Sh.dn,sx,reduceCtorEq,Nat.reduceEqDiff,hM3,f0,f1,f2,f3,f8,f9,f10,f11]
  | true=>
   cases x9 with
   | false=>
    simp only[↓Sh.dn,sx,reduceCtorEq,Nat.reduceEqDiff,hM3,f0,f1,f2,f3,f8,f9,f10,f11]
   | true=>
    simp only[↓Sh.dn,sx,reduceCtorEq,Nat.reduceEqDiff,hM3,f0,f1,f2,f3,f8,f9,f10,f11,f12]
 intro F3 H4 h9;rw[hM3]at h9;obtain⟨rfl,f0,f1,f2,f3,f8,f9,f10,f11,bb,f68⟩:=h9;obtain⟨N,hN⟩:∃N:Fr→AH→Prop,N=fun F' H9=>∃l4:List Int,Mix a' b' l1 l4∧A0e H9 g k n l4∧Chg (fun y=>y=g) H H9∧F'.get 0=some (.slice (some ⟨g,0,some k⟩) l.length cap)∧F'.get 1=some (.int .i64 (a':Int))∧F'.get 2=some (.int .i64 (b':Int))∧F'.get 3=some (.int .i64 lm2)∧F'.get 8=some (.bool x8)∧F'.get 9=some (.bool x9)∧F'.get 10=some (.int .i64 ((b'-a':Nat):Int))∧F'.get 11=some (.int .i64 (q:Int)):=⟨_,rfl⟩
 refine wp_cut N (fun F4 H5 h9=>?_) (fun kont=>?_)
 case refine_2=>
  cases bb with
  | false=>
   refine(A66 (by rw[C0w,f68])).2 (Sh.wp_skip.2 (kont _ _ ?_));rw[hN];exact⟨l3,hm3,hv3,hc3,f0,f1,f2,f3,f8,f9,f10,f11⟩
  | true=>
   obtain⟨r,H5,hd5,b5,rfl,l4,p1,p2,p3,p4⟩:=A25 (cap:=cap) hv3 hc3.wf (by omega) (by omega:a'<b') (by omega) (hpr.mix hm3 (by omega));rw[hlen3]at hd5;simp only[↓Sh.dn,sx,Nat.reduceEqDiff,f68,f0,f1,f2];refine⟨_,_,hd5,?_⟩;cases b5 with
   | true=>
    simp only[↓Sh.dn,sx,hres];exact⟨l4,(fin (H2:=H5) (hm3.trans p1) (p2 rfl)).1,(fin (H2:=H5) (hm3.trans p1) (p2 rfl)).2,p3,hc3.trans p4⟩
   | false=>
    refine(A66 ?_).2 (Sh.wp_skip.2 (kont _ _ ?_))
    ·simp only[sx]
    rw[hN];exact⟨l4,hm3.trans p1,p3,hc3.trans p4,by simp only[sx,reduceCtorEq,f0],by simp only[sx,Nat.reduceEqDiff,f1],by simp only[sx,Nat.reduceEqDiff,f2],by simp only[sx,Nat.reduceEqDiff,f3],by simp only[sx,Nat.reduceEqDiff,f8],by simp only[sx,Nat.reduceEqDiff,f9],by simp only[sx,Nat.reduceEqDiff,f10],by simp only[sx,Nat.reduceEqDiff,f11]⟩
 rw[hN]at h9;clear hN;obtain⟨l4,hm4,hv4,hc4,f0,f1,f2,f3,f8,f9,f10,f11⟩:=h9;have hlen4:l4.length=l.length:=by rw[hm4.length];exact hlen
 have jq:q<l4.length:=by omega
 have iq:=A9c (g:=g) (k:=k) (cap:=cap) (m:=l.length) (i:=q) (j:=.i64) (by omega);have xq:=A3c hv4 jq;have eq4:l4[q]?=some l4[q]:=List.getElem?_eq_getElem jq;have hpr4:PreInt a' b' l4:=hpr.mix hm4 (by omega);have h34:P3 A2c a a' b' b l4:=h3.mix ha' hb' hm4 (by omega);have hm04:Mix a b l l4:=hm.trans (hm4.wide ha' hb');obtain⟨M4,hM4⟩:∃M:Fr→AH→Prop,M=fun F' H9=>H5=H9∧F'.get 0=some (.slice (some ⟨g,0,some k⟩) l.length cap)∧F'.get 1=some (.int .i64 (a':Int))∧F'.get 2=some (.int .i64 (b':Int))∧F'.get 3=some (.int .i64 lm2)∧F'.get 8=some (.bool x8)∧F'.get 9=some (.bool x9)∧F'.get 10=some (.int .i64 ((b'-a':Nat):Int))∧F'.get 11=some (.int .i64 (q:Int))∧∃bb,F'.get 87=some (.bool bb)∧(bb=true→0<a'∧∀y,l4[a'-1]?=some y→A2c y l4[q]=false):=⟨_,rfl⟩
 simp only[↓Sh.wp_seq];refine B11 M4 (by rfl) ?_ ?_
 ·refine(A7c (by kernel_rfl)).2 ?_
  by_cases h0:0<a'
  ·have d:decide ((0:Int)<(a':Int))=true:=by simp;omega
   have wa1:IntKind.wrap .i64 ((a':Int)-1)=((a'-1:Nat):Int):=by rw[wrap64 (by omega) (by omega)];omega
   have ja:a'-1<l4.length:=by omega
   have ia:=A9c (g:=g) (k:=k) (cap:=cap) (m:=l.length) (i:=a'-1) (j:=.i64) (by omega);have xa:=A3c hv4 ja;have ea:l4[a'-1]?=some l4[a'-1]:=List.getElem?_eq_getElem ja;simp only[↓Sh.dn,sx,reduceCtorEq,Nat.reduceEqDiff,f0,f1,f11,d,wa1,ia,iq,xa,xq];refine⟨_,_,A6d,?_⟩;cases hq:A2c l4[a'-1] l4[q] with
   | true=>
    simp only[sx,reduceCtorEq,Nat.reduceEqDiff,hM4,f0,f1,f2,f3,f8,f9,f10,f11]
   | false=>
    simp only[sx,reduceCtorEq,Nat.reduceEqDiff,hM4,f0,f1,f2,f3,f8,f9,f10,f11];refine⟨h0,fun y hy=>?_⟩;rw[ea]at hy;rw[←Option.some.inj hy];exact hq
  ·have d:decide ((0:Int)<(a':Int))=false:=by simp;omega
   simp only[↓Sh.dn,sx,reduceCtorEq,Nat.reduceEqDiff,hM4,f0,f1,f2,f3,f8,f9,f10,f11,d]
 intro F5 H6 h9;rw[hM4]at h9;obtain⟨rfl,f0,f1,f2,f3,f8,f9,f10,f11,bb,f87,hbb⟩:=h9;cases bb with
 | true=>
  obtain⟨hpos,hy⟩:=hbb rfl;obtain⟨r,H7,hd7,m,rfl,hm1,hm2',l5,p1,p2,p3,p4,p5⟩:=B0a (cap:=cap) (p:=q) hv4 hc4.wf (by omega) hq1 hq2 (by omega);rw[hlen4]at hd7;simp only[↓Sh.dn,sx,Nat.reduceBEq,Nat.reduceEqDiff,f87,f0,f1,f2,f11];refine⟨_,_,hd7,?_⟩
  try simp only[↓Sh.dn,sx,Nat.reduceBEq,reduceCtorEq,Nat.reduceEqDiff]
  have hge4:∀(i:Nat) x,a'≤i→i<b'→l4[i]?=some x→A2c x l4[q]=false:=by
   intro i x h1 h2 hx;have ja:a'-1<l4.length:=by omega
   have ea:l4[a'-1]?=some l4[a'-1]:=List.getElem?_eq_getElem ja;exact hTO.le_trans (hy _ ea) (hpr4 i x _ hpos ea h1 h2 hx)
  have hge:∀(i:Nat) x,a'≤i→i<b'→l5[i]?=some x→A2c x l4[q]=false:=p1.all (p:=fun x=>A2c x l4[q]=false) (by omega) hge4;have heq:∀(i:Nat) x,a'≤i→i<m→l5[i]?=some x→x=l4[q]:=by
   intro i x h1 h2 hx;rcases hTO.tri x l4[q] with h|h|h
   ·rw[hge i x h1 (by omega) hx]at h;cases h
   ·exact h
   ·rw[p2 i x h1 h2 hx]at h;cases h
  have h35:=h34.mix ha' hb' p1 (by omega);refine kk (b'-m) _ _ (by omega) ⟨m,b',l5,lm2,x8,x9,rfl,by omega,by omega,hb',hm04.trans (p1.wide ha' hb'),fun i j x z h1 h2 h3' h4 hx hz=>?_,fun i x y h0 hy' h1 h2 hx=>?_,p4,hc4.trans p5,by simp only[sx,reduceCtorEq,f0],by simp only[sx],by simp only[sx,Nat.reduceEqDiff,f2],by simp only[sx,Nat.reduceEqDiff,f3],by simp only[sx,Nat.reduceEqDiff,f8],by simp only[sx,Nat.reduceEqDiff,f9]⟩
  ·by_cases hin:a'≤i∧j<b'
   ·have hx':=heq i x hin.1 (by omega) hx
    by_cases hj:j<m
    ·have hz':=heq j z (by omega) hj hz
     rw[hx',hz'];exact hTO.irrefl _
    ·rw[hx'];exact hTO.asymm (p3 j z (by omega) hin.2 hz)
   ·exact h35 i j x z h1 h2 h3' hin hx hz
  ·have hy2:=heq (m-1) y (by omega) (by omega) hy'
   rw[hy2];exact hTO.asymm (p3 i x h1 h2 hx)
 | false=>
  obtain⟨r,H7,hd7,m,al,rfl,hm1,hm2',l5,p1,y,py,p2,p3,p4,p5⟩:=B64 (cap:=cap) (p:=q) hv4 hc4.wf (by omega) hq1 hq2 (by omega);rw[hlen4]at hd7;have hlen5:l5.length=l.length:=by rw[p1.length];exact hlen4
  have s1:IntKind.wrap .i64 ((m:Int)-(a':Int))=((m-a':Nat):Int):=by rw[wrap64 (by omega) (by omega)];omega
  have s2:IntKind.wrap .i64 ((b':Int)-(m:Int))=((b'-m:Nat):Int):=by rw[wrap64 (by omega) (by omega)];omega
  have s3:Int.tdiv ((b'-a':Nat):Int) 8=(((b'-a')/8:Nat):Int):=by rw[Int.tdiv_eq_ediv_of_nonneg (by omega)];rfl
  have s4:IntKind.wrap .i64 (((b'-a')/8:Nat):Int)=(((b'-a')/8:Nat):Int):=wrap64 (by omega) (by omega);have s5:IntKind.wrap .i64 ((m:Int)+1)=((m+1:Nat):Int):=by rw[wrap64 (by omega) (by omega)];rfl
  simp only[↓Sh.dn,sx,Nat.reduceEqDiff,f87,f0,f1,f2,f11];refine⟨_,_,hd7,?_⟩;simp only[sx,f10,s1,s2,B89 (show (8:Int)≠0 by decide),s3,s4,A2a];have hpr5:PreInt a' b' l5:=hpr4.mix p1 (by omega);have h35:=h34.mix ha' hb' p1 (by omega);have hm05:=hm04.trans (p1.wide ha' hb');have hc5:=hc4.trans p5;by_cases hlr:m-a'<b'-m
  ·obtain⟨r,H8,hd8,l6,u1,u2,u3,u4⟩:=ih (m-a') (by omega) (lim:=lm2) (a:=a') (b:=m) (Nat.le_refl _) p4 p5.wf (by omega) hm1 (by omega) (fun i x z h0 hz h1 h2 hx=>hpr5 i x z h0 hz h1 (by omega) hx)
   rw[hlen5]at hd8;have py6:l6[m]?=some y:=by rw[u1.out (.inr (Nat.le_refl _))];exact py
   have hpart:=P3.part hTO (h35.mix ha' hb' (u1.wide (Nat.le_refl _) (by omega)) (by omega)) hm1 hm2' py6 (u1.all (p:=fun x=>A2c x y=true) (by omega) (fun i x h1 h2 hx=>p2 i x h1 h2 hx)) (fun i x h1 h2 hx=>p3 i x h1 h2 (by rw[←u1.out (.inr (by omega))];exact hx));simp only[↓Sh.dn,sx,reduceCtorEq,Nat.reduceEqDiff,hlr,decide_true,f0,f1,f3];refine⟨_,_,hd8,?_⟩
   try simp only[s5]
   exact kk (b' - (m + 1)) _ _ (by omega) ⟨m + 1, b', l6, lm2, _, al, rfl, by omega, by omega, hb', hm05.trans (u1.wide ha' (by omega)), hpart.1 u2, fun i x z h0 hz h1 h2 hx => by
       rw[show m + 1-1 = m by omega, py6]at hz;rw[←Option.some.inj hz];exact p3 i x (by omega) h2 (by rw[←u1.out (.inr (by omega))];exact hx), u3, hc5.trans u4, by simp only[sx, reduceCtorEq, f0], by simp only[sx], by simp only[sx, Nat.reduceEqDiff, f2], by simp only[sx, Nat.reduceEqDiff, f3], by simp only[sx, Nat.reduceEqDiff];rfl, by simp only[sx, Nat.reduceEqDiff]⟩
  ·obtain ⟨r, H8, hd8, l6, u1, u2, u3, u4⟩ := ih (b' - (m + 1)) (by omega) (lim := lm2) (a := m + 1) (b := b') (Nat.le_refl _) p4 p5.wf (by omega) (by omega) (by omega) (fun i x z h0 hz h1 h2 hx => by
     rw[show m + 1-1 = m by omega, py]at hz;rw[←Option.some.inj hz];exact p3 i x (by omega) h2 hx)
   rw[hlen5]at hd8;have py6 : l6[m]? = some y := by rw[u1.out (.inl (by omega))];exact py
   have hpart := P3.part hTO (h35.mix ha' hb' (u1.wide (by omega) (Nat.le_refl _)) (by omega)) hm1 hm2' py6 (fun i x h1 h2 hx => p2 i x h1 h2 (by rw[←u1.out (.inl (by omega))];exact hx)) (fun i x h1 h2 hx => u1.all (p := fun x => A2c x y = false) (by omega) (fun i x h1 h2 hx => p3 i x (by omega) h2 hx) i x (by omega) h2 hx);simp only[↓Sh.dn, sx, reduceCtorEq, Nat.reduceEqDiff, hlr, decide_false, f0, f2, f3, s5];refine⟨_, _, hd8, ?_⟩
   try simp only[↓Sh.dn, sx, Nat.reduceBEq, reduceCtorEq, Nat.reduceEqDiff]
   exact kk (m - a') _ _ (by omega) ⟨a', m, l6, lm2, _, al, rfl, ha', hm1, by omega, hm05.trans (u1.wide (by omega) hb'), hpart.2 u2, fun i x z h0 hz h1 h2 hx => by
       rw[u1.out (.inl (by omega))]at hz;rw[u1.out (.inl (by omega))]at hx;exact hpr5 i x z h0 hz h1 (by omega) hx, u3, hc5.trans u4, by simp only[sx, reduceCtorEq, f0], by simp only[sx, Nat.reduceEqDiff, f1], by simp only[sx], by simp only[sx, Nat.reduceEqDiff, f3], by simp only[sx, Nat.reduceEqDiff];rfl, by simp only[sx, Nat.reduceEqDiff]⟩
theorem B0w{H:AH}{v:Value}:Sh.Call Tryz.prog (knows 7) 134 [v,.int .i64 0,.int .i64 0] H (fun r H'=>H'=H):=by
 refine A5a rfl Tryz.func134 rfl (Nat.le_of_ble_eq_true rfl) ?_;have hres:Tryz.f134.results.toList=[]:=rfl;have w1:IntKind.wrap .i64 ((0:Int)+1)=1:=rfl;simp only[↓Sh.dn,sx,w1];refine A8d (fun m F H'=>H'=H∧F.get 2=some (.int .i64 0)∧F.get 6=some (.int .i64 1)) (m:=0) ⟨rfl,by simp only[sx,Nat.reduceEqDiff],by simp only[sx]⟩ ?_;rintro m F H' ⟨rfl,f2,f6⟩ kk;have d:decide ((1:Int)<0)=false:=rfl;simp only[↓Sh.dn,sx,Nat.reduceEqDiff,f2,f6,d,hres]
theorem B7x{H:AH}{v:Value}{lim:Int}:Sh.Call Tryz.prog (knows 7) 131 [v,.int .i64 0,.int .i64 0,.int .i64 lim] H (fun r H'=>H'=H):=by
 refine A5a rfl Tryz.func131 rfl (Nat.le_of_ble_eq_true rfl) ?_;have hres:Tryz.f131.results.toList=[]:=rfl;obtain⟨r,H1,hd,rfl⟩:=B0w (H:=H) (v:=v);have w1:IntKind.wrap .i64 ((0:Int)-0)=0:=rfl;have d:decide ((0:Int)≤12)=true:=rfl;simp only[↓Sh.dn,sx];refine A8d (fun m F H'=>H'=H1∧F.get 0=some v∧F.get 1=some (.int .i64 0)∧F.get 2=some (.int .i64 0)) (m:=0) ⟨rfl,by simp only[sx,reduceCtorEq],by simp only[sx,Nat.reduceEqDiff],by simp only[sx,Nat.reduceEqDiff]⟩ ?_;rintro m F H' ⟨rfl,f0,f1,f2⟩ kk;simp only[↓Sh.dn,sx,reduceCtorEq,Nat.reduceEqDiff,f0,f1,f2,w1,d];refine⟨_,_,hd,?_⟩;simp only[sx,hres]
theorem C1s{H:AH}{v:Value}{l:List Int}{ob:Option Nat}(hb:Buf H 1 v (l.map fun x=>[Value.int .i64 x]) ob)(hl:l.length≤16000000)(hw:Wf H):
  Sh.Call Tryz.prog (knows 7) 130 [v] H (fun r H'=>∃l':List Int,l'.Perm l∧Srt A2c 0 l'.length l'∧Buf H' 1 v (l'.map fun x=>[Value.int .i64 x]) ob∧Chg (fun y=>ob=some y) H H'):=by
 refine A5a rfl Tryz.func130 rfl (Nat.le_of_ble_eq_true rfl) ?_;have hres:Tryz.f130.results.toList=[]:=rfl;have hlen:=hb.toSl.len Tryz.underlying146 H;rw[List.length_map]at hlen;have wu:IntKind.wrap .u64 (l.length:Int)=(l.length:Int):=A8u (by omega) (by omega);obtain⟨r,H1,hd,rfl,c,rfl,_⟩:=bitsLen (H:=H) (x:=l.length) (by omega);simp only[↓Sh.dn,sx,reduceCtorEq,Nat.reduceEqDiff,hlen,wu];refine⟨_,_,hd,?_⟩;cases ob with
 | none=>
  have hl0:l=[]:=by
   generalize hL:(l.map fun x=>[Value.int .i64 x])=L at hb;cases hb
   simpa using hL
  subst hl0;obtain⟨r,H2,hd2,rfl⟩:=B7x (H:=H1) (v:=v) (lim:=(c:Int));simp only[reduceCtorEq,List.length_nil,Int.ofNat_zero];refine⟨_,_,hd2,?_⟩;simp only[sx,hres];exact⟨[],List.Perm.refl _,fun i j x y h1 h2 h3=>by simp at h3,hb,Chg.refl hw⟩
 | some g=>
  obtain⟨k,cap,n,rfl,hc,hback⟩:=hb.cells;obtain⟨r,H2,hd2,l',q1,q2,q3,q4⟩:=pdqInt (cap:=cap) l.length (a:=0) (b:=l.length) (lim:=(c:Int)) (by omega) hc hw hl (Nat.zero_le _) (Nat.le_refl _) (fun q x y h=>absurd h (Nat.lt_irrefl 0));simp only[sx];refine⟨_,_,hd2,?_⟩;simp only[sx,hres];exact⟨l',q1.perm,by rw[q1.length];exact q2,hback H2 l' q1.length q3,q4.weak fun x hx=>by rw[hx]⟩
theorem pushSet{base:Nat}{H':AH}{z:Value}{os ob:Option Nat}{l:List Nat}(t:Nat)(hb:base≤H'.next)(hw:Wf H')(ho:∀y,os=some y→y<H'.next)(hl:LB H' base os z l ob)(hn:l.length≤17179869183):
  ∃ a cap w' H4 ob', z = .slice a l.length cap ∧ A4a Tryz.prog 146 1 [(0, .int .i64 (t : Int))] H' = some (.slice (some ⟨H'.next, 0, some 0⟩) 1 1, (H'.new 1 [.int .i64 (t : Int)]).2) ∧
      A3a Tryz.prog .append [146, 146] [.slice a l.length cap, .slice (some ⟨H'.next, 0, some 0⟩) 1 1] (H'.new 1 [.int .i64 (t : Int)]).2 = some (w', H4) ∧
      LB H4 base os w' (l ++ [t]) ob' ∧ Chg (fun y => ob = some y) H' H4 ∧ ∀y, ob' = some y → ob = some y ∨ H'.next ≤ y := by
 obtain⟨a,cap,w',H4,ob',e1,e2,e3,e4,e5⟩:=hl.bf.push hw (x:=natC t) rfl;rw[List.length_map]at e1 e2;have ha:=app1_146 (H:=H') (base:=a) (len:=l.length) (cap:=cap) (x:=natC t) rfl hn;rw[e2]at ha;refine⟨a,cap,w',H4,ob',e1,C3r (H:=H') (x:=.int .i64 (t:Int)) rfl rfl,ha,⟨by rw[List.map_append];exact e3,fun y hy=>?_⟩,e4,e5⟩;rcases e5 y hy with h1|h1
 ·exact hl.fr y h1
 ·exact⟨by omega,fun h2=>by have:=ho y h2;omega⟩
theorem B6l{H:AH}{g n:Nat}{E:List (List (Nat×Int×Int×Int))}{ends:List Int}{sv av ev cv u:Value}{vals:List Value}{sigma:List ByteArray}{costs:List Int}{L:List Nat}(h:PG H g n 60000 E ends sv av ev cv vals sigma costs)(hL:Sl H u 1 (L.map natC))(hlt:∀t∈L,t<n)(hll:L.length≤6000000000)(hw:Wf H):
  Sh.Call Tryz.prog (knows 7) 124 [.pointer (some ⟨g,0,some 0⟩),u] H (fun r H'=>SetOut H H' r n (Clo (A1e E fun k=>k<0) fun s=>s∈L)):=by
 refine A5a rfl Tryz.func124 rfl (Nat.le_of_ble_eq_true rfl) ?_;have hres:Tryz.f124.results.toList=[.tmp 4]:=rfl;have k1:=Kept.push hw (.map []);have m1:BMap (H.push (.map [])).2 H.next []:=MapIs.new;simp only[↓Sh.dn,sx,Nat.reduceEqDiff];have hn1:=h.n1;have hn2:=h.n2;obtain⟨r1,H2,hd2,hk2,tb0,htb0,hft0⟩:=B5i (l:=L.map natC) (hL.grow (k1.grow hw)) (by rw[List.length_map];omega) k1.wf;refine⟨_,_,hd2,?_⟩;obtain⟨G,hG⟩:∃G,H.next=G:=⟨_,rfl⟩
 have hk02:=k1.trans hk2;have m2:BMap H2 H.next []:=m1.keep (hk2.old _ (Nat.lt_succ_self _));have hl2:LB H2 H.next (some H.next) r1 L tb0:=⟨htb0,fun y hy=>by
  have:=hft0 y hy;have:H.next<(H.push (.map [])).2.next:=Nat.lt_succ_self _;exact⟨by omega,fun e=>by have:=Option.some.inj e;omega⟩⟩
 refine A8d (m := n * 60000 + L.length) (fun m F H' => F.get 0 = some (.pointer (some ⟨g, 0, some 0⟩)) ∧ F.get 5 = some (.map (some H.next)) ∧ Kept H H' ∧ ∃ zo, F.get 6 = some zo ∧ ∃ zt, F.get 7 = some zt ∧ ∃ out todo ob tb, m = (n - out.length) * 60000 + todo.length ∧ BMap H' H.next out ∧ LB H' H.next (some H.next) zo out ob ∧ LB H' H.next (some H.next) zt todo tb ∧ (∀ y, ob = some y → tb ≠ some y) ∧
     out.Nodup ∧ (∀t ∈ out, t<n) ∧ (∀t ∈ todo, t<n) ∧ todo.length ≤ L.length + out.length*60000 ∧ (∀t ∈ L, t ∈ out ∨ t ∈ todo) ∧ (∀t ∈ out, Clo (A1e E fun k => k<0) (fun s => s ∈ L) t) ∧ (∀t ∈ todo, Clo (A1e E fun k => k<0) (fun s => s ∈ L) t) ∧ ∀s ∈ out, ∀t, A1e E (fun k => k<0) s t → t ∈ out ∨ t ∈ todo)
   ⟨by simp only[sx, reduceCtorEq], by simp only[sx, Nat.reduceEqDiff], hk02, _, by simp only[sx, Nat.reduceEqDiff], r1, by simp only[sx], [], L, none, tb0, by simp, m2, ⟨.void none, fun y hy => by cases hy⟩, hl2, fun y hy => (by cases hy), List.nodup_nil, fun t ht => (by cases ht), hlt, by omega, fun t ht => .inr ht, fun t ht => (by cases ht), fun t ht => .base ht, fun s hs => by cases hs⟩ ?_
 rintro m F H' ⟨f0,f5,hk,zo,f6,zt,f7,out,todo,ob,tb,rfl,hB,hlo,hlt',hsep,hnd,hon,htn,htl,hLo,hco,hct,hcl⟩ k;have hout:=A17 hnd hon;have hlen:=hlt'.bf.toSl.len Tryz.underlying71 H';rw[List.length_map]at hlen;rcases List.eq_nil_or_concat todo with h0|⟨td,s,h0⟩
 ·subst h0
  have h00:decide ((0:Int)<((([]:List Nat).length:Nat):Int))=false:=rfl;obtain⟨rr,H3,hd3,l',hperm,hsrt,hb3,hc3⟩:=C1s (l:=out.map fun(x:Nat)=>(x:Int)) (by rw[natC_int];exact hlo.bf) (by rw[List.length_map];omega) hk.wf;simp only[↓Sh.dn,sx,Nat.reduceEqDiff,f6,f7,hlen,h00];refine⟨_,_,hd3,?_⟩;have hl':l'.map (fun x=>[Value.int .i64 x])=(l'.map Int.toNat).map natC:=by
   rw[List.map_map];refine List.map_congr_left fun x hx=>?_;obtain⟨y,_,rfl⟩:=List.mem_map.1 (hperm.mem_iff.1 hx);rfl
  rw[hl']at hb3;have hp2:(l'.map Int.toNat).Perm out:=by
   have:=hperm.map Int.toNat;rw[List.map_map]at this;have e:out.map (Int.toNat∘fun(x:Nat)=>(x:Int))=out:=by
    conv=>rhs;rw[←List.map_id out]
    exact List.map_congr_left fun x _=>rfl
   rw[e]at this;exact this
  simp only[sx,hres];refine⟨hk.then (Nat.le_refl _) (hc3.weak fun y hy=>(hlo.fr y hy).1),l'.map Int.toNat,ob,hb3,fun y hy=>(hlo.fr y hy).1,hp2.nodup_iff.2 hnd,fun t ht=>hon t (hp2.mem_iff.1 ht),fun t=>?_⟩;rw[hp2.mem_iff];exact Clo.iff (fun t ht=>(hLo t ht).resolve_right (by simp)) hco (fun s hs t ht=>(hcl s hs t ht).resolve_right (by simp)) t
 ·rw[List.concat_eq_append]at h0
  subst h0;have hpos:decide ((0:Int)<(((td++[s]).length:Nat):Int))=true:=by simp
  have wl:IntKind.wrap .i64 ((((td++[s]).length:Nat):Int)-1)=(td.length:Int):=by
   rw[List.length_append,List.length_singleton]at htl ⊢;rw[wrap64 (by omega) (by omega)];omega
  obtain⟨p1,hia1,hc1⟩:=B2w Tryz.underlying71 A1c hlt'.bf.toSl (i:=td.length) (by simp);have hgs:(td++[s])[td.length]'(by simp)=s:=by simp
  rw[hgs]at hc1;have hbp:Buf H' 1 zt (td.map natC++[natC s]) tb:=by have:=hlt'.bf;rwa [List.map_append]at this
  obtain⟨zt2,hsl,hb2⟩:=hbp.pop;have hsl2:=hsl (P:=Tryz.prog) (H':=H') Tryz.underlying71 A1c;rw[List.length_map]at hsl2;have hlt2:LB H' H.next (some H.next) zt2 td tb:=⟨hb2,hlt'.fr⟩
  have hlk:=hB.look s;have hsn:s<n:=htn s (by simp);simp only[↓Sh.dn,sx,Nat.reduceEqDiff,f5,f7,hlen,hpos,wl,hia1,hc1,hsl2,hlk];have hts:=hct s (by simp);by_cases hs:s∈out
  ·simp only[↓Sh.dn,sx,Nat.reduceBEq,hs,decide_true]
   refine k ((n-out.length)*60000+td.length) _ _ (by rw[List.length_append];simp) ⟨by simp only[sx,reduceCtorEq,f0],by simp only[sx,Nat.reduceEqDiff,f5],hk,zo,by simp only[sx,Nat.reduceEqDiff,f6],zt2,by simp only[sx,Nat.reduceEqDiff],out,td,ob,tb,rfl,hB,hlo,hlt2,hsep,hnd,hon,fun t ht=>htn t (List.mem_append_left _ ht),by rw[List.length_append]at htl;omega,fun t ht=>?_,hco,fun t ht=>hct t (List.mem_append_left _ ht),fun x hx t ht=>?_⟩
   ·rcases hLo t ht with h1|h1
    ·exact .inl h1
    ·rcases List.mem_append.1 h1 with h2|h2
     ·exact .inr h2
     ·rw[List.mem_singleton.1 h2];exact .inl hs
   ·rcases hcl x hx t ht with h1|h1
    ·exact .inl h1
    ·rcases List.mem_append.1 h1 with h2|h2
     ·exact .inr h2
     ·rw[List.mem_singleton.1 h2];exact .inl hs
  ·have hol : out.length < n := by
     have := A17 (l := s :: out) (List.nodup_cons.2 ⟨hs, hnd⟩) (fun x hx => by
       rcases List.mem_cons.1 hx with rfl|hx
       · exact hsn
       · exact hon x hx)
     rw[List.length_cons]at this;omega
   obtain⟨H3, e1, hB3, c3, n3⟩ := hB.add hk.wf hs;have hlo3 := hlo.chg hk.wf c3 fun y hy => by rw[hy]
   have hlt3 := hlt2.chg hk.wf c3 fun y hy => by rw[hy]
   have hk3 : Kept H H3 := hk.then (Nat.le_refl _) (c3.weak fun y hy => by rw[hy];exact Nat.le_refl _);have hGl : H.next<H3.next := by have := hB.lt hk.wf;rw[n3];exact this
   obtain⟨a, cap, w', H4, ob2, rfl, e2, e3, hlo4, c4, f4⟩ := pushSet s hk3.next hk3.wf (fun y hy => by rw[←Option.some.inj hy];exact hGl) hlo3 (by omega);have hk4 : Kept H H4 := hk3.then (Nat.le_refl _) (c4.weak fun y hy => (hlo3.fr y hy).1);have hB4 : BMap H4 H.next (out ++ [s]) := hB3.keep (c4.old _ hGl fun hy => (hlo3.fr _ hy).2 rfl);have hlt4 : LB H4 H.next (some H.next) zt2 td tb := ⟨hlt3.bf.chg hk3.wf c4 fun y hy hy2 => hsep y hy2 hy, hlt3.fr⟩
   have hsep4 : ∀y, ob2 = some y → tb ≠ some y := fun y hy hy2 => by
     rcases f4 y hy with h1|h1
     · exact hsep y h1 hy2
     · have := hlt3.bf.lt hk3.wf y hy2;omega
   obtain⟨r, hr⟩ : ∃r, E[s]? = some r := ⟨E[s]'(by rw[h.le];exact hsn), List.getElem?_eq_getElem _⟩
   obtain⟨hrl, hrt⟩ := h.to s r hr;obtain⟨pr, wr, hiar, hcr, hsr, hlr⟩ := PG.row h hr;have hn := h.gr.arr.cell 1;have hpg : ∀{H'}, Kept H H' → H'.cell ⟨g, 1, some 0⟩ = some av ∧ H'.cell pr = some wr ∧ Sl H' wr 4 (r.map A9a) := fun hk => ⟨A2b (hk.grow hw) hn, A2b (hk.grow hw) hcr, hsr.grow (hk.grow hw)⟩
   obtain⟨q1, q2, q3⟩ := hpg hk4;simp only[↓Sh.dn, sx, reduceCtorEq, Nat.reduceEqDiff, hs, decide_false, f0, f5, e1, f6, e2, e3, q1, hiar, q2, hlr];refine A0d r.length 45 (List.range' 45 20 ++ [7, 10]) (fun q F'' H'' => Kept H H'' ∧ ∃zt', F''.get 7 = some zt' ∧ ∃td' tb', BMap H'' H.next (out ++ [s]) ∧ LB H'' H.next (some H.next) w' (out ++ [s]) ob2 ∧ LB H'' H.next (some H.next) zt' td' tb' ∧ (∀y, ob2 = some y → tb' ≠ some y) ∧ (∀t ∈ td', t<n) ∧ td'.length ≤ td.length + q ∧ (∀t ∈ td, t ∈ td') ∧ (∀t ∈ td', Clo (A1e E fun k => k<0) (fun s => s ∈ L) t) ∧ ∀e ∈ r.take q, e.2.1<0 → e.1 ∈ out ++ [s] ∨ e.1 ∈ td') (by simp only[sx])
     ⟨hk4, zt2, by simp only[sx, Nat.reduceEqDiff], td, tb, hB4, hlo4, hlt4, hsep4, fun t ht => htn t (List.mem_append_left _ ht), by omega, fun t ht => ht, fun t ht => hct t (List.mem_append_left _ ht), fun e he => by simp at he⟩ ?_ ?_
   · rintro q F'' H'' hq hF'' f45 ⟨hk'', zt', f7', td', tb', hB', hlo', hlt'', hsep', htn', htl', hsub, hct', hed⟩ k2
     have g5 := hF'' 5 rfl;have g43 := hF'' 43 rfl;have g44 := hF'' 44 rfl;simp only[sx, Nat.reduceEqDiff, f5]at g5 g43 g44;obtain⟨q1, q2, q3⟩ := hpg hk'';obtain⟨pe, hiae, hce⟩ := PG.edge q3 hq;have hrq : r[q] ∈ r := List.getElem_mem hq;have htake : r.take (q + 1) = r.take q ++ [r[q]] := by rw[List.take_add_one, List.getElem?_eq_getElem hq];rfl
     generalize r[q] = e at hce hrq htake;have kn := Kept.new hk''.wf 4 (A9a e);have hk3 := hk''.trans kn;have hB5 : BMap (H''.new 4 (A9a e)).2 H.next (out ++ [s]) := hB'.keep (kn.old _ (hB'.lt hk''.wf));have hlo5 := hlo'.kept hk''.wf kn;have hlt5 := hlt''.kept hk''.wf kn;have hlk2 := hB5.look e.1;simp only[↓Sh.dn, sx, Nat.reduceEqDiff, f45, g43, g44, hiae, hce, A2a, hq, decide_true, A8q, A9k, A9q, ge1]
     have hnext : ∀ {td2 : List Nat} {tb2 : Option Nat} {z2 : Value} {F2 : Fr} {H2 : AH}, Same (List.range' 45 20 ++ [7, 10]) F'' F2 → F2.get 7 = some z2 → F2.get 45 = some (.int .i64 ((q + 1 : Nat) : Int)) → Kept H H2 → BMap H2 H.next (out ++ [s]) → LB H2 H.next (some H.next) w' (out ++ [s]) ob2 → LB H2 H.next (some H.next) z2 td2 tb2 → (∀ y, ob2 = some y → tb2 ≠ some y) → (td2 = td' ∨ td2 = td' ++ [e.1] ∧ e.2.1 < 0) → (e.2.1 < 0 → e.1 ∈ out ++ [s] ∨ e.1 ∈ td2) →
         wp Tryz.prog (knows 7) _ _ F2 H2 := fun{td2 tb2 z2 F2 H2} a1 a2 a3 a4 a5 a6 a7 a8 a9 a10 => k2 F2 H2 a1 a3 ⟨a4, z2, a2, td2, tb2, a5, a6, a7, a8, fun t ht => by
           rcases a9 with h1|⟨h1, _⟩
           · rw[h1]at ht;exact htn' t ht
           · rw[h1]at ht
             rcases List.mem_append.1 ht with h2|h2
             · exact htn' t h2
             · rw[List.mem_singleton.1 h2];exact hrt e hrq, by
           rcases a9 with h1|⟨h1, _⟩
           · rw[h1];omega
           · rw[h1, List.length_append, List.length_singleton];omega, fun t ht => by
           rcases a9 with h1|⟨h1, _⟩
           · rw[h1];exact hsub t ht
           · rw[h1];exact List.mem_append_left _ (hsub t ht), fun t ht => by
           rcases a9 with h1|⟨h1, hneg⟩
           · rw[h1]at ht;exact hct' t ht
           · rw[h1]at ht
             rcases List.mem_append.1 ht with h2|h2
             · exact hct' t h2
             · rw[List.mem_singleton.1 h2];exact .step hts ⟨r, hr, e, hrq, rfl, hneg⟩, fun x hx hxn => by
           rw[htake]at hx;rcases List.mem_append.1 hx with h2|h2
           · rcases hed x h2 hxn with h3|h3
             · exact .inl h3
             · right
               rcases a9 with h1|⟨h1, _⟩
               · rw[h1];exact h3
               · rw[h1];exact List.mem_append_left _ h3
           · rw[List.mem_singleton.1 h2]at hxn ⊢;exact a10 hxn⟩
     have hrl' : r.length ≤ 4611686018427387904 := Nat.le_trans hrl (by decide);by_cases hneg : e.2.1<0
     · by_cases hin : e.1 ∈ out ++ [s]
       · simp only[↓Sh.dn, sx, Nat.reduceEqDiff, hneg, decide_true, g5, ge0, hlk2, hin, f45, A1a hq hrl']
         exact hnext (by repeat (first|refine Same.put ?_ rfl|exact Same.rfl' _)) (by simp only[sx, Nat.reduceEqDiff, f7']) (by simp only[sx]) hk3 hB5 hlo5 hlt5 hsep' (.inl rfl) fun _ => .inl hin
       · have hG5 : H.next<(H''.new 4 (A9a e)).2.next := hB5.lt hk3.wf
         obtain⟨a6, cap6, w6, H6, tb6, rfl, e4, e5, hlt6, c6, f6'⟩ := B0y e.1 hk3.next hk3.wf (fun y hy => by rw[←Option.some.inj hy];exact hG5) hlt5 (by rw[List.length_append]at htl;have := Nat.mul_le_mul_right 60000 (Nat.le_of_lt hol);omega);have hk6 : Kept H H6 := hk3.then (Nat.le_refl _) (c6.weak fun y hy => (hlt5.fr y hy).1);have hB6 : BMap H6 H.next (out ++ [s]) := hB5.keep (c6.old _ hG5 fun hy => (hlt5.fr _ hy).2 rfl);have hlo6 : LB H6 H.next (some H.next) w' (out ++ [s]) ob2 := ⟨hlo5.bf.chg hk3.wf c6 fun y hy hy2 => hsep' y hy hy2, hlo5.fr⟩
         have hsep6 : ∀y, ob2 = some y → tb6 ≠ some y := fun y hy hy2 => by
           rcases f6' y hy2 with h1|h1
           · exact hsep' y hy h1
           · have := hlo5.bf.lt hk3.wf y hy;omega
         simp only[↓Sh.dn, sx, Nat.reduceEqDiff, hneg, decide_true, g5, ge0, hlk2, hin, decide_false, f7', e4, e5, f45, A1a hq hrl'];exact hnext (by repeat (first|refine Same.put ?_ rfl|exact Same.rfl' _)) (by simp only[sx, Nat.reduceEqDiff]) (by simp only[sx]) hk6 hB6 hlo6 hlt6 hsep6 (.inr ⟨rfl, hneg⟩) fun _ => .inr (List.mem_append_right _ List.mem_cons_self)
     · simp only[↓Sh.dn, sx, Nat.reduceEqDiff, hneg, decide_false, f45, A1a hq hrl']
       exact hnext (by repeat (first|refine Same.put ?_ rfl|exact Same.rfl' _)) (by simp only[sx, Nat.reduceEqDiff, f7']) (by simp only[sx]) hk3 hB5 hlo5 hlt5 hsep' (.inl rfl) fun h => absurd h hneg
   · rintro F'' H'' hF'' f45 ⟨hk'', zt', f7', td', tb', hB', hlo', hlt'', hsep', htn', htl', hsub, hct', hed⟩
     have g0 := hF'' 0 rfl;have g5 := hF'' 5 rfl;have g6 := hF'' 6 rfl;have g43 := hF'' 43 rfl;have g44 := hF'' 44 rfl;simp only[sx, reduceCtorEq, Nat.reduceEqDiff, f0, f5]at g0 g5 g6 g43 g44;rw[List.take_length]at hed;simp only[↓Sh.dn, sx, Nat.reduceBEq, f45, g44, A2a, Nat.lt_irrefl, decide_false];have hol2 : (out ++ [s]).length = out.length + 1 := by simp
     refine k ((n - (out ++ [s]).length) * 60000 + td'.length) _ _ (by rw [hol2, List.length_append, List.length_singleton]; have : n - out.length = (n - (out.length + 1)) + 1 := by omega
                                                                       rw[this, Nat.add_mul];omega) ⟨by simp only[sx, reduceCtorEq, g0], by simp only[sx, Nat.reduceEqDiff, g5], hk'', w', by simp only[sx, Nat.reduceEqDiff, g6], zt', by simp only[sx, Nat.reduceEqDiff, f7'], out ++ [s], td', ob2, tb', rfl, hB', hlo', hlt'', hsep', ?_, fun t ht => ?_, htn', ?_, fun t ht => ?_, fun t ht => ?_, hct', fun x hx t ht => ?_⟩
     · rw[List.nodup_append]
       refine⟨hnd, by simp, fun a ha b hb => ?_⟩;rw[List.mem_singleton]at hb;rintro rfl;exact hs (hb ▸ ha)
     · rcases List.mem_append.1 ht with h1|h1
       · exact hon t h1
       · rw[List.mem_singleton.1 h1];exact hsn
     · rw[hol2, Nat.add_mul];rw[List.length_append]at htl;omega
     · rcases hLo t ht with h1|h1
       · exact .inl (List.mem_append_left _ h1)
       · rcases List.mem_append.1 h1 with h2|h2
         · exact .inr (hsub t h2)
         · exact .inl (List.mem_append_right _ h2)
     · rcases List.mem_append.1 ht with h1|h1
       · exact hco t h1
       · rw[List.mem_singleton.1 h1];exact hts
     · rcases List.mem_append.1 hx with h1|h1
       · rcases hcl x h1 t ht with h2|h2
         · exact .inl (List.mem_append_left _ h2)
         · rcases List.mem_append.1 h2 with h3|h3
           · exact .inr (hsub t h3)
           · exact .inl (List.mem_append_right _ h3)
       · rw[List.mem_singleton.1 h1]at ht
         obtain⟨r', hr2, e, he, he1, he2⟩ := ht;rw[hr]at hr2;rw[←Option.some.inj hr2]at he;rw[←he1];exact hed e he he2
def SetAt(H:AH)(v:Value)(n:Nat)(Q:Nat→Prop):Prop:=∃out:List Nat,Sl H v 1 (out.map natC)∧out.Nodup∧(∀t∈out,t<n)∧∀t,t∈out↔Q t
theorem SetAt.kept{H H':AH}{v:Value}{n:Nat}{Q:Nat→Prop}(h:SetAt H v n Q)(hw:Wf H)(hk:Kept H H'):SetAt H' v n Q:=by
 obtain⟨out,h1,h2⟩:=h;exact⟨out,h1.grow (hk.grow hw),h2⟩
def A7z(E:List (List (Nat×Int×Int×Int)))(S:Nat→Prop)(k:Nat):Nat→Prop:=Clo (A1e E fun k=>k<0) fun t=>∃s,S s∧A1e E (fun x=>x=(k:Int)) s t
theorem C7s{H:AH}{g n:Nat}{E:List (List (Nat×Int×Int×Int))}{ends:List Int}{sv av ev cv u:Value}{vals:List Value}{sigma:List ByteArray}{costs:List Int}{L:List Nat}(h:PG H g n 60000 E ends sv av ev cv vals sigma costs)(hsy:∀(s:Nat) r,E[s]?=some r→∀e∈r,e.2.1<(sigma.length:Int))(hsl:sigma.length≤1000)(hL:Sl H u 1 (L.map natC))(hlt:∀t∈L,t<n)(hll:L.length≤100000)(hw:Wf H):
  Sh.Call Tryz.prog (knows 7) 106 [.pointer (some ⟨g,0,some 0⟩),u] H (fun r H'=>Kept H H'∧∃vs:List Value,vs.length=sigma.length∧∀H'':AH,(∀y,H.next≤y→y<H'.next→H''.objs.get y=H'.objs.get y)→Sl H'' r 1 (vs.map fun x=>[x])∧∀(k:Nat) v,vs[k]?=some v→SetAt H'' v n (A7z E (fun s=>s∈L) k)):=by
 refine A5a rfl Tryz.func106 rfl (Nat.le_of_ble_eq_true rfl) ?_;have hres:Tryz.f106.results.toList=[.tmp 4]:=rfl;have hn2:=h.n2;have hc0:=h.gr.arr.cell 0;have hc1:=h.gr.arr.cell 1;have hlen:=fun H'=>hL.len Tryz.underlying146 H';simp only[List.length_map]at hlen;have hlenS:∀H',A3a Tryz.prog .len [22] [sv] H'=some (.int .i64 (sigma.length:Int),H'):=fun H'=>by
  rw[h.gr.sg.len Tryz.underlying22,List.length_map]
 have hmk:=mk_131 (H:=H) (l:=sigma.length) (c:=sigma.length) (Nat.le_refl _) (by omega);have k1:=Kept.new hw 1 (List.replicate sigma.length (.slice none 0 0));have J1:=Jag.make hw 1 (n:=sigma.length) (by omega);simp only[↓Sh.dn,sx,reduceCtorEq,Nat.reduceEqDiff,hc0,hlenS,hmk,hlen];obtain⟨ot,hot⟩:∃ot,(if sigma.length=0 then none else some H.next)=ot:=⟨_,rfl⟩
 rw[hot]at J1;have hlot:∀y,ot=some y→y=H.next:=by
  intro y hy;rw[←hot]at hy;split at hy
  ·cases hy
  ·exact(Option.some.inj hy).symm
 have hin1:∀y,JIn ot (List.replicate sigma.length none) y→H.next≤y:=by
  rintro y (hy|⟨i,hi⟩)
  ·rw[hlot y hy];exact Nat.le_refl _
  ·rw[List.getElem?_replicate]at hi;split at hi<;>cases hi
 have hrows0:(List.replicate sigma.length ([]:List (List Value)))=(List.replicate sigma.length ([]:List Nat)).map fun l=>l.map natC:=by simp
 rw[hrows0]at J1;generalize (Value.slice (some ⟨H.next,0,some 0⟩) sigma.length sigma.length)=lv at J1 ⊢;generalize (H.new 1 (List.replicate sigma.length (.slice none 0 0))).2=H1 at k1 J1 ⊢;refine A0d L.length 20 (List.range' 20 34++[7,9]) (fun i F H'=>Kept H H'∧∃(vals:List Value) (Ls:List (List Nat)) (obs:List (Option Nat)),Jag H' lv ot 1 vals (Ls.map fun l=>l.map natC) obs∧(∀y,JIn ot obs y→H.next≤y)∧Ls.length=sigma.length∧∀(k:Nat) l,Ls[k]?=some l→l.length≤i*60000∧(∀t∈l,t<n)∧∀t,t∈l↔∃s∈L.take i,A1e E (fun x=>x=(k:Int)) s t) (by simp only[sx])
  ⟨k1,_,_,_,J1,hin1,by simp,fun k l hkl=>by
   have hk0:=hkl;rw[List.getElem?_replicate]at hkl;split at hkl
   ·rw[←Option.some.inj hkl];simp
   ·cases hkl⟩ ?_ ?_
 ·rintro i F H' hi hF f20 ⟨hk,vals',Ls,obs,hJ,hin,hLl,hLi⟩ k
  have f0:=hF 0 rfl;have f5:=hF 5 rfl;have f18:=hF 18 rfl;have f19:=hF 19 rfl;simp only[sx,reduceCtorEq,Nat.reduceEqDiff]at f0 f5 f18 f19;obtain⟨p,hia,hc⟩:=B2w Tryz.underlying146 A1c (hL.grow (hk.grow hw)) hi;have hsn:L[i]<n:=hlt _ (List.getElem_mem hi);have htake:L.take (i+1)=L.take i++[L[i]]:=by rw[List.take_add_one,List.getElem?_eq_getElem hi];rfl
  generalize L[i]=s at hc htake hsn;obtain⟨r,hr⟩:∃r,E[s]?=some r:=⟨E[s]'(by rw[h.le];exact hsn),List.getElem?_eq_getElem _⟩
  obtain⟨hrl,hrt⟩:=h.to s r hr;have hrs:=hsy s r hr;obtain⟨pr,wr,hiar,hcr,hsr,hlr⟩:=PG.row h hr;have q1:=A2b (hk.grow hw) hc1;have q2:=A2b (hk.grow hw) hcr;simp only[↓Sh.dn,sx,reduceCtorEq,Nat.reduceEqDiff,f0,f18,f19,f20,A2a,hi,decide_true,hia,hc,q1,hiar,q2,hlr];refine A0d r.length 32 (List.range' 32 21++[9]) (fun q F'' H''=>Kept H H''∧∃(vals:List Value) (Ls:List (List Nat)) (obs:List (Option Nat)),Jag H'' lv ot 1 vals (Ls.map fun l=>l.map natC) obs∧(∀y,JIn ot obs y→H.next≤y)∧Ls.length=sigma.length∧∀(k:Nat) l,Ls[k]?=some l→l.length≤i*60000+q∧(∀t∈l,t<n)∧∀t,t∈l↔(∃s∈L.take i,A1e E (fun x=>x=(k:Int)) s t)∨∃e∈r.take q,e.1=t∧e.2.1=(k:Int)) (by simp only[sx]) ⟨hk,vals',Ls,obs,hJ,hin,hLl,fun k l hkl=>by
   obtain⟨a1,a2,a3⟩:=hLi k l hkl;exact⟨Nat.le_trans a1 (Nat.le_add_right _ _),a2,fun t=>by rw[a3];simp⟩⟩ ?_ ?_
  ·rintro q F'' H'' hq hF'' f32 ⟨hk'',vals2,Ls,obs,hJ,hin,hLl,hLi⟩ k2
   have g5:=hF'' 5 rfl;have g30:=hF'' 30 rfl;have g31:=hF'' 31 rfl;simp only[sx,Nat.reduceEqDiff,f5]at g5 g30 g31;obtain⟨pe,hiae,hce⟩:=PG.edge (hsr.grow (hk''.grow hw)) hq;have hrq:r[q]∈r:=List.getElem_mem hq;have htk:r.take (q+1)=r.take q++[r[q]]:=by rw[List.take_add_one,List.getElem?_eq_getElem hq];rfl
   generalize r[q]=e at hce hrq htk;have kn:=Kept.new hk''.wf 4 (A9a e);have hk3:=hk''.trans kn;have hJ3:=hJ.kept hk''.wf kn;have hrl':r.length≤4611686018427387904:=Nat.le_trans hrl (by decide);have ob0:=(Sh.Obj.new (H:=H'') 4 (A9a e)).arr;have hjn:∀(k:Nat) t,(∃e'∈r.take (q+1),e'.1=t∧e'.2.1=(k:Int))↔(∃e'∈r.take q,e'.1=t∧e'.2.1=(k:Int))∨e.1=t∧e.2.1=(k:Int):=fun k t=>by
    rw[htk];simp only[List.mem_append,List.mem_singleton];constructor
    ·rintro⟨e',h1|h1,h2⟩
     ·exact .inl ⟨e',h1,h2⟩
     ·subst h1;exact .inr h2
    ·rintro(⟨e',h1,h2⟩|h2)
     ·exact⟨e',.inl h1,h2⟩
     ·exact⟨e,.inr rfl,h2⟩
   simp only[↓Sh.dn,sx,Nat.reduceEqDiff,f32,g30,g31,hiae,hce,A2a,hq,decide_true,A8q,A9k,A9q,ge1];by_cases hpos:0≤e.2.1
   ·obtain⟨x,hx⟩:∃x:Nat,e.2.1=(x:Int):=⟨e.2.1.toNat,by omega⟩
    have hxs:x<sigma.length:=by have:=hrs e hrq;omega
    obtain⟨l,hl⟩:∃l,Ls[x]?=some l:=⟨Ls[x]'(by rw[hLl];exact hxs),List.getElem?_eq_getElem _⟩
    obtain⟨b1,b2,b3⟩:=hLi x l hl;obtain⟨a,cap,w',H5,H6,o',p5,e1,e2,e3,e4,e5,e6,e7,e8,e9⟩:=hJ3.pushAt Tryz.underlying131 A6s hk3.wf (i:=x) (r:=l.map natC) (by rw[List.getElem?_map,hl];rfl) (x:=[.int .i64 (e.1:Int)]) rfl;have hbs:=A3o (H:=(H''.new 4 (A9a e)).2) (x:=.int .i64 (e.1:Int)) rfl rfl;rw[List.length_map]at e1 e3;have hll2:l.length≤17179869183:=by omega
    have ha:=B5u (H:=(H''.new 4 (A9a e)).2) (base:=a) (len:=l.length) (cap:=cap) (x:=[.int .i64 (e.1:Int)]) rfl hll2;rw[e1]at ha;have st:A7d Tryz.prog 71 H5 w' (.pointer (some p5))=some H6:=by rw[A9b A6s e8,e4]
    have hne:¬JIn ot obs H''.next:=fun hy=>Nat.lt_irrefl _ (hJ.lt hk''.wf _ hy);have c1':H5.cell ⟨H''.next,1,some 0⟩=some (.int .i64 e.2.1):=(ob0.keep (e7.old _ (Nat.lt_succ_self _) hne)).cell 1;simp only[↓Sh.dn,sx,hpos,decide_true];refine A8n (fl:=[(0,[]),(1,[]),(2,[]),(3,[]),(4,[]),(5,[]),(6,[]),(7,[]),(8,[]),(9,[]),(10,[]),(11,[2]),(12,[]),(13,[])]) (by kernel_rfl) (by kernel_rfl) (by kernel_rfl) ?_;simp only[↓Sh.dn,sx,Nat.reduceEqDiff,wpr,again,A2d,A3h,forall_eq',g5,ge1,ge0,hx,e2,e3,A6a,hbs,ha,c1',st,f32,A1a hq hrl'];refine k2 _ _ (by repeat (first|refine Same.put ?_ rfl|exact Same.rfl' _)) (by simp only[sx]) ⟨hk3.then (Nat.le_refl _) (e6.weak hin),_,Ls.set x (l++[e.1]),_,by rw[List.map_set,List.map_append];exact e5,fun y hy=>?_,by rw[List.length_set];exact hLl,fun k l' hkl=>?_⟩
    ·rcases e9 y hy with h1|h1
     ·exact hin y h1
     ·have:=hk''.next
      have:(H''.new 4 (A9a e)).2.next=H''.next+1:=rfl;omega
    ·rw[List.getElem?_set]at hkl
     by_cases hxk:x=k
     ·subst hxk
      rw[if_pos rfl,if_pos (by rw[hLl];exact hxs)]at hkl;rw[←Option.some.inj hkl];refine⟨by rw[List.length_append];simp;omega,fun t ht=>?_,fun t=>?_⟩
      ·rcases List.mem_append.1 ht with h2|h2
       ·exact b2 t h2
       ·rw[List.mem_singleton.1 h2];exact hrt e hrq
      ·rw[hjn,List.mem_append,List.mem_singleton,b3]
       constructor
       ·rintro((h1|h1)|h1)
        ·exact .inl h1
        ·exact .inr (.inl h1)
        ·exact .inr (.inr ⟨h1.symm,hx⟩)
       ·rintro(h1|h1|⟨h1,_⟩)
        ·exact .inl (.inl h1)
        ·exact .inl (.inr h1)
        ·exact .inr h1.symm
     ·rw[if_neg hxk]at hkl
      obtain⟨d1,d2,d3⟩:=hLi k l' hkl;refine⟨by omega,d2,fun t=>?_⟩;rw[hjn,d3];have:¬(e.1=t∧e.2.1=(k:Int)):=fun h=>hxk (by have:=h.2;omega);simp[this]
   ·simp only[↓Sh.dn,sx,Nat.reduceEqDiff,hpos,decide_false,f32,A1a hq hrl']
    refine k2 _ _ (by repeat (first|refine Same.put ?_ rfl|exact Same.rfl' _)) (by simp only[sx]) ⟨hk3,vals2,Ls,obs,hJ3,hin,hLl,fun k l hkl=>?_⟩;obtain⟨d1,d2,d3⟩:=hLi k l hkl;refine⟨by omega,d2,fun t=>?_⟩;rw[hjn,d3];have:¬(e.1=t∧e.2.1=(k:Int)):=fun h=>hpos (by have:=h.2;omega);simp[this]
  ·rintro F'' H'' hF'' f32 ⟨hk'',vals2,Ls,obs,hJ,hin,hLl,hLi⟩
   have g20:=hF'' 20 rfl;have g31:=hF'' 31 rfl;simp only[sx,Nat.reduceEqDiff,f20]at g20 g31;rw[List.take_length]at hLi;simp only[↓Sh.dn,sx,Nat.reduceBEq,Nat.reduceEqDiff,f32,g20,g31,A2a,Nat.lt_irrefl,decide_false,A1a hi (by omega)];refine k _ _ ?_ (by simp only[sx]) ⟨hk'',vals2,Ls,obs,hJ,hin,hLl,fun k l hkl=>?_⟩
   ·repeat refine Same.put ?_ rfl
    exact Same.trans (by repeat (first|refine Same.put ?_ rfl|exact Same.rfl' _)) (hF''.sub rfl)
   ·obtain⟨d1,d2,d3⟩:=hLi k l hkl
    refine⟨by omega,d2,fun t=>?_⟩;rw[d3,htake];simp only[List.mem_append,List.mem_singleton];constructor
    ·rintro(⟨s',h1,h2⟩|⟨e,h1,h2,h3⟩)
     ·exact⟨s',.inl h1,h2⟩
     ·exact⟨s,.inr rfl,r,hr,e,h1,h2,h3⟩
    ·rintro⟨s',h1|h1,h2⟩
     ·exact .inl ⟨s',h1,h2⟩
     ·subst h1
      obtain⟨r',h3,e,h4,h5,h6⟩:=h2;rw[hr]at h3;rw[←Option.some.inj h3]at h4;exact .inr ⟨e,h4,h5,h6⟩
 ·rintro F H2 hF f20 ⟨hk,vals',Ls,obs,hJ,hin,hLl,hLi⟩
  have f0:=hF 0 rfl;have f5:=hF 5 rfl;have f19:=hF 19 rfl;simp only[sx,reduceCtorEq,Nat.reduceEqDiff]at f0 f5 f19;rw[List.take_length]at hLi;have hlenJ:∀H',A3a Tryz.prog .len [131] [lv] H'=some (.int .i64 (sigma.length:Int),H'):=fun H'=>by
   rw[hJ.top.toSl.len Tryz.underlying131,List.length_map,hJ.len1,List.length_map,hLl]
  have hmk2:=mk_148 (H:=H2) (l:=sigma.length) (c:=sigma.length) (Nat.le_refl _) (by omega);have k3:=Kept.new hk.wf 1 (List.replicate sigma.length (.slice none 0 0));have B3:=Buf.fill hk.wf (.slice none 0 0) (c:=sigma.length) (by omega);simp only[↓Sh.dn,sx,Nat.reduceEqDiff,f5,f19,f20,A2a,Nat.lt_irrefl,decide_false,hlenJ,hmk2];obtain⟨oo,hoo⟩:∃oo,(if sigma.length=0 then none else some H2.next)=oo:=⟨_,rfl⟩
  rw[hoo]at B3;have hloo:∀y,oo=some y→y=H2.next:=by
   intro y hy;rw[←hoo]at hy;split at hy
   ·cases hy
   ·exact(Option.some.inj hy).symm
  have hx3:H2.next<(H2.new 1 (List.replicate sigma.length (.slice none 0 0))).2.next:=Nat.lt_succ_self _;have B3':Buf (H2.new 1 (List.replicate sigma.length (.slice none 0 0))).2 1 (.slice (some ⟨H2.next,0,some 0⟩) sigma.length sigma.length) ((List.replicate sigma.length (Value.slice none 0 0)).map fun x=>[x]) oo:=by simpa using B3
  generalize (Value.slice (some ⟨H2.next,0,some 0⟩) sigma.length sigma.length)=ov at B3' ⊢;generalize (H2.new 1 (List.replicate sigma.length (.slice none 0 0))).2=H3 at k3 B3' hx3 ⊢;refine A0d sigma.length 59 (List.range' 59 19++[11]) (fun i F H'=>Kept H2 H'∧H2.next<H'.next∧∃vs:List Value,Buf H' 1 ov (vs.map fun x=>[x]) oo∧vs.length=sigma.length∧(∀(k:Nat) v,vs[k]?=some v→i≤k→v=.slice none 0 0)∧∀(k:Nat) v,vs[k]?=some v→k<i→∃(out:List Nat) (o:Option Nat),Buf H' 1 v (out.map natC) o∧(∀y,o=some y→H.next≤y∧oo≠some y)∧out.Nodup∧(∀t∈out,t<n)∧∀t,t∈out↔A7z E (fun s=>s∈L) k t) (by simp only[sx])
   ⟨k3,hx3,_,B3',by simp,(fun k v hv _=>by
    rw[List.getElem?_replicate]at hv;split at hv
    ·exact(Option.some.inj hv).symm
    ·cases hv),fun k v _ hk0=>absurd hk0 (Nat.not_lt_zero k)⟩ ?_ ?_
  ·rintro i F' H' hi hF' f59 ⟨hk',hx',vs,hB,hvl,hnil,hset⟩ k
   have g0:=hF' 0 rfl;have g5:=hF' 5 rfl;have g10:=hF' 10 rfl;have g58:=hF' 58 rfl;simp only[sx,reduceCtorEq,Nat.reduceEqDiff,f0,f5]at g0 g5 g10 g58;obtain⟨l,hl⟩:∃l,Ls[i]?=some l:=⟨Ls[i]'(by rw[hLl];exact hi),List.getElem?_eq_getElem _⟩
   obtain⟨b1,b2,b3⟩:=hLi i l hl;have hJ':=hJ.kept hk.wf hk';obtain⟨gj,oj,kj,wj,j1,j2,j3⟩:=hJ'.read.at Tryz.underlying131 A6s (i:=i) (r:=l.map natC) (by rw[List.getElem?_map,hl];rfl);have hlw:=fun H'=>j3.len Tryz.underlying71 H';simp only[List.length_map]at hlw;obtain⟨v,hv⟩:∃v,vs[i]?=some v:=⟨vs[i]'(by rw[hvl];exact hi),List.getElem?_eq_getElem _⟩
   have hv0:=hnil i v hv (Nat.le_refl i);have hQ:(fun s=>s∈l)=fun t=>∃s,s∈L∧A1e E (fun x=>x=(i:Int)) s t:=by
    funext t
    exact propext (b3 t)
   simp only[↓Sh.dn,sx,Nat.reduceEqDiff,f59,g5,g58,A2a,hi,decide_true,j1,j2,hlw];by_cases hle:l=[]
   ·have hz:decide ((0:Int)<((l.length:Nat):Int))=false:=by rw[hle];rfl
    simp only[↓Sh.dn,sx,Nat.reduceEqDiff,hz,f59,A1a hi (by omega)];refine k _ _ (by repeat (first|refine Same.put ?_ rfl|exact Same.rfl' _)) (by simp only[sx]) ⟨hk',hx',vs,hB,hvl,fun k v hv hik=>hnil k v hv (by omega),fun k w hv' hik=>?_⟩;by_cases hki:k=i
    ·subst hki
     rw[hv]at hv';rw[←Option.some.inj hv',hv0];refine⟨[],none,.void none,fun y hy=>(by cases hy),List.nodup_nil,fun t ht=>(by cases ht),fun t=>?_⟩;unfold A7z;rw[←hQ,hle];constructor
     ·intro ht;cases ht
     ·intro ht;exact absurd (ht.of (Q:=fun _=>False) (fun s hs=>by cases hs) fun _ _ h _=>h) id
    ·exact hset k w hv' (by omega)
   ·have hz : decide ((0 : Int) < ((l.length : Nat) : Int)) = true := by
      have := List.length_pos_iff.2 hle;simp;omega
    obtain⟨r6, H6, hd6, hk6, out, o6, hB6, hf6, hnd6, hlt6, hi6⟩ := B6l (h.kept hw (hk.trans hk')) j3 b2 (by omega) hk'.wf;have hB6' := hB.kept hk'.wf hk6;obtain⟨p, e1, e2, e3⟩ := hB6'.spot Tryz.underlying148 B3e hk6.wf (i := i) (u := v) (by rw[List.getElem?_map, hv];rfl);obtain⟨H7, w1, w2, w3, w4⟩ := e3 r6;have st : A7d Tryz.prog 146 H6 r6 (.pointer (some p)) = some H7 := by rw[A9b B3e hB6.isCell];exact w1
    have hsep : ∀y, o6 = some y → H.next ≤ y ∧ oo ≠ some y := fun y hy => by
      have h1 := hf6 y hy;have h2 := hk'.next;have h3 := hk.next;exact⟨by omega, fun hy2 => by have := hloo y hy2;omega⟩
    simp only[↓Sh.dn, sx, reduceCtorEq, Nat.reduceEqDiff, hz, g0, g5, g10, j1, j2];refine⟨_, _, hd6, ?_⟩;simp only[sx, e1, st, f59, A1a hi (by omega)];refine k _ _ (by repeat (first|refine Same.put ?_ rfl|exact Same.rfl' _)) (by simp only[sx]) ⟨(hk'.trans hk6).then (Nat.le_refl _) (w3.weak fun y hy => by rw[hloo y hy];exact Nat.le_refl _), by have := hk6.next;have := w3.next;omega, vs.set i r6, by rw[List.map_set];exact w2, by rw[List.length_set];exact hvl, fun k w hv' hik => ?_, fun k w hv' hik => ?_⟩
    · rw[List.getElem?_set, if_neg (by omega)]at hv'
      exact hnil k w hv' (by omega)
    · rw[List.getElem?_set]at hv'
      by_cases hki : i = k
      · subst hki
        rw[if_pos rfl, if_pos (by rw[hvl];exact hi)]at hv';rw[←Option.some.inj hv'];refine⟨out, o6, hB6.chg hk6.wf w3 fun y hy hy2 => (hsep y hy).2 hy2, hsep, hnd6, hlt6, fun t => ?_⟩;rw[hi6, hQ];rfl
      · rw[if_neg hki]at hv'
        obtain⟨out', o', m1, m2, m3⟩ := hset k w hv' (by omega);exact⟨out', o', (m1.kept hk'.wf hk6).chg hk6.wf w3 fun y hy hy2 => (m2 y hy).2 hy2, m2, m3⟩
  ·rintro F' H' hF' f59 ⟨hk',hx',vs,hB,hvl,hnil,hset⟩
   have g10:=hF' 10 rfl;have g58:=hF' 58 rfl;simp only[sx,Nat.reduceEqDiff]at g10 g58;simp only[↓Sh.dn,sx,Nat.reduceEqDiff,f59,g10,g58,A2a,Nat.lt_irrefl,decide_false,hres];refine⟨hk.trans hk',vs,hvl,fun H'' hy=>⟨(hB.keep fun y h1=>hy y (by rw[hloo y h1];exact hk.next) (hB.lt hk'.wf y h1)).toSl,fun k v hv=>?_⟩⟩;obtain⟨out,o,m1,m0,m2,m3,m4⟩:=hset k v hv (by rw[←hvl];exact(List.getElem?_eq_some_iff.1 hv).1);exact⟨out,(m1.keep fun y h1=>hy y (m0 y h1).1 (m1.lt hk'.wf y h1)).toSl,m2,m3,m4⟩
theorem B94{H:AH}{g n:Nat}{R:List (List (Nat×Int×Int×Int))}{ends:List Int}{sv av ev cv u:Value}{vals:List Value}{sigma:List ByteArray}{costs:List Int}{X:List Bool}{fid:Nat}{caps:List Value}{E:Nat→Nat→Prop}
  (h:PG H g n 6000000000 R ends sv av ev cv vals sigma costs) (hX:Sl H u 1 (X.map A0z)) (hXl:X.length=n) (hw:Wf H)
  (hp:∀H',Kept H H'→∀(u':Value) (L:List Nat),Sl H' u' 1 (L.map natC)→(∀t∈L,t<n)→L.length≤100000→Sh.Call Tryz.prog (knows 7) fid (u' :: caps) H' (fun r H''=>B6e H' H'' r n (Clo E fun s=>s∈L))):
  Sh.Call Tryz.prog (knows 7) 112 [.pointer (some ⟨g,0,some 0⟩),u,.func (.func fid) #[] caps.toArray] H (fun r H'=>B6e H H' r n (Clo E fun t=>∃s,X[s]?=some true∧A1e R (fun k=>0≤k) s t)):=by
 refine A5a rfl Tryz.func112 rfl (Nat.le_of_ble_eq_true rfl) ?_;have hres:Tryz.f112.results.toList=[.tmp 6]:=rfl;have hn1:=h.n1;have hn2:=h.n2;have hc1:=h.gr.arr.cell 1;have hlen:=fun H'=>hX.len Tryz.underlying58 H';simp only[List.length_map,hXl]at hlen;have hmk:=mk_58 (H:=H) (l:=n) (c:=n) (Nat.le_refl _) (by omega);have k1:=Kept.new hw 1 (List.replicate n (.bool false));have f1:=Buf.fill hw (.bool false) (c:=n) (by omega);rw[if_neg (by omega)]at f1;have hM1:MB (H.new 1 (List.replicate n (.bool false))).2 H.next n (.slice (some ⟨H.next,0,some 0⟩) n n) (some H.next) (List.replicate n false) []:=
  ⟨Marks.empty n,by rw[List.map_replicate];exact f1,fun y hy=>by rw[←Option.some.inj hy];exact Nat.le_refl _⟩
 simp only[↓Sh.dn,sx,Nat.reduceEqDiff,hlen,hmk];generalize (Value.slice (some ⟨H.next,0,some 0⟩) n n)=mv at hM1 ⊢;generalize (H.new 1 (List.replicate n (.bool false))).2=H1 at k1 hM1 ⊢;obtain⟨os,hos⟩:∃os,some H.next=os:=⟨_,rfl⟩
 rw[hos]at hM1;refine A0d n 18 (List.range' 18 41++[7,9,10,12]) (fun i F H'=>Kept H H'∧∃z,F.get 7=some z∧∃seen out ob,MB H' H.next n mv os seen out∧LB H' H.next os z out ob∧∀t,t∈out↔∃s,s<i∧X[s]?=some true∧A1e R (fun k=>0≤k) s t) (by simp only[sx]) ⟨k1,_,by simp only[sx,Nat.reduceEqDiff],_,_,none,hM1,⟨.void none,fun y hy=>by cases hy⟩,fun t=>by simp⟩ ?_ ?_
 ·rintro i F H' hi hF f18 ⟨hk,z,f7,seen,out,ob,hM,hl,hiff⟩ k
  have f0:=hF 0 rfl;have f8:=hF 8 rfl;have f16:=hF 16 rfl;have f17:=hF 17 rfl;simp only[sx,reduceCtorEq,Nat.reduceEqDiff]at f0 f8 f16 f17;obtain⟨b,hbx⟩:∃b,X[i]?=some b:=⟨X[i]'(by rw[hXl];exact hi),List.getElem?_eq_getElem _⟩
  obtain⟨qb,e4,e5⟩:=Sl.elem (s:=1) Tryz.underlying58 A5r (hX.grow (hk.grow hw)) (i:=i) (u:=.bool b) (by rw[List.getElem?_map,hbx];rfl);obtain⟨r,hr⟩:∃r,R[i]?=some r:=⟨R[i]'(by rw[h.le];exact hi),List.getElem?_eq_getElem _⟩
  obtain⟨hrl,hrt⟩:=h.to i r hr;obtain⟨pr,wr,hiar,hcr,hsr,hlr⟩:=PG.row h hr;have q1:=A2b (hk.grow hw) hc1;have q2:=A2b (hk.grow hw) hcr;simp only[↓Sh.dn,sx,Nat.reduceEqDiff,f16,f17,f18,A2a,hi,decide_true,e4,e5];cases b with
  | false=>
   simp only[↓Sh.dn,sx,Nat.reduceBEq,Nat.reduceEqDiff,f18,A1a hi (Nat.le_trans hn2 (by decide))];refine k _ _ (by repeat (first|refine Same.put ?_ rfl|exact Same.rfl' _)) (by simp only[sx]) ⟨hk,z,by simp only[sx,Nat.reduceEqDiff,f7],seen,out,ob,hM,hl,fun t=>?_⟩;rw[hiff];constructor
   ·rintro⟨s,h1,h2⟩;exact⟨s,by omega,h2⟩
   ·rintro⟨s,h1,h2,h3⟩
    by_cases hs:s=i
    ·subst hs;rw[hbx]at h2;cases h2
    ·exact⟨s,by omega,h2,h3⟩
  | true=>
  simp only[↓Sh.dn,sx,reduceCtorEq,Nat.reduceEqDiff,f0,q1,hiar,q2,hlr];refine A0d r.length 33 (List.range' 33 25++[7,12]) (fun q F'' H''=>Kept H H''∧∃z,F''.get 7=some z∧∃seen' out' ob,MB H'' H.next n mv os seen' out'∧LB H'' H.next os z out' ob∧∀t,t∈out'↔t∈out∨∃e∈r.take q,e.1=t∧0≤e.2.1) (by simp only[sx]) ⟨hk,z,by simp only[sx,Nat.reduceEqDiff,f7],seen,out,ob,hM,hl,fun t=>by simp⟩ ?_ ?_
  ·rintro q F'' H'' hq hF'' f33 ⟨hk'',z',f7',seen',out',ob',hM',hl',hiff'⟩ k2
   have g8:=hF'' 8 rfl;have g31:=hF'' 31 rfl;have g32:=hF'' 32 rfl;simp only[sx,Nat.reduceEqDiff,f8]at g8 g31 g32;obtain⟨pe,hiae,hce⟩:=PG.edge (hsr.grow (hk''.grow hw)) hq;have hrq:r[q]∈r:=List.getElem_mem hq;have htk:r.take (q+1)=r.take q++[r[q]]:=by rw[List.take_add_one,List.getElem?_eq_getElem hq];rfl
   generalize r[q]=e at hce hrq htk;have kn:=Kept.new hk''.wf 4 (A9a e);have hk3:=hk''.trans kn;have hM3:=hM'.kept hk''.wf kn;have hl3:=hl'.kept hk''.wf kn;have hout':=hM3.ms.le;have hjn:∀t,(∃e'∈r.take (q+1),e'.1=t∧0≤e'.2.1)↔(∃e'∈r.take q,e'.1=t∧0≤e'.2.1)∨e.1=t∧0≤e.2.1:=fun t=>by
    rw[htk];simp only[List.mem_append,List.mem_singleton];constructor
    ·rintro⟨e',h1|h1,h2⟩
     ·exact .inl ⟨e',h1,h2⟩
     ·subst h1;exact .inr h2
    ·rintro(⟨e',h1,h2⟩|h2)
     ·exact⟨e',.inl h1,h2⟩
     ·exact⟨e,.inr rfl,h2⟩
   have hrl':r.length≤4611686018427387904:=Nat.le_trans hrl (by decide);have ob0:=(Sh.Obj.new (H:=H'') 4 (A9a e)).arr;simp only[↓Sh.dn,sx,Nat.reduceEqDiff,f33,g31,g32,hiae,hce,A2a,hq,decide_true,A8q,A9k,A9q,ge1];by_cases hpos:0≤e.2.1
   ·by_cases hin:e.1∈out'
    ·obtain⟨p5,hia5,hc5⟩:=hM3.see Tryz.underlying58 A5r (hrt e hrq)
     simp only[↓Sh.dn,sx,Nat.reduceEqDiff,hpos,decide_true,g8,ge0,hia5,hc5,hin,f33,A1a hq hrl'];refine k2 _ _ (by repeat (first|refine Same.put ?_ rfl|exact Same.rfl' _)) (by simp only[sx]) ⟨hk3,z',by simp only[sx,Nat.reduceEqDiff,f7'],seen',out',ob',hM3,hl3,fun t=>?_⟩;rw[hjn,hiff'];constructor
     ·rintro(h1|h1)
      ·exact .inl h1
      ·exact .inr (.inl h1)
     ·rintro(h1|h1|⟨h1,_⟩)
      ·exact .inl h1
      ·exact .inr h1
      ·rw[←h1];exact(hiff' _).1 hin
    ·obtain⟨p3,H5,a,cap,w',H6,ob2,e1,e2,e3,rfl,e5,e6,e7,e8,e9,e10,e11⟩:=C0h hk3 hM3 hl3 (hrt e hrq) hin (by omega)
     have c0':H5.cell ⟨H''.next,0,some 0⟩=some (.int .i64 (e.1:Int)):=(ob0.keep (e11.old _ (Nat.lt_succ_self _) fun hy=>Nat.lt_irrefl _ (hM'.lt hk''.wf _ hy))).cell 0;simp only[↓Sh.dn,sx,Nat.reduceEqDiff,hpos,decide_true,g8,ge0,c0',e1,e2,e3,f7',e6,e7,f33,A1a hq hrl'];refine k2 _ _ (by repeat (first|refine Same.put ?_ rfl|exact Same.rfl' _)) (by simp only[sx]) ⟨e8,w',by simp only[sx,Nat.reduceEqDiff],_,_,ob2,e9,e10,fun t=>?_⟩;rw[hjn,List.mem_append,List.mem_singleton,hiff'];constructor
     ·rintro((h1|h1)|h1)
      ·exact .inl h1
      ·exact .inr (.inl h1)
      ·exact .inr (.inr ⟨h1.symm,hpos⟩)
     ·rintro(h1|h1|⟨h1,_⟩)
      ·exact .inl (.inl h1)
      ·exact .inl (.inr h1)
      ·exact .inr h1.symm
   ·simp only[↓Sh.dn,sx,Nat.reduceEqDiff,hpos,decide_false,f33,A1a hq hrl']
    refine k2 _ _ (by repeat (first|refine Same.put ?_ rfl|exact Same.rfl' _)) (by simp only[sx]) ⟨hk3,z',by simp only[sx,Nat.reduceEqDiff,f7'],seen',out',ob',hM3,hl3,fun t=>?_⟩;rw[hjn,hiff'];simp[hpos]
  ·rintro F'' H'' hF'' f33 ⟨hk'',z',f7',seen',out',ob',hM',hl',hiff'⟩
   have g18:=hF'' 18 rfl;have g32:=hF'' 32 rfl;simp only[sx,Nat.reduceEqDiff,f18]at g18 g32;rw[List.take_length]at hiff';simp only[↓Sh.dn,sx,Nat.reduceBEq,Nat.reduceEqDiff,f33,g18,g32,A2a,Nat.lt_irrefl,decide_false,A1a hi (Nat.le_trans hn2 (by decide))];refine k _ _ ?_ (by simp only[sx]) ⟨hk'',z',by simp only[sx,Nat.reduceEqDiff,f7'],seen',out',ob',hM',hl',fun t=>?_⟩
   ·repeat refine Same.put ?_ rfl
    exact Same.trans (by repeat (first|refine Same.put ?_ rfl|exact Same.rfl' _)) (hF''.sub rfl)
   ·rw[hiff',hiff]
    constructor
    ·rintro(⟨s,h1,h2⟩|⟨e,h1,h2⟩)
     ·exact⟨s,by omega,h2⟩
     ·exact⟨i,by omega,hbx,r,hr,e,h1,h2⟩
    ·rintro⟨s,h1,h2,h3⟩
     by_cases hs:s=i
     ·subst hs
      obtain⟨r',h4,e,h5,h6⟩:=h3;rw[hr]at h4;exact .inr ⟨e,by rw[Option.some.inj h4];exact h5,h6⟩
     ·exact .inl ⟨s,by omega,h2,h3⟩
 ·rintro F H' hF f18 ⟨hk,z,f7,seen,out,ob,hM,hl,hiff⟩
  have f2:=hF 2 rfl;have f17:=hF 17 rfl;simp only[sx,Nat.reduceEqDiff]at f2 f17;have hout:=hM.ms.le;obtain⟨r,H3,hd3,hk3,B,o,hB,hBo,hBl,hBi⟩:=hp H' hk z out hl.bf.toSl (fun t ht=>hM.ms.lt ht) (by omega);simp only[↓Sh.dn,sx,Nat.reduceEqDiff,f2,f7,f17,f18,A2a,Nat.lt_irrefl,decide_false];refine⟨_,_,by first|exact hd3|simpa using hd3,?_⟩;simp only[sx,hres];refine⟨hk.trans hk3,B,o,hB,fun y hy=>Nat.le_trans hk.next (hBo y hy),hBl,fun t=>?_⟩;rw[hBi];have:(fun s=>s∈out)=fun t=>∃s,X[s]?=some true∧A1e R (fun k=>0≤k) s t:=by
   funext t
   apply propext;rw[hiff];constructor
   ·rintro⟨s,_,h1⟩;exact⟨s,h1⟩
   ·rintro⟨s,h1,h2⟩;exact⟨s,by rw[←hXl];exact(List.getElem?_eq_some_iff.1 h1).1,h1,h2⟩
  rw[this]
theorem negAlive{H:AH}{e:Nat×Int×Int×Int}(hw:Wf H):Sh.Call Tryz.prog (knows 7) 122 [.agg (A9a e).toArray] H (fun r H'=>Kept H H'∧r=.bool (decide (e.2.1<0))):=by
 refine A5a rfl Tryz.func122 rfl (Nat.le_of_ble_eq_true rfl) ?_;have hres:Tryz.f122.results.toList=[.tmp 2]:=rfl;simp only[↓Sh.dn,sx,Nat.reduceEqDiff,geNew,ge1,hres,Kept.new hw 4 (A9a e)]
theorem C8d{H:AH}{g n bx:Nat}{R:List (List (Nat×Int×Int×Int))}{ends:List Int}{sv av ev cv:Value}{vals:List Value}{sigma:List ByteArray}{costs:List Int}
  (h:PG H g n 6000000000 R ends sv av ev cv vals sigma costs) (hc:H.cell ⟨bx,0,some 0⟩=some (.pointer (some ⟨g,0,some 0⟩))) (hw:Wf H):
  ∀H',Kept H H'→∀(u':Value) (L:List Nat),Sl H' u' 1 (L.map natC)→(∀t∈L,t<n)→L.length≤100000→Sh.Call Tryz.prog (knows 7) 121 (u' :: [.pointer (some ⟨bx,0,some 0⟩)]) H' (fun r H''=>B6e H' H'' r n (Clo (fitP R fun e=>decide (e.2.1<0)) fun s=>s∈L)):=by
 intro H' hk u' L hL hlt hll;refine A5a rfl Tryz.func121 rfl (Nat.le_of_ble_eq_true rfl) ?_;have hres:Tryz.f121.results.toList=[.tmp 3]:=rfl;have hc':=A2b (hk.grow hw) hc;obtain⟨r2,H2,hd2,ho⟩:=A52 (caps:=[]) (fid:=122) (fun e=>decide (e.2.1<0)) (h.kept hw hk) (by decide) hL hlt hll hk.wf (fun H' hk e=>negAlive hk.wf);simp only[↓Sh.dn,sx,reduceCtorEq,Nat.reduceEqDiff,hc'];refine⟨_,_,hd2,?_⟩;simp only[sx,hres];exact ho
theorem D9b{H:AH}{e:Nat×Int×Int×Int}(hw:Wf H):Sh.Call Tryz.prog (knows 7) 111 [.agg (A9a e).toArray] H (fun r H'=>Kept H H'∧r=.bool (decide (e.2.1<0))):=by
 refine A5a rfl Tryz.func111 rfl (Nat.le_of_ble_eq_true rfl) ?_;have hres:Tryz.f111.results.toList=[.tmp 2]:=rfl;simp only[↓Sh.dn,sx,Nat.reduceEqDiff,geNew,ge1,hres,Kept.new hw 4 (A9a e)]
theorem B66{H:AH}{g n bx:Nat}{R:List (List (Nat×Int×Int×Int))}{ends:List Int}{sv av ev cv:Value}{vals:List Value}{sigma:List ByteArray}{costs:List Int}
  (h:PG H g n 6000000000 R ends sv av ev cv vals sigma costs) (hc:H.cell ⟨bx,0,some 0⟩=some (.pointer (some ⟨g,0,some 0⟩))) (hw:Wf H):
  ∀H',Kept H H'→∀(u':Value) (L:List Nat),Sl H' u' 1 (L.map natC)→(∀t∈L,t<n)→L.length≤100000→Sh.Call Tryz.prog (knows 7) 109 (u' :: [.pointer (some ⟨bx,0,some 0⟩)]) H' (fun r H''=>B6e H' H'' r n (Clo (fitP R fun e=>decide (e.2.1<0)) fun s=>s∈L)):=by
 intro H' hk u' L hL hlt hll;refine A5a rfl Tryz.func109 rfl (Nat.le_of_ble_eq_true rfl) ?_;have hres:Tryz.f109.results.toList=[.tmp 3]:=rfl;have hc':=A2b (hk.grow hw) hc;obtain⟨r2,H2,hd2,ho⟩:=A52 (caps:=[]) (fid:=111) (fun e=>decide (e.2.1<0)) (h.kept hw hk) (by decide) hL hlt hll hk.wf (fun H' hk e=>D9b hk.wf);simp only[↓Sh.dn,sx,reduceCtorEq,Nat.reduceEqDiff,hc'];refine⟨_,_,hd2,?_⟩;simp only[sx,hres];exact ho
def exP(E:List (List (Nat×Int×Int×Int)))(ends:List Int):Nat→Nat→Prop:=A6p (A1e E fun k=>k<0) (A1e E fun k=>0≤k) (fun s=>0<ends.getD s 0)
theorem C42{R E:List (List (Nat×Int×Int×Int))}(hg:∀p t s,A1e R p t s↔A1e E p s t):fitP R (fun e=>decide (e.2.1<0))=fun s t=>A1e E (fun k=>k<0) t s:=by
 funext s t
 apply propext;rw[←hg];unfold fitP A1e;simp
theorem C0i{R E:List (List (Nat×Int×Int×Int))}{ends:List Int}(hg:∀p t s,A1e R p t s↔A1e E p s t){m:Nat}{X:List Bool}(hX:∀t:Nat,X[t]?=some true↔exP E ends m t):
  Clo (fitP R fun e=>decide (e.2.1<0)) (fun t=>∃s,X[s]?=some true∧A1e R (fun k=>0≤k) s t)=exP E ends (m+1):=by
 rw[C42 hg];show _=Clo _ _
 congr 1
 funext t
 apply propext;constructor
 ·rintro⟨s,h1,h2⟩;exact⟨s,(hg _ _ _).1 h2,(hX s).1 h1⟩
 ·rintro⟨s,h1,h2⟩;exact⟨s,(hX s).2 h2,(hg _ _ _).2 h1⟩
def AliveL(H:AH)(base n:Nat)(z:Value)(ob:Option Nat)(Q:Nat→Nat→Prop)(k:Nat):Prop:=
 (∀y,ob=some y→base≤y)∧∃vals:List Value,Buf H 1 z (vals.map fun x=>[x]) ob∧vals.length=k∧∀(j:Nat) v,vals[j]?=some v→∃(B:List Bool) (o:Option Nat),Buf H 1 v (B.map A0z) o∧(∀y,o=some y→base≤y∧ob≠some y)∧B.length=n∧∀t:Nat,B[t]?=some true↔Q j t
theorem AliveL.kept{H H':AH}{base n:Nat}{z:Value}{ob:Option Nat}{Q:Nat→Nat→Prop}{k:Nat}(h:AliveL H base n z ob Q k)(hw:Wf H)(hk:Kept H H'):AliveL H' base n z ob Q k:=by
 obtain⟨h0,vals,h1,h2,h3⟩:=h;refine⟨h0,vals,h1.kept hw hk,h2,fun j v hv=>?_⟩;obtain⟨B,o,h4,h5⟩:=h3 j v hv;exact⟨B,o,h4.kept hw hk,h5⟩
theorem AliveL.keepR{H H':AH}{base n:Nat}{z:Value}{ob:Option Nat}{Q:Nat→Nat→Prop}{k:Nat}(h:AliveL H base n z ob Q k)(hw:Wf H)(hk:∀y,base≤y→y<H.next→H'.objs.get y=H.objs.get y):AliveL H' base n z ob Q k:=by
 obtain⟨h0,vals,h1,h2,h3⟩:=h;refine⟨h0,vals,h1.keep fun y hy=>hk y (h0 y hy) (h1.lt hw y hy),h2,fun j v hv=>?_⟩;obtain⟨B,o,h4,h5,h6⟩:=h3 j v hv;exact⟨B,o,h4.keep fun y hy=>hk y (h5 y hy).1 (h4.lt hw y hy),h5,h6⟩
theorem AliveL.low{H:AH}{base base' n:Nat}{z:Value}{ob:Option Nat}{Q:Nat→Nat→Prop}{k:Nat}(h:AliveL H base n z ob Q k)(hb:base'≤base):AliveL H base' n z ob Q k:=by
 obtain⟨h0,vals,h1,h2,h3⟩:=h;refine⟨fun y hy=>Nat.le_trans hb (h0 y hy),vals,h1,h2,fun j v hv=>?_⟩;obtain⟨B,o,h4,h5,h6⟩:=h3 j v hv;exact⟨B,o,h4,fun y hy=>⟨Nat.le_trans hb (h5 y hy).1,(h5 y hy).2⟩,h6⟩
theorem AliveL.push{H:AH}{base n:Nat}{z v:Value}{ob o:Option Nat}{Q:Nat→Nat→Prop}{k:Nat}{B:List Bool}(h:AliveL H base n z ob Q k)(hw:Wf H)(hb:base≤H.next)(hB:Buf H 1 v (B.map A0z) o)(ho:∀y,o=some y→base≤y∧ob≠some y)(hBl:B.length=n)(hQ:∀t:Nat,B[t]?=some true↔Q k t)(hk:k≤17179869183):
  ∃a cap w' H4 ob',z=.slice a k cap∧A4a Tryz.prog 92 1 [(0,v)] H=some (.slice (some ⟨H.next,0,some 0⟩) 1 1,(H.new 1 [v]).2)∧A3a Tryz.prog .append [92,92] [.slice a k cap,.slice (some ⟨H.next,0,some 0⟩) 1 1] (H.new 1 [v]).2=some (w',H4)∧AliveL H4 base n w' ob' Q (k+1)∧Chg (fun y=>ob=some y) H H4:=by
 obtain⟨h0,vals,h1,h2,h3⟩:=h;obtain⟨a,cap,w',H4,ob',e1,e2,e3,e4,e5⟩:=h1.push hw (x:=[v]) rfl;have hv:=hB.isCell;have hbs:=B74 (H:=H) (x:=v) (by rw[A7a hv];rfl) (by rw[A7a hv];simp[hv]);rw[A7a hv]at hbs;rw[List.length_map,h2]at e1 e2;have ha:=app1_92 (H:=H) (base:=a) (len:=k) (cap:=cap) (x:=[v]) rfl hk;rw[e2]at ha;have hfar:∀y,o=some y→ob'≠some y:=fun y hy hy2=>by
  rcases e5 y hy2 with h4|h4
  ·exact(ho y hy).2 h4
  ·have:=hB.lt hw y hy;omega
 refine⟨a,cap,w',H4,ob',e1,hbs,ha,⟨fun y hy=>?_,vals++[v],by rw[List.map_append];exact e3,by simp[h2],fun j w hj=>?_⟩,e4⟩
 ·rcases e5 y hy with h4|h4
  ·exact h0 y h4
  ·omega
 ·rcases Nat.lt_or_ge j vals.length with hj1|hj1
  ·rw[List.getElem?_append_left hj1]at hj
   obtain⟨B',o',k1,k2,k3⟩:=h3 j w hj;refine⟨B',o',k1.chg hw e4 fun y hy hy2=>(k2 y hy).2 hy2,fun y hy=>⟨(k2 y hy).1,fun hy2=>?_⟩,k3⟩;rcases e5 y hy2 with h4|h4
   ·exact(k2 y hy).2 h4
   ·have:=k1.lt hw y hy;omega
  ·rw[List.getElem?_append_right hj1]at hj
   have hj0:j-vals.length=0:=by
    have:=(List.getElem?_eq_some_iff.1 hj).1;simp at this;omega
   have hjk:j=k:=by omega
   rw[hj0]at hj;have:v=w:=by simpa using hj
   subst this hjk;exact⟨B,o,hB.chg hw e4 fun y hy hy2=>(ho y hy).2 hy2,fun y hy=>⟨(ho y hy).1,hfar y hy⟩,hBl,hQ⟩
theorem AliveL.at{H:AH}{base n:Nat}{z:Value}{ob:Option Nat}{Q:Nat→Nat→Prop}{k j:Nat}(h:AliveL H base n z ob Q k)(hj:j<k):
  ∃p v,A4b Tryz.prog 92 z (.int .i64 (j:Int))=some (.pointer (some p))∧H.cell p=some v∧∃B:List Bool,Sl H v 1 (B.map A0z)∧B.length=n∧∀t:Nat,B[t]?=some true↔Q j t:=by
 obtain⟨h0,vals,h1,h2,h3⟩:=h;have hv:vals[j]?=some (vals[j]'(by rw[h2];exact hj)):=List.getElem?_eq_getElem _;obtain⟨B,o,k1,k2,k3⟩:=h3 j _ hv;obtain⟨p,i1,i2⟩:=Sl.elem (s:=1) Tryz.underlying92 B2t h1.toSl (i:=j) (u:=vals[j]'(by rw[h2];exact hj)) (by rw[List.getElem?_map,hv];rfl);exact⟨p,_,i1,i2,B,k1.toSl,k3⟩
theorem AliveL.len{H:AH}{base n:Nat}{z:Value}{ob:Option Nat}{Q:Nat→Nat→Prop}{k:Nat}(h:AliveL H base n z ob Q k)(H':AH):A3a Tryz.prog .len [92] [z] H'=some (.int .i64 (k:Int),H'):=by
 obtain⟨h0,vals,h1,h2,h3⟩:=h;rw[h1.toSl.len Tryz.underlying92,List.length_map,h2]
theorem C9y{H:AH}{g:Nat}:anew Tryz.prog 67 H (.pointer none)=some (.pointer (some ⟨H.next,0,some 0⟩),(H.new 1 [.pointer none]).2)∧A7d Tryz.prog 67 (H.new 1 [.pointer none]).2 (.pointer (some ⟨g,0,some 0⟩)) (.pointer (some ⟨H.next,0,some 0⟩))=some (H.new 1 [.pointer (some ⟨g,0,some 0⟩)]).2:=
 ⟨A4x B9x rfl,by rw[A9b B9x rfl];exact A3l rfl⟩
theorem B7s{H:AH}{g n most:Nat}{E:List (List (Nat×Int×Int×Int))}{ends:List Int}{sv av ev cv:Value}{vals:List Value}{sigma:List ByteArray}{costs:List Int}(h:PG H g n 60000 E ends sv av ev cv vals sigma costs)(hsg:sigma.length≤1048576)(hm:most≤1000)(hw:Wf H):
  Sh.Call Tryz.prog (knows 7) 101 [.pointer (some ⟨g,0,some 0⟩),.int .i64 (most:Int)] H (fun r H'=>Kept H H'∧∃ob,AliveL H' H.next n r ob (exP E ends) (most+1)):=by
 refine A5a rfl Tryz.func101 rfl (Nat.le_of_ble_eq_true rfl) ?_;have hres:Tryz.f101.results.toList=[.tmp 4]:=rfl;have hn2:=h.n2;have hc2:=h.gr.arr.cell 2;have hlenE:∀H',A3a Tryz.prog .len [71] [ev] H'=some (.int .i64 (n:Int),H'):=fun H'=>by
  rw[h.gr.en.len Tryz.underlying71,List.length_map,h.ln]
 obtain⟨r1,H1,hd1,hk1,g1,rfl,R,base,hbase,hG,hRl,hRr,hRg⟩:=B3h h hsg hw;obtain⟨sv',av',ev',cv',vals',hR⟩:=hG.read;have hPG:PG H1 g1 n 6000000000 R (List.replicate n 0) sv' av' ev' cv' vals' sigma (List.replicate n 0):=⟨hR,hRl,by simp,h.n1,h.n2,fun s r hr=>hRr r (List.mem_of_getElem? hr)⟩
 obtain⟨nw,st⟩:=C9y (H:=H1) (g:=g1);have kn:=Kept.new hk1.wf 1 [.pointer (some ⟨g1,0,some 0⟩)];have obx:=(Sh.Obj.new (H:=H1) 1 [.pointer (some ⟨g1,0,some 0⟩)]).arr;have hbx:(H1.new 1 [.pointer (some ⟨g1,0,some 0⟩)]).2.cell ⟨H1.next,0,some 0⟩=some (.pointer (some ⟨g1,0,some 0⟩)):=obx.cell 0;have hP2:=hPG.kept hk1.wf kn;have hk2:=hk1.trans kn;have hc2':=A2b (hk2.grow hw) hc2;have hn0:=hk1.next;simp only[↓Sh.dn,sx,reduceCtorEq,Nat.reduceEqDiff];refine⟨_,_,hd1,?_⟩;simp only[sx,nw,st,hc2',hlenE];generalize hbxe:H1.next=bx at hbx hn0 ⊢;generalize (H1.new 1 [.pointer (some ⟨g1,0,some 0⟩)]).2=H2 at hP2 hk2 hbx ⊢;have hsp:=C8d hP2 hbx hk2.wf;refine A0d n 19 (List.range' 19 12++[7,8,9]) (fun i F H'=>Kept H2 H'∧∃z,F.get 7=some z∧∃l ob,LB H' H2.next none z l ob∧l.length≤i∧∀t,t∈l↔t<i∧0<ends.getD t 0) (by simp only[sx]) ⟨Kept.refl hk2.wf,_,by simp only[sx,Nat.reduceEqDiff],[],none,⟨.void none,fun y hy=>by cases hy⟩,Nat.le_refl _,fun t=>by simp⟩ ?_ ?_
 ·rintro i F H' hi hF f19 ⟨hk,z,f7,l,ob,hl,hll,hiff⟩ k
  have f17:=hF 17 rfl;have f18:=hF 18 rfl;simp only[sx,Nat.reduceEqDiff]at f17 f18;have hil:i<ends.length:=by rw[h.ln];exact hi
  obtain⟨p,hia,hc⟩:=Sl.elem (s:=1) Tryz.underlying71 A1c (h.gr.en.grow ((hk2.trans hk).grow hw)) (i:=i) (u:=.int .i64 ends[i]) (by rw[List.getElem?_map,List.getElem?_eq_getElem hil];rfl);have hg:ends.getD i 0=ends[i]:=by simp[List.getD,List.getElem?_eq_getElem hil]
  simp only[↓Sh.dn,sx,Nat.reduceEqDiff,f17,f18,f19,A2a,hi,decide_true,hia,hc];by_cases hpos:0<ends[i]
  ·obtain⟨a,cap,w',H4,ob2,rfl,e1,e2,e3,e4,e5⟩:=C7c i hk (fun y hy=>by cases hy) hl (by omega)
   simp only[↓Sh.dn,sx,Nat.reduceEqDiff,hpos,decide_true,f7,f19,e1,e2,A1a hi (Nat.le_trans hn2 (by decide))];refine k _ _ (by repeat (first|refine Same.put ?_ rfl|exact Same.rfl' _)) (by simp only[sx]) ⟨e3,w',by simp only[sx,Nat.reduceEqDiff],l++[i],ob2,e4,by simp;omega,fun t=>?_⟩;rw[List.mem_append,List.mem_singleton,hiff];constructor
   ·rintro(⟨h1,h2⟩|h1)
    ·exact⟨by omega,h2⟩
    ·subst h1;exact⟨by omega,by rw[hg];exact hpos⟩
   ·rintro⟨h1,h2⟩
    by_cases ht:t=i
    ·exact .inr ht
    ·exact .inl ⟨by omega,h2⟩
  ·simp only[↓Sh.dn,sx,Nat.reduceEqDiff,hpos,decide_false,f19,A1a hi (Nat.le_trans hn2 (by decide))]
   refine k _ _ (by repeat (first|refine Same.put ?_ rfl|exact Same.rfl' _)) (by simp only[sx]) ⟨hk,z,by simp only[sx,Nat.reduceEqDiff,f7],l,ob,hl,by omega,fun t=>?_⟩;rw[hiff];constructor
   ·rintro⟨h1,h2⟩;exact⟨by omega,h2⟩
   ·rintro⟨h1,h2⟩
    by_cases ht:t=i
    ·subst ht;rw[hg]at h2;exact absurd h2 hpos
    ·exact⟨by omega,h2⟩
 ·rintro F H3 hF f19 ⟨hk3,z,f7,l,ob,hl,hll,hiff⟩
  have f1:=hF 1 rfl;have f5:=hF 5 rfl;have f6:=hF 6 rfl;have f18:=hF 18 rfl;simp only[sx,Nat.reduceEqDiff]at f1 f5 f6 f18;obtain⟨r4,H4,hd4,hk4,B,o,hB,hBo,hBl,hBi⟩:=hsp H3 hk3 z l hl.bf.toSl (fun t ht=>((hiff t).1 ht).1) (by omega);have hx3:=hk3.next;have hx2:=hk2.next;have hv4:=hB.isCell;have hQ0:∀t:Nat,B[t]?=some true↔exP E ends 0 t:=fun t=>by
   rw[hBi,C42 hRg];have:(fun s=>s∈l)=fun s=>0<ends.getD s 0:=by
    funext s
    apply propext;rw[hiff];constructor
    ·exact fun h=>h.2
    ·intro hs
     refine⟨?_,hs⟩;by_cases hn:s<n
     ·exact hn
     ·have:ends.getD s 0=0:=by rw[List.getD_eq_getElem?_getD,List.getElem?_eq_none (by rw[h.ln];omega)];rfl
      rw[this]at hs;omega
   rw[this];rfl
  have kn4:=Kept.new hk4.wf 1 [r4];have hbs:=B74 (H:=H4) (x:=r4) (by rw[A7a hv4];rfl) (by rw[A7a hv4];simp[hv4]);rw[A7a hv4]at hbs;have hA1:AliveL (H4.new 1 [r4]).2 H2.next n (.slice (some ⟨H4.next,0,some 0⟩) 1 1) (some H4.next) (exP E ends) 1:=by
   have hbuf:Buf (H4.new 1 [r4]).2 1 (.slice (some ⟨H4.next,0,some 0⟩) 1 1) [[r4]] (some H4.next):=Buf.fresh (H:=H4) (s:=1) (xs:=[[r4]]) hk4.wf (by intro x hx;rw[List.mem_singleton.1 hx];rfl) (by simp) 1 rfl;have hx4:=hk4.next;refine⟨fun y hy=>by have:=Option.some.inj hy;omega,[r4],hbuf,rfl,fun j v hj=>?_⟩;have hj0:j=0:=by
    have:=(List.getElem?_eq_some_iff.1 hj).1;simp at this;exact this
   subst hj0;have:r4=v:=by simpa using hj
   subst this;exact⟨B,o,hB.kept hk4.wf kn4,fun y hy=>⟨by have:=hBo y hy;omega,fun hy2=>by have:=hB.lt hk4.wf y hy;have:=Option.some.inj hy2;omega⟩,hBl,hQ0⟩
  have hk14:=hk3.trans (hk4.trans kn4);simp only[↓Sh.dn,sx,Nat.reduceEqDiff,f6,f7,f18,f19,A2a,Nat.lt_irrefl,decide_false];refine⟨_,_,hd4,?_⟩;simp only[sx,hbs,f1];generalize (Value.slice (some ⟨H4.next,0,some 0⟩) 1 1)=z1 at hA1 ⊢;generalize (H4.new 1 [r4]).2=H5 at hA1 hk14 ⊢;refine A0d most 36 (List.range' 36 15++[10]) (fun i F H'=>Kept H2 H'∧∃z,F.get 10=some z∧∃ob,AliveL H' H2.next n z ob (exP E ends) (i+1)) (by simp only[sx]) ⟨hk14,_,by simp only[sx,Nat.reduceEqDiff],_,hA1⟩ ?_ ?_
  ·rintro i F' H' hi hF' f36 ⟨hk,z',f10,ob',hA⟩ k
   have g5:=hF' 5 rfl;have g6:=hF' 6 rfl;have g35:=hF' 35 rfl;simp only[sx,Nat.reduceEqDiff,f5,f6]at g5 g6 g35;have hlA:=hA.len;obtain⟨p,v,i1,i2,X,hX,hXl,hXi⟩:=hA.at (j:=i) (Nat.lt_succ_self i);have wl:IntKind.wrap .i64 (((i+1:Nat):Int)-1)=(i:Int):=by rw[wrap64 (by omega) (by omega)];omega
   have cb:=A2b (hk.grow hk2.wf) hbx;obtain⟨r6,H6,hd6,hk6,B6,o6,hB6,hB6o,hB6l,hB6i⟩:=B94 (caps:=[.pointer (some ⟨bx,0,some 0⟩)]) (fid:=121) (hP2.kept hk2.wf hk) hX hXl hk.wf (fun H'' hk''=>hsp H'' (hk.trans hk''));have hA6:=hA.kept hk.wf hk6;have hx6:=hk.next;have hx7:=hk6.next;obtain⟨a,cap,w',H7,ob7,rfl,e1,e2,hA7,hc7⟩:=hA6.push hk6.wf (by omega) hB6 (fun y hy=>⟨by have:=hB6o y hy;omega,fun hy2=>by
    obtain⟨h0,vals0,h1,h2,h3⟩:=hA;have:=h1.lt hk.wf y hy2;have:=hB6o y hy;omega⟩) hB6l (fun t=>by rw[hB6i,C0i hRg hXi]) (by omega)
   simp only[↓Sh.dn,sx,f36,g35,A2a,hi,decide_true];refine(A7c (by kernel_rfl)).2 ?_;simp only[↓Sh.dn,sx,Nat.reduceEqDiff,f10,g5,g6,hlA,wl,i1,i2,cb];refine⟨_,_,by first|exact hd6|simpa using hd6,?_⟩;have wi:IntKind.wrap .i64 ((i:Int)+1)=((i+1:Nat):Int):=A1a hi (by omega);simp only[sx,f36,e1,e2,wi];have h0:=hA6.1;exact k _ _ (by repeat (first|refine Same.put ?_ rfl|exact Same.rfl' _)) (by simp only[sx]) ⟨(hk.trans hk6).then (Nat.le_refl _) (hc7.weak h0),w',by simp only[sx,Nat.reduceEqDiff],ob7,hA7⟩
  ·rintro F' H' hF' f36 ⟨hk,z',f10,ob',hA⟩
   have g35:=hF' 35 rfl;simp only[sx,Nat.reduceEqDiff]at g35;simp only[↓Sh.dn,sx,Nat.reduceEqDiff,f10,g35,f36,A2a,Nat.lt_irrefl,decide_false,hres];exact⟨hk2.trans hk,ob',hA.low hk2.next⟩
theorem B52{H:AH}{v:Value}{l:List Nat}{fid:Nat}{caps:List Value}(p:Nat→Bool)(hs:Sl H v 1 (l.map natC))(hl:l.length≤1048576)(hw:Wf H)
  (hp:∀H',Kept H H'→∀x∈l,Sh.Call Tryz.prog (knows 7) fid ((fun n=>Value.int .i64 (n:Int)) x :: caps) H' (fun r H''=>Kept H' H''∧r=.bool (p x))):
  Sh.Call Tryz.prog (knows 7) 123 [v,.func (.func fid) #[] caps.toArray] H (fun r H'=>Kept H H'∧∃k:Int,r=.int .i64 k∧decide (0≤k)=l.any p):=by
 refine A5a rfl Tryz.func123 rfl (Nat.le_of_ble_eq_true rfl) ?_;have hres:Tryz.f123.results.toList=[.tmp 4]:=rfl;have hlen:=hs.len Tryz.underlying146 H;simp only[↓Sh.dn,sx,reduceCtorEq,hlen,List.length_map];refine A0d l.length 8 [5,8,9,10,11,12,13,14,15,16,18] (fun i F H'=>Kept H H'∧(l.take i).any p=false) (by simp only[sx]) ⟨Kept.refl hw,rfl⟩ ?_ ?_
 ·rintro i F H' hlt hF f8 ⟨hk,hall⟩ k
  have hs1:=hs.grow (hk.grow hw);obtain⟨g,o,kk,hia,hc,hcc⟩:=hs1.at Tryz.underlying146 A1c (i:=i) (x:=natC l[i]) (by simp[hlt]) .i64;have hld:=hcc 0 _ rfl;simp only[Nat.add_zero]at hld;have f0:=hF 0 rfl;have f1:=hF 1 rfl;have f7:=hF 7 rfl;simp only[sx,reduceCtorEq,Nat.reduceEqDiff]at f0 f1 f7;obtain⟨r,H2,hd,hk2,rfl⟩:=hp H' hk l[i] (List.getElem_mem hlt);simp only[↓Sh.dn,sx,reduceCtorEq,Nat.reduceEqDiff,f0,f1,f7,f8,A2a,hlt,decide_true,hia,hld,reduceCtorEq];refine⟨_,_,hd,?_⟩;cases hpv:p l[i] with
  | true=>
   simp only[↓Sh.dn,sx,Nat.reduceEqDiff,hres];refine⟨hk.trans hk2,_,rfl,?_⟩;rw[List.any_eq_true.2 ⟨_,List.getElem_mem hlt,hpv⟩];simp
  | false=>
   simp only[↓Sh.dn,sx,Nat.reduceEqDiff,hres,f8,wrap_succ hlt hl];refine k _ _ (by repeat (first|refine Same.put ?_ rfl|exact Same.rfl' _)) (by simp only[sx]) ⟨hk.trans hk2,?_⟩;rw[List.take_add_one,List.getElem?_eq_getElem hlt];simp only[Option.toList,List.any_append,hall,List.any_cons,List.any_nil,hpv,Bool.or_false]
 ·rintro F H' hF f8 ⟨hk,hall⟩
  have f7:=hF 7 rfl;simp only[sx,Nat.reduceEqDiff]at f7;rw[List.take_length]at hall;simp only[↓Sh.dn,sx,f7,f8,A2a,Nat.lt_irrefl,decide_false,hres];exact⟨hk,_,rfl,by rw[hall];rfl⟩
theorem B0h{H:AH}{v:Value}{l:List Nat}{fid:Nat}{caps:List Value}(p:Nat→Bool)(hs:Sl H v 1 (l.map natC))(hl:l.length≤1048576)(hw:Wf H)
  (hp:∀H',Kept H H'→∀x∈l,Sh.Call Tryz.prog (knows 7) fid ((fun n=>Value.int .i64 (n:Int)) x :: caps) H' (fun r H''=>Kept H' H''∧r=.bool (p x))):
  Sh.Call Tryz.prog (knows 7) 103 [v,.func (.func fid) #[] caps.toArray] H (fun r H'=>Kept H H'∧r=.bool (l.any p)):=by
 refine A5a rfl Tryz.func103 rfl (Nat.le_of_ble_eq_true rfl) ?_;have hres:Tryz.f103.results.toList=[.tmp 4]:=rfl;obtain⟨r,H2,hd,hk,k,rfl,hk0⟩:=B52 p hs hl hw hp;simp only[↓Sh.dn,sx,reduceCtorEq,Nat.reduceEqDiff];refine⟨_,_,hd,?_⟩;simp only[sx,hres,hk0];exact hk
theorem C9t{H:AH}{g n:Nat}{E:List (List (Nat×Int×Int×Int))}{ends:List Int}{sv av ev cv:Value}{vals:List Value}{sigma:List ByteArray}{costs:List Int}(h:PG H g n 60000 E ends sv av ev cv vals sigma costs)(hw:Wf H):
  Sh.Call Tryz.prog (knows 7) 107 [.pointer (some ⟨g,0,some 0⟩)] H (fun r H'=>SetOut H H' r n (Clo (A1e E fun k=>k<0) fun s=>s=0)):=by
 refine A5a rfl Tryz.func107 rfl (Nat.le_of_ble_eq_true rfl) ?_;have hres:Tryz.f107.results.toList=[.tmp 2]:=rfl;have hbs:=A3o (H:=H) (x:=.int .i64 0) rfl rfl;have k2:=Kept.new hw 1 [.int .i64 0];have hS:Sl (H.new 1 [.int .i64 0]).2 (.slice (some ⟨H.next,0,some 0⟩) 1 1) 1 (([0]:List Nat).map natC):=
  (Buf.fresh (H:=H) (s:=1) (xs:=[natC 0]) hw (by intro x hx;rw[List.mem_singleton.1 hx];rfl) (by simp) 1 rfl).toSl
 obtain⟨r,H3,hd3,ho⟩:=B6l (h.kept hw k2) hS (fun t ht=>by rw[List.mem_singleton.1 ht];exact h.n1) (by decide) k2.wf;simp only[↓Sh.dn,sx,reduceCtorEq,Nat.reduceEqDiff,hbs,A6a];refine⟨_,_,hd3,?_⟩;simp only[sx,hres];exact(ho.pre k2).iff fun t=>by simp only[List.mem_singleton]
end Go.Proofs.YtjjgodccecehlaaGreat
