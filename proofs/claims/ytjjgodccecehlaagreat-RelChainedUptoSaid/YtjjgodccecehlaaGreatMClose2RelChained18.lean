/- A part of the proof: GraphTrim, GraphTrim2. -/
import Derived.Test.YtjjgodccecehlaaGreatMClose2RelChained16
import Derived.Test.YtjjgodccecehlaaGreatMClose2RelChained8
import Derived.Test.YtjjgodccecehlaaGreatMClose2RelChained17
set_option linter.unusedVariables false
set_option linter.unusedSimpArgs false
/- (*graph.Graph).Useful, Trim. -/
set_option maxHeartbeats 4000000
set_option maxRecDepth 20000
namespace Go.Proofs.YtjjgodccecehlaaGreat
open Go Go.Proofs Go.Proofs.Sh
def A55(E:List (List (Nat×Int×Int×Int)))(ends:List Int)(t:Nat):Prop:=Clo (A1e E fun _=>True) (fun s=>s=0) t∧Clo (fun s t=>A1e E (fun _=>True) t s) (fun s=>0<ends.getD s 0) t
theorem C1f{H:AH}{g n:Nat}{E:List (List (Nat×Int×Int×Int))}{ends:List Int}{sv av ev cv:Value}{vals:List Value}{sigma:List ByteArray}{costs:List Int}(h:PG H g n 60000 E ends sv av ev cv vals sigma costs)(hsg:sigma.length≤1048576)(hw:Wf H):
  Sh.Call Tryz.prog (knows 7) 100 [.pointer (some ⟨g,0,some 0⟩)] H (fun r H'=>Kept H H'∧∃U:List Bool,∃o,Buf H' 1 r (U.map A0z) o∧(∀y,o=some y→H.next≤y)∧U.length=n∧∀t:Nat,U[t]?=some true↔A55 E ends t):=by
 refine A5a rfl Tryz.func100 rfl (Nat.le_of_ble_eq_true rfl) ?_;have hres:Tryz.f100.results.toList=[.tmp 2]:=rfl;have hn1:=h.n1;have hn2:=h.n2;have hbs:=A3o (H:=H) (x:=.int .i64 0) rfl rfl;have k1:=Kept.new hw 1 [.int .i64 0];have hS:Sl (H.new 1 [.int .i64 0]).2 (.slice (some ⟨H.next,0,some 0⟩) 1 1) 1 (([0]:List Nat).map natC):=
  (Buf.fresh (H:=H) (s:=1) (xs:=[natC 0]) hw (by intro x hx;rw[List.mem_singleton.1 hx];rfl) (by simp) 1 rfl).toSl
 obtain⟨r1,H2,hd2,hk2,B1,o1,hb1,ho1,hl1,hi1⟩:=A52 (caps:=[]) (fid:=119) (fun _=>true) (h.kept hw k1) (by decide) hS (fun t ht=>by rw[List.mem_singleton.1 ht];exact hn1) (by decide) k1.wf (fun H' hk e=>B5n hk.wf);have hk12:=k1.trans hk2;obtain⟨r2,H3,hd3,hk3,B2,o2,hb2,ho2,hl2,hi2⟩:=B1v (h.kept hw hk12) hsg hk2.wf;have hb13:=hb1.kept hk2.wf hk3;have hsep:∀y,o1=some y→o2≠some y:=fun y h1 h2=>by have:=hb1.lt hk2.wf y h1;have:=ho2 y h2;omega
 simp only[↓Sh.dn,sx,reduceCtorEq,Nat.reduceEqDiff,hbs,A6a];refine⟨_,_,hd2,?_⟩;refine⟨_,_,hd3,?_⟩;have hlen:=hb13.toSl.len Tryz.underlying58 H3;rw[List.length_map,hl1]at hlen;have k0:=hk12.trans hk3;simp only[sx,hlen];refine A0d n 13 (List.range' 13 17++[5]) (fun i F H'=>Chg (fun y=>o1=some y) H3 H'∧∃C:List Bool,Buf H' 1 r1 (C.map A0z) o1∧C.length=n∧∀t:Nat,C[t]?=some true↔B1[t]?=some true∧(t<i→B2[t]?=some true)) (by simp only[sx]) ⟨Chg.refl hk3.wf,B1,hb13,hl1,fun t=>by simp⟩ ?_ ?_
 ·rintro i F H' hi hF f13 ⟨hc,C,hC,hCl,hCi⟩ k
  have f3:=hF 3 rfl;have f4:=hF 4 rfl;have f12:=hF 12 rfl;simp only[sx,Nat.reduceEqDiff]at f3 f4 f12;obtain⟨c,hcx⟩:∃c,C[i]?=some c:=⟨C[i]'(by rw[hCl];exact hi),List.getElem?_eq_getElem _⟩
  obtain⟨b,hbx⟩:∃b,B2[i]?=some b:=⟨B2[i]'(by rw[hl2];exact hi),List.getElem?_eq_getElem _⟩
  obtain⟨p,e1,e2,e3⟩:=hC.spot Tryz.underlying58 A5r hc.wf (i:=i) (u:=.bool c) (by rw[List.getElem?_map,hcx];rfl);obtain⟨q,e4,e5⟩:=Sl.elem (s:=1) Tryz.underlying58 A5r (hb2.chg hk3.wf hc fun y hy h1=>hsep y h1 hy).toSl (i:=i) (u:=.bool b) (by rw[List.getElem?_map,hbx];rfl);obtain⟨H4,w1,w2,w3,w4⟩:=e3 (.bool (c&&b));have st:A7d Tryz.prog 4 H' (.bool (c&&b)) (.pointer (some p))=some H4:=by rw[A9b A5r rfl];exact w1
  have hnew:∀t:Nat,(C.set i (c&&b))[t]?=some true↔B1[t]?=some true∧(t<i+1→B2[t]?=some true):=by
   intro t;rw[List.getElem?_set,hCl,if_pos hi];by_cases ht:i=t
   ·subst ht
    rw[if_pos rfl];have:=hCi i;rw[hcx]at this;simp only[Option.some.injEq,Nat.lt_irrefl,false_implies,and_true]at this;rw[hbx,←this];simp
   ·rw[if_neg ht,hCi t]
    constructor
    ·rintro⟨h1,h2⟩;exact⟨h1,fun h3=>h2 (by omega)⟩
    ·rintro⟨h1,h2⟩;exact⟨h1,fun h3=>h2 (by omega)⟩
  cases c with
  | true=>
   simp only[Bool.true_and]at st hnew w2;simp only[↓Sh.dn,sx,Nat.reduceEqDiff,f3,f4,f12,f13,A2a,hi,decide_true,e1,e2,e4,e5,st,A1a hi (Nat.le_trans hn2 (by decide))];exact k _ _ (by repeat (first|refine Same.put ?_ rfl|exact Same.rfl' _)) (by simp only[sx]) ⟨hc.trans w3,C.set i b,by rw[List.map_set];exact w2,by simp[hCl],hnew⟩
  | false=>
   simp only[Bool.false_and]at st hnew w2;simp only[↓Sh.dn,sx,Nat.reduceEqDiff,f3,f12,f13,A2a,hi,decide_true,e1,e2,st,A1a hi (Nat.le_trans hn2 (by decide))];exact k _ _ (by repeat (first|refine Same.put ?_ rfl|exact Same.rfl' _)) (by simp only[sx]) ⟨hc.trans w3,C.set i false,by rw[List.map_set];exact w2,by simp[hCl],hnew⟩
 ·rintro F H' hF f13 ⟨hc,C,hC,hCl,hCi⟩
  have f3:=hF 3 rfl;have f12:=hF 12 rfl;simp only[sx,Nat.reduceEqDiff]at f3 f12;simp only[↓Sh.dn,sx,Nat.reduceEqDiff,f3,f12,f13,A2a,Nat.lt_irrefl,decide_false,hres];have hfr:∀y,o1=some y→H.next≤y:=fun y hy=>Nat.le_trans k1.next (ho1 y hy);refine⟨k0.then (Nat.le_refl _) (hc.weak hfr),C,o1,hC,hfr,hCl,fun t=>?_⟩;rw[hCi];unfold A55;have e1:fitP E (fun _=>true)=A1e E fun _=>True:=by
   funext s t
   apply propext;unfold fitP A1e;simp
  have e2:(fun s=>s∈[0])=fun s=>s=0:=by funext s;simp
  rw[hi1,e1,e2,←hi2];constructor
  ·rintro⟨h1,h2⟩
   refine⟨h1,h2 ?_⟩;have:=(hi1 t).2 (by rw[e1,e2];exact h1);rw[←hl1];exact(List.getElem?_eq_some_iff.1 this).1
  ·rintro⟨h1,h2⟩;exact⟨h1,fun _=>h2⟩
def A5i(U:List Bool)(r:List (Nat×Int×Int×Int)):List (Nat×Int×Int×Int):=(r.filter fun e=>decide (U[e.1]?=some true)).map fun e=>(numU U e.1,e.2)
structure TrimI(E:List (List (Nat×Int×Int×Int)))(ends:List Int)(U:List Bool)(m i:Nat)(R:List (List (Nat×Int×Int×Int)))(es:List Int):Prop where
 lr:R.length=m
 le:es.length=m
 row:∀s r,s<i→U[s]?=some true→E[s]?=some r→R[numU U s]?=some (A5i U r)
 non:∀a,a<m→(∀s,s<i→U[s]?=some true→numU U s≠a)→R[a]?=some []
 fin:∀s,s<i→U[s]?=some true→es.getD (numU U s) 0=ends.getD s 0
 nof:∀a,(∀s,s<i→U[s]?=some true→numU U s≠a)→es.getD a 0=0
 sum:(R.map List.length).sum≤((E.take i).map List.length).sum
theorem B6g{α:Type}(r0:List α):∀{L:List (List α)} {i:Nat},L[i]?=some []→((L.set i r0).map List.length).sum=(L.map List.length).sum+r0.length
 | [],_,h=>by simp at h
 | q :: L,0,h=>by
  have:=Option.some.inj h;subst this;simp;omega
 | q :: L,i+1,h=>by
  have ih:=B6g r0 (L:=L) (i:=i) (by simpa using h);simp only[List.set_cons_succ,List.map_cons,List.sum_cons,ih];omega
theorem B2k{α:Type}:∀(L:List (List α)) (i:Nat),((L.take i).map List.length).sum≤((L.take (i+1)).map List.length).sum
 | [],_=>by simp
 | q :: L,0=>by simp
 | q :: L,i+1=>by
  have:=B2k L i;simp only[List.take_succ_cons,List.map_cons,List.sum_cons];omega
theorem C4u(U:List Bool)(r:List (Nat×Int×Int×Int)):(A5i U r).length≤r.length:=by
 unfold A5i;rw[List.length_map];exact List.length_filter_le _ _
theorem TrimI.none(E:List (List (Nat×Int×Int×Int)))(ends:List Int)(U:List Bool)(m:Nat):TrimI E ends U m 0 (List.replicate m []) (List.replicate m 0):=
 ⟨by simp,by simp,fun s r hs=>absurd hs (Nat.not_lt_zero s),fun a ha _=>by rw[List.getElem?_replicate,if_pos ha],fun s hs=>absurd hs (Nat.not_lt_zero s),fun a _=>by
  rw[List.getD_eq_getElem?_getD,List.getElem?_replicate];split<;>rfl,by simp⟩
section
variable {E:List (List (Nat×Int×Int×Int))} {ends:List Int} {U:List Bool} {m i:Nat} {R:List (List (Nat×Int×Int×Int))} {es:List Int}
theorem TrimI.skip(h:TrimI E ends U m i R es)(hi:U[i]?≠some true):TrimI E ends U m (i+1) R es:=by
 have key:∀s,s<i+1→U[s]?=some true→s<i:=fun s hs hu=>by
  rcases Nat.lt_or_ge s i with h1|h1
  ·exact h1
  ·have:s=i:=by omega
   subst this;exact absurd hu hi
 exact⟨h.lr,h.le,fun s r hs hu=>h.row s r (key s hs hu) hu,fun a ha hn=>h.non a ha fun s hs=>hn s (by omega),fun s hs hu=>h.fin s (key s hs hu) hu,fun a hn=>h.nof a fun s hs=>hn s (by omega),Nat.le_trans h.sum (B2k E i)⟩
theorem TrimI.add(h:TrimI E ends U m i R es)(hi:U[i]?=some true)(hm:numU U i<m){r:List (Nat×Int×Int×Int)}(hr:E[i]?=some r){x:Int}(hx:ends.getD i 0=x):TrimI E ends U m (i+1) (R.set (numU U i) (A5i U r)) (es.set (numU U i) x):=by
 have hne:∀s,s<i→U[s]?=some true→numU U i≠numU U s:=fun s hs hu he=>by have:=B1f (.inl hi) (.inl hu) he;omega
 refine⟨by simp[h.lr],by simp[h.le],fun s r' hs hu hr'=>?_,fun a ha hn=>?_,fun s hs hu=>?_,fun a hn=>?_,?_⟩
 ·rw[List.getElem?_set,h.lr]
  by_cases hsi:s=i
  ·subst hsi
   rw[hr]at hr';rw[if_pos rfl,if_pos hm,Option.some.inj hr']
  ·rw[if_neg (hne s (by omega) hu)]
   exact h.row s r' (by omega) hu hr'
 ·rw[List.getElem?_set,if_neg (hn i (by omega) hi)]
  exact h.non a ha fun s hs=>hn s (by omega)
 ·rw[List.getD_eq_getElem?_getD,List.getElem?_set,h.le]
  by_cases hsi:s=i
  ·subst hsi
   rw[if_pos rfl,if_pos hm,hx];rfl
  ·rw[if_neg (hne s (by omega) hu),←List.getD_eq_getElem?_getD]
   exact h.fin s (by omega) hu
 ·rw[List.getD_eq_getElem?_getD,List.getElem?_set,if_neg (hn i (by omega) hi),←List.getD_eq_getElem?_getD]
  exact h.nof a fun s hs=>hn s (by omega)
 ·have hnil:R[numU U i]?=some []:=h.non _ hm fun s hs hu he=>hne s hs hu he.symm
  have ht:E.take (i+1)=E.take i++[r]:=by rw[List.take_add_one,hr];rfl
  have h1:=h.sum;have h2:=C4u U r;rw[B6g _ hnil,ht,List.map_append,List.sum_append];simp only[List.map_cons,List.map_nil,List.sum_cons,List.sum_nil];omega
theorem TrimI.of{n:Nat}(h:TrimI E ends U (1+A0j U n) n R es)(hE:E.length=n)(hU:U.length=n)(hto:∀(s:Nat) r,E[s]?=some r→∀e∈r,e.1<n)(hu:∀t:Nat,U[t]?=some true↔A55 E ends t):
  TrimOf (fun x s t=>A1e E (fun k=>k=x) s t) (fun x s t=>A1e R (fun k=>k=x) s t) (fun s=>U[s]?=some true) (numU U) (fun s=>0<ends.getD s 0) (fun s=>0<es.getD s 0):=by
 have hlt:∀s,U[s]?=some true→s<n:=fun s hs=>by rw[←hU];exact(List.getElem?_eq_some_iff.1 hs).1
 refine⟨fun x a b=>?_,fun a=>?_,B3g U,fun s t hs ht he=>B1f hs ht he,fun s=>?_⟩
 ·constructor
  ·rintro⟨r',h1,e',h2,h3,h4⟩
   by_cases hex:∃s,U[s]?=some true∧numU U s=a
   ·obtain⟨s,hs,rfl⟩:=hex
    have hsn:=hlt s hs;have hr:E[s]?=some (E[s]'(by rw[hE];exact hsn)):=List.getElem?_eq_getElem _;generalize E[s]'(by rw[hE];exact hsn)=r at hr;rw[h.row s r hsn hs hr]at h1;rw[←Option.some.inj h1]at h2;obtain⟨e,h5,h6⟩:=List.mem_map.1 h2;obtain⟨h7,h8⟩:=List.mem_filter.1 h5;subst h6;exact⟨s,e.1,hs,of_decide_eq_true h8,rfl,h3.symm,r,hr,e,h7,rfl,h4⟩
   ·have ha:a<1+A0j U n:=by rw[←h.lr];exact(List.getElem?_eq_some_iff.1 h1).1
    rw[h.non a ha fun s _ hs he=>hex ⟨s,hs,he⟩]at h1;rw[←Option.some.inj h1]at h2;cases h2
  ·rintro⟨s,t,hs,ht,rfl,rfl,r,h1,e,h2,h3,h4⟩
   refine⟨_,h.row s r (hlt s hs) hs h1,(numU U e.1,e.2),List.mem_map.2 ⟨e,List.mem_filter.2 ⟨h2,decide_eq_true (by rw[h3];exact ht)⟩,rfl⟩,by rw[h3],h4⟩
 ·constructor
  ·intro ha
   by_cases hex:∃s,U[s]?=some true∧numU U s=a
   ·obtain⟨s,hs,rfl⟩:=hex
    exact⟨s,hs,rfl,by rw[←h.fin s (hlt s hs) hs];exact ha⟩
   ·rw[h.nof a fun s _ hs he=>hex ⟨s,hs,he⟩]at ha
    exact absurd ha (Int.lt_irrefl 0)
  ·rintro⟨s,hs,rfl,h1⟩
   rw[h.fin s (hlt s hs) hs];exact h1
 ·rw[hu]
  unfold A55;have e1:(A1e E fun _=>True)=fun s t=>∃x,A1e E (fun k=>k=x) s t:=by
   funext s t
   apply propext;unfold A1e;constructor
   ·rintro⟨r,h1,e,h2,h3,_⟩;exact⟨_,r,h1,e,h2,h3,rfl⟩
   ·rintro⟨x,r,h1,e,h2,h3,_⟩;exact⟨r,h1,e,h2,h3,trivial⟩
  rw[e1]
end
theorem C0t{H:AH}{g n:Nat}{E:List (List (Nat×Int×Int×Int))}{ends:List Int}{sv av ev cv:Value}{vals:List Value}{sigma:List ByteArray}{costs:List Int}(h:PG H g n 60000 E ends sv av ev cv vals sigma costs)(hsg:sigma.length≤1048576)(hcl:costs.length=n)(hw:Wf H):
  Sh.Call Tryz.prog (knows 7) 81 [.pointer (some ⟨g,0,some 0⟩)] H (fun r H'=>Kept H H'∧∃g',r=.pointer (some ⟨g',0,some 0⟩)∧∃U R es cs,∃X:Nat→Prop,(∀y,X y→H.next≤y)∧GrX H' X g' sigma (A8b R) es cs∧cs.length=1+A0j U n∧((∀c∈costs,c=0)→∀c∈cs,c=0)∧U.length=n∧(∀t:Nat,U[t]?=some true↔A55 E ends t)∧TrimI E ends U (1+A0j U n) n R es∧1+A0j U n≤n):=by
 refine A5a rfl Tryz.func81 rfl (Nat.le_of_ble_eq_true rfl) ?_;have hres:Tryz.f81.results.toList=[.tmp 2]:=rfl;have hn1:=h.n1;have hn2:=h.n2;have hc0:=h.gr.arr.cell 0;have hc1:=h.gr.arr.cell 1;have hc2:=h.gr.arr.cell 2;have hc3:=h.gr.arr.cell 3;have hlenA:∀H',A3a Tryz.prog .len [101] [av] H'=some (.int .i64 (n:Int),H'):=fun H'=>by
  rw[h.gr.jag.sl.len Tryz.underlying101,List.length_map,h.gr.jag.len];unfold A8b;rw[List.length_map,h.le]
 obtain⟨r1,H2,hd2,hk2,U,o1,hU,ho1,hUl,hUi⟩:=C1f h hsg hw;have hc1a:=A2b (hk2.grow hw) hc1;have hmk:=mk_71 (H:=H2) (l:=n) (c:=n) (Nat.le_refl _) (by omega);have k3:=Kept.new hk2.wf 1 (List.replicate n (.int .i64 0));have f3:=Buf.fill hk2.wf (.int .i64 0) (c:=n) (by omega);rw[if_neg (by omega)]at f3;have hU3:=hU.kept hk2.wf k3;have hrep:List.replicate n [Value.int .i64 0]=(numL U n 1).map natC:=by rw[numL_one,List.map_replicate];rfl
 rw[hrep]at f3;simp only[↓Sh.dn,sx,reduceCtorEq];refine⟨_,_,hd2,?_⟩;simp only[sx,hc1a,hlenA,hmk];obtain⟨on,hon⟩:∃on,some H2.next=on:=⟨_,rfl⟩
 have hon1:∀y,on=some y→y=H2.next:=fun y hy=>by rw[←hon]at hy;exact(Option.some.inj hy).symm
 have hx3:H2.next<(H2.new 1 (List.replicate n (.int .i64 0))).2.next:=Nat.lt_succ_self _;rw[hon]at f3;have hk3:=hk2.trans k3;have hlenN:=f3.toSl.len Tryz.underlying71 (H2.new 1 (List.replicate n (.int .i64 0))).2;generalize (Value.slice (some ⟨H2.next,0,some 0⟩) n n)=nv at f3 hlenN ⊢;generalize (H2.new 1 (List.replicate n (.int .i64 0))).2=H3 at f3 hU3 hk3 k3 hx3 ⊢;have hUs:∀y,on=some y→o1≠some y:=fun y h1 h2=>by have:=hU.lt hk2.wf y h2;have:=hon1 y h1;omega
 have hlenN:∀{H'} i,Buf H' 1 nv ((numL U n i).map natC) on→∀H'',A3a Tryz.prog .len [71] [nv] H''=some (.int .i64 (n:Int),H''):=fun i hb H''=>by
  rw[hb.toSl.len Tryz.underlying71];simp[numL]
 have ik:∀{H':AH},Chg (fun y=>on=some y) H3 H'→Kept H H':=fun hc=>hk3.then (Nat.le_refl _) (hc.weak fun y hy=>by have:=hon1 y hy;have:=hk2.next;omega);refine wp_from n 6 1 (List.range' 20 16++[5,6]) (fun i F H'=>Chg (fun y=>on=some y) H3 H'∧F.get 5=some (.int .i64 ((1+A0j U i:Nat):Int))∧Buf H' 1 nv ((numL U n i).map natC) on) hn1 (by simp only[sx];rfl) ⟨Chg.refl hk3.wf,by simp only[sx,Nat.reduceEqDiff];rfl,f3⟩ ?_ ?_
 ·rintro i F H' hi1 hi hF f6 ⟨hc,f5,hN⟩ k
  have f3':=hF 3 rfl;have f4:=hF 4 rfl;simp only[sx,Nat.reduceEqDiff]at f3' f4;have hl:=hlenN i hN;obtain⟨b,hbx⟩:∃b,U[i]?=some b:=⟨U[i]'(by rw[hUl];exact hi),List.getElem?_eq_getElem _⟩
  obtain⟨q,e4,e5⟩:=Sl.elem (s:=1) Tryz.underlying58 A5r (hU3.chg hk3.wf hc fun y hy h1=>hUs y h1 hy).toSl (i:=i) (u:=.bool b) (by rw[List.getElem?_map,hbx];rfl);have hrl:=C2o U i;simp only[↓Sh.dn,sx,Nat.reduceEqDiff,f3',f4,f6,hl,A2a,hi,decide_true,e4,e5];cases b with
  | true=>
   have hnu:numU U i=1+A0j U i:=by unfold numU;rw[if_pos ⟨hi1,hbx⟩]
   have hrk:A0j U (i+1)=A0j U i+1:=by rw[A0j,if_pos ⟨hi1,hbx⟩]
   obtain⟨p,e1,e2,e3⟩:=hN.spot Tryz.underlying71 A1c hc.wf (i:=i) (u:=.int .i64 ((0:Nat):Int)) (by rw[List.getElem?_map,A87 hi,if_neg (Nat.lt_irrefl i)];rfl);obtain⟨H4,w1,w2,w3,w4⟩:=e3 (.int .i64 ((1+A0j U i:Nat):Int));have st:A7d Tryz.prog 3 H' (.int .i64 ((1+A0j U i:Nat):Int)) (.pointer (some p))=some H4:=by rw[A9b A1c rfl];exact w1
   have wr:IntKind.wrap .i64 (((1+A0j U i:Nat):Int)+1)=((1+A0j U (i+1):Nat):Int):=by rw[wrap64 (by omega) (by omega)];omega
   simp only[↓Sh.dn,sx,Nat.reduceEqDiff,f4,f5,f6,e1,st,wr,A1a hi (Nat.le_trans hn2 (by decide))];refine k _ _ (by repeat (first|refine Same.put ?_ rfl|exact Same.rfl' _)) (by simp only[sx]) ⟨hc.trans w3,by simp only[sx,Nat.reduceEqDiff],?_⟩;have:(numL U n (i+1)).map natC=((numL U n i).map natC).set i [.int .i64 ((1+A0j U i:Nat):Int)]:=by rw[numL_set,List.map_set,hnu];rfl
   rw[this];exact w2
  | false=>
   have hnu:numU U i=0:=by unfold numU;rw[if_neg (by rw[hbx];simp)]
   have hrk:A0j U (i+1)=A0j U i:=by rw[A0j,if_neg (by rw[hbx];simp)];omega
   simp only[↓Sh.dn,sx,Nat.reduceEqDiff,f6,A1a hi (Nat.le_trans hn2 (by decide))];exact k _ _ (by repeat (first|refine Same.put ?_ rfl|exact Same.rfl' _)) (by simp only[sx]) ⟨hc,by simp only[sx,Nat.reduceEqDiff,f5,hrk],by rw[D3c hnu];exact hN⟩
 ·rintro F H4 hF f6 ⟨hc4,f5,hN⟩
  have f0:=hF 0 rfl;have f3':=hF 3 rfl;have f4:=hF 4 rfl;simp only[sx,reduceCtorEq,Nat.reduceEqDiff]at f0 f3' f4;have hl:=hlenN n hN;have hk4:=ik hc4;have hU4:=hU3.chg hk3.wf hc4 fun y hy h1=>hUs y h1 hy;have hrl:=C2o U n;have hm:1+A0j U n≤n:=by
   have:∀m,1+A0j U (m+1)≤m+1:=fun m=>by
    induction m with
    | zero=>simp[A0j]
    | succ m ih=>rw[A0j];split<;>omega
   have h1:=this (n-1);rw[show n-1+1=n by omega]at h1;exact h1
  obtain⟨M,hM⟩:∃M,1+A0j U n=M:=⟨_,rfl⟩
  rw[hM]at f5 hm;obtain⟨r5,H5,hd5,hk5,g1,rfl,hG1⟩:=A42 (n:=M) ((h.kept hw hk4).gr.sg) hsg (by omega) hk4.wf;have q0:=A2b (hk4.grow hw) hc0;have hk05:=hk4.trans hk5;have q1:=A2b (hk05.grow hw) hc1;have hGX:GrX H5 (fun y=>H4.next≤y) g1 sigma (A8b (List.replicate M [])) (List.replicate M 0) (List.replicate M 0):=by
   have:=(hG1.own hk5.wf).mono (Z:=fun y=>H4.next≤y) fun y hy=>hy.1
   simpa [A8b] using this
  have hU5:=hU4.kept hc4.wf hk5;have hN5:=hN.kept hc4.wf hk5;have hUb:=hU4.lt hc4.wf;have hNb:=hN.lt hc4.wf;have hb4:=hk4.next;simp only[↓Sh.dn,sx,reduceCtorEq,Nat.reduceEqDiff,f0,f4,f5,f6,hl,A2a,Nat.lt_irrefl,decide_false,q0];refine⟨_,_,hd5,?_⟩;simp only[sx,q1,hlenA];refine A0d n 47 (List.range' 47 72++[8,9,11]) (fun i F H'=>Chg (fun y=>H4.next≤y) H5 H'∧∃R es cs,GrX H' (fun y=>H4.next≤y) g1 sigma (A8b R) es cs∧cs.length=M∧TrimI E ends U M i R es∧((∀c∈costs,c=0)→∀c∈cs,c=0)) (by simp only[sx]) ⟨Chg.refl hk5.wf,_,_,_,hGX,by simp,TrimI.none E ends U M,fun _ c hc=>(List.mem_replicate.1 hc).2⟩ ?_ ?_
  ·rintro i F' H' hi hF' f47 ⟨hc,R,es,cs,hG,hcs,hT,hZ⟩ k
   have g0:=hF' 0 rfl;have g3:=hF' 3 rfl;have g4:=hF' 4 rfl;have g7:=hF' 7 rfl;have g45:=hF' 45 rfl;have g46:=hF' 46 rfl;simp only[sx,reduceCtorEq,Nat.reduceEqDiff,f0,f3',f4]at g0 g3 g4 g7 g45 g46;have hkH:Kept H H':=hk05.then hb4 hc;obtain⟨r,hr⟩:∃r,E[i]?=some r:=⟨E[i]'(by rw[h.le];exact hi),List.getElem?_eq_getElem _⟩
   obtain⟨hrl',hrt⟩:=h.to i r hr;obtain⟨pr,wr,hiar,hcr,hsr,hlr⟩:=PG.row h hr;have q2:=A2b (hkH.grow hw) hcr;obtain⟨b,hbx⟩:∃b,U[i]?=some b:=⟨U[i]'(by rw[hUl];exact hi),List.getElem?_eq_getElem _⟩
   obtain⟨qb,e4,e5⟩:=Sl.elem (s:=1) Tryz.underlying58 A5r (hU5.chg hk5.wf hc fun y hy h1=>by have:=hUb y hy;omega).toSl (i:=i) (u:=.bool b) (by rw[List.getElem?_map,hbx];rfl);simp only[↓Sh.dn,sx,Nat.reduceEqDiff,g3,g45,g46,f47,A2a,hi,decide_true,hiar,q2,e4,e5];cases b with
   | false=>
    simp only[↓Sh.dn,sx,Nat.reduceBEq,Nat.reduceEqDiff,f47,A1a hi (Nat.le_trans hn2 (by decide))];exact k _ _ (by repeat (first|refine Same.put ?_ rfl|exact Same.rfl' _)) (by simp only[sx]) ⟨hc,R,es,cs,hG,hcs,hT.skip (by rw[hbx];simp),hZ⟩
   | true=>
   have hnm:numU U i<M:=by rw[←hM];exact C71 hi
   have hnil:R[numU U i]?=some []:=hT.non _ hnm fun s hs hu he=>by have:=B1f (.inl hu) (.inl hbx) he;omega
   have hR0:R.set (numU U i) (A5i U (r.take 0))=R:=by
    refine List.ext_getElem? fun a=>?_;rw[List.getElem?_set];split
    ·rename_i ha;subst ha
     rw[hT.lr,if_pos hnm,hnil];rfl
    ·rfl
   have hnum:∀{H'':AH} {t:Nat},Chg (fun y=>H4.next≤y) H5 H''→t<n→∃p,A4b Tryz.prog 71 nv (.int .i64 (t:Int))=some (.pointer (some p))∧H''.cell p=some (.int .i64 ((numU U t:Nat):Int)):=fun{H'' t} hc ht=>
    Sl.elem (s:=1) Tryz.underlying71 A1c (hN5.chg hk5.wf hc fun y hy h1=>by have:=hNb y hy;omega).toSl (by rw[List.getElem?_map,A87 ht,if_pos ht];rfl)
   simp only[↓Sh.dn,sx,Nat.reduceEqDiff,hlr];refine A0d r.length 59 (List.range' 59 27++[11]) (fun q F'' H''=>Chg (fun y=>H4.next≤y) H5 H''∧GrX H'' (fun y=>H4.next≤y) g1 sigma (A8b (R.set (numU U i) (A5i U (r.take q)))) es cs) (by simp only[sx]) ⟨hc,by rw[hR0];exact hG⟩ ?_ ?_
   ·rintro q F'' H'' hq hF'' f59 ⟨hc',hG'⟩ k2
    have v3:=hF'' 3 rfl;have v4:=hF'' 4 rfl;have v7:=hF'' 7 rfl;have v8:=hF'' 8 rfl;have v57:=hF'' 57 rfl;have v58:=hF'' 58 rfl;simp only[sx,Nat.reduceEqDiff,g3,g4,g7]at v3 v4 v7 v8 v57 v58;have hkH2:Kept H H'':=hk05.then hb4 hc';obtain⟨pe,hiae,hce⟩:=PG.edge (hsr.grow (hkH2.grow hw)) hq;have hrq:r[q]∈r:=List.getElem_mem hq;have htk:r.take (q+1)=r.take q++[r[q]]:=by rw[List.take_add_one,List.getElem?_eq_getElem hq];rfl
    generalize r[q]=e at hce hrq htk;have kn:=Kept.new hc'.wf 4 (A9a e);have hc3:Chg (fun y=>H4.next≤y) H5 (H''.new 4 (A9a e)).2:=hc'.trans kn.chg;have hG3:=hG'.kept hc'.wf kn;obtain⟨be,hbe⟩:∃b,U[e.1]?=some b:=⟨U[e.1]'(by rw[hUl];exact hrt e hrq),List.getElem?_eq_getElem _⟩
    obtain⟨qe,e6,e7⟩:=Sl.elem (s:=1) Tryz.underlying58 A5r (hU5.chg hk5.wf hc3 fun y hy h1=>by have:=hUb y hy;omega).toSl (i:=e.1) (u:=.bool be) (by rw[List.getElem?_map,hbe];rfl);simp only[↓Sh.dn,sx,Nat.reduceEqDiff,f59,v3,v57,v58,hiae,hce,A2a,hq,decide_true,A8q,A9k,A9q,ge0,e6,e7];cases be with
    | false=>
     simp only[↓Sh.dn,sx,Nat.reduceEqDiff,f59,A1a hq (Nat.le_trans hrl' (by decide))];refine k2 _ _ (by repeat (first|refine Same.put ?_ rfl|exact Same.rfl' _)) (by simp only[sx]) ⟨hc3,?_⟩;have:A5i U (r.take (q+1))=A5i U (r.take q):=by rw[htk];unfold A5i;rw[List.filter_append];simp[hbe]
     rw[this];exact hG3
    | true=>
     obtain⟨p1,i1,c1⟩:=hnum hc3 hi;obtain⟨p2,i2,c2⟩:=hnum hc3 (hrt e hrq);have hrow:(A8b (R.set (numU U i) (A5i U (r.take q))))[numU U i]?=some ((A5i U (r.take q)).map A9a):=by
      unfold A8b;rw[List.getElem?_map,List.getElem?_set,if_pos rfl,hT.lr,if_pos hnm];rfl
     have hrll:((A5i U (r.take q)).map A9a).length≤17179869183:=by
      rw[List.length_map];unfold A5i;rw[List.length_map];refine Nat.le_trans (List.length_filter_le _ _) ?_;rw[List.length_take];omega
     obtain⟨rr,H6,hd6,hc6,hG6⟩:=C5l (x0:=((numU U e.1:Nat):Int)) (x1:=e.2.1) (x2:=e.2.2.1) (x3:=e.2.2.2) hG3 hrow hrll hc3.wf;simp only[↓Sh.dn,sx];refine(A7c (by kernel_rfl)).2 ?_;simp only[↓Sh.dn,sx,Nat.reduceEqDiff,f59,v4,v7,v8,ge0,ge1,ge2,ge3,i1,c1,i2,c2];refine⟨_,_,hd6,?_⟩;simp only[A1a hq (Nat.le_trans hrl' (by decide))];refine k2 _ _ (by repeat (first|refine Same.put ?_ rfl|exact Same.rfl' _)) (by simp only[sx]) ⟨hc3.trans hc6,?_⟩;have h5:=hc3.next;have h6:=hk5.next;have hrs:A8b (R.set (numU U i) (A5i U (r.take (q+1))))=(A8b (R.set (numU U i) (A5i U (r.take q)))).set (numU U i) ((A5i U (r.take q)).map A9a++[[.int .i64 ((numU U e.1:Nat):Int),.int .i64 e.2.1,.int .i64 e.2.2.1,.int .i64 e.2.2.2]]):=by
      have:A5i U (r.take (q+1))=A5i U (r.take q)++[(numU U e.1,e.2)]:=by rw[htk];unfold A5i;rw[List.filter_append];simp[hbe]
      rw[this];unfold A8b;rw[List.map_set,List.map_set,List.set_set];simp[A9a]
     rw[hrs];exact hG6.mono fun y hy=>by rcases hy with hy|hy<;>omega
   ·rintro F'' H'' hF'' f59 ⟨hc',hG'⟩
    have g0':=hF'' 0 rfl;have g4':=hF'' 4 rfl;have g7':=hF'' 7 rfl;have g8':=hF'' 8 rfl;have g47:=hF'' 47 rfl;have g58:=hF'' 58 rfl;simp only[sx,reduceCtorEq,Nat.reduceEqDiff,g0,g4,g7,f47]at g0' g4' g7' g8' g47 g58;rw[List.take_length]at hG';have hkH2:Kept H H'':=hk05.then hb4 hc';have hPG:=h.kept hw hkH2;have hie:i<ends.length:=by rw[h.ln];exact hi
    have hic:i<costs.length:=by rw[hcl];exact hi
    have z2:=hPG.gr.arr.cell 2;have z3:=hPG.gr.arr.cell 3;obtain⟨pa,ia,ca⟩:=Sl.elem (s:=1) Tryz.underlying71 A1c hPG.gr.en (i:=i) (u:=.int .i64 ends[i]) (by rw[List.getElem?_map,List.getElem?_eq_getElem hie];rfl);obtain⟨pb,ib,cb⟩:=Sl.elem (s:=1) Tryz.underlying71 A1c hPG.gr.co (i:=i) (u:=.int .i64 costs[i]) (by rw[List.getElem?_map,List.getElem?_eq_getElem hic];rfl);obtain⟨p1,i1,c1⟩:=hnum hc' hi;obtain⟨ev',cv',pe,pc,K1,K2,x1,x2,x3,x4,x5,x6,x7,x8,x9,x10,x11⟩:=GrX.setEC (s:=numU U i) hG' hc'.wf (by rw[hT.le];exact hnm) (by rw[hcs];exact hnm) ends[i] costs[i];simp only[↓Sh.dn,sx,Nat.reduceBEq,f59,g58,A2a,Nat.lt_irrefl,decide_false];refine(A7c (by kernel_rfl)).2 ?_;simp only[↓Sh.dn,sx,reduceCtorEq,Nat.reduceEqDiff,g0',g4',g7',g8',g47,z2,z3,ia,ca,ib,cb,i1,c1,x1,x2,x5,x6,x7,x8,A1a hi (Nat.le_trans hn2 (by decide))];refine k _ _ ?_ (by simp only[sx]) ⟨hc'.trans x10,_,_,_,x11,by rw[List.length_set];exact hcs,hT.add hbx hnm hr (by simp[List.getD,List.getElem?_eq_getElem hie]),fun h0 c hc=>(List.mem_or_eq_of_mem_set hc).elim (hZ h0 c) fun e=>by rw[e];exact h0 _ (List.getElem_mem hic)⟩
    ·repeat refine Same.put ?_ rfl
     exact Same.trans (by repeat (first|refine Same.put ?_ rfl|exact Same.rfl' _)) (hF''.sub rfl)
  ·rintro F' H' hF' f47 ⟨hc,R,es,cs,hG,hcs,hT,hZ⟩
   have g7:=hF' 7 rfl;have g46:=hF' 46 rfl;simp only[sx,Nat.reduceEqDiff]at g7 g46;simp only[↓Sh.dn,sx,Nat.reduceEqDiff,g7,g46,f47,A2a,Nat.lt_irrefl,decide_false,hres];subst hM;exact⟨hk05.then hb4 hc,g1,rfl,U,R,es,cs,_,fun y hy=>Nat.le_trans hb4 hy,hG,hcs,hZ,hUl,hUi,hT,hm⟩
theorem TrimI.to{E:List (List (Nat×Int×Int×Int))}{ends:List Int}{U:List Bool}{n:Nat}{R:List (List (Nat×Int×Int×Int))}{es:List Int}(hT:TrimI E ends U (1+A0j U n) n R es)(hE:E.length=n)(hU:U.length=n){k:Nat}{Q:Int×Int×Int→Prop}
  (ht:∀(s:Nat) r,E[s]?=some r→r.length≤k∧∀e∈r,e.1<n∧Q e.2) (s:Nat) (r:List (Nat×Int×Int×Int)) (hr:R[s]?=some r):r.length≤k∧∀e∈r,e.1<1+A0j U n∧Q e.2:=by
 by_cases hex:∃t,U[t]?=some true∧numU U t=s
 ·obtain⟨t,ht',rfl⟩:=hex
  have htn:t<n:=by rw[←hU];exact(List.getElem?_eq_some_iff.1 ht').1
  have hr0:E[t]?=some (E[t]'(by rw[hE];exact htn)):=List.getElem?_eq_getElem _;generalize E[t]'(by rw[hE];exact htn)=r0 at hr0;rw[hT.row t r0 htn ht' hr0]at hr;rw[←Option.some.inj hr];obtain⟨b1,b2⟩:=ht t r0 hr0;refine⟨by unfold A5i;rw[List.length_map];exact Nat.le_trans (List.length_filter_le _ _) b1,fun e he=>?_⟩;obtain⟨e0,he0,rfl⟩:=List.mem_map.1 he;have:=b2 e0 (List.mem_filter.1 he0).1;exact⟨C71 this.1,this.2⟩
 ·have hs:=(List.getElem?_eq_some_iff.1 hr).1
  rw[hT.lr]at hs;rw[hT.non s hs fun t _ ht he=>hex ⟨t,ht,he⟩]at hr;rw[←Option.some.inj hr];exact⟨Nat.zero_le _,fun e he=>by cases he⟩
end Go.Proofs.YtjjgodccecehlaaGreat
