/- A part of the proof: RefBefore, CmpLessInt, InsSortInt, SortSmallInt, BitsLen, BreakPatInt, HeapSortInt, PartitionInt, PartInsInt, PdqInt, SortIntsInt, SortInts, RefClose, RefRun, CmpLessStr, InsSortStr, SortSmallStr, BreakPatStr, HeapSortStr, PartitionStr, PartInsStr. -/
import Derived.Test.YtjjgodccecehlaaGreatMClose2RelDowns4
import Derived.Test.YtjjgodccecehlaaGreatMClose2RelDowns5
import Derived.Test.YtjjgodccecehlaaGreatMClose2RelDowns2
import Derived.Test.YtjjgodccecehlaaGreatMClose2RelDowns1
set_option linter.unusedVariables false
set_option linter.unusedSimpArgs false
/- The reference's before, isLonger. -/
set_option maxHeartbeats 4000000
set_option maxRecDepth 20000
namespace Go.Proofs.YtjjgodccecehlaaGreat
open Go Go.Proofs Go.Proofs.Sh
theorem B9z{H:AH}{rv u:Value}{ot:Option Nat}{vals:List Value}{obs:List (Option Nat)}{n:Nat}{R:List (List (ByteArray×Nat))}{X:List Bool}
  (hJ:Jag H rv ot 2 vals (A9h R) obs) (hRl:R.length=n) (hRr:∀r∈R,r.length≤6000000000∧∀e∈r,e.2<n) (hX:Sl H u 1 (X.map A6l)) (hXl:X.length=n) (h1:1≤n) (hn:n≤100000) (hw:Wf H):
  Sh.Call Tryz.prog (knows 7) 54 [rv,u] H (fun r H'=>A17 H H' r n (Clo (A6s R true) fun t=>∃s,X[s]?=some true∧∃x,x≠A0b∧A3e R x s t)):=by
 refine A3a rfl Tryz.func54 rfl (Nat.le_of_ble_eq_true rfl) ?_;have hres:Tryz.f54.results.toList=[.tmp 4]:=rfl;have hlen:=fun H'=>hX.len Tryz.underlying58 H';simp only[List.length_map,hXl]at hlen;have hmk:=D5a (H:=H) (l:=n) (c:=n) (Nat.le_refl _) (by omega);have k1:=Kept.new hw 1 (List.replicate n (.bool false));have f1:=Buf.fill hw (.bool false) (c:=n) (by omega);rw[if_neg (by omega)]at f1;have hM1:MB (H.new 1 (List.replicate n (.bool false))).2 H.next n (.slice (some ⟨H.next,0,some 0⟩) n n) (some H.next) (List.replicate n false) []:=
  ⟨Marks.empty n,by rw[List.map_replicate];exact f1,fun y hy=>by rw[←Option.some.inj hy];exact Nat.le_refl _⟩
 have hx1:H.next<(H.new 1 (List.replicate n (.bool false))).2.next:=Nat.lt_succ_self _;simp only[↓Sh.dn,sx,Nat.reduceEqDiff,hlen,hmk];generalize (Value.slice (some ⟨H.next,0,some 0⟩) n n)=mv at hM1 ⊢;generalize (H.new 1 (List.replicate n (.bool false))).2=H1 at k1 hM1 hx1 ⊢;refine A5c n 6 (List.range' 6 45) (fun i F H'=>Kept H H'∧∃seen out,MB H' H.next n mv (some H.next) seen out∧∀t,t∈out↔∃s,s<i∧X[s]?=some true∧∃x,x≠A0b∧A3e R x s t) (by simp only[sx]) ⟨k1,_,_,hM1,fun t=>by simp⟩ ?_ ?_
 ·rintro i F H' hi hF f6 ⟨hk,seen,out,hM,hiff⟩ k
  have f0:=hF 0 rfl;have f1:=hF 1 rfl;have f5:=hF 5 rfl;simp only[sx,reduceCtorEq,Nat.reduceEqDiff]at f0 f1 f5;obtain⟨b,hbx⟩:∃b,X[i]?=some b:=⟨X[i]'(by rw[hXl];exact hi),List.getElem?_eq_getElem _⟩
  have hXb:∀{H'},Kept H H'→∃p,A7b Tryz.prog 58 u (.int .i64 (i:Int))=some (.pointer (some p))∧H'.cell p=some (.bool b):=fun hk=>
   Sl.elem (s:=1) Tryz.underlying58 A1k (hX.grow (hk.grow hw)) (i:=i) (u:=.bool b) (by rw[List.getElem?_map,hbx];rfl)
  obtain⟨r,hr⟩:∃r,R[i]?=some r:=⟨R[i]'(by rw[hRl];exact hi),List.getElem?_eq_getElem _⟩
  have hr':(A9h R)[i]?=some (r.map A0i):=by unfold A9h;rw[List.getElem?_map,hr];rfl
  obtain⟨hrl,hrt⟩:=hRr r (List.mem_of_getElem? hr);obtain⟨qb,e4,e5⟩:=hXb hk;simp only[↓Sh.dn,sx,Nat.reduceEqDiff,f1,f6,hlen,A1a,hi,decide_true];cases b with
  | false=>
   refine Sh.wp_inLoop.2 ?_;simp only[↓Sh.dn,sx,Nat.reduceBEq,Nat.reduceEqDiff,f1,f6,e4,e5,A2a hi (Nat.le_trans hn (by decide))];refine k _ _ (by repeat (first|refine Same.put ?_ rfl|exact Same.rfl' _)) (by simp only[sx]) ⟨hk,seen,out,hM,fun t=>?_⟩;rw[hiff];constructor
   ·rintro⟨s,h1,h2⟩;exact⟨s,by omega,h2⟩
   ·rintro⟨s,h1,h2,h3⟩
    by_cases hs:s=i
    ·subst hs;rw[hbx]at h2;cases h2
    ·exact⟨s,by omega,h2,h3⟩
  | true=>
  refine A5c r.length 7 (List.range' 7 44) (fun q F'' H''=>Kept H H''∧∃seen' out',MB H'' H.next n mv (some H.next) seen' out'∧∀t,t∈out'↔t∈out∨∃e∈r.take q,e.2=t∧e.1≠A0b) (by simp only[sx]) ⟨hk,seen,out,hM,fun t=>by simp⟩ ?_ ?_
  ·rintro q F'' H'' hq hF'' f7 ⟨hk'',seen',out',hM',hiff'⟩ k2
   have g0:=hF'' 0 rfl;have g1:=hF'' 1 rfl;have g5:=hF'' 5 rfl;have g6:=hF'' 6 rfl;simp only[sx,reduceCtorEq,Nat.reduceEqDiff,f0,f1,f5,f6]at g0 g1 g5 g6;obtain⟨qb,e4,e5⟩:=hXb hk'';obtain⟨ga,oa,ka,wr,hia,hc1,hs1⟩:=(hJ.kept hw hk'').read.at Tryz.underlying57 A3r hr';have hl1:=fun H'=>hs1.len Tryz.underlying86 H';simp only[List.length_map]at hl1;obtain⟨g',o',k',hia2,hcs2,hcc2⟩:=hs1.at Tryz.underlying86 A5t (i:=q) (x:=A0i r[q]) (by simp[hq]) .i64;have hrq:r[q]∈r:=List.getElem_mem hq;have htk:r.take (q+1)=r.take q++[r[q]]:=by rw[List.take_add_one,List.getElem?_eq_getElem hq];rfl
   generalize r[q]=e at hcs2 hcc2 hrq htk;have c0:=hcc2 0 (.string e.1) rfl;have c1:=hcc2 1 (.int .i64 (e.2:Int)) rfl;have hjn:∀t,(∃e'∈r.take (q+1),e'.2=t∧e'.1≠A0b)↔(∃e'∈r.take q,e'.2=t∧e'.1≠A0b)∨e.2=t∧e.1≠A0b:=fun t=>by
    rw[htk];simp only[List.mem_append,List.mem_singleton];constructor
    ·rintro⟨e',h1|h1,h2⟩
     ·exact .inl ⟨e',h1,h2⟩
     ·subst h1;exact .inr h2
    ·rintro(⟨e',h1,h2⟩|h2)
     ·exact⟨e',.inl h1,h2⟩
     ·exact⟨e,.inr rfl,h2⟩
   have hrl':r.length≤4611686018427387904:=Nat.le_trans hrl (by decide);have c0':=c0;simp only[Nat.add_zero]at c0';simp only[↓Sh.dn,sx,reduceCtorEq,Nat.reduceEqDiff,g0,g1,g6,f7,e4,e5,hia,hc1,hl1,A1a,hq,decide_true,hia2,c0'];by_cases he:e.1=⟨#[]⟩
   ·simp only[↓Sh.dn,sx,Nat.reduceEqDiff,he,decide_true,f7,A2a hq hrl']
    refine k2 _ _ (by repeat (first|refine Same.put ?_ rfl|exact Same.rfl' _)) (by simp only[sx]) ⟨hk'',seen',out',hM',fun t=>?_⟩;rw[hjn,hiff'];have:¬(e.2=t∧e.1≠A0b):=fun h=>h.2 he;simp[this]
   ·obtain⟨p2,H3,seen2,out2,d1,d2,d3,d4,d5⟩:=hM'.put Tryz.underlying58 A1k hk''.wf (hrt e hrq)
    have st:A0e Tryz.prog 4 H'' (.bool true) (.pointer (some p2))=some H3:=by rw[A0c A1k rfl];exact d2
    simp only[↓Sh.dn,sx,reduceCtorEq,Nat.reduceEqDiff,he,decide_false,g0,g5,g6,f7,hia,hc1,hia2,c1,d1,st,A2a hq hrl'];refine k2 _ _ (by repeat (first|refine Same.put ?_ rfl|exact Same.rfl' _)) (by simp only[sx]) ⟨hk''.then (Nat.le_refl _) (d4.weak fun y hy=>hM'.fr y hy),seen2,out2,d3,fun t=>?_⟩;rw[d5,hjn,hiff'];constructor
    ·rintro((h1|h1)|h1)
     ·exact .inl h1
     ·exact .inr (.inl h1)
     ·exact .inr (.inr ⟨h1.symm,he⟩)
    ·rintro(h1|h1|⟨h1,_⟩)
     ·exact .inl (.inl h1)
     ·exact .inl (.inr h1)
     ·exact .inr h1.symm
  ·rintro F'' H'' hF'' f7 ⟨hk'',seen',out',hM',hiff'⟩
   have g0:=hF'' 0 rfl;have g1:=hF'' 1 rfl;have g6:=hF'' 6 rfl;simp only[sx,reduceCtorEq,Nat.reduceEqDiff,f0,f1,f6]at g0 g1 g6;obtain⟨qb,e4,e5⟩:=hXb hk'';obtain⟨ga,oa,ka,wr,hia,hc1,hs1⟩:=(hJ.kept hw hk'').read.at Tryz.underlying57 A3r hr';have hl1:=fun H'=>hs1.len Tryz.underlying86 H';simp only[List.length_map]at hl1;rw[List.take_length]at hiff';simp only[↓Sh.dn,sx,Nat.reduceBEq,reduceCtorEq,Nat.reduceEqDiff,g0,g1,g6,f7,e4,e5,hia,hc1,hl1,A1a,Nat.lt_irrefl,decide_false,A2a hi (Nat.le_trans hn (by decide))];refine k _ _ ?_ (by simp only[sx]) ⟨hk'',seen',out',hM',fun t=>?_⟩
   ·repeat refine Same.put ?_ rfl
    exact Same.trans (by repeat (first|refine Same.put ?_ rfl|exact Same.rfl' _)) (hF''.sub rfl)
   ·rw[hiff',hiff]
    constructor
    ·rintro(⟨s,h1,h2⟩|⟨e,h1,h2,h3⟩)
     ·exact⟨s,by omega,h2⟩
     ·exact⟨i,by omega,hbx,e.1,h3,r,hr,by rw[←h2];exact h1⟩
    ·rintro⟨s,h1,h2,x,h3,h4⟩
     by_cases hs:s=i
     ·subst hs
      obtain⟨r',h5,h6⟩:=h4;rw[hr]at h5;exact .inr ⟨(x,t),by rw[Option.some.inj h5];exact h6,rfl,h3⟩
     ·exact .inl ⟨s,by omega,h2,x,h3,h4⟩
 ·rintro F H' hF f6 ⟨hk,seen,out,hM,hiff⟩
  have f0:=hF 0 rfl;have f1:=hF 1 rfl;have f5:=hF 5 rfl;simp only[sx,reduceCtorEq,Nat.reduceEqDiff]at f0 f1 f5;obtain⟨rr,H4,hd4,hc4,seen2,hb4,hsl,hiff4⟩:=B3f (em:=true) hk (hJ.kept hw hk) hRl hRr hM.bf (fun y hy=>by rw[←Option.some.inj hy];exact Nat.le_refl _) (fun y hy hj=>by have:=hJ.lt hw y hj;have:=Option.some.inj hy;omega) hM.ms.len hn;simp only[↓Sh.dn,sx,reduceCtorEq,Nat.reduceEqDiff,f0,f1,f5,f6,hlen,A1a,Nat.lt_irrefl,decide_false];refine⟨_,_,hd4,?_⟩;simp only[sx,hres];refine⟨hk.then (Nat.le_refl _) (hc4.weak fun y hy=>by rw[←Option.some.inj hy];exact Nat.le_refl _),seen2,some H.next,hb4,fun y hy=>by rw[←Option.some.inj hy];exact Nat.le_refl _,hsl,fun t=>?_⟩;rw[hiff4];have:(fun s=>seen[s]?=some true)=fun t=>∃s,X[s]?=some true∧∃x,x≠A0b∧A3e R x s t:=by
   funext t
   apply propext;rw[hM.ms.iff,hiff];constructor
   ·rintro⟨s,_,h1⟩;exact⟨s,h1⟩
   ·rintro⟨s,h1,h2⟩;exact⟨s,by rw[←hXl];exact(List.getElem?_eq_some_iff.1 h1).1,h1,h2⟩
  rw[this]
def anyE(E:List (List (ByteArray×Nat)))(s t:Nat):Prop:=∃x,x≠A0b∧A3e E x s t
def exE(E:List (List (ByteArray×Nat)))(ends:List Bool):Nat→Nat→Prop:=A4m (A3e E A0b) (anyE E) (fun s=>ends[s]?=some true)
theorem B2m{R E:List (List (ByteArray×Nat))}(hg:∀x t s,A3e R x t s↔A3e E x s t):A6s R true=fun a b=>A3e E A0b b a:=by
 funext s t
 apply propext;unfold A6s;constructor
 ·rintro⟨x,h1,h2⟩;rw[←hg,←h2 rfl];exact h1
 ·intro h;exact⟨A0b,(hg _ _ _).2 h,fun _=>rfl⟩
theorem B1f{R E:List (List (ByteArray×Nat))}(hg:∀x t s,A3e R x t s↔A3e E x s t){X:List Bool}{Q:Nat→Prop}(hX:∀t:Nat,X[t]?=some true↔Q t):
  Clo (A6s R true) (fun t=>∃s,X[s]?=some true∧∃x,x≠A0b∧A3e R x s t)=Clo (fun a b=>A3e E A0b b a) fun s=>∃t,anyE E s t∧Q t:=by
 rw[B2m hg]
 congr 1
 funext t
 apply propext;constructor
 ·rintro⟨s,h1,x,h2,h3⟩;exact⟨s,⟨x,h2,(hg _ _ _).1 h3⟩,(hX s).1 h1⟩
 ·rintro⟨s,⟨x,h2,h3⟩,h1⟩;exact⟨s,(hX s).2 h1,x,h2,(hg _ _ _).2 h3⟩
theorem C51{H:AH}{v ev bv:Value}{vals:List Value}{n m:Nat}{E:List (List (ByteArray×Nat))}{ends:List Bool}(h:RG H v n E ends ev bv vals)(hm:m≤4000)(hw:Wf H):
  Sh.Call Tryz.prog (knows 7) 55 [v,.int .i64 (m:Int)] H (fun r H'=>Kept H H'∧r=.bool (tB (A3o (A3e E A0b) (anyE E) (fun s=>ends[s]?=some true) m 0))):=by
 refine A3a rfl Tryz.func55 rfl (Nat.le_of_ble_eq_true rfl) ?_;have hres:Tryz.f55.results.toList=[.tmp 4]:=rfl;have hn1:=h.n1;have hn2:=h.n2;have hrb:=RBox.of h hw;have hk1:Kept H (H.new 3 [.int .i64 0,ev,bv]).2:=Kept.new hw 3 _;have hE:=h.ed.sl.isCell;have hB:=h.en.isCell;rw[h.eq];simp only[↓Sh.dn,sx,Nat.reduceEqDiff,B28 hE hB];generalize (H.new 3 [.int .i64 0,ev,bv]).2=H1 at hrb hk1 ⊢;generalize H.next=gb at hrb ⊢;obtain⟨rv,H3,hd3,hk3,R,ot,vs,obs,hJ,hin,hRl,hRr,hRg⟩:=A73 hrb.rg hk1.wf;have hrb3:=hrb.kept hk1.wf hk3;obtain⟨r4,H4,hd4,hk4,B,hB4,hBl,hBi⟩:=refAlive hrb3.rg hk3.wf;simp only[sx,hrb.ca];refine⟨_,_,hd3,?_⟩;simp only[sx,hrb3.ca];refine⟨_,_,hd4,?_⟩;have hB0:∀t:Nat,B[t]?=some true↔A3o (A3e E A0b) (anyE E) (fun s=>ends[s]?=some true) 0 t:=fun t=>by
  rw[hBi];have:(fun s t=>∃x,A3e E x t s)=fun a b=>A3e E A0b b a∨anyE E b a:=by
   funext a b
   apply propext;constructor
   ·rintro⟨x,hx⟩
    by_cases hx0:x=A0b
    ·subst hx0;exact .inl hx
    ·exact .inr ⟨x,hx0,hx⟩
   ·rintro(hx|⟨x,_,hx⟩)
    ·exact⟨_,hx⟩
    ·exact⟨_,hx⟩
  rw[this];rfl
 have hk34:=hk3.trans hk4;refine A5c m 7 (List.range' 12 8++[6,7]) (fun i F H'=>Kept H4 H'∧∃z,F.get 6=some z∧∃X:List Bool,Sl H' z 1 (X.map A6l)∧X.length=n∧∀t:Nat,X[t]?=some true↔A3o (A3e E A0b) (anyE E) (fun s=>ends[s]?=some true) i t) (by simp only[sx]) ⟨Kept.refl hk4.wf,_,by simp only[sx,Nat.reduceEqDiff],B,hB4,hBl,hB0⟩ ?_ ?_
 ·rintro i F H' hi hF f7 ⟨hk,z,f6,X,hX,hXl,hXi⟩ k
  have f1:=hF 1 rfl;have f5:=hF 5 rfl;simp only[sx,Nat.reduceEqDiff]at f1 f5;obtain⟨r5,H5,hd5,hk5,B5,o5,hB5,hB5o,hB5l,hB5i⟩:=B9z ((hJ.kept hk3.wf hk4).kept hk4.wf hk) hRl hRr hX hXl hn1 hn2 hk.wf;simp only[↓Sh.dn,sx,Nat.reduceEqDiff,f1,f5,f6,f7,A1a,hi,decide_true];refine⟨_,_,hd5,?_⟩;simp only[A2a hi (by omega)];refine k _ _ (by repeat (first|refine Same.put ?_ rfl|exact Same.rfl' _)) (by simp only[sx]) ⟨hk.trans hk5,r5,by simp only[sx,Nat.reduceEqDiff],B5,hB5.toSl,hB5l,fun t=>?_⟩;rw[hB5i,B1f hRg hXi];rfl
 ·rintro F H' hF f7 ⟨hk,z,f6,X,hX,hXl,hXi⟩
  have f1:=hF 1 rfl;have f2:=hF 2 rfl;simp only[sx,Nat.reduceEqDiff]at f1 f2;have hlX:=fun H'=>hX.len Tryz.underlying58 H';simp only[List.length_map,hXl]at hlX;have hpos:decide ((0:Int)<(n:Int))=true:=by simp;omega
  obtain⟨b,hb⟩:∃b,X[0]?=some b:=⟨X[0]'(by rw[hXl];exact hn1),List.getElem?_eq_getElem _⟩
  obtain⟨q,e1,e2⟩:=Sl.elem (s:=1) Tryz.underlying58 A1k hX (i:=0) (u:=.bool b) (by rw[List.getElem?_map,hb];rfl);have e1':A7b Tryz.prog 58 z (.int .i64 0)=some (.pointer (some q)):=e1;have c0:=(hrb3.kept hk3.wf (hk4.trans hk)).c0;have hbt:b=tB (A3o (A3e E A0b) (anyE E) (fun s=>ends[s]?=some true) m 0):=by
   rw[Bool.eq_iff_iff,A3z,←hXi,hb];simp
  simp only[↓Sh.dn,sx,Nat.reduceEqDiff,f1,f2,f6,f7,A1a,Nat.lt_irrefl,decide_false,hlX,hpos,c0,e1',e2,hres,hbt];exact(hk1.trans hk34).trans hk
theorem C7e{H:AH}{x:Int}:Sh.Call Tryz.prog (knows 7) 158 [Value.int .i64 x] H (fun r H'=>H'=H∧r=.bool false):=by
 refine A3a rfl Tryz.func158 rfl (Nat.le_of_ble_eq_true rfl) ?_;have hres:Tryz.f158.results.toList=[.tmp 2]:=rfl;simp only[↓Sh.dn,sx,reduceCtorEq,Nat.reduceEqDiff,hres,decide_true]
theorem C1s{H:AH}{x y:Int}:Sh.Call Tryz.prog (knows 7) 140 [Value.int .i64 x,Value.int .i64 y] H (fun r H'=>H'=H∧r=.bool (A4c x y)):=by
 refine A3a rfl Tryz.func140 rfl (Nat.le_of_ble_eq_true rfl) ?_;have hres:Tryz.f140.results.toList=[.tmp 4]:=rfl;obtain⟨r,H1,hd,rfl,rfl⟩:=C7e (H:=H) (x:=x);simp only[↓Sh.dn,sx,reduceCtorEq];refine⟨_,_,hd,?_⟩;simp only[↓Sh.dn,sx,reduceCtorEq,Nat.reduceEqDiff,hres]
 try rfl
theorem A8d{H:AH}{x y:Int}:Does Tryz.prog (knows 7) 140 [Value.int .i64 x,Value.int .i64 y] H (.bool (A4c x y)) H:=by
 obtain⟨r,H1,hd,rfl,rfl⟩:=C1s (H:=H) (x:=x) (y:=y);exact hd
abbrev A6e(H:AH)(g k n:Nat)(l:List Int):Prop:=Cells H g k n (l.map (Value.int .i64))
section
variable {H:AH} {g k n m cap i:Nat} {l:List Int}
theorem A1d{j:IntKind}(h:i<m):A7b Tryz.prog 71 (.slice (some ⟨g,0,some k⟩) m cap) (.int j (i:Int))=some (.pointer (some ⟨g,i,some k⟩)):=by
 rw[ia_71 h,Nat.mul_one,Nat.zero_add]
theorem A8c(h:A6e H g k n l)(hi:i<l.length):H.cell ⟨g,i,some k⟩=some (Value.int .i64 l[i]):=h.cell (by simp[hi])
theorem A7n{x:Int}{p:Addr}:A0e Tryz.prog 3 H (Value.int .i64 x) (.pointer (some p))=H.write p [Value.int .i64 x]:=A0c A2c rfl
theorem A6j(h:A6e H g k n l)(hw:Wf H){i j:Nat}(hi:i<l.length)(hj:j<l.length):
  ∃H1 H2,H.write ⟨g,i,some k⟩ [Value.int .i64 l[j]]=some H1∧H1.write ⟨g,j,some k⟩ [Value.int .i64 l[i]]=some H2∧A6e H2 g k n (swp l i j)∧Chg (fun y=>y=g) H H2∧H2.next=H.next:=by
 obtain⟨H1,H2,h1,h2,h3,h4,h5⟩:=Cells.swap h hw (i:=i) (j:=j) (x:=Value.int .i64 l[i]) (y:=Value.int .i64 l[j]) (by simp[hi]) (by simp[hj]);exact⟨H1,H2,h1,h2,by rw[D1a]at h3;exact h3,h4,h5⟩
end
theorem B6b{H:AH}{g k n cap a b:Nat}{l:List Int}(hv:A6e H g k n l)(hw:Wf H)(hl:l.length≤16000000)(hab:a≤b)(hb:b≤l.length):
  Sh.Call Tryz.prog (knows 7) 134 [.slice (some ⟨g,0,some k⟩) l.length cap,.int .i64 (a:Int),.int .i64 (b:Int)] H
   (fun r H'=>∃l',Mix a b l l'∧Srt A4c a b l'∧A6e H' g k n l'∧Chg (fun y=>y=g) H H'):=by
 refine A3a rfl Tryz.func134 rfl (Nat.le_of_ble_eq_true rfl) ?_;have hres:Tryz.f134.results.toList=[]:=rfl;have hTO:=intTO;have w1:IntKind.wrap .i64 ((a:Int)+1)=((a+1:Nat):Int):=by rw[wrap64 (by omega) (by omega)];rfl
 simp only[↓Sh.dn,sx,w1]
 let Adj (i:Nat) (m:List Int):Prop:=∀(p:Nat) x y,a≤p→p+1<i→m[p]?=some x→m[p+1]?=some y→A4c y x=false
 refine A5b (fun m F H' => ∃ (i : Nat) (l1 : List Int), m = b - i ∧ a + 1 ≤ i ∧ (i ≤ b ∨ i = a + 1) ∧ Mix a b l l1 ∧ Adj i l1 ∧ A6e H' g k n l1 ∧ Chg (fun y => y = g) H H' ∧
     F.get 0 = some (.slice (some ⟨g, 0, some k⟩) l.length cap) ∧ F.get 1 = some (.int .i64 (a : Int)) ∧ F.get 2 = some (.int .i64 (b : Int)) ∧ F.get 6 = some (.int .i64 (i : Int))) (m := b-(a + 1))
   ⟨a + 1, l, rfl, by omega, .inr rfl, .refl l, fun p x y h1 h2 => by omega, hv, Chg.refl hw, by simp only[sx, reduceCtorEq], by simp only[sx, Nat.reduceEqDiff], by simp only[sx, Nat.reduceEqDiff], by simp only[sx]⟩ ?_
 rintro m F H' ⟨i,l1,rfl,hai,hib,hm,hadj,hv1,hc1,f0,f1,f2,f6⟩ kk;by_cases hlt:i<b
 ·simp only[↓Sh.dn,sx,Nat.reduceEqDiff,f2,f6,A1a,hlt,decide_true]
  refine A5b (fun m F' H2 => ∃ (j : Nat) (l2 : List Int), m = j ∧ a ≤ j ∧ j ≤ i ∧ Mix a b l l2 ∧ (∀ (p : Nat) x y, a ≤ p → p + 1 < i + 1 → p + 1 ≠ j → l2[p]? = some x → l2[p + 1]? = some y → A4c y x = false) ∧
      (∀x y, a<j → j<i → l2[j-1]? = some x → l2[j + 1]? = some y → A4c y x = false) ∧ A6e H2 g k n l2 ∧ Chg (fun y => y = g) H H2 ∧
      F'.get 0 = some (.slice (some ⟨g, 0, some k⟩) l.length cap) ∧ F'.get 1 = some (.int .i64 (a : Int)) ∧ F'.get 2 = some (.int .i64 (b : Int)) ∧ F'.get 6 = some (.int .i64 (i : Int)) ∧ F'.get 7 = some (.int .i64 (j : Int))) (m := i)
    ⟨i, l1, rfl, by omega, Nat.le_refl _, hm, fun p x y h1 h2 h3 => hadj p x y h1 (by omega), fun x y h1 h2 => by omega, hv1, hc1, by simp only[sx, reduceCtorEq, f0], by simp only[sx, Nat.reduceEqDiff, f1], by simp only[sx, Nat.reduceEqDiff, f2], by simp only[sx, Nat.reduceEqDiff, f6], by simp only[sx]⟩ ?_
  rintro j F' H2 ⟨_,l2,rfl,haj,hji,hm2,hA,hB,hv2,hc2,g0,g1,g2,g6,g7⟩ k2;have hlen:=hm2.length;have wi:IntKind.wrap .i64 ((i:Int)+1)=((i+1:Nat):Int):=by rw[wrap64 (by omega) (by omega)];rfl
  simp only[↓Sh.dn];refine(A9a (by kernel_rfl)).2 ?_;by_cases hgt:a<j
  ·have wj:IntKind.wrap .i64 ((j:Int)-1)=((j-1:Nat):Int):=by rw[wrap64 (by omega) (by omega)];omega
   have hj1:j<l2.length:=by omega
   have hj2:j-1<l2.length:=by omega
   have i1:=A1d (g:=g) (k:=k) (cap:=cap) (m:=l.length) (i:=j) (j:=.i64) (by omega);have i2:=A1d (g:=g) (k:=k) (cap:=cap) (m:=l.length) (i:=j-1) (j:=.i64) (by omega);have r1:=A8c hv2 hj1;have r2:=A8c hv2 hj2;have q1:l2[j]?=some l2[j]:=List.getElem?_eq_getElem hj1;have q2:l2[j-1]?=some l2[j-1]:=List.getElem?_eq_getElem hj2;simp only[↓Sh.dn,sx,reduceCtorEq,Nat.reduceEqDiff,g0,g1,g7,A1a,hgt,decide_true,wj,i1,i2,r1,r2];refine⟨_,_,A8d,?_⟩;cases hc:A4c l2[j] l2[j-1] with
   | true=>
    simp only[↓Sh.dn,sx];refine(A9a (by kernel_rfl)).2 ?_;obtain⟨K1,K2,e1,e2,e3,e4,e5⟩:=A6j hv2 hc2.wf hj1 hj2;simp only[↓Sh.dn,sx,reduceCtorEq,Nat.reduceEqDiff,g0,g7,wj,i1,i2,r1,r2,A7n,e1,e2];refine k2 (j-1) _ _ (by omega) ⟨j-1,swp l2 j (j-1),rfl,by omega,by omega,hm2.swap (by omega) (by omega) (by omega) (by omega),fun p x y h1 h2 h3 hx hy=>?_,fun x y h1 h2 hx hy=>?_,e3,hc2.trans e4,by simp only[sx,reduceCtorEq,g0],by simp only[sx,Nat.reduceEqDiff,g1],by simp only[sx,Nat.reduceEqDiff,g2],by simp only[sx,Nat.reduceEqDiff,g6],by simp only[sx]⟩
    ·rw[swp_get hj1 hj2]at hx hy
     by_cases hp1:p+1=j
     ·have hp:p=j-1:=by omega
      rw[if_pos hp,q1]at hx;rw[if_neg (by omega),if_pos hp1,q2]at hy;rw[←Option.some.inj hx,←Option.some.inj hy];exact hTO.asymm hc
     ·by_cases hp2:p=j
      ·rw[if_neg (by omega),if_pos hp2,q2]at hx
       rw[if_neg (by omega),if_neg (by omega)]at hy;rw[←Option.some.inj hx];exact hB _ _ hgt (by omega) q2 (by rw[←hp2];exact hy)
      ·rw[if_neg (by omega),if_neg hp2]at hx
       rw[if_neg (by omega),if_neg (by omega)]at hy;exact hA p x y h1 h2 hp1 hx hy
    ·rw[swp_get hj1 hj2]at hx hy
     rw[if_neg (by omega),if_neg (by omega)]at hx;rw[if_neg (by omega),if_pos (by omega),q2]at hy;rw[←Option.some.inj hy];exact hA (j-2) _ _ (by omega) (by omega) (by omega) (by rw[show j-2=j-1-1 by omega];exact hx) (by rw[show j-2+1=j-1 by omega];exact q2)
   | false=>
    simp only[↓Sh.dn,sx,Nat.reduceBEq,Nat.reduceEqDiff,g6,wi];refine kk (b-(i+1)) _ _ (by omega) ⟨i+1,l2,rfl,by omega,.inl (by omega),hm2,fun p x y h1 h2 hx hy=>?_,hv2,hc2,by simp only[sx,reduceCtorEq,g0],by simp only[sx,Nat.reduceEqDiff,g1],by simp only[sx,Nat.reduceEqDiff,g2],by simp only[sx]⟩;by_cases hp:p+1=j
    ·have hp':p=j-1:=by omega
     rw[hp',q2]at hx;rw[hp,q1]at hy;rw[←Option.some.inj hx,←Option.some.inj hy];exact hc
    ·exact hA p x y h1 h2 hp hx hy
  ·simp only[↓Sh.dn,sx,Nat.reduceBEq,Nat.reduceEqDiff,g1,g7,A1a,hgt,decide_false,g6,wi]
   exact kk (b-(i+1)) _ _ (by omega) ⟨i+1,l2,rfl,by omega,.inl (by omega),hm2,fun p x y h1 h2 hx hy=>hA p x y h1 h2 (by omega) hx hy,hv2,hc2,by simp only[sx,reduceCtorEq,g0],by simp only[sx,Nat.reduceEqDiff,g1],by simp only[sx,Nat.reduceEqDiff,g2],by simp only[sx]⟩
 ·simp only[↓Sh.dn,sx,Nat.reduceEqDiff,f2,f6,A1a,hlt,decide_false,hres]
  exact⟨l1,hm,B9c hTO fun p x y h1 h2 hx hy=>hadj p x y h1 (by omega) hx hy,hv1,hc1⟩
section
variable {H:AH} {g k n cap a b:Nat} {l:List Int}
theorem B8j(hv:A6e H g k n l)(hw:Wf H)(hl:l.length≤16000000)(hab:a<b)(hb:b≤l.length):
  Sh.Call Tryz.prog (knows 7) 138 [.slice (some ⟨g,0,some k⟩) l.length cap,.int .i64 (a:Int),.int .i64 (b:Int)] H
   (fun r H'=>∃l',Mix a b l l'∧A6e H' g k n l'∧Chg (fun y=>y=g) H H'):=by
 refine A3a rfl Tryz.func138 rfl (Nat.le_of_ble_eq_true rfl) ?_;have hres:Tryz.f138.results.toList=[]:=rfl;have w1:IntKind.wrap .i64 ((b:Int)-1)=((b-1:Nat):Int):=by rw[wrap64 (by omega) (by omega)];omega
 simp only[↓Sh.dn,sx,Nat.reduceEqDiff,w1]
 refine A5b (fun m F H' => ∃ (i j : Nat) (l1 : List Int), m = b - i ∧ a ≤ i ∧ i + j + 1 = a + b ∧ i ≤ b ∧ Mix a b l l1 ∧ A6e H' g k n l1 ∧ Chg (fun y => y = g) H H' ∧
     F.get 0 = some (.slice (some ⟨g, 0, some k⟩) l.length cap) ∧ F.get 6 = some (.int .i64 (i : Int)) ∧ F.get 7 = some (.int .i64 (j : Int))) (m := b-a)
   ⟨a, b-1, l, rfl, by omega, by omega, by omega, .refl l, hv, Chg.refl hw, by simp only[sx, reduceCtorEq], by simp only[sx, Nat.reduceEqDiff], by simp only[sx]⟩ ?_
 rintro m F H' ⟨i,j,l1,rfl,hai,hij,hib,hm,hv1,hc1,f0,f6,f7⟩ kk;have hlen:=hm.length;by_cases hlt:i<j
 ·have hi:i<l1.length:=by omega
  have hj:j<l1.length:=by omega
  have wi:IntKind.wrap .i64 ((i:Int)+1)=((i+1:Nat):Int):=by rw[wrap64 (by omega) (by omega)];rfl
  have wj:IntKind.wrap .i64 ((j:Int)-1)=((j-1:Nat):Int):=by rw[wrap64 (by omega) (by omega)];omega
  have i1:=A1d (g:=g) (k:=k) (cap:=cap) (m:=l.length) (i:=i) (j:=.i64) (by omega);have i2:=A1d (g:=g) (k:=k) (cap:=cap) (m:=l.length) (i:=j) (j:=.i64) (by omega);have r1:=A8c hv1 hi;have r2:=A8c hv1 hj;obtain⟨K1,K2,e1,e2,e3,e4,e5⟩:=A6j hv1 hc1.wf hi hj;simp only[↓Sh.dn,sx,Nat.reduceEqDiff,f6,f7,A1a,hlt,decide_true];refine(A9a (by kernel_rfl)).2 ?_;simp only[↓Sh.dn,sx,reduceCtorEq,Nat.reduceEqDiff,f0,f6,f7,i1,i2,r1,r2,A7n,e1,e2,wi,wj];exact kk (b-(i+1)) _ _ (by omega) ⟨i+1,j-1,swp l1 i j,rfl,by omega,by omega,by omega,hm.swap (by omega) (by omega) (by omega) (by omega),e3,hc1.trans e4,by simp only[sx,reduceCtorEq,f0],by simp only[sx,Nat.reduceEqDiff],by simp only[sx]⟩
 ·simp only[↓Sh.dn,sx,Nat.reduceEqDiff,f6,f7,A1a,hlt,decide_false,hres]
  exact⟨l1,hm,hv1,hc1⟩
def B4m(H:AH)(p:Nat)(c:Int):Prop:=Arr H p 0 1 [.int .i64 c]
theorem B1i{i j p:Nat}{c:Int}(hv:A6e H g k n l)(hp:B4m H p c)(hpg:p≠g)(hw:Wf H)(hi:i<l.length)(hj:j<l.length):
  Sh.Call Tryz.prog (knows 7) 162 [.slice (some ⟨g,0,some k⟩) l.length cap,.int .i64 (i:Int),.int .i64 (j:Int),.pointer (some ⟨p,0,some 0⟩)] H
   (fun r H'=>∃i' j':Nat,r=.tuple #[.int .i64 (i':Int),.int .i64 (j':Int)]∧(i'=i∧j'=j∨i'=j∧j'=i)∧A6e H' g k n l∧∃c',B4m H' p c'∧Chg (fun y=>y=p) H H'):=by
 refine A3a rfl Tryz.func162 rfl (Nat.le_of_ble_eq_true rfl) ?_;have hres:Tryz.f162.results.toList=[.tmp 8,.tmp 9]:=rfl;have i1:=A1d (g:=g) (k:=k) (cap:=cap) (m:=l.length) (i:=i) (j:=.i64) hi;have i2:=A1d (g:=g) (k:=k) (cap:=cap) (m:=l.length) (i:=j) (j:=.i64) hj;have r1:=A8c hv hi;have r2:=A8c hv hj;have r3:H.cell ⟨p,0,some 0⟩=some (.int .i64 c):=hp.cell 0;simp only[↓Sh.dn,sx];refine(A9a (by kernel_rfl)).2 ?_;simp only[↓Sh.dn,sx,reduceCtorEq,Nat.reduceEqDiff,i1,i2,r1,r2];refine⟨_,_,A8d,?_⟩;cases hc:A4c l[j] l[i] with
 | true=>
  obtain⟨K1,e1,e2,e3,e4⟩:=hp.write hw (i:=0) (vs:=[.int .i64 (IntKind.wrap .i64 (c+1))]) (by simp);have st:A0e Tryz.prog 3 H (.int .i64 (IntKind.wrap .i64 (c+1))) (.pointer (some ⟨p,0,some 0⟩))=H.write ⟨p,0,some 0⟩ [.int .i64 (IntKind.wrap .i64 (c+1))]:=A0c A2c rfl;simp only[↓Sh.dn,sx,Nat.reduceEqDiff,r3,st,e1,hres];exact⟨j,i,rfl,.inr ⟨rfl,rfl⟩,hv.chg hw e4 (fun h=>hpg h.symm),_,e2,e4⟩
 | false=>
  simp only[↓Sh.dn,sx,Nat.reduceEqDiff,hres];exact⟨i,j,rfl,.inl ⟨rfl,rfl⟩,hv,c,hp,Chg.refl hw⟩
theorem B3h{i j m p:Nat}{c:Int}(hv:A6e H g k n l)(hp:B4m H p c)(hpg:p≠g)(hw:Wf H)(hi:i<l.length)(hj:j<l.length)(hm:m<l.length):
  Sh.Call Tryz.prog (knows 7) 157 [.slice (some ⟨g,0,some k⟩) l.length cap,.int .i64 (i:Int),.int .i64 (j:Int),.int .i64 (m:Int),.pointer (some ⟨p,0,some 0⟩)] H
   (fun r H'=>∃q:Nat,r=.int .i64 (q:Int)∧(q=i∨q=j∨q=m)∧A6e H' g k n l∧∃c',B4m H' p c'∧Chg (fun y=>y=p) H H'):=by
 refine A3a rfl Tryz.func157 rfl (Nat.le_of_ble_eq_true rfl) ?_;have hres:Tryz.f157.results.toList=[.tmp 10]:=rfl;obtain⟨r,H1,hd1,i1,j1,rfl,h1,hv1,c1,hp1,hc1⟩:=B1i (cap:=cap) hv hp hpg hw hi hj;have hi1:i1<l.length:=by omega
 have hj1:j1<l.length:=by omega
 obtain⟨r,H2,hd2,j2,m2,rfl,h2,hv2,c2,hp2,hc2⟩:=B1i (cap:=cap) hv1 hp1 hpg hc1.wf hj1 hm;have hj2:j2<l.length:=by omega
 obtain⟨r,H3,hd3,i3,j3,rfl,h3,hv3,c3,hp3,hc3⟩:=B1i (cap:=cap) hv2 hp2 hpg hc2.wf hi1 hj2;simp only[↓Sh.dn,sx,reduceCtorEq,Nat.reduceEqDiff];refine⟨_,_,hd1,?_⟩;simp only[sx];refine⟨_,_,hd2,?_⟩;simp only[sx];refine⟨_,_,hd3,?_⟩;simp only[sx,hres];exact⟨j3,rfl,by omega,hv3,c3,hp3,(hc1.trans hc2).trans hc3⟩
theorem A4r{i p:Nat}{c:Int}(hv:A6e H g k n l)(hp:B4m H p c)(hpg:p≠g)(hw:Wf H)(hl:l.length≤16000000)(h0:1≤i)(hi:i+1<l.length):
  Sh.Call Tryz.prog (knows 7) 156 [.slice (some ⟨g,0,some k⟩) l.length cap,.int .i64 (i:Int),.pointer (some ⟨p,0,some 0⟩)] H
   (fun r H'=>∃q:Nat,r=.int .i64 (q:Int)∧(i≤q+1∧q≤i+1)∧A6e H' g k n l∧∃c',B4m H' p c'∧Chg (fun y=>y=p) H H'):=by
 refine A3a rfl Tryz.func156 rfl (Nat.le_of_ble_eq_true rfl) ?_;have hres:Tryz.f156.results.toList=[.tmp 6]:=rfl;have w1:IntKind.wrap .i64 ((i:Int)-1)=((i-1:Nat):Int):=by rw[wrap64 (by omega) (by omega)];omega
 have w2:IntKind.wrap .i64 ((i:Int)+1)=((i+1:Nat):Int):=by rw[wrap64 (by omega) (by omega)];rfl
 obtain⟨r,H1,hd1,q,rfl,h1,hv1,c1,hp1,hc1⟩:=B3h (cap:=cap) (i:=i-1) (j:=i) (m:=i+1) hv hp hpg hw (by omega) (by omega) hi;simp only[↓Sh.dn,sx,reduceCtorEq,Nat.reduceEqDiff,w1,w2];refine⟨_,_,hd1,?_⟩;simp only[sx,hres];exact⟨q,rfl,by omega,by omega,hv1,c1,hp1,hc1⟩
theorem B2o(hv:A6e H g k n l)(hw:Wf H)(hl:l.length≤16000000)(hab:a+12<b)(hb:b≤l.length):
  Sh.Call Tryz.prog (knows 7) 137 [.slice (some ⟨g,0,some k⟩) l.length cap,.int .i64 (a:Int),.int .i64 (b:Int)] H
   (fun r H'=>∃q:Nat,∃h:Int,r=.tuple #[.int .i64 (q:Int),.int .i64 h]∧a≤q∧q<b∧A6e H' g k n l∧Kept H H'):=by
 refine A3a rfl Tryz.func137 rfl (Nat.le_of_ble_eq_true rfl) ?_;have hres:Tryz.f137.results.toList=[.tmp 6,.tmp 7]:=rfl;have al:anew Tryz.prog 3 H (.int .i64 0)=some (.pointer (some ⟨H.next,0,some 0⟩),(H.new 1 [.int .i64 0]).2):=A0t A2c rfl;have w0:IntKind.wrap .i64 ((b:Int)-(a:Int))=((b-a:Nat):Int):=by rw[wrap64 (by omega) (by omega)];omega
 have hq4:(Int.tdiv ((b-a:Nat):Int) 4)=(((b-a)/4:Nat):Int):=by rw[Int.tdiv_eq_ediv_of_nonneg (by omega)];rfl
 have A27:∀{t:TypeId} {c:Bool} {x y:Int},y≠0→abin Tryz.prog t c .quo (.int .i64 x) (.int .i64 y)=some (.int .i64 (IntKind.wrap .i64 (x.tdiv y))):=by
  intro t c x y h;simp only[abin,A5f,cond_true,aint,A9p,show (y == 0)=false from by simpa using h,cond_false]
 have wq:IntKind.wrap .i64 (((b-a)/4:Nat):Int)=(((b-a)/4:Nat):Int):=wrap64 (by omega) (by omega);have m1:IntKind.wrap .i64 ((((b-a)/4:Nat):Int)*1)=(((b-a)/4*1:Nat):Int):=by rw[wrap64 (by omega) (by omega)];omega
 have m2:IntKind.wrap .i64 ((((b-a)/4:Nat):Int)*2)=(((b-a)/4*2:Nat):Int):=by rw[wrap64 (by omega) (by omega)];omega
 have m3:IntKind.wrap .i64 ((((b-a)/4:Nat):Int)*3)=(((b-a)/4*3:Nat):Int):=by rw[wrap64 (by omega) (by omega)];omega
 have p1:IntKind.wrap .i64 ((a:Int)+(((b-a)/4*1:Nat):Int))=((a+(b-a)/4*1:Nat):Int):=by rw[wrap64 (by omega) (by omega)];rfl
 have p2:IntKind.wrap .i64 ((a:Int)+(((b-a)/4*2:Nat):Int))=((a+(b-a)/4*2:Nat):Int):=by rw[wrap64 (by omega) (by omega)];rfl
 have p3:IntKind.wrap .i64 ((a:Int)+(((b-a)/4*3:Nat):Int))=((a+(b-a)/4*3:Nat):Int):=by rw[wrap64 (by omega) (by omega)];rfl
 have d8:decide ((8:Int)≤((b-a:Nat):Int))=true:=by simp;omega
 have hk1:Kept H (H.new 1 [.int .i64 0]).2:=Kept.new hw 1 _;have hv0:A6e (H.new 1 [.int .i64 0]).2 g k n l:=hv.kept hw hk1;have hp0:B4m (H.new 1 [.int .i64 0]).2 H.next 0:=(Obj.new (H:=H) 1 [.int .i64 0]).arr;have hpg:H.next≠g:=by have:=hv.lt hw;omega
 simp only[↓Sh.dn,sx,Nat.reduceEqDiff,al,w0,A27 (show (4:Int)≠0 by decide),hq4,wq,m1,m2,m3,p1,p2,p3,d8];generalize (H.new 1 [.int .i64 0]).2=H1 at hk1 hv0 hp0 ⊢;by_cases h50:50≤b-a
 ·have d50:decide ((50:Int)≤((b-a:Nat):Int))=true:=by simp;omega
  obtain⟨r,H2,hd2,q1,rfl,h1,hv1,c1,hp1,hc1⟩:=A4r (cap:=cap) (i:=a+(b-a)/4*1) hv0 hp0 hpg hk1.wf hl (by omega) (by omega);obtain⟨r,H3,hd3,q2,rfl,h2,hv2,c2,hp2,hc2⟩:=A4r (cap:=cap) (i:=a+(b-a)/4*2) hv1 hp1 hpg hc1.wf hl (by omega) (by omega);obtain⟨r,H4,hd4,q3,rfl,h3,hv3,c3,hp3,hc3⟩:=A4r (cap:=cap) (i:=a+(b-a)/4*3) hv2 hp2 hpg hc2.wf hl (by omega) (by omega);obtain⟨r,H5,hd5,q4,rfl,h4,hv4,c4,hp4,hc4⟩:=B3h (cap:=cap) (i:=q1) (j:=q2) (m:=q3) hv3 hp3 hpg hc3.wf (by omega) (by omega) (by omega);have r9:H5.cell ⟨H.next,0,some 0⟩=some (.int .i64 c4):=hp4.cell 0;have hkk:Kept H H5:=(((hk1.chg.trans hc1).trans hc2).trans hc3 |>.trans hc4).kept fun x hx=>by omega
  simp only[↓Sh.dn,sx,reduceCtorEq,Nat.reduceEqDiff,d50];refine⟨_,_,hd2,?_⟩
  try simp only[↓Sh.dn,sx,Nat.reduceBEq,reduceCtorEq,Nat.reduceEqDiff]
  refine⟨_,_,hd3,?_⟩
  try simp only[↓Sh.dn,sx,Nat.reduceBEq,reduceCtorEq,Nat.reduceEqDiff]
  refine⟨_,_,hd4,?_⟩
  try simp only[↓Sh.dn,sx,Nat.reduceBEq,reduceCtorEq,Nat.reduceEqDiff]
  refine⟨_,_,hd5,?_⟩;simp only[sx,r9];by_cases z0:c4=0
  ·simp only[↓Sh.dn,sx,Nat.reduceEqDiff,z0,decide_true,hres]
   exact⟨q4,1,rfl,by omega,by omega,hv4,hkk⟩
  ·simp only[↓Sh.dn,sx,Nat.reduceEqDiff,z0,decide_false]
   by_cases z1:c4=12
   ·simp only[↓Sh.dn,sx,Nat.reduceEqDiff,z1,decide_true,hres]
    exact⟨q4,2,rfl,by omega,by omega,hv4,hkk⟩
   ·simp only[↓Sh.dn,sx,Nat.reduceEqDiff,z1,decide_false,hres]
    exact⟨q4,0,rfl,by omega,by omega,hv4,hkk⟩
 ·have d50:decide ((50:Int)≤((b-a:Nat):Int))=false:=by simp;omega
  obtain⟨r,H5,hd5,q4,rfl,h4,hv4,c4,hp4,hc4⟩:=B3h (cap:=cap) (i:=a+(b-a)/4*1) (j:=a+(b-a)/4*2) (m:=a+(b-a)/4*3) hv0 hp0 hpg hk1.wf (by omega) (by omega) (by omega);have r9:H5.cell ⟨H.next,0,some 0⟩=some (.int .i64 c4):=hp4.cell 0;have hkk:Kept H H5:=(hk1.chg.trans hc4).kept fun x hx=>by omega
  simp only[↓Sh.dn,sx,reduceCtorEq,Nat.reduceEqDiff,d50];refine⟨_,_,hd5,?_⟩;simp only[sx,r9];by_cases z0:c4=0
  ·simp only[↓Sh.dn,sx,Nat.reduceEqDiff,z0,decide_true,hres]
   exact⟨q4,1,rfl,by omega,by omega,hv4,hkk⟩
  ·simp only[↓Sh.dn,sx,Nat.reduceEqDiff,z0,decide_false]
   by_cases z1:c4=12
   ·simp only[↓Sh.dn,sx,Nat.reduceEqDiff,z1,decide_true,hres]
    exact⟨q4,2,rfl,by omega,by omega,hv4,hkk⟩
   ·simp only[↓Sh.dn,sx,Nat.reduceEqDiff,z1,decide_false,hres]
    exact⟨q4,0,rfl,by omega,by omega,hv4,hkk⟩
end
def C3h(x r:Nat):Prop:=x<2^r∧(x≠0→2^r≤2*x)∧r≤40
theorem C11{x y u c:Nat}(hx:x<2^32)(hc:c≤16)(hy:y=x/2^c)(hy0:y≠0)(h1:y<2^u)(h2:y≠0→2^u≤2*y)(h3:u≤8):C3h x (c+u):=by
  subst hy;have e:2^(c+u)=2^u*2^c:=by rw[Nat.add_comm,Nat.pow_add]
  have hp:0<2^c:=Nat.two_pow_pos c;refine⟨?_,fun _=>?_,by omega⟩
  · rw[e]
    exact Nat.lt_mul_of_div_lt h1 hp |> fun h=>by rw[Nat.mul_comm];rw[Nat.mul_comm]at h;first|exact h|(rw[Nat.mul_comm];exact h)
  · rw[e]
    have h4:=h2 hy0;have h5:x/2^c*2^c≤x:=Nat.div_mul_le_self x (2^c)
    calc 2 ^ u * 2 ^ c ≤ 2 * (x / 2 ^ c) * 2 ^ c := Nat.mul_le_mul_right _ h4
      _=2*(x/2^c*2^c):=Nat.mul_assoc _ _ _
      _≤2*x:=Nat.mul_le_mul_left 2 h5
theorem D2c{H:AH}{x:Nat}(hx:x<16777216):Sh.Call Tryz.prog (knows 7) 144 [.int .u64 (x:Int)] H (fun r H'=>H'=H∧∃c:Nat,r=.int .i64 (c:Int)∧C3h x c):=by
 refine A3a rfl Tryz.func144 rfl (Nat.le_of_ble_eq_true rfl) ?_;have hres:Tryz.f144.results.toList=[.tmp 2]:=rfl;have d1:decide ((4294967296:Int)≤(x:Int))=false:=by simp;omega
 simp only[↓Sh.dn,sx,reduceCtorEq,d1];by_cases h2:65536≤x
 ·have d2:decide ((65536:Int)≤(x:Int))=true:=by simp;omega
  have s2:A5m false .u64 (x:Int) 16=some (.int .u64 ((x/2^16:Nat):Int)):=C48 (c:=16) (by omega);have hlt:x/2^16<256:=by omega
  have d3:decide ((256:Int)≤((x/2^16:Nat):Int))=false:=by simp;omega
  have w8:IntKind.wrap .u8 ((x/2^16:Nat):Int)=((x/2^16:Nat):Int):=C12 (by omega) (by omega);have w16:IntKind.wrap .i64 ((0:Int)+16)=16:=wrap64 (by omega) (by omega);simp only[↓Sh.dn,sx,reduceCtorEq,Nat.reduceEqDiff,d2,C4u,s2,d3,w16,w8];refine B5v Tryz.underlying9 (by kernel_rfl) hlt fun u u1 u2 u3=>?_;have wu:IntKind.wrap .i64 (u:Int)=(u:Int):=wrap64 (by omega) (by omega);have ws:IntKind.wrap .i64 ((16:Int)+(u:Int))=((16+u:Nat):Int):=by rw[wrap64 (by omega) (by omega)];rfl
  simp only[sx,wu,ws,hres];exact⟨16+u,rfl,C11 (by omega) (by omega) rfl (by omega) u1 u2 u3⟩
 ·have d2:decide ((65536:Int)≤(x:Int))=false:=by simp;omega
  by_cases h3:256≤x
  ·have d3:decide ((256:Int)≤(x:Int))=true:=by simp;omega
   have s2:A5m false .u64 (x:Int) 8=some (.int .u64 ((x/2^8:Nat):Int)):=C48 (c:=8) (by omega);have hlt:x/2^8<256:=by omega
   have w8:IntKind.wrap .u8 ((x/2^8:Nat):Int)=((x/2^8:Nat):Int):=C12 (by omega) (by omega);have w16:IntKind.wrap .i64 ((0:Int)+8)=8:=wrap64 (by omega) (by omega);simp only[↓Sh.dn,sx,reduceCtorEq,Nat.reduceEqDiff,d2,d3,C4u,s2,w16,w8];refine B5v Tryz.underlying9 (by kernel_rfl) hlt fun u u1 u2 u3=>?_;have wu:IntKind.wrap .i64 (u:Int)=(u:Int):=wrap64 (by omega) (by omega);have ws:IntKind.wrap .i64 ((8:Int)+(u:Int))=((8+u:Nat):Int):=by rw[wrap64 (by omega) (by omega)];rfl
   simp only[sx,wu,ws,hres];exact⟨8+u,rfl,C11 (by omega) (by omega) rfl (by omega) u1 u2 u3⟩
  ·have d3:decide ((256:Int)≤(x:Int))=false:=by simp;omega
   have w8:IntKind.wrap .u8 (x:Int)=(x:Int):=C12 (by omega) (by omega);simp only[↓Sh.dn,sx,reduceCtorEq,Nat.reduceEqDiff,d2,d3,w8];refine B5v Tryz.underlying9 (by kernel_rfl) (by omega) fun u u1 u2 u3=>?_;have wu:IntKind.wrap .i64 (u:Int)=(u:Int):=wrap64 (by omega) (by omega);have ws:IntKind.wrap .i64 ((0:Int)+(u:Int))=(u:Int):=by rw[wrap64 (by omega) (by omega)];omega
   simp only[sx,wu,ws,hres];exact⟨u,rfl,u1,u2,by omega⟩
theorem bitsLen{H:AH}{x:Nat}(hx:x<16777216):Sh.Call Tryz.prog (knows 7) 132 [.int .u64 (x:Int)] H (fun r H'=>H'=H∧∃c:Nat,r=.int .i64 (c:Int)∧C3h x c):=by
 refine A3a rfl Tryz.func132 rfl (Nat.le_of_ble_eq_true rfl) ?_;have hres:Tryz.f132.results.toList=[.tmp 2]:=rfl;obtain⟨r,H1,hd,rfl,c,rfl,hc⟩:=D2c (H:=H) hx;simp only[↓Sh.dn,sx,reduceCtorEq];refine⟨_,_,hd,?_⟩;simp only[sx,hres];exact⟨c,rfl,hc⟩
theorem C9x{H:AH}{x:Nat}(hx:x<16777216):Sh.Call Tryz.prog (knows 7) 154 [.int .i64 (x:Int)] H (fun r H'=>H'=H∧∃c:Nat,r=.int .u64 ((2^c:Nat):Int)∧C3h x c):=by
 refine A3a rfl Tryz.func154 rfl (Nat.le_of_ble_eq_true rfl) ?_;have hres:Tryz.f154.results.toList=[.tmp 2]:=rfl;have w:IntKind.wrap .u64 (x:Int)=(x:Int):=A1w (by omega) (by omega);obtain⟨r,H1,hd,rfl,c,rfl,hc⟩:=bitsLen (H:=H) hx;simp only[↓Sh.dn,sx,reduceCtorEq,w];refine⟨_,_,hd,?_⟩;have sh:A5m true .u64 1 (c:Int)=some (.int .u64 ((2^c:Nat):Int)):=shl_one (by have:=hc.2.2;omega);simp only[sx,C24,sh,hres];exact⟨c,rfl,hc⟩
section
variable {H:AH} {g k n cap a b:Nat} {l:List Int}
theorem C2u{p:Nat}{z:Int}(hp:Arr H p 0 1 [.int .u64 z])(hw:Wf H):
  Sh.Call Tryz.prog (knows 7) 155 [.pointer (some ⟨p,0,some 0⟩)] H (fun r H'=>∃z',r=.int .u64 z'∧Arr H' p 0 1 [.int .u64 z']∧Chg (fun y=>y=p) H H'):=by
 refine A3a rfl Tryz.func155 rfl (Nat.le_of_ble_eq_true rfl) ?_;have hres:Tryz.f155.results.toList=[.tmp 2]:=rfl;have st:∀(H:AH) (z:Int),A0e Tryz.prog 182 H (.int .u64 z) (.pointer (some ⟨p,0,some 0⟩))=H.write ⟨p,0,some 0⟩ [.int .u64 z]:=fun H z=>A0c A71 rfl;obtain⟨s1,h1⟩:∃s,A5m true .u64 z 13=some (.int .u64 s):=A61 (b:=13);have r0:H.cell ⟨p,0,some 0⟩=some (.int .u64 z):=hp.cell 0;obtain⟨K1,e1,a1,n1,c1⟩:=hp.write hw (i:=0) (vs:=[.int .u64 (IntKind.wrap .u64 ((BitVec.ofInt IntKind.u64.bits z) ^^^ (BitVec.ofInt IntKind.u64.bits s1)).toNat)]) (by simp);simp only[↓Sh.dn,sx];refine(A9a (by kernel_rfl)).2 ?_;simp only[↓Sh.dn,sx,reduceCtorEq,Nat.reduceEqDiff,r0,C24,h1,C8s,st,e1];generalize IntKind.wrap .u64 ((BitVec.ofInt IntKind.u64.bits z) ^^^ (BitVec.ofInt IntKind.u64.bits s1)).toNat=z1 at a1 e1 ⊢;obtain⟨s2,h2⟩:∃s,A5m false .u64 z1 7=some (.int .u64 s):=A61 (b:=7);have r1:K1.cell ⟨p,0,some 0⟩=some (.int .u64 z1):=a1.cell 0;obtain⟨K2,e2,a2,n2,c2⟩:=a1.write c1.wf (i:=0) (vs:=[.int .u64 (IntKind.wrap .u64 ((BitVec.ofInt IntKind.u64.bits z1) ^^^ (BitVec.ofInt IntKind.u64.bits s2)).toNat)]) (by simp[setCells]);refine(A9a (by kernel_rfl)).2 ?_;simp only[↓Sh.dn,sx,reduceCtorEq,Nat.reduceEqDiff,r1,C4u,h2,C8s,st,e2];generalize IntKind.wrap .u64 ((BitVec.ofInt IntKind.u64.bits z1) ^^^ (BitVec.ofInt IntKind.u64.bits s2)).toNat=z2 at a2 e2 ⊢;obtain⟨s3,h3⟩:∃s,A5m true .u64 z2 17=some (.int .u64 s):=A61 (b:=17);have r2:K2.cell ⟨p,0,some 0⟩=some (.int .u64 z2):=a2.cell 0;obtain⟨K3,e3,a3,n3,c3⟩:=a2.write c2.wf (i:=0) (vs:=[.int .u64 (IntKind.wrap .u64 ((BitVec.ofInt IntKind.u64.bits z2) ^^^ (BitVec.ofInt IntKind.u64.bits s3)).toNat)]) (by simp[setCells]);refine(A9a (by kernel_rfl)).2 ?_;simp only[↓Sh.dn,sx,reduceCtorEq,Nat.reduceEqDiff,r2,C24,h3,C8s,st,e3];generalize IntKind.wrap .u64 ((BitVec.ofInt IntKind.u64.bits z2) ^^^ (BitVec.ofInt IntKind.u64.bits s3)).toNat=z3 at a3 e3 ⊢;have r3:K3.cell ⟨p,0,some 0⟩=some (.int .u64 z3):=a3.cell 0;simp only[sx,r3,hres];exact⟨z3,rfl,a3,(c1.trans c2).trans c3⟩
theorem B9b(hv:A6e H g k n l)(hw:Wf H)(hl:l.length≤16000000)(hab:a+12<b)(hb:b≤l.length):
  Sh.Call Tryz.prog (knows 7) 136 [.slice (some ⟨g,0,some k⟩) l.length cap,.int .i64 (a:Int),.int .i64 (b:Int)] H
   (fun r H'=>∃l',Mix a b l l'∧A6e H' g k n l'∧Chg (fun y=>y=g) H H'):=by
 refine A3a rfl Tryz.func136 rfl (Nat.le_of_ble_eq_true rfl) ?_;have hres:Tryz.f136.results.toList=[]:=rfl;have w0:IntKind.wrap .i64 ((b:Int)-(a:Int))=((b-a:Nat):Int):=by rw[wrap64 (by omega) (by omega)];omega
 have d8:decide ((8:Int)≤((b-a:Nat):Int))=true:=by simp;omega
 have wu:IntKind.wrap .u64 ((b-a:Nat):Int)=((b-a:Nat):Int):=A1w (by omega) (by omega);have al:anew Tryz.prog 182 H (.int .u64 0)=some (.pointer (some ⟨H.next,0,some 0⟩),(H.new 1 [.int .u64 0]).2):=A0t A71 rfl;have st:∀(H:AH) (p:Addr) (z:Int),A0e Tryz.prog 182 H (.int .u64 z) (.pointer (some p))=H.write p [.int .u64 z]:=fun H p z=>A0c A71 rfl;have ov:(H.new 1 [.int .u64 0]).2.write ⟨H.next,0,some 0⟩ [.int .u64 ((b-a:Nat):Int)]=some (H.new 1 [.int .u64 ((b-a:Nat):Int)]).2:=A3m rfl;have hq4:(Int.tdiv ((b-a:Nat):Int) 4)=(((b-a)/4:Nat):Int):=by rw[Int.tdiv_eq_ediv_of_nonneg (by omega)];rfl
 have wq:IntKind.wrap .i64 (((b-a)/4:Nat):Int)=(((b-a)/4:Nat):Int):=wrap64 (by omega) (by omega);have m2:IntKind.wrap .i64 ((((b-a)/4:Nat):Int)*2)=(((b-a)/4*2:Nat):Int):=by rw[wrap64 (by omega) (by omega)];omega
 have p2:IntKind.wrap .i64 ((a:Int)+(((b-a)/4*2:Nat):Int))=((a+(b-a)/4*2:Nat):Int):=by rw[wrap64 (by omega) (by omega)];rfl
 have q1:IntKind.wrap .i64 (((a+(b-a)/4*2:Nat):Int)-1)=((a+(b-a)/4*2-1:Nat):Int):=by rw[wrap64 (by omega) (by omega)];omega
 have q2:IntKind.wrap .i64 (((a+(b-a)/4*2:Nat):Int)+1)=((a+(b-a)/4*2+1:Nat):Int):=by rw[wrap64 (by omega) (by omega)];rfl
 have hk1:Kept H (H.new 1 [.int .u64 ((b-a:Nat):Int)]).2:=Kept.new hw 1 _;have hp0:Arr (H.new 1 [.int .u64 ((b-a:Nat):Int)]).2 H.next 0 1 [.int .u64 ((b-a:Nat):Int)]:=(Obj.new (H:=H) 1 _).arr;have hv0:=hv.kept hw hk1;have hpg:H.next≠g:=by have:=hv.lt hw;omega
 simp only[↓Sh.dn,sx,Nat.reduceEqDiff,w0,d8,wu,al,st,ov];generalize (H.new 1 [.int .u64 ((b-a:Nat):Int)]).2=H1 at hk1 hv0 hp0 ⊢;obtain⟨r,H2,hd,rfl,c,rfl,hc1,hc2,hc3⟩:=C9x (H:=H1) (x:=b-a) (by omega);refine⟨_,_,hd,?_⟩;simp only[sx,A27 (show (4:Int)≠0 by decide),hq4,wq,m2,p2,q1];have hc2':=hc2 (by omega);have hpos:0<2^c:=Nat.two_pow_pos c;have wc:IntKind.wrap .u64 (((2^c:Nat):Int)-1)=((2^c-1:Nat):Int):=by
  rw[A1w (by omega) (by omega)];omega
 generalize hM:2^c=M at *
 refine A5b (fun m F H' => ∃ (i : Nat) (z : Int) (l1 : List Int), m = a + (b - a) / 4 * 2 + 2 - i ∧ a + (b - a) / 4 * 2 - 1 ≤ i ∧ Mix a b l l1 ∧ A6e H' g k n l1 ∧ Arr H' H.next 0 1 [.int .u64 z] ∧ Chg (fun y => y = g ∨ y = H.next) H2 H' ∧
     F.get 0 = some (.slice (some ⟨g, 0, some k⟩) l.length cap) ∧ F.get 1 = some (.int .i64 (a : Int)) ∧ F.get 6 = some (.int .i64 ((b-a : Nat) : Int)) ∧ F.get 7 = some (.pointer (some ⟨H.next, 0, some 0⟩)) ∧ F.get 8 = some (.int .u64 (M : Int)) ∧ F.get 9 = some (.int .i64 (i : Int))) (m := a + (b-a)/4*2 + 2-(a + (b-a)/4*2-1))
   ⟨a + (b-a)/4*2-1, _, l, rfl, by omega, .refl l, hv0, hp0, Chg.refl hk1.wf, by simp only[sx, reduceCtorEq], by simp only[sx, Nat.reduceEqDiff], by simp only[sx, Nat.reduceEqDiff], by simp only[sx, Nat.reduceEqDiff], by simp only[sx, Nat.reduceEqDiff], by simp only[sx]⟩ ?_
 rintro m F H' ⟨i,z,l1,rfl,hai,hm,hv1,hp1,hch,f0,f1,f6,f7,f8,f9⟩ kk;have hlen:=hm.length;by_cases hlt:i≤a+(b-a)/4*2+1
 ·have dl:decide ((i:Int)≤((a+(b-a)/4*2+1:Nat):Int))=true:=by simp;omega
  obtain⟨r,H3,hd3,z',rfl,hp2,hc3'⟩:=C2u hp1 hch.wf;have hv2:=hv1.chg hch.wf hc3' (fun h=>hpg h.symm);obtain⟨o,ho1,ho2⟩:=and_le z' (m:=M-1) (by omega);have wo:IntKind.wrap .i64 (o:Int)=(o:Int):=wrap64 (by omega) (by omega);simp only[↓Sh.dn,sx,Nat.reduceEqDiff,f1,f6,f9,A27 (show (4:Int)≠0 by decide),hq4,wq,m2,p2,q2,dl,f7];refine⟨_,_,hd3,?_⟩;simp only[sx,f8,wc,b_and,ho2,wo];have key:∀(o':Nat) (F':Fr),o'<b-a→F'.get 0=some (.slice (some ⟨g,0,some k⟩) l.length cap)→F'.get 1=some (.int .i64 (a:Int))→F'.get 6=some (.int .i64 ((b-a:Nat):Int))→F'.get 7=some (.pointer (some ⟨H.next,0,some 0⟩))→F'.get 8=some (.int .u64 (M:Int))→F'.get 9=some (.int .i64 (i:Int))→F'.get 10=some (.int .i64 (o':Int))→True:=fun _ _ _ _ _ _ _ _ _ _=>trivial;have wi:IntKind.wrap .i64 ((i:Int)+1)=((i+1:Nat):Int):=by rw[wrap64 (by omega) (by omega)];rfl
  by_cases hbig:b-a≤o
  ·have db:decide (((b-a:Nat):Int)≤(o:Int))=true:=by simp;omega
   have ws:IntKind.wrap .i64 ((o:Int)-((b-a:Nat):Int))=((o-(b-a):Nat):Int):=by rw[wrap64 (by omega) (by omega)];omega
   have wa:IntKind.wrap .i64 ((a:Int)+((o-(b-a):Nat):Int))=((a+(o-(b-a)):Nat):Int):=by rw[wrap64 (by omega) (by omega)];rfl
   have hi:i<l1.length:=by omega
   have hj:a+(o-(b-a))<l1.length:=by omega
   have i1:=A1d (g:=g) (k:=k) (cap:=cap) (m:=l.length) (i:=i) (j:=.i64) (by omega);have i2:=A1d (g:=g) (k:=k) (cap:=cap) (m:=l.length) (i:=a+(o-(b-a))) (j:=.i64) (by omega);have r1:=A8c hv2 hi;have r2:=A8c hv2 hj;obtain⟨K1,K2,e1,e2,e3,e4,e5⟩:=A6j hv2 hc3'.wf hi hj;simp only[↓Sh.dn,sx,Nat.reduceEqDiff,db,f6,ws];refine(A9a (by kernel_rfl)).2 ?_;simp only[↓Sh.dn,sx,reduceCtorEq,Nat.reduceEqDiff,f0,f1,f9,wa,i1,i2,r1,r2,A7n,e1,e2,wi];exact kk (a+(b-a)/4*2+2-(i+1)) _ _ (by omega) ⟨i+1,z',swp l1 i (a+(o-(b-a))),rfl,by omega,hm.swap (by omega) (by omega) (by omega) (by omega),e3,hp2.keep (e4.old _ (hp2.lt hc3'.wf) hpg),(hch.trans (hc3'.weak fun _ h=>.inr h)).trans (e4.weak fun _ h=>.inl h),by simp only[sx,reduceCtorEq,f0],by simp only[sx,Nat.reduceEqDiff,f1],by simp only[sx,Nat.reduceEqDiff,f6],by simp only[sx,Nat.reduceEqDiff,f7],by simp only[sx,Nat.reduceEqDiff,f8],by simp only[sx]⟩
  ·have db:decide (((b-a:Nat):Int)≤(o:Int))=false:=by simp;omega
   have wa:IntKind.wrap .i64 ((a:Int)+(o:Int))=((a+o:Nat):Int):=by rw[wrap64 (by omega) (by omega)];rfl
   have hi:i<l1.length:=by omega
   have hj:a+o<l1.length:=by omega
   have i1:=A1d (g:=g) (k:=k) (cap:=cap) (m:=l.length) (i:=i) (j:=.i64) (by omega);have i2:=A1d (g:=g) (k:=k) (cap:=cap) (m:=l.length) (i:=a+o) (j:=.i64) (by omega);have r1:=A8c hv2 hi;have r2:=A8c hv2 hj;obtain⟨K1,K2,e1,e2,e3,e4,e5⟩:=A6j hv2 hc3'.wf hi hj;simp only[↓Sh.dn,sx,db];refine(A9a (by kernel_rfl)).2 ?_;simp only[↓Sh.dn,sx,reduceCtorEq,Nat.reduceEqDiff,f0,f1,f9,wa,i1,i2,r1,r2,A7n,e1,e2,wi];exact kk (a+(b-a)/4*2+2-(i+1)) _ _ (by omega) ⟨i+1,z',swp l1 i (a+o),rfl,by omega,hm.swap (by omega) (by omega) (by omega) (by omega),e3,hp2.keep (e4.old _ (hp2.lt hc3'.wf) hpg),(hch.trans (hc3'.weak fun _ h=>.inr h)).trans (e4.weak fun _ h=>.inl h),by simp only[sx,reduceCtorEq,f0],by simp only[sx,Nat.reduceEqDiff,f1],by simp only[sx,Nat.reduceEqDiff,f6],by simp only[sx,Nat.reduceEqDiff,f7],by simp only[sx,Nat.reduceEqDiff,f8],by simp only[sx]⟩
 ·have dl:decide ((i:Int)≤((a+(b-a)/4*2+1:Nat):Int))=false:=by simp;omega
  simp only[↓Sh.dn,sx,Nat.reduceEqDiff,f1,f6,f9,A27 (show (4:Int)≠0 by decide),hq4,wq,m2,p2,q2,dl,hres];refine⟨l1,hm,hv1,?_⟩;exact⟨fun x hx hxg=>(hch.old x (Nat.lt_of_lt_of_le hx hk1.next) (fun h=>by rcases h with h|h;exact hxg h;omega)).trans (hk1.old x hx),Nat.le_trans hk1.next hch.next,hch.wf⟩
end
def A97(l:List Int)(f lo hi:Nat):Prop:=∀(q r:Nat) x y,lo≤r→(q=2*r+1∨q=2*r+2)→q<hi→l[f+r]?=some x→l[f+q]?=some y→A4c x y=false
theorem C7r{l:List Int}{f hi:Nat}(h:A97 l f 0 hi)(hl:f+hi≤l.length):∀(q:Nat) x y,q<hi→l[f]?=some x→l[f+q]?=some y→A4c x y=false:=by
 intro q
 induction q using Nat.strongRecOn with
 | _ q ih=>
  intro x y hq hx hy;by_cases h0:q=0
  ·subst h0
   rw[Nat.add_zero,hx]at hy;rw[←Option.some.inj hy];exact intTO.irrefl x
  ·have hr:(q-1)/2<q:=by omega
   have hz:l[f+(q-1)/2]?=some (l[f+(q-1)/2]'(by omega)):=List.getElem?_eq_getElem (by omega);exact intTO.le_trans (h q ((q-1)/2) _ _ (Nat.zero_le _) (by omega) hq hz hy) (ih _ hr x _ (by omega) hx hz)
section
variable {H:AH} {g k n cap:Nat} {l:List Int}
theorem B4i{lo hi f:Nat}(hv:A6e H g k n l)(hw:Wf H)(hl:l.length≤16000000)(hlo:lo≤hi)(hb:f+hi≤l.length)(hh:A97 l f (lo+1) hi):
  Sh.Call Tryz.prog (knows 7) 153 [.slice (some ⟨g,0,some k⟩) l.length cap,.int .i64 (lo:Int),.int .i64 (hi:Int),.int .i64 (f:Int)] H
   (fun r H'=>∃l',Mix (f+lo) (f+hi) l l'∧A97 l' f lo hi∧A6e H' g k n l'∧Chg (fun y=>y=g) H H'):=by
 refine A3a rfl Tryz.func153 rfl (Nat.le_of_ble_eq_true rfl) ?_;have hres:Tryz.f153.results.toList=[]:=rfl;have hTO:=intTO;simp only[↓Sh.dn,sx]
 refine A5b (fun m F H' => ∃ (r : Nat) (l1 : List Int), m = hi - r ∧ lo ≤ r ∧ r ≤ hi ∧ Mix (f + lo) (f + hi) l l1 ∧
     (∀(q p : Nat) x y, lo ≤ p → p ≠ r → (q = 2*p + 1 ∨ q = 2*p + 2) → q<hi → l1[f + p]? = some x → l1[f + q]? = some y → A4c x y = false) ∧
     (∀(q p : Nat) x y, lo ≤ p → (r = 2*p + 1 ∨ r = 2*p + 2) → (q = 2*r + 1 ∨ q = 2*r + 2) → q<hi → l1[f + p]? = some x → l1[f + q]? = some y → A4c x y = false) ∧
     A6e H' g k n l1 ∧ Chg (fun y => y = g) H H' ∧
     F.get 0 = some (.slice (some ⟨g, 0, some k⟩) l.length cap) ∧ F.get 2 = some (.int .i64 (hi : Int)) ∧ F.get 3 = some (.int .i64 (f : Int)) ∧ F.get 8 = some (.int .i64 (r : Int))) (m := hi-lo)
   ⟨lo, l, rfl, Nat.le_refl _, hlo, .refl l, fun q p x y h1 h2 h3 h4 hx hy => hh q p x y (by omega) h3 h4 hx hy, fun q p x y h1 h2 => by omega, hv, Chg.refl hw, by simp only[sx, reduceCtorEq], by simp only[sx, Nat.reduceEqDiff], by simp only[sx, Nat.reduceEqDiff], by simp only[sx]⟩ ?_
 rintro m F H' ⟨r,l1,rfl,hr,hrh,hm,hA,hB,hv1,hc1,f0,f2,f3,f8⟩ kk;have hlen:=hm.length;have w1:IntKind.wrap .i64 ((2:Int)*(r:Int))=((2*r:Nat):Int):=by rw[wrap64 (by omega) (by omega)];rfl
 have w2:IntKind.wrap .i64 (((2*r:Nat):Int)+1)=((2*r+1:Nat):Int):=by rw[wrap64 (by omega) (by omega)];rfl
 have w3:IntKind.wrap .i64 (((2*r+1:Nat):Int)+1)=((2*r+1+1:Nat):Int):=by rw[wrap64 (by omega) (by omega)];rfl
 simp only[↓Sh.dn,sx,Nat.reduceEqDiff,f2,f8,w1,w2];by_cases hend:hi≤2*r+1
 ·have d:decide ((hi:Int)≤((2*r+1:Nat):Int))=true:=by simp;omega
  simp only[↓Sh.dn,sx,Nat.reduceBEq,d,hres];exact⟨l1,hm,fun q p x y h1 h2 h3 hx hy=>hA q p x y h1 (by omega) h2 h3 hx hy,hv1,hc1⟩
 have d:decide ((hi:Int)≤((2*r+1:Nat):Int))=false:=by simp;omega
 simp only[↓Sh.dn,sx,d];have jr:f+r<l1.length:=by omega
 have ir:=A1d (g:=g) (k:=k) (cap:=cap) (m:=l.length) (i:=f+r) (j:=.i64) (by omega);have gr:=A8c hv1 jr;have qr:l1[f+r]?=some l1[f+r]:=List.getElem?_eq_getElem jr;have wfr:IntKind.wrap .i64 ((f:Int)+(r:Int))=((f+r:Nat):Int):=by rw[wrap64 (by omega) (by omega)];rfl
 refine B7e (fun F' H2=>H2=H'∧F'.get 0=some (.slice (some ⟨g,0,some k⟩) l.length cap)∧F'.get 2=some (.int .i64 (hi:Int))∧F'.get 3=some (.int .i64 (f:Int))∧F'.get 8=some (.int .i64 (r:Int))∧F'.get 9=some (.int .i64 ((2*r+1:Nat):Int))∧
  ∃bb:Bool,F'.get 36=some (.bool bb)∧(bb=true→2*r+2<hi∧∀y z,l1[f+(2*r+1)]?=some y→l1[f+(2*r+2)]?=some z→A4c y z=true)∧(bb=false→2*r+2<hi→∀y z,l1[f+(2*r+1)]?=some y→l1[f+(2*r+2)]?=some z→A4c y z=false)) rfl ?_ ?_
 ·refine(A9a (by kernel_rfl)).2 ?_
  by_cases h2:2*r+1+1<hi
  ·have j1:f+(2*r+1)<l1.length:=by omega
   have j2:f+(2*r+1)+1<l1.length:=by omega
   have i1:=A1d (g:=g) (k:=k) (cap:=cap) (m:=l.length) (i:=f+(2*r+1)) (j:=.i64) (by omega);have i2:=A1d (g:=g) (k:=k) (cap:=cap) (m:=l.length) (i:=f+(2*r+1)+1) (j:=.i64) (by omega);have g1:=A8c hv1 j1;have g2:=A8c hv1 j2;have u1:IntKind.wrap .i64 ((f:Int)+((2*r+1:Nat):Int))=((f+(2*r+1):Nat):Int):=by rw[wrap64 (by omega) (by omega)];rfl
   have u2:IntKind.wrap .i64 (((f+(2*r+1):Nat):Int)+1)=((f+(2*r+1)+1:Nat):Int):=by rw[wrap64 (by omega) (by omega)];rfl
   simp only[↓Sh.dn,sx,reduceCtorEq,Nat.reduceEqDiff,f0,f2,f3,w3,A1a,h2,decide_true,u1,u2,i1,i2,g1,g2];refine⟨_,_,A8d,?_⟩;simp only[sx,f8];have e1:l1[f+(2*r+1)]?=some l1[f+(2*r+1)]:=List.getElem?_eq_getElem j1;have e2:l1[f+(2*r+2)]?=some l1[f+(2*r+1)+1]:=List.getElem?_eq_getElem j2;refine⟨fun hb y z hy hz=>?_,fun hb y z hy hz=>?_⟩
   ·rw[e1]at hy;rw[e2]at hz;rw[←Option.some.inj hy,←Option.some.inj hz];exact hb
   ·rw[e1]at hy;rw[e2]at hz;rw[←Option.some.inj hy,←Option.some.inj hz];exact hb
  ·simp only[↓Sh.dn,sx,reduceCtorEq,Nat.reduceEqDiff,f0,f2,f3,f8,w3,A1a,h2,decide_false]
   try (refine fun h=>by omega)
 rintro F1 H2 ⟨rfl,x0,x2,x3,x8,x9,bb,x36,hb1,hb2⟩;refine B1o (fun F' H3=>H3=H2∧F'.get 0=some (.slice (some ⟨g,0,some k⟩) l.length cap)∧F'.get 2=some (.int .i64 (hi:Int))∧F'.get 3=some (.int .i64 (f:Int))∧F'.get 8=some (.int .i64 (r:Int))∧
  ∃c:Nat,F'.get 9=some (.int .i64 (c:Int))∧(c=2*r+1∨c=2*r+2)∧c<hi∧(∀(q:Nat) y z,(q=2*r+1∨q=2*r+2)→q<hi→l1[f+c]?=some y→l1[f+q]?=some z→A4c y z=false)) rfl ?_ ?_
 ·cases bb with
  | true=>
   obtain⟨h1,h2⟩:=hb1 rfl;simp only[↓Sh.dn,sx,reduceCtorEq,Nat.reduceEqDiff,x0,x2,x3,x8,x9,x36,w3];refine⟨2*r+2,rfl,.inr rfl,h1,fun q y z hq hqh hy hz=>?_⟩;rcases hq with rfl|rfl
   ·exact hTO.asymm (h2 z y hz hy)
   ·rw[hy]at hz;rw[←Option.some.inj hz];exact hTO.irrefl y
  | false=>
   simp only[↓Sh.dn,sx,x0,x2,x3,x8,x9,x36];refine⟨2*r+1,rfl,.inl rfl,by omega,fun q y z hq hqh hy hz=>?_⟩;rcases hq with rfl|rfl
   ·rw[hy]at hz;rw[←Option.some.inj hz];exact hTO.irrefl y
   ·exact hb2 rfl hqh y z hy hz
 rintro F' H3 ⟨rfl,g0,g2,g3,g8,c,g9,hc,hch,hmax⟩;have jc:f+c<l1.length:=by omega
 have ic:=A1d (g:=g) (k:=k) (cap:=cap) (m:=l.length) (i:=f+c) (j:=.i64) (by omega);have gc:=A8c hv1 jc;have qc:l1[f+c]?=some l1[f+c]:=List.getElem?_eq_getElem jc;have wfc:IntKind.wrap .i64 ((f:Int)+(c:Int))=((f+c:Nat):Int):=by rw[wrap64 (by omega) (by omega)];rfl
 simp only[↓Sh.dn];refine(A9a (by kernel_rfl)).2 ?_;simp only[↓Sh.dn,sx,reduceCtorEq,Nat.reduceEqDiff,g0,g3,g8,g9,wfr,wfc,ir,ic,gr,gc];refine⟨_,_,A8d,?_⟩;cases hlt:A4c l1[f+r] l1[f+c] with
 | false=>
  simp only[↓Sh.dn,sx,hres];refine⟨l1,hm,fun q p x y h1 h2 h3 hx hy=>?_,hv1,hc1⟩;by_cases hp:p=r
  ·subst hp
   rw[qr]at hx;rw[←Option.some.inj hx];exact hTO.le_trans (hmax q _ _ h2 h3 qc hy) hlt
  ·exact hA q p x y h1 hp h2 h3 hx hy
 | true=>
  obtain⟨K1,K2,e1,e2,e3,e4,e5⟩:=A6j hv1 hc1.wf jr jc;simp only[↓Sh.dn,sx];refine(A9a (by kernel_rfl)).2 ?_;simp only[↓Sh.dn,sx,reduceCtorEq,Nat.reduceEqDiff,g0,g3,g8,g9,wfr,wfc,ir,ic,gr,gc,A7n,e1,e2];refine kk (hi-c) _ _ (by omega) ⟨c,swp l1 (f+r) (f+c),rfl,by omega,by omega,hm.swap (by omega) (by omega) (by omega) (by omega),fun q p x y h1 h2 h3 h4 hx hy=>?_,fun q p x y h1 h2 h3 h4 hx hy=>?_,e3,hc1.trans e4,by simp only[sx,reduceCtorEq,g0],by simp only[sx,Nat.reduceEqDiff,g2],by simp only[sx,Nat.reduceEqDiff,g3],by simp only[sx]⟩
  ·rw[swp_get jr jc]at hx hy
   by_cases hp:p=r
   ·subst hp
    rw[if_neg (by omega),if_pos rfl,qc]at hx;rw[←Option.some.inj hx];by_cases hq:q=c
    ·subst hq
     rw[if_pos rfl,qr]at hy;rw[←Option.some.inj hy];exact hTO.asymm hlt
    ·rw[if_neg (by omega),if_neg (by omega)]at hy
     exact hmax q _ _ h3 h4 qc hy
   ·rw[if_neg (by omega),if_neg (by omega)]at hx
    by_cases hq:q=r
    ·subst hq
     rw[if_neg (by omega),if_pos rfl]at hy;exact hB c p x _ h1 (by omega) hc hch hx hy
    ·by_cases hq2:q=c
     ·omega
     ·rw[if_neg (by omega),if_neg (by omega)]at hy
      exact hA q p x y h1 hp h3 h4 hx hy
  ·have hpr:p=r:=by omega
   subst hpr;rw[swp_get jr jc]at hx hy;rw[if_neg (by omega),if_pos rfl,qc]at hx;rw[if_neg (by omega),if_neg (by omega)]at hy;rw[←Option.some.inj hx];exact hA q c _ _ (by omega) (by omega) h3 h4 qc hy
theorem C5g{a b:Nat}(hv:A6e H g k n l)(hw:Wf H)(hl:l.length≤16000000)(hab:a<b)(hb:b≤l.length):
  Sh.Call Tryz.prog (knows 7) 135 [.slice (some ⟨g,0,some k⟩) l.length cap,.int .i64 (a:Int),.int .i64 (b:Int)] H
   (fun r H'=>∃l',Mix a b l l'∧Srt A4c a b l'∧A6e H' g k n l'∧Chg (fun y=>y=g) H H'):=by
 refine A3a rfl Tryz.func135 rfl (Nat.le_of_ble_eq_true rfl) ?_;have hres:Tryz.f135.results.toList=[]:=rfl;have hTO:=intTO;obtain⟨hi,rfl⟩:∃hi,b=a+hi:=⟨b-a,by omega⟩
 have w0:IntKind.wrap .i64 (((a+hi:Nat):Int)-(a:Int))=(hi:Int):=by rw[wrap64 (by omega) (by omega)];omega
 have w1:IntKind.wrap .i64 ((hi:Int)-1)=((hi-1:Nat):Int):=by rw[wrap64 (by omega) (by omega)];omega
 have hq2:(Int.tdiv ((hi-1:Nat):Int) 2)=(((hi-1)/2:Nat):Int):=by rw[Int.tdiv_eq_ediv_of_nonneg (by omega)];rfl
 have wq:IntKind.wrap .i64 (((hi-1)/2:Nat):Int)=(((hi-1)/2:Nat):Int):=wrap64 (by omega) (by omega);simp only[↓Sh.dn,sx,Nat.reduceEqDiff,w0,w1,A27 (show (2:Int)≠0 by decide),hq2,wq]
 refine A02 (fun F' H2 => ∃ l1 : List Int, Mix a (a + hi) l l1 ∧ A97 l1 a 0 hi ∧ A6e H2 g k n l1 ∧ Chg (fun y => y = g) H H2 ∧
     F'.get 0 = some (.slice (some ⟨g, 0, some k⟩) l.length cap) ∧ F'.get 6 = some (.int .i64 (a : Int)) ∧ F'.get 7 = some (.int .i64 0) ∧ F'.get 8 = some (.int .i64 (hi : Int))) (by rfl) ?_ ?_
 ·refine A5b (fun m F H' => ∃ l1 : List Int, m ≤ (hi - 1) / 2 + 1 ∧ Mix a (a + hi) l l1 ∧ A97 l1 a m hi ∧ A6e H' g k n l1 ∧ Chg (fun y => y = g) H H' ∧
    F.get 0 = some (.slice (some ⟨g, 0, some k⟩) l.length cap) ∧ F.get 6 = some (.int .i64 (a : Int)) ∧ F.get 7 = some (.int .i64 0) ∧ F.get 8 = some (.int .i64 (hi : Int)) ∧ F.get 9 = some (.int .i64 ((m : Int)-1))) (m := (hi-1)/2 + 1)
    ⟨l, Nat.le_refl _, .refl l, fun q r x y h1 h2 h3 => by omega, hv, Chg.refl hw, by simp only[sx, reduceCtorEq], by simp only[sx, Nat.reduceEqDiff], by simp only[sx, Nat.reduceEqDiff], by simp only[sx, Nat.reduceEqDiff], by simp only[sx];congr 2;omega⟩ ?_
  rintro m F H' ⟨l1, hmh, hm, hh, hv1, hc1, f0, f6, f7, f8, f9⟩ kk;have hlen := hm.length;cases m with
  | zero =>
    have d : decide ((0 : Int) ≤ ((0 : Nat) : Int)-1) = false := by simp
    simp only[↓Sh.dn, sx, reduceCtorEq, Nat.reduceEqDiff, f9, d, f0, f6, f7, f8];exact⟨l1, hm, hh, hv1, hc1⟩
  | succ m =>
    have e9 : ((m + 1 : Nat) : Int)-1 = (m : Int) := by omega
    rw[e9]at f9;have d : decide ((0 : Int) ≤ (m : Int)) = true := by simp
    obtain⟨r, H2, hd, l2, hm2, hh2, hv2, hc2⟩ := B4i (cap := cap) (lo := m) (hi := hi) (f := a) hv1 hc1.wf (by omega) (by omega) (by omega) hh;have wm : IntKind.wrap .i64 ((m : Int)-1) = (m : Int)-1 := wrap64 (by omega) (by omega);rw[hlen]at hd;simp only[↓Sh.dn, sx, reduceCtorEq, Nat.reduceEqDiff, f9, d, f0, f6, f8];refine⟨_, _, hd, ?_⟩;simp only[wm];exact kk m _ _ (by omega) ⟨l2, by omega, hm.trans (hm2.wide (by omega) (Nat.le_refl _)), hh2, hv2, hc1.trans hc2, by simp only[sx, reduceCtorEq, f0], by simp only[sx, Nat.reduceEqDiff, f6], by simp only[sx, Nat.reduceEqDiff, f7], by simp only[sx, Nat.reduceEqDiff, f8], by simp only[sx]⟩
 rintro F1 H1 ⟨l1,hm1,hh1,hv1,hc1,f0,f6,f7,f8⟩;have hlen1:=hm1.length;simp only[↓Sh.dn,sx,f8,w1]
 refine A5b (fun m F H' => ∃ l2 : List Int, m ≤ hi ∧ Mix a (a + hi) l l2 ∧ A97 l2 a 0 m ∧ (∀ (p q : Nat) x y, p < q → m ≤ q → q < hi → l2[a + p]? = some x → l2[a + q]? = some y → A4c y x = false) ∧ A6e H' g k n l2 ∧ Chg (fun y => y = g) H H' ∧
     F.get 0 = some (.slice (some ⟨g, 0, some k⟩) l.length cap) ∧ F.get 6 = some (.int .i64 (a : Int)) ∧ F.get 7 = some (.int .i64 0) ∧ F.get 10 = some (.int .i64 ((m : Int)-1))) (m := hi)
   ⟨l1, Nat.le_refl _, hm1, hh1, fun p q x y h1 h2 h3 => by omega, hv1, hc1, by simp only[sx, reduceCtorEq, f0], by simp only[sx, Nat.reduceEqDiff, f6], by simp only[sx, Nat.reduceEqDiff, f7], by simp only[sx];congr 2;omega⟩ ?_
 rintro m F H' ⟨l2,hmh,hm,hh,hT,hv2,hc2,f0,f6,f7,f10⟩ kk;have hlen:=hm.length;cases m with
 | zero=>
  have d:decide ((0:Int)≤((0:Nat):Int)-1)=false:=by simp
  simp only[↓Sh.dn,sx,f10,d,hres];refine⟨l2,hm,fun i j x y h1 h2 h3 hx hy=>?_,hv2,hc2⟩;by_cases hij:i=j
  ·subst hij
   rw[hx]at hy;rw[←Option.some.inj hy];exact hTO.irrefl x
  ·exact hT (i-a) (j-a) x y (by omega) (Nat.zero_le _) (by omega) (by rw[show a+(i-a)=i by omega];exact hx) (by rw[show a+(j-a)=j by omega];exact hy)
 | succ m=>
  have e10:((m+1:Nat):Int)-1=(m:Int):=by omega
  rw[e10]at f10;have d:decide ((0:Int)≤(m:Int))=true:=by simp
  have ja:a<l2.length:=by omega
  have jm:a+m<l2.length:=by omega
  have i1:=A1d (g:=g) (k:=k) (cap:=cap) (m:=l.length) (i:=a) (j:=.i64) (by omega);have i2:=A1d (g:=g) (k:=k) (cap:=cap) (m:=l.length) (i:=a+m) (j:=.i64) (by omega);have g1:=A8c hv2 ja;have g2:=A8c hv2 jm;have wam:IntKind.wrap .i64 ((a:Int)+(m:Int))=((a+m:Nat):Int):=by rw[wrap64 (by omega) (by omega)];rfl
  have wm:IntKind.wrap .i64 ((m:Int)-1)=(m:Int)-1:=wrap64 (by omega) (by omega);obtain⟨K1,K2,e1,e2,e3,e4,e5⟩:=A6j hv2 hc2.wf ja jm;have hsw:Mix a (a+(m+1)) l2 (swp l2 a (a+m)):=(Mix.refl l2).swap (by omega) (by omega) (by omega) (by omega);obtain⟨r,H3,hd,l3,hm3,hh3,hv3,hc3⟩:=B4i (cap:=cap) (lo:=0) (hi:=m) (f:=a) e3 e4.wf (by rw[A5q];omega) (by omega) (by rw[A5q];omega) (fun q p x y h1 h2 h3 hx hy=>by
   rw[swp_get ja jm,if_neg (by omega),if_neg (by omega)]at hx hy;exact hh q p x y (Nat.zero_le _) h2 (by omega) hx hy)
  rw[A5q,hlen]at hd;have hmix:Mix a (a+(m+1)) l2 l3:=hsw.trans (hm3.wide (by omega) (by omega));have hl3:=hmix.length;simp only[↓Sh.dn,sx,f10,d];refine(A9a (by kernel_rfl)).2 ?_;simp only[↓Sh.dn,sx,reduceCtorEq,Nat.reduceEqDiff,f0,f6,f7,f10,wam,i1,i2,g1,g2,A7n,e1,e2];refine⟨_,_,hd,?_⟩;simp only[wm];have qa:l2[a]?=some l2[a]:=List.getElem?_eq_getElem ja;refine kk m _ _ (by omega) ⟨l3,by omega,hm.trans (hmix.wide (Nat.le_refl _) (by omega)),hh3,fun p q x y h1 h2 h3 hx hy=>?_,hv3,(hc2.trans e4).trans hc3,by simp only[sx,reduceCtorEq,f0],by simp only[sx,Nat.reduceEqDiff,f6],by simp only[sx,Nat.reduceEqDiff,f7],by simp only[sx]⟩;by_cases hq:q=m
  ·subst hq
   have hy':l3[a+q]?=some l2[a]:=by
    rw[hm3.out (.inr (by omega)),swp_get ja jm,if_pos rfl,qa]
   rw[hy']at hy;rw[←Option.some.inj hy];refine hmix.all (p:=fun x=>A4c l2[a] x=false) (by omega) (fun i z hi1 hi2 hz=>?_) (a+p) x (by omega) (by omega) hx;exact C7r hh (by omega) (i-a) _ _ (by omega) qa (by rw[show a+(i-a)=i by omega];exact hz)
  ·have hyq:l2[a+q]?=some y:=by rw[←hmix.out (.inr (by omega))];exact hy
   by_cases hp:p≤m
   ·refine hmix.all (p:=fun x=>A4c y x=false) (by omega) (fun i z hi1 hi2 hz=>?_) (a+p) x (by omega) (by omega) hx
    exact hT (i-a) q z y (by omega) (by omega) h3 (by rw[show a+(i-a)=i by omega];exact hz) hyq
   ·have hxp:l2[a+p]?=some x:=by rw[←hmix.out (.inr (by omega))];exact hx
    exact hT p q x y h1 (by omega) h3 hxp hyq
end
section
variable {H:AH} {g k n cap a b:Nat} {l:List Int}
theorem B40{p:Nat}(hv:A6e H g k n l)(hw:Wf H)(hl:l.length≤16000000)(hap:a≤p)(hpb:p<b)(hb:b≤l.length):
  Sh.Call Tryz.prog (knows 7) 142 [.slice (some ⟨g,0,some k⟩) l.length cap,.int .i64 (a:Int),.int .i64 (b:Int),.int .i64 (p:Int)] H
   (fun r H'=>∃(m:Nat) (al:Bool),r=.tuple #[.int .i64 (m:Int),.bool al]∧a≤m∧m<b∧∃l':List Int,Mix a b l l'∧∃y,l'[m]?=some y∧(∀(q:Nat) x,a≤q→q<m→l'[q]?=some x→A4c x y=true)∧(∀(q:Nat) x,m<q→q<b→l'[q]?=some x→A4c x y=false)∧A6e H' g k n l'∧Chg (fun y=>y=g) H H'):=by
 refine A3a rfl Tryz.func142 rfl (Nat.le_of_ble_eq_true rfl) ?_;have hTO:=intTO;have ja:a<l.length:=by omega
 have jp:p<l.length:=by omega
 have ia:=A1d (g:=g) (k:=k) (cap:=cap) (m:=l.length) (i:=a) (j:=.i64) ja;have ip:=A1d (g:=g) (k:=k) (cap:=cap) (m:=l.length) (i:=p) (j:=.i64) jp;have xa:=A8c hv ja;have xp:=A8c hv jp;have wa:IntKind.wrap .i64 ((a:Int)+1)=((a+1:Nat):Int):=by rw[wrap64 (by omega) (by omega)];rfl
 have wb:IntKind.wrap .i64 ((b:Int)-1)=((b-1:Nat):Int):=by rw[wrap64 (by omega) (by omega)];omega
 obtain⟨K1,H1,e1,e2,hv1,hc1,e5⟩:=A6j hv hw ja jp;have hm1:Mix a b l (swp l a p):=(Mix.refl l).swap (by omega) (by omega) (by omega) (by omega);simp only[↓Sh.dn,sx];refine(A9a (by kernel_rfl)).2 ?_;simp only[↓Sh.dn,sx,reduceCtorEq,Nat.reduceEqDiff,ia,ip,xa,xp,A7n,e1,e2,wa,wb];have hpa:(swp l a p)[a]?=some l[p]:=by
  rw[swp_get ja jp];by_cases h:a=p
  ·rw[if_pos h,List.getElem?_eq_getElem ja];simp only[h]
  ·rw[if_neg h,if_pos rfl];exact List.getElem?_eq_getElem jp
 generalize l[p]=pv at hpa xp e1;generalize hL0:swp l a p=l1 at hpa hm1 hv1;have hlen:=hm1.length;have xa:H1.cell ⟨g,a,some k⟩=some (Value.int .i64 pv):=hv1.cell (by simp[hpa]);have hres:Tryz.f142.results.toList=[.tmp 8,.tmp 9]:=rfl
 have last : ∀ (l1 : List Int) (H' : AH) (i j : Nat), Mix a b l l1 → l1[a]? = some pv → a ≤ j → j < b → (∀ (q : Nat) x, a + 1 ≤ q → q ≤ j → l1[q]? = some x → A4c x pv = true) → (∀ (q : Nat) x, j < q → q < b → l1[q]? = some x → A4c x pv = false) →
     Mix a b l (swp l1 j a) ∧ (swp l1 j a)[j]? = some pv ∧ (∀(q : Nat) x, a ≤ q → q<j → (swp l1 j a)[q]? = some x → A4c x pv = true) ∧ (∀(q : Nat) x, j<q → q<b → (swp l1 j a)[q]? = some x → A4c x pv = false) := by
   intro l1 H' i j hm hp hj hjb h1 h2;have hlen := hm.length;have jj : j<l1.length := by omega
   have ja : a<l1.length := by omega
   refine⟨hm.swap (by omega) (by omega) (by omega) (by omega), ?_, fun q x hq1 hq2 hx => ?_, fun q x hq1 hq2 hx => ?_⟩
   · rw[swp_get jj ja]
     by_cases h : j = a
     · rw[if_pos h, h];exact hp
     · rw[if_neg h, if_pos rfl];exact hp
   · rw[swp_get jj ja]at hx
     by_cases h : q = a
     · rw[if_pos h]at hx;exact h1 j x (by omega) (Nat.le_refl _) hx
     · rw[if_neg h, if_neg (by omega)]at hx;exact h1 q x (by omega) (by omega) hx
   · rw[swp_get jj ja, if_neg (by omega), if_neg (by omega)]at hx
     exact h2 q x hq1 hq2 hx
 obtain⟨MF1,hMF1⟩:∃M:Fr→AH→Prop,M=fun F' H9=>H1=H9∧∃v:Nat,F'.get 0=some (.slice (some ⟨g,0,some k⟩) l.length cap)∧F'.get 1=some (.int .i64 (a:Int))∧F'.get 10=some (.int .i64 ((v:Nat):Int))∧F'.get 11=some (.int .i64 (((b-1):Nat):Int))∧(a+1)≤v∧v≤(b-1)+1∧(∀(q:Nat) x,(a+1)≤q→q<v→l1[q]?=some x→A4c x pv=true)∧(v≤(b-1)→∀x,l1[v]?=some x→A4c x pv=false):=⟨_,rfl⟩
 refine A02 MF1 (by rfl) ?_ ?_
 ·refine A5b (fun m F' H9 => H1 = H9 ∧ ∃ v : Nat, m = (b - 1) + 1 - v ∧ F'.get 0 = some (.slice (some ⟨g, 0, some k⟩) l.length cap) ∧ F'.get 1 = some (.int .i64 (a : Int)) ∧ F'.get 10 = some (.int .i64 ((v : Nat) : Int)) ∧ F'.get 11 = some (.int .i64 (((b - 1) : Nat) : Int)) ∧ (a + 1) ≤ v ∧ v ≤ (b - 1) + 1 ∧ (∀ (q : Nat) x, (a + 1) ≤ q → q < v → l1[q]? = some x → A4c x pv = true)) (m := (b - 1) + 1 - (a + 1))
    ⟨rfl, (a + 1), rfl, by simp only[sx, reduceCtorEq], by simp only[sx, Nat.reduceEqDiff], by simp only[sx, Nat.reduceEqDiff], by simp only[sx], by omega, by omega, fun q x h1 h2 => by omega⟩ ?_
  rintro m F' H9 ⟨rfl, v, rfl, g0, g1, gi, gj, h1, h2, h3⟩ k2;simp only[↓Sh.dn];refine(A9a (by kernel_rfl)).2 ?_;by_cases hle : v ≤ (b-1)
  · have jv : v<l1.length := by omega
    have iv := A1d (g := g) (k := k) (cap := cap) (m := l.length) (i := v) (j := .i64) (by omega);have xv := A8c hv1 jv;have qv : l1[v]? = some l1[v] := List.getElem?_eq_getElem jv;have wv : IntKind.wrap .i64 ((v : Int) + 1) = ((v + 1 : Nat) : Int) := by rw[wrap64 (by omega) (by omega)];rfl
    simp only[↓Sh.dn, sx, reduceCtorEq, Nat.reduceEqDiff, g0, g1, gi, gj, A0k, hle, decide_true, iv, ia, xv, xa];refine⟨_, _, A8d, ?_⟩;cases hlt : A4c l1[v] pv with
    | true =>
      simp only[↓Sh.dn, sx, Nat.reduceEqDiff, gi, wv];refine k2 ((b-1) + 1-(v + 1)) _ _ (by omega) ⟨rfl, v + 1, rfl, by simp only[sx, reduceCtorEq, g0], by simp only[sx, Nat.reduceEqDiff, g1], by simp only[sx], by simp only[sx, Nat.reduceEqDiff, gj], by omega, by omega, fun q x hq1 hq2 hx => ?_⟩
      · by_cases hq : q = v
        · subst hq;rw[qv]at hx;rw[←Option.some.inj hx];exact hlt
        · exact h3 q x (by omega) (by omega) hx
    | false =>
      simp only[↓Sh.dn, sx, reduceCtorEq, Nat.reduceEqDiff, hMF1, g0, g1, gi, gj];exact⟨v, rfl, h1, h2, h3, fun _ x hx => by rw[qv]at hx;rw[←Option.some.inj hx];exact hlt⟩
  · simp only[↓Sh.dn, sx, reduceCtorEq, Nat.reduceEqDiff, hMF1, g0, g1, gi, gj, A0k, hle, decide_false]
    exact⟨v, rfl, h1, h2, h3, fun h => absurd h hle⟩
 intro F1 H9 h9;rw[hMF1]at h9;obtain⟨rfl,i1,u0,u1,ui,uj,u5,u6,u7,u8⟩:=h9;simp only[↓Sh.dn];obtain⟨MF2,hMF2⟩:∃M:Fr→AH→Prop,M=fun F' H9=>H1=H9∧∃v:Nat,F'.get 0=some (.slice (some ⟨g,0,some k⟩) l.length cap)∧F'.get 1=some (.int .i64 (a:Int))∧F'.get 10=some (.int .i64 ((i1:Nat):Int))∧F'.get 11=some (.int .i64 ((v:Nat):Int))∧i1≤v+1∧v≤(b-1)∧(∀(q:Nat) x,v<q→q≤(b-1)→l1[q]?=some x→A4c x pv=false)∧(i1≤v→∀x,l1[v]?=some x→A4c x pv=true):=⟨_,rfl⟩
 refine A02 MF2 (by rfl) ?_ ?_
 ·refine A5b (fun m F' H9 => H1 = H9 ∧ ∃ v : Nat, m = v ∧ F'.get 0 = some (.slice (some ⟨g, 0, some k⟩) l.length cap) ∧ F'.get 1 = some (.int .i64 (a : Int)) ∧ F'.get 10 = some (.int .i64 ((i1 : Nat) : Int)) ∧ F'.get 11 = some (.int .i64 ((v : Nat) : Int)) ∧ i1 ≤ v + 1 ∧ v ≤ (b - 1) ∧ (∀ (q : Nat) x, v < q → q ≤ (b - 1) → l1[q]? = some x → A4c x pv = false)) (m := (b - 1))
    ⟨rfl, (b-1), rfl, by simp only[u0], by simp only[u1], by simp only[ui], by simp only[uj], by omega, by omega, fun q x h1 h2 => by omega⟩ ?_
  rintro v F' H9 ⟨rfl, _, rfl, g0, g1, gi, gj, h1, h2, h3⟩ k2;simp only[↓Sh.dn];refine(A9a (by kernel_rfl)).2 ?_;by_cases hle : i1 ≤ v
  · have jv : v<l1.length := by omega
    have iv := A1d (g := g) (k := k) (cap := cap) (m := l.length) (i := v) (j := .i64) (by omega);have xv := A8c hv1 jv;have qv : l1[v]? = some l1[v] := List.getElem?_eq_getElem jv;have wv : IntKind.wrap .i64 ((v : Int)-1) = ((v-1 : Nat) : Int) := by rw[wrap64 (by omega) (by omega)];omega
    simp only[↓Sh.dn, sx, reduceCtorEq, Nat.reduceEqDiff, g0, g1, gi, gj, A0k, hle, decide_true, iv, ia, xv, xa];refine⟨_, _, A8d, ?_⟩;cases hlt : A4c l1[v] pv with
    | false =>
      simp only[↓Sh.dn, sx, Nat.reduceEqDiff, gj, wv];refine k2 ((v-1)) _ _ (by omega) ⟨rfl, v-1, rfl, by simp only[sx, reduceCtorEq, g0], by simp only[sx, Nat.reduceEqDiff, g1], by simp only[sx, Nat.reduceEqDiff, gi], by simp only[sx], by omega, by omega, fun q x hq1 hq2 hx => ?_⟩
      · by_cases hq : q = v
        · subst hq;rw[qv]at hx;rw[←Option.some.inj hx];exact hlt
        · exact h3 q x (by omega) (by omega) hx
    | true =>
      simp only[↓Sh.dn, sx, reduceCtorEq, Nat.reduceEqDiff, hMF2, g0, g1, gi, gj];exact⟨v, rfl, h1, h2, h3, fun _ x hx => by rw[qv]at hx;rw[←Option.some.inj hx];exact hlt⟩
  · simp only[↓Sh.dn, sx, reduceCtorEq, Nat.reduceEqDiff, hMF2, g0, g1, gi, gj, A0k, hle, decide_false]
    exact⟨v, rfl, h1, h2, h3, fun h => absurd h hle⟩
 intro F2 H9 h9;rw[hMF2]at h9;obtain⟨rfl,j1,w0,w1,wi,wj,w5,w6,w7,w8⟩:=h9;simp only[↓Sh.dn,sx,Nat.reduceEqDiff,wi,wj,A1a];by_cases hgt:j1<i1
 ·have jj:j1<l1.length:=by omega
  have ja1:a<l1.length:=by omega
  have ij:=A1d (g:=g) (k:=k) (cap:=cap) (m:=l.length) (i:=j1) (j:=.i64) (by omega);have xj:=A8c hv1 jj;have xa':=A8c hv1 ja1;obtain⟨L1,L2,d1,d2,hv2,hc2,d5⟩:=A6j hv1 hc1.wf jj ja1;obtain⟨p1,p2,p3,p4⟩:=last l1 H1 i1 j1 hm1 hpa (by omega) (by omega) (fun q x h1 h2 hx=>u7 q x h1 (by omega) hx) (fun q x h1 h2 hx=>w7 q x h1 (by omega) hx);simp only[↓Sh.dn,sx,hgt,decide_true];refine(A9a (by kernel_rfl)).2 ?_;simp only[↓Sh.dn,sx,reduceCtorEq,Nat.reduceEqDiff,w0,w1,wj,ij,ia,xj,xa',A7n,d1,d2,hres];exact⟨j1,_,rfl,by omega,by omega,swp l1 j1 a,p1,pv,p2,p3,p4,hv2,hc1.trans hc2⟩
 simp only[↓Sh.dn,sx,hgt,decide_false];have hij:i1<j1:=by
  by_cases h:i1=j1
  ·have h1:=u8 (by omega)
   have h2:=w8 (by omega);obtain⟨x,hx⟩:∃x,l1[i1]?=some x:=⟨_,List.getElem?_eq_getElem (by omega)⟩
   have a1:=h1 x hx;have a2:=h2 x (by rw[←h];exact hx);rw[a1]at a2;cases a2
  ·omega
 have ji1:i1<l1.length:=by omega
 have jj1:j1<l1.length:=by omega
 have ii:=A1d (g:=g) (k:=k) (cap:=cap) (m:=l.length) (i:=i1) (j:=.i64) (by omega);have ij:=A1d (g:=g) (k:=k) (cap:=cap) (m:=l.length) (i:=j1) (j:=.i64) (by omega);have xi:=A8c hv1 ji1;have xj:=A8c hv1 jj1;have yi:IntKind.wrap .i64 ((i1:Int)+1)=((i1+1:Nat):Int):=by rw[wrap64 (by omega) (by omega)];rfl
 have yj:IntKind.wrap .i64 ((j1:Int)-1)=((j1-1:Nat):Int):=by rw[wrap64 (by omega) (by omega)];omega
 obtain⟨L1,L2,d1,d2,hv2,hc2,d5⟩:=A6j hv1 hc1.wf ji1 jj1;refine(A9a (by kernel_rfl)).2 ?_;simp only[↓Sh.dn,sx,reduceCtorEq,Nat.reduceEqDiff,w0,wi,wj,ii,ij,xi,xj,A7n,d1,d2,yi,yj]
 have pair : ∀ (l1 : List Int) (i0 i1 j0 j1 : Nat), l1.length = l.length → l1[a]? = some pv → a + 1 ≤ i0 → i0 ≤ i1 → i1 < j1 → j1 ≤ j0 → j0 < b → (∀ (q : Nat) x, a + 1 ≤ q → q < i1 → l1[q]? = some x → A4c x pv = true) → (∀ (q : Nat) x, j1 < q → q < b → l1[q]? = some x → A4c x pv = false) →
     (∀x, l1[i1]? = some x → A4c x pv = false) → (∀x, l1[j1]? = some x → A4c x pv = true) → (swp l1 i1 j1)[a]? = some pv ∧ (∀(q : Nat) x, a + 1 ≤ q → q<i1 + 1 → (swp l1 i1 j1)[q]? = some x → A4c x pv = true) ∧ (∀(q : Nat) x, j1-1<q → q<b → (swp l1 i1 j1)[q]? = some x → A4c x pv = false) := by
   intro l1 i0 i1 j0 j1 hlen hp h1 h2 h3 h4 h5 hA hB hi hj;have ji : i1<l1.length := by omega
   have jj : j1<l1.length := by omega
   refine⟨by rw[swp_get ji jj, if_neg (by omega), if_neg (by omega)];exact hp, fun q x hq1 hq2 hx => ?_, fun q x hq1 hq2 hx => ?_⟩
   · rw[swp_get ji jj, if_neg (by omega)]at hx
     by_cases h : q = i1
     · rw[if_pos h]at hx;exact hj x hx
     · rw[if_neg h]at hx;exact hA q x hq1 (by omega) hx
   · rw[swp_get ji jj]at hx
     by_cases h : q = j1
     · rw[if_pos h]at hx;exact hi x hx
     · rw[if_neg h, if_neg (by omega)]at hx;exact hB q x (by omega) hq2 hx
 obtain⟨s1,s2,s3⟩:=pair l1 (a+1) i1 (b-1) j1 (by omega) hpa (Nat.le_refl _) (by omega) hij (by omega) (by omega) u7 (fun q x h1 h2 hx=>w7 q x h1 (by omega) hx) (u8 (by omega)) (w8 (by omega))
 refine A5b (fun m F' H2 => ∃ (i j : Nat) (l1 : List Int), m = j + 1 - i ∧ a + 1 ≤ i ∧ i ≤ j + 1 ∧ j < b ∧ Mix a b l l1 ∧ l1[a]? = some pv ∧ (∀ (q : Nat) x, a + 1 ≤ q → q < i → l1[q]? = some x → A4c x pv = true) ∧ (∀ (q : Nat) x, j < q → q < b → l1[q]? = some x → A4c x pv = false) ∧ A6e H2 g k n l1 ∧ Chg (fun y => y = g) H H2 ∧
     F'.get 0 = some (.slice (some ⟨g, 0, some k⟩) l.length cap) ∧ F'.get 1 = some (.int .i64 (a : Int)) ∧ F'.get 10 = some (.int .i64 ((i : Nat) : Int)) ∧ F'.get 11 = some (.int .i64 ((j : Nat) : Int))) (m := j1-1 + 1-(i1 + 1))
   ⟨i1 + 1, j1-1, swp l1 i1 j1, rfl, by omega, by omega, by omega, hm1.swap (by omega) (by omega) (by omega) (by omega), s1, s2, s3, hv2, hc1.trans hc2, by simp only[sx, reduceCtorEq, w0], by simp only[sx, Nat.reduceEqDiff, w1], by simp only[sx, Nat.reduceEqDiff], by simp only[sx]⟩ ?_
 clear xa xi xj hpa hm1 hv1 hlen ji1 jj1 s1 s2 s3 hv2 d1 d2 u7 u8 w7 w8;clear hL0;rintro m F H2 ⟨i0,j0,l1,rfl,hi0,hij0,hj0,hm1,hpa,hA,hB,hv1,hc1,f0,f1,fi,fj⟩ kk;have hlen:=hm1.length;have xa:H2.cell ⟨g,a,some k⟩=some (Value.int .i64 pv):=hv1.cell (by simp[hpa]);simp only[↓Sh.dn];obtain⟨MF3,hMF3⟩:∃M:Fr→AH→Prop,M=fun F' H9=>H2=H9∧∃v:Nat,F'.get 0=some (.slice (some ⟨g,0,some k⟩) l.length cap)∧F'.get 1=some (.int .i64 (a:Int))∧F'.get 10=some (.int .i64 ((v:Nat):Int))∧F'.get 11=some (.int .i64 ((j0:Nat):Int))∧i0≤v∧v≤j0+1∧(∀(q:Nat) x,i0≤q→q<v→l1[q]?=some x→A4c x pv=true)∧(v≤j0→∀x,l1[v]?=some x→A4c x pv=false):=⟨_,rfl⟩
 refine A02 MF3 (by rfl) ?_ ?_
 ·refine A5b (fun m F' H9 => H2 = H9 ∧ ∃ v : Nat, m = j0 + 1 - v ∧ F'.get 0 = some (.slice (some ⟨g, 0, some k⟩) l.length cap) ∧ F'.get 1 = some (.int .i64 (a : Int)) ∧ F'.get 10 = some (.int .i64 ((v : Nat) : Int)) ∧ F'.get 11 = some (.int .i64 ((j0 : Nat) : Int)) ∧ i0 ≤ v ∧ v ≤ j0 + 1 ∧ (∀ (q : Nat) x, i0 ≤ q → q < v → l1[q]? = some x → A4c x pv = true)) (m := j0 + 1 - i0)
    ⟨rfl, i0, rfl, by simp only[f0], by simp only[f1], by simp only[fi], by simp only[fj], by omega, by omega, fun q x h1 h2 => by omega⟩ ?_
  rintro m F' H9 ⟨rfl, v, rfl, g0, g1, gi, gj, h1, h2, h3⟩ k2;simp only[↓Sh.dn];refine(A9a (by kernel_rfl)).2 ?_;by_cases hle : v ≤ j0
  · have jv : v<l1.length := by omega
    have iv := A1d (g := g) (k := k) (cap := cap) (m := l.length) (i := v) (j := .i64) (by omega);have xv := A8c hv1 jv;have qv : l1[v]? = some l1[v] := List.getElem?_eq_getElem jv;have wv : IntKind.wrap .i64 ((v : Int) + 1) = ((v + 1 : Nat) : Int) := by rw[wrap64 (by omega) (by omega)];rfl
    simp only[↓Sh.dn, sx, reduceCtorEq, Nat.reduceEqDiff, g0, g1, gi, gj, A0k, hle, decide_true, iv, ia, xv, xa];refine⟨_, _, A8d, ?_⟩;cases hlt : A4c l1[v] pv with
    | true =>
      simp only[↓Sh.dn, sx, Nat.reduceEqDiff, gi, wv];refine k2 (j0 + 1-(v + 1)) _ _ (by omega) ⟨rfl, v + 1, rfl, by simp only[sx, reduceCtorEq, g0], by simp only[sx, Nat.reduceEqDiff, g1], by simp only[sx], by simp only[sx, Nat.reduceEqDiff, gj], by omega, by omega, fun q x hq1 hq2 hx => ?_⟩
      · by_cases hq : q = v
        · subst hq;rw[qv]at hx;rw[←Option.some.inj hx];exact hlt
        · exact h3 q x (by omega) (by omega) hx
    | false =>
      simp only[↓Sh.dn, sx, reduceCtorEq, Nat.reduceEqDiff, hMF3, g0, g1, gi, gj];exact⟨v, rfl, h1, h2, h3, fun _ x hx => by rw[qv]at hx;rw[←Option.some.inj hx];exact hlt⟩
  · simp only[↓Sh.dn, sx, reduceCtorEq, Nat.reduceEqDiff, hMF3, g0, g1, gi, gj, A0k, hle, decide_false]
    exact⟨v, rfl, h1, h2, h3, fun h => absurd h hle⟩
 intro F3 H9 h9;rw[hMF3]at h9;obtain⟨rfl,i2,u0,u1,ui,uj,u5,u6,u7,u8⟩:=h9;simp only[↓Sh.dn];obtain⟨MF4,hMF4⟩:∃M:Fr→AH→Prop,M=fun F' H9=>H2=H9∧∃v:Nat,F'.get 0=some (.slice (some ⟨g,0,some k⟩) l.length cap)∧F'.get 1=some (.int .i64 (a:Int))∧F'.get 10=some (.int .i64 ((i2:Nat):Int))∧F'.get 11=some (.int .i64 ((v:Nat):Int))∧i2≤v+1∧v≤j0∧(∀(q:Nat) x,v<q→q≤j0→l1[q]?=some x→A4c x pv=false)∧(i2≤v→∀x,l1[v]?=some x→A4c x pv=true):=⟨_,rfl⟩
 refine A02 MF4 (by rfl) ?_ ?_
 ·refine A5b (fun m F' H9 => H2 = H9 ∧ ∃ v : Nat, m = v ∧ F'.get 0 = some (.slice (some ⟨g, 0, some k⟩) l.length cap) ∧ F'.get 1 = some (.int .i64 (a : Int)) ∧ F'.get 10 = some (.int .i64 ((i2 : Nat) : Int)) ∧ F'.get 11 = some (.int .i64 ((v : Nat) : Int)) ∧ i2 ≤ v + 1 ∧ v ≤ j0 ∧ (∀ (q : Nat) x, v < q → q ≤ j0 → l1[q]? = some x → A4c x pv = false)) (m := j0)
    ⟨rfl, j0, rfl, by simp only[u0], by simp only[u1], by simp only[ui], by simp only[uj], by omega, by omega, fun q x h1 h2 => by omega⟩ ?_
  rintro v F' H9 ⟨rfl, _, rfl, g0, g1, gi, gj, h1, h2, h3⟩ k2;simp only[↓Sh.dn];refine(A9a (by kernel_rfl)).2 ?_;by_cases hle : i2 ≤ v
  · have jv : v<l1.length := by omega
    have iv := A1d (g := g) (k := k) (cap := cap) (m := l.length) (i := v) (j := .i64) (by omega);have xv := A8c hv1 jv;have qv : l1[v]? = some l1[v] := List.getElem?_eq_getElem jv;have wv : IntKind.wrap .i64 ((v : Int)-1) = ((v-1 : Nat) : Int) := by rw[wrap64 (by omega) (by omega)];omega
    simp only[↓Sh.dn, sx, reduceCtorEq, Nat.reduceEqDiff, g0, g1, gi, gj, A0k, hle, decide_true, iv, ia, xv, xa];refine⟨_, _, A8d, ?_⟩;cases hlt : A4c l1[v] pv with
    | false =>
      simp only[↓Sh.dn, sx, Nat.reduceEqDiff, gj, wv];refine k2 ((v-1)) _ _ (by omega) ⟨rfl, v-1, rfl, by simp only[sx, reduceCtorEq, g0], by simp only[sx, Nat.reduceEqDiff, g1], by simp only[sx, Nat.reduceEqDiff, gi], by simp only[sx], by omega, by omega, fun q x hq1 hq2 hx => ?_⟩
      · by_cases hq : q = v
        · subst hq;rw[qv]at hx;rw[←Option.some.inj hx];exact hlt
        · exact h3 q x (by omega) (by omega) hx
    | true =>
      simp only[↓Sh.dn, sx, reduceCtorEq, Nat.reduceEqDiff, hMF4, g0, g1, gi, gj];exact⟨v, rfl, h1, h2, h3, fun _ x hx => by rw[qv]at hx;rw[←Option.some.inj hx];exact hlt⟩
  · simp only[↓Sh.dn, sx, reduceCtorEq, Nat.reduceEqDiff, hMF4, g0, g1, gi, gj, A0k, hle, decide_false]
    exact⟨v, rfl, h1, h2, h3, fun h => absurd h hle⟩
 intro F4 H9 h9;rw[hMF4]at h9;obtain⟨rfl,j2,w0,w1,wi,wj,w5,w6,w7,w8⟩:=h9;have hA2:∀(q:Nat) x,a+1≤q→q<i2→l1[q]?=some x→A4c x pv=true:=by
  intro q x h1 h2 hx;by_cases h:q<i0
  ·exact hA q x h1 h hx
  ·exact u7 q x (by omega) h2 hx
 have hB2:∀(q:Nat) x,j2<q→q<b→l1[q]?=some x→A4c x pv=false:=by
  intro q x h1 h2 hx;by_cases h:j0<q
  ·exact hB q x h h2 hx
  ·exact w7 q x h1 (by omega) hx
 simp only[↓Sh.dn,sx,Nat.reduceEqDiff,wi,wj,A1a];by_cases hgt:j2<i2
 ·have jj:j2<l1.length:=by omega
  have ja1:a<l1.length:=by omega
  have ij:=A1d (g:=g) (k:=k) (cap:=cap) (m:=l.length) (i:=j2) (j:=.i64) (by omega);have xj:=A8c hv1 jj;have xa':=A8c hv1 ja1;obtain⟨L3,L4,d1,d2,hv2,hc2,d5⟩:=A6j hv1 hc1.wf jj ja1;obtain⟨p1,p2,p3,p4⟩:=last l1 H1 i2 j2 hm1 hpa (by omega) (by omega) (fun q x h1 h2 hx=>hA2 q x h1 (by omega) hx) (fun q x h1 h2 hx=>hB2 q x h1 h2 hx);simp only[↓Sh.dn,sx,Nat.reduceBEq,hgt,decide_true];refine(A9a (by kernel_rfl)).2 ?_;simp only[↓Sh.dn,sx,reduceCtorEq,Nat.reduceEqDiff,w0,w1,wj,ij,ia,xj,xa',A7n,d1,d2,hres];exact⟨j2,_,rfl,by omega,by omega,swp l1 j2 a,p1,pv,p2,p3,p4,hv2,hc1.trans hc2⟩
 simp only[↓Sh.dn,sx,hgt,decide_false];have hij2:i2<j2:=by
  by_cases h:i2=j2
  ·have h1:=u8 (by omega)
   have h2:=w8 (by omega);obtain⟨x,hx⟩:∃x,l1[i2]?=some x:=⟨_,List.getElem?_eq_getElem (by omega)⟩
   have a1:=h1 x hx;have a2:=h2 x (by rw[←h];exact hx);rw[a1]at a2;cases a2
  ·omega
 have ji1:i2<l1.length:=by omega
 have jj1:j2<l1.length:=by omega
 have ii2:=A1d (g:=g) (k:=k) (cap:=cap) (m:=l.length) (i:=i2) (j:=.i64) (by omega);have ij2:=A1d (g:=g) (k:=k) (cap:=cap) (m:=l.length) (i:=j2) (j:=.i64) (by omega);have xi:=A8c hv1 ji1;have xj:=A8c hv1 jj1;have yi2:IntKind.wrap .i64 ((i2:Int)+1)=((i2+1:Nat):Int):=by rw[wrap64 (by omega) (by omega)];rfl
 have yj2:IntKind.wrap .i64 ((j2:Int)-1)=((j2-1:Nat):Int):=by rw[wrap64 (by omega) (by omega)];omega
 obtain⟨L3,L4,d1,d2,hv2,hc2,d5⟩:=A6j hv1 hc1.wf ji1 jj1;obtain⟨s1,s2,s3⟩:=pair l1 i0 i2 j0 j2 (by omega) hpa hi0 (by omega) hij2 (by omega) (by omega) hA2 hB2 (u8 (by omega)) (w8 (by omega));refine(A9a (by kernel_rfl)).2 ?_;simp only[↓Sh.dn,sx,reduceCtorEq,Nat.reduceEqDiff,w0,wi,wj,ii2,ij2,xi,xj,A7n,d1,d2,yi2,yj2];exact kk (j2-1+1-(i2+1)) _ _ (by omega) ⟨i2+1,j2-1,swp l1 i2 j2,rfl,by omega,by omega,by omega,hm1.swap (by omega) (by omega) (by omega) (by omega),s1,s2,s3,hv2,hc1.trans hc2,by simp only[sx,reduceCtorEq,w0],by simp only[sx,Nat.reduceEqDiff,w1],by simp only[sx,Nat.reduceEqDiff],by simp only[sx]⟩
theorem A57{p:Nat}(hv:A6e H g k n l)(hw:Wf H)(hl:l.length≤16000000)(hap:a≤p)(hpb:p<b)(hb:b≤l.length):
  Sh.Call Tryz.prog (knows 7) 141 [.slice (some ⟨g,0,some k⟩) l.length cap,.int .i64 (a:Int),.int .i64 (b:Int),.int .i64 (p:Int)] H
   (fun r H'=>∃m:Nat,r=.int .i64 (m:Int)∧a<m∧m≤b∧∃l':List Int,Mix a b l l'∧(∀(q:Nat) x,a≤q→q<m→l'[q]?=some x→A4c l[p] x=false)∧(∀(q:Nat) x,m≤q→q<b→l'[q]?=some x→A4c l[p] x=true)∧A6e H' g k n l'∧Chg (fun y=>y=g) H H'):=by
 refine A3a rfl Tryz.func141 rfl (Nat.le_of_ble_eq_true rfl) ?_;have hTO:=intTO;have ja:a<l.length:=by omega
 have jp:p<l.length:=by omega
 have ia:=A1d (g:=g) (k:=k) (cap:=cap) (m:=l.length) (i:=a) (j:=.i64) ja;have ip:=A1d (g:=g) (k:=k) (cap:=cap) (m:=l.length) (i:=p) (j:=.i64) jp;have xa:=A8c hv ja;have xp:=A8c hv jp;have wa:IntKind.wrap .i64 ((a:Int)+1)=((a+1:Nat):Int):=by rw[wrap64 (by omega) (by omega)];rfl
 have wb:IntKind.wrap .i64 ((b:Int)-1)=((b-1:Nat):Int):=by rw[wrap64 (by omega) (by omega)];omega
 obtain⟨K1,H1,e1,e2,hv1,hc1,e5⟩:=A6j hv hw ja jp;have hm1:Mix a b l (swp l a p):=(Mix.refl l).swap (by omega) (by omega) (by omega) (by omega);simp only[↓Sh.dn,sx];refine(A9a (by kernel_rfl)).2 ?_;simp only[↓Sh.dn,sx,reduceCtorEq,Nat.reduceEqDiff,ia,ip,xa,xp,A7n,e1,e2,wa,wb];have hpa:(swp l a p)[a]?=some l[p]:=by
  rw[swp_get ja jp];by_cases h:a=p
  ·rw[if_pos h,List.getElem?_eq_getElem ja];simp only[h]
  ·rw[if_neg h,if_pos rfl];exact List.getElem?_eq_getElem jp
 generalize l[p]=pv at hpa xp e1 ⊢;generalize hL0:swp l a p=l0 at hpa hm1 hv1;have hres:Tryz.f141.results.toList=[.tmp 8]:=rfl
 have pair : ∀ (l1 : List Int) (i1 j1 : Nat), l1.length = l.length → l1[a]? = some pv → a + 1 ≤ i1 → i1 < j1 → j1 < b → (∀ (q : Nat) x, a + 1 ≤ q → q < i1 → l1[q]? = some x → A4c pv x = false) → (∀ (q : Nat) x, j1 < q → q < b → l1[q]? = some x → A4c pv x = true) →
     (∀x, l1[i1]? = some x → A4c pv x = true) → (∀x, l1[j1]? = some x → A4c pv x = false) → (swp l1 i1 j1)[a]? = some pv ∧ (∀(q : Nat) x, a + 1 ≤ q → q<i1 + 1 → (swp l1 i1 j1)[q]? = some x → A4c pv x = false) ∧ (∀(q : Nat) x, j1-1<q → q<b → (swp l1 i1 j1)[q]? = some x → A4c pv x = true) := by
   intro l1 i1 j1 hlen hp h1 h3 h5 hA hB hi hj;have ji : i1<l1.length := by omega
   have jj : j1<l1.length := by omega
   refine⟨by rw[swp_get ji jj, if_neg (by omega), if_neg (by omega)];exact hp, fun q x hq1 hq2 hx => ?_, fun q x hq1 hq2 hx => ?_⟩
   · rw[swp_get ji jj, if_neg (by omega)]at hx
     by_cases h : q = i1
     · rw[if_pos h]at hx;exact hj x hx
     · rw[if_neg h]at hx;exact hA q x hq1 (by omega) hx
   · rw[swp_get ji jj]at hx
     by_cases h : q = j1
     · rw[if_pos h]at hx;exact hi x hx
     · rw[if_neg h, if_neg (by omega)]at hx;exact hB q x (by omega) hq2 hx
 refine A5b (fun m F' H2 => ∃ (i j : Nat) (l1 : List Int), m = j + 1 - i ∧ a + 1 ≤ i ∧ i ≤ j + 1 ∧ j < b ∧ Mix a b l l1 ∧ l1[a]? = some pv ∧ (∀ (q : Nat) x, a + 1 ≤ q → q < i → l1[q]? = some x → A4c pv x = false) ∧ (∀ (q : Nat) x, j < q → q < b → l1[q]? = some x → A4c pv x = true) ∧ A6e H2 g k n l1 ∧ Chg (fun y => y = g) H H2 ∧
     F'.get 0 = some (.slice (some ⟨g, 0, some k⟩) l.length cap) ∧ F'.get 1 = some (.int .i64 (a : Int)) ∧ F'.get 9 = some (.int .i64 ((i : Nat) : Int)) ∧ F'.get 10 = some (.int .i64 ((j : Nat) : Int))) (m := b-1 + 1-(a + 1))
   ⟨a + 1, b-1, l0, rfl, by omega, by omega, by omega, hm1, hpa, fun q x h1 h2 => by omega, fun q x h1 h2 => by omega, hv1, hc1, by simp only[sx, reduceCtorEq], by simp only[sx, Nat.reduceEqDiff], by simp only[sx, Nat.reduceEqDiff], by simp only[sx]⟩ ?_
 clear xa hpa hm1 hv1;clear hL0;rintro m F H2 ⟨i0,j0,l1,rfl,hi0,hij0,hj0,hm1,hpa,hA,hB,hv1,hc1,f0,f1,fi,fj⟩ kk;have hlen:=hm1.length;have xa:H2.cell ⟨g,a,some k⟩=some (Value.int .i64 pv):=hv1.cell (by simp[hpa]);simp only[↓Sh.dn];obtain⟨MF3,hMF3⟩:∃M:Fr→AH→Prop,M=fun F' H9=>H2=H9∧∃v:Nat,F'.get 0=some (.slice (some ⟨g,0,some k⟩) l.length cap)∧F'.get 1=some (.int .i64 (a:Int))∧F'.get 9=some (.int .i64 ((v:Nat):Int))∧F'.get 10=some (.int .i64 ((j0:Nat):Int))∧i0≤v∧v≤j0+1∧(∀(q:Nat) x,i0≤q→q<v→l1[q]?=some x→A4c pv x=false)∧(v≤j0→∀x,l1[v]?=some x→A4c pv x=true):=⟨_,rfl⟩
 refine A02 MF3 (by rfl) ?_ ?_
 ·refine A5b (fun m F' H9 => H2 = H9 ∧ ∃ v : Nat, m = j0 + 1 - v ∧ F'.get 0 = some (.slice (some ⟨g, 0, some k⟩) l.length cap) ∧ F'.get 1 = some (.int .i64 (a : Int)) ∧ F'.get 9 = some (.int .i64 ((v : Nat) : Int)) ∧ F'.get 10 = some (.int .i64 ((j0 : Nat) : Int)) ∧ i0 ≤ v ∧ v ≤ j0 + 1 ∧ (∀ (q : Nat) x, i0 ≤ q → q < v → l1[q]? = some x → A4c pv x = false)) (m := j0 + 1 - i0)
    ⟨rfl, i0, rfl, by simp only[f0], by simp only[f1], by simp only[fi], by simp only[fj], by omega, by omega, fun q x h1 h2 => by omega⟩ ?_
  rintro m F' H9 ⟨rfl, v, rfl, g0, g1, gi, gj, h1, h2, h3⟩ k2;simp only[↓Sh.dn];refine(A9a (by kernel_rfl)).2 ?_;by_cases hle : v ≤ j0
  · have jv : v<l1.length := by omega
    have iv := A1d (g := g) (k := k) (cap := cap) (m := l.length) (i := v) (j := .i64) (by omega);have xv := A8c hv1 jv;have qv : l1[v]? = some l1[v] := List.getElem?_eq_getElem jv;have wv : IntKind.wrap .i64 ((v : Int) + 1) = ((v + 1 : Nat) : Int) := by rw[wrap64 (by omega) (by omega)];rfl
    simp only[↓Sh.dn, sx, reduceCtorEq, Nat.reduceEqDiff, g0, g1, gi, gj, A0k, hle, decide_true, iv, ia, xv, xa];refine⟨_, _, A8d, ?_⟩;cases hlt : A4c pv l1[v] with
    | false =>
      simp only[↓Sh.dn, sx, Nat.reduceEqDiff, gi, wv];refine k2 (j0 + 1-(v + 1)) _ _ (by omega) ⟨rfl, v + 1, rfl, by simp only[sx, reduceCtorEq, g0], by simp only[sx, Nat.reduceEqDiff, g1], by simp only[sx], by simp only[sx, Nat.reduceEqDiff, gj], by omega, by omega, fun q x hq1 hq2 hx => ?_⟩
      · by_cases hq : q = v
        · subst hq;rw[qv]at hx;rw[←Option.some.inj hx];exact hlt
        · exact h3 q x (by omega) (by omega) hx
    | true =>
      simp only[↓Sh.dn, sx, reduceCtorEq, Nat.reduceEqDiff, hMF3, g0, g1, gi, gj];exact⟨v, rfl, h1, h2, h3, fun _ x hx => by rw[qv]at hx;rw[←Option.some.inj hx];exact hlt⟩
  · simp only[↓Sh.dn, sx, reduceCtorEq, Nat.reduceEqDiff, hMF3, g0, g1, gi, gj, A0k, hle, decide_false]
    exact⟨v, rfl, h1, h2, h3, fun h => absurd h hle⟩
 intro F3 H9 h9;rw[hMF3]at h9;obtain⟨rfl,i2,u0,u1,ui,uj,u5,u6,u7,u8⟩:=h9;simp only[↓Sh.dn];obtain⟨MF4,hMF4⟩:∃M:Fr→AH→Prop,M=fun F' H9=>H2=H9∧∃v:Nat,F'.get 0=some (.slice (some ⟨g,0,some k⟩) l.length cap)∧F'.get 1=some (.int .i64 (a:Int))∧F'.get 9=some (.int .i64 ((i2:Nat):Int))∧F'.get 10=some (.int .i64 ((v:Nat):Int))∧i2≤v+1∧v≤j0∧(∀(q:Nat) x,v<q→q≤j0→l1[q]?=some x→A4c pv x=true)∧(i2≤v→∀x,l1[v]?=some x→A4c pv x=false):=⟨_,rfl⟩
 refine A02 MF4 (by rfl) ?_ ?_
 ·refine A5b (fun m F' H9 => H2 = H9 ∧ ∃ v : Nat, m = v ∧ F'.get 0 = some (.slice (some ⟨g, 0, some k⟩) l.length cap) ∧ F'.get 1 = some (.int .i64 (a : Int)) ∧ F'.get 9 = some (.int .i64 ((i2 : Nat) : Int)) ∧ F'.get 10 = some (.int .i64 ((v : Nat) : Int)) ∧ i2 ≤ v + 1 ∧ v ≤ j0 ∧ (∀ (q : Nat) x, v < q → q ≤ j0 → l1[q]? = some x → A4c pv x = true)) (m := j0)
    ⟨rfl, j0, rfl, by simp only[u0], by simp only[u1], by simp only[ui], by simp only[uj], by omega, by omega, fun q x h1 h2 => by omega⟩ ?_
  rintro v F' H9 ⟨rfl, _, rfl, g0, g1, gi, gj, h1, h2, h3⟩ k2;simp only[↓Sh.dn];refine(A9a (by kernel_rfl)).2 ?_;by_cases hle : i2 ≤ v
  · have jv : v<l1.length := by omega
    have iv := A1d (g := g) (k := k) (cap := cap) (m := l.length) (i := v) (j := .i64) (by omega);have xv := A8c hv1 jv;have qv : l1[v]? = some l1[v] := List.getElem?_eq_getElem jv;have wv : IntKind.wrap .i64 ((v : Int)-1) = ((v-1 : Nat) : Int) := by rw[wrap64 (by omega) (by omega)];omega
    simp only[↓Sh.dn, sx, reduceCtorEq, Nat.reduceEqDiff, g0, g1, gi, gj, A0k, hle, decide_true, iv, ia, xv, xa];refine⟨_, _, A8d, ?_⟩;cases hlt : A4c pv l1[v] with
    | true =>
      simp only[↓Sh.dn, sx, Nat.reduceEqDiff, gj, wv];refine k2 ((v-1)) _ _ (by omega) ⟨rfl, v-1, rfl, by simp only[sx, reduceCtorEq, g0], by simp only[sx, Nat.reduceEqDiff, g1], by simp only[sx, Nat.reduceEqDiff, gi], by simp only[sx], by omega, by omega, fun q x hq1 hq2 hx => ?_⟩
      · by_cases hq : q = v
        · subst hq;rw[qv]at hx;rw[←Option.some.inj hx];exact hlt
        · exact h3 q x (by omega) (by omega) hx
    | false =>
      simp only[↓Sh.dn, sx, reduceCtorEq, Nat.reduceEqDiff, hMF4, g0, g1, gi, gj];exact⟨v, rfl, h1, h2, h3, fun _ x hx => by rw[qv]at hx;rw[←Option.some.inj hx];exact hlt⟩
  · simp only[↓Sh.dn, sx, reduceCtorEq, Nat.reduceEqDiff, hMF4, g0, g1, gi, gj, A0k, hle, decide_false]
    exact⟨v, rfl, h1, h2, h3, fun h => absurd h hle⟩
 intro F4 H9 h9;rw[hMF4]at h9;obtain⟨rfl,j2,w0,w1,wi,wj,w5,w6,w7,w8⟩:=h9;have hA2:∀(q:Nat) x,a+1≤q→q<i2→l1[q]?=some x→A4c pv x=false:=by
  intro q x h1 h2 hx;by_cases h:q<i0
  ·exact hA q x h1 h hx
  ·exact u7 q x (by omega) h2 hx
 have hB2:∀(q:Nat) x,j2<q→q<b→l1[q]?=some x→A4c pv x=true:=by
  intro q x h1 h2 hx;by_cases h:j0<q
  ·exact hB q x h h2 hx
  ·exact w7 q x h1 (by omega) hx
 simp only[↓Sh.dn,sx,Nat.reduceEqDiff,wi,wj,A1a];by_cases hgt:j2<i2
 ·simp only[↓Sh.dn,sx,Nat.reduceBEq,Nat.reduceEqDiff,hgt,decide_true,wi,hres]
  refine⟨i2,rfl,by omega,by omega,l1,hm1,fun q x h1 h2 hx=>?_,fun q x h1 h2 hx=>hB2 q x (by omega) h2 hx,hv1,hc1⟩;by_cases h:q=a
  ·subst h;rw[hpa]at hx;rw[←Option.some.inj hx];exact hTO.irrefl pv
  ·exact hA2 q x (by omega) h2 hx
 simp only[↓Sh.dn,sx,hgt,decide_false];have hij2:i2<j2:=by
  by_cases h:i2=j2
  ·have h1:=u8 (by omega)
   have h2:=w8 (by omega);obtain⟨x,hx⟩:∃x,l1[i2]?=some x:=⟨_,List.getElem?_eq_getElem (by omega)⟩
   have a1:=h1 x hx;have a2:=h2 x (by rw[←h];exact hx);rw[a1]at a2;cases a2
  ·omega
 have ji1:i2<l1.length:=by omega
 have jj1:j2<l1.length:=by omega
 have ii2:=A1d (g:=g) (k:=k) (cap:=cap) (m:=l.length) (i:=i2) (j:=.i64) (by omega);have ij2:=A1d (g:=g) (k:=k) (cap:=cap) (m:=l.length) (i:=j2) (j:=.i64) (by omega);have xi:=A8c hv1 ji1;have xj:=A8c hv1 jj1;have yi2:IntKind.wrap .i64 ((i2:Int)+1)=((i2+1:Nat):Int):=by rw[wrap64 (by omega) (by omega)];rfl
 have yj2:IntKind.wrap .i64 ((j2:Int)-1)=((j2-1:Nat):Int):=by rw[wrap64 (by omega) (by omega)];omega
 obtain⟨L3,L4,d1,d2,hv2,hc2,d5⟩:=A6j hv1 hc1.wf ji1 jj1;obtain⟨s1,s2,s3⟩:=pair l1 i2 j2 (by omega) hpa (by omega) hij2 (by omega) hA2 hB2 (u8 (by omega)) (w8 (by omega));refine(A9a (by kernel_rfl)).2 ?_;simp only[↓Sh.dn,sx,reduceCtorEq,Nat.reduceEqDiff,w0,wi,wj,ii2,ij2,xi,xj,A7n,d1,d2,yi2,yj2];exact kk (j2-1+1-(i2+1)) _ _ (by omega) ⟨i2+1,j2-1,swp l1 i2 j2,rfl,by omega,by omega,by omega,hm1.swap (by omega) (by omega) (by omega) (by omega),s1,s2,s3,hv2,hc1.trans hc2,by simp only[sx,reduceCtorEq,w0],by simp only[sx,Nat.reduceEqDiff,w1],by simp only[sx,Nat.reduceEqDiff],by simp only[sx]⟩
end
def B6l(a i:Nat)(m:List Int):Prop:=∀(p:Nat) x y,a≤p→p+1<i→m[p]?=some x→m[p+1]?=some y→A4c y x=false
def PreInt(a b:Nat)(l:List Int):Prop:=∀(q:Nat) x y,0<a→l[a-1]?=some y→a≤q→q<b→l[q]?=some x→A4c x y=false
theorem PreInt.mix{a b:Nat}{l m:List Int}(h:PreInt a b l)(hm:Mix a b l m)(hb:b≤l.length):PreInt a b m:=by
 intro q x y h0 hy h1 h2 hx;rw[hm.out (.inl (by omega))]at hy;exact hm.all (p:=fun x=>A4c x y=false) hb (fun i z hi1 hi2 hz=>h i z y h0 hy hi1 hi2 hz) q x h1 h2 hx
theorem A33{H:AH}{g k n cap a b:Nat}{l:List Int}(hv:A6e H g k n l)(hw:Wf H)(hl:l.length≤16000000)(hab:a<b)(hb:b≤l.length)(hpre:PreInt a b l):
  Sh.Call Tryz.prog (knows 7) 139 [.slice (some ⟨g,0,some k⟩) l.length cap,.int .i64 (a:Int),.int .i64 (b:Int)] H
   (fun r H'=>∃bb:Bool,r=.bool bb∧∃l',Mix a b l l'∧(bb=true→Srt A4c a b l')∧A6e H' g k n l'∧Chg (fun y=>y=g) H H'):=by
 refine A3a rfl Tryz.func139 rfl (Nat.le_of_ble_eq_true rfl) ?_;have hres:Tryz.f139.results.toList=[.tmp 6]:=rfl;have hTO:=intTO;have w1:IntKind.wrap .i64 ((a:Int)+1)=((a+1:Nat):Int):=by rw[wrap64 (by omega) (by omega)];rfl
 have wba:IntKind.wrap .i64 ((b:Int)-(a:Int))=((b-a:Nat):Int):=by rw[wrap64 (by omega) (by omega)];omega
 simp only[↓Sh.dn,sx,Nat.reduceEqDiff,w1]
 refine A5b (fun m F H' => ∃ (c i : Nat) (l1 : List Int), m = 5 - c ∧ c ≤ 5 ∧ a + 1 ≤ i ∧ i ≤ b ∧ Mix a b l l1 ∧ B6l a i l1 ∧ A6e H' g k n l1 ∧ Chg (fun y => y = g) H H' ∧
     F.get 0 = some (.slice (some ⟨g, 0, some k⟩) l.length cap) ∧ F.get 1 = some (.int .i64 (a : Int)) ∧ F.get 2 = some (.int .i64 (b : Int)) ∧ F.get 7 = some (.int .i64 (i : Int)) ∧ F.get 8 = some (.int .i64 (c : Int))) (m := 5)
   ⟨0, a + 1, l, rfl, by omega, by omega, by omega, .refl l, fun p x y h1 h2 => by omega, hv, Chg.refl hw, by simp only[sx, reduceCtorEq], by simp only[sx, Nat.reduceEqDiff], by simp only[sx, Nat.reduceEqDiff], by simp only[sx, Nat.reduceEqDiff], by simp only[sx];rfl⟩ ?_
 rintro m F H' ⟨c,i,l1,rfl,hc5,hai,hib,hm,hadj,hv1,hc1,f0,f1,f2,f7,f8⟩ kk;have hlen:=hm.length;by_cases hlt:c<5
 case neg=>
  have d:decide ((c:Int)<5)=false:=by simp;omega
  simp only[↓Sh.dn,sx,f8,d,hres];exact⟨l1,hm,hv1,hc1⟩
 have d:decide ((c:Int)<5)=true:=by simp;omega
 simp only[↓Sh.dn,sx,f8,d]
 obtain ⟨M1, hM1⟩ : ∃ M : Fr → AH → Prop, M = fun F' H9 => H' = H9 ∧ ∃ v : Nat, F'.get 0 = some (.slice (some ⟨g, 0, some k⟩) l.length cap) ∧ F'.get 1 = some (.int .i64 (a : Int)) ∧ F'.get 2 = some (.int .i64 (b : Int)) ∧ F'.get 7 = some (.int .i64 (v : Int)) ∧ F'.get 8 = some (.int .i64 (c : Int)) ∧
     i ≤ v ∧ v ≤ b ∧ B6l a v l1 := ⟨_, rfl⟩
 refine A02 M1 (by rfl) ?_ ?_
 ·refine A5b (fun m F' H9 => H' = H9 ∧ ∃ v : Nat, m = b - v ∧ F'.get 0 = some (.slice (some ⟨g, 0, some k⟩) l.length cap) ∧ F'.get 1 = some (.int .i64 (a : Int)) ∧ F'.get 2 = some (.int .i64 (b : Int)) ∧ F'.get 7 = some (.int .i64 (v : Int)) ∧ F'.get 8 = some (.int .i64 (c : Int)) ∧
    i ≤ v ∧ v ≤ b ∧ B6l a v l1) (m := b-i)
    ⟨rfl, i, rfl, by simp only[sx, reduceCtorEq, f0], by simp only[sx, Nat.reduceEqDiff, f1], by simp only[sx, Nat.reduceEqDiff, f2], by simp only[sx, Nat.reduceEqDiff, f7], by simp only[sx, Nat.reduceEqDiff, f8], Nat.le_refl _, hib, hadj⟩ ?_
  rintro m F' H9 ⟨rfl, v, rfl, g0, g1, g2, g7, g8, h1, h2, h3⟩ k2;simp only[↓Sh.dn];refine(A9a (by kernel_rfl)).2 ?_;by_cases hvb : v<b
  · have jv : v<l1.length := by omega
    have jw : v-1<l1.length := by omega
    have iv := A1d (g := g) (k := k) (cap := cap) (m := l.length) (i := v) (j := .i64) (by omega);have iw := A1d (g := g) (k := k) (cap := cap) (m := l.length) (i := v-1) (j := .i64) (by omega);have xv := A8c hv1 jv;have xw := A8c hv1 jw;have wv : IntKind.wrap .i64 ((v : Int)-1) = ((v-1 : Nat) : Int) := by rw[wrap64 (by omega) (by omega)];omega
    have wv2 : IntKind.wrap .i64 ((v : Int) + 1) = ((v + 1 : Nat) : Int) := by rw[wrap64 (by omega) (by omega)];rfl
    simp only[↓Sh.dn, sx, reduceCtorEq, Nat.reduceEqDiff, g0, g2, g7, A1a, hvb, decide_true, wv, iv, iw, xv, xw];refine⟨_, _, A8d, ?_⟩;cases hq : A4c l1[v] l1[v-1] with
    | false =>
      simp only[↓Sh.dn, sx, Nat.reduceEqDiff, g7, wv2];refine k2 (b-(v + 1)) _ _ (by omega) ⟨rfl, v + 1, rfl, by simp only[sx, reduceCtorEq, g0], by simp only[sx, Nat.reduceEqDiff, g1], by simp only[sx, Nat.reduceEqDiff, g2], by simp only[sx], by simp only[sx, Nat.reduceEqDiff, g8], by omega, by omega, fun p x y hp1 hp2 hx hy => ?_⟩;by_cases hpv : p + 1 = v
      · have e1 : l1[v]? = some l1[v] := List.getElem?_eq_getElem jv
        have e2 : l1[v-1]? = some l1[v-1] := List.getElem?_eq_getElem jw;rw[hpv, e1]at hy;rw[show p = v-1 by omega, e2]at hx;rw[←Option.some.inj hx, ←Option.some.inj hy];exact hq
      · exact h3 p x y hp1 (by omega) hx hy
    | true =>
      simp only[↓Sh.dn, sx, reduceCtorEq, Nat.reduceEqDiff, hM1, g0, g1, g2, g7, g8];exact⟨v, rfl, h1, h2, h3⟩
  · simp only[↓Sh.dn, sx, reduceCtorEq, Nat.reduceEqDiff, hM1, g0, g1, g2, g7, g8, A1a, hvb, decide_false]
    exact⟨v, rfl, h1, h2, h3⟩
 intro F1 H9 h9;rw[hM1]at h9;obtain⟨rfl,v,f0,f1,f2,f7,f8,hiv,hvb,hadj⟩:=h9;by_cases hend:v=b
 ·have d:decide ((v:Int)=(b:Int))=true:=by simp[hend]
  simp only[↓Sh.dn,sx,Nat.reduceEqDiff,f2,f7,d,hres];exact⟨l1,hm,B9c hTO (by rw[←hend];exact hadj),hv1,hc1⟩
 have d:decide ((v:Int)=(b:Int))=false:=by simp;omega
 simp only[↓Sh.dn,sx,Nat.reduceEqDiff,f1,f2,f7,d,wba];by_cases h50:b-a<50
 ·have d:decide (((b-a:Nat):Int)<50)=true:=by simp;omega
  simp only[↓Sh.dn,sx,d,hres];exact⟨l1,hm,hv1,hc1⟩
 have d:decide (((b-a:Nat):Int)<50)=false:=by simp;omega
 simp only[↓Sh.dn,sx,d];have jv:v<l1.length:=by omega
 have jw:v-1<l1.length:=by omega
 have iv:=A1d (g:=g) (k:=k) (cap:=cap) (m:=l.length) (i:=v) (j:=.i64) (by omega);have iw:=A1d (g:=g) (k:=k) (cap:=cap) (m:=l.length) (i:=v-1) (j:=.i64) (by omega);have xv:=A8c hv1 jv;have xw:=A8c hv1 jw;have wv:IntKind.wrap .i64 ((v:Int)-1)=((v-1:Nat):Int):=by rw[wrap64 (by omega) (by omega)];omega
 have wv2:IntKind.wrap .i64 ((v:Int)+1)=((v+1:Nat):Int):=by rw[wrap64 (by omega) (by omega)];rfl
 have wva:IntKind.wrap .i64 ((v:Int)-(a:Int))=((v-a:Nat):Int):=by rw[wrap64 (by omega) (by omega)];omega
 have wbv:IntKind.wrap .i64 ((b:Int)-(v:Int))=((b-v:Nat):Int):=by rw[wrap64 (by omega) (by omega)];omega
 have wc:IntKind.wrap .i64 ((c:Int)+1)=((c+1:Nat):Int):=by rw[wrap64 (by omega) (by omega)];rfl
 obtain⟨L1,L2,d1,d2,hv2,hc2,d5⟩:=A6j hv1 hc1.wf jv jw;have hm2:Mix a b l (swp l1 v (v-1)):=hm.swap (by omega) (by omega) (by omega) (by omega);refine(A9a (by kernel_rfl)).2 ?_;simp only[↓Sh.dn,sx,reduceCtorEq,Nat.reduceEqDiff,f0,f1,f7,wv,iv,iw,xv,xw,A7n,d1,d2,wva];have hA2:∀(p:Nat) x y,a≤p→p+1<v→p+1≠v-1→(swp l1 v (v-1))[p]?=some x→(swp l1 v (v-1))[p+1]?=some y→A4c y x=false:=by
  intro p x y h1 h2 h3 hx hy;rw[swp_get jv jw,if_neg (by omega),if_neg (by omega)]at hx hy;exact hadj p x y h1 (by omega) hx hy
 have hc12:=hc1.trans hc2;generalize swp l1 v (v-1)=l2 at hv2 hm2 hA2;obtain⟨M2,hM2⟩:∃M:Fr→AH→Prop,M=fun F' H9=>∃l3:List Int,Mix a b l l3∧B6l a v l3∧A6e H9 g k n l3∧Chg (fun y=>y=g) H H9∧F'.get 0=some (.slice (some ⟨g,0,some k⟩) l.length cap)∧F'.get 1=some (.int .i64 (a:Int))∧F'.get 2=some (.int .i64 (b:Int))∧F'.get 7=some (.int .i64 (v:Int))∧F'.get 8=some (.int .i64 (c:Int)):=⟨_,rfl⟩
 refine B1o M2 (by rfl) ?_ ?_
 ·by_cases hva:2≤v-a
  case neg=>
   have d:decide ((2:Int)≤((v-a:Nat):Int))=false:=by simp;omega
   simp only[↓Sh.dn,sx,reduceCtorEq,Nat.reduceEqDiff,d,hM2,f0,f1,f2,f7,f8];exact⟨l2,hm2,fun p x y h1 h2 hx hy=>by omega,hv2,hc12⟩
  have d:decide ((2:Int)≤((v-a:Nat):Int))=true:=by simp;omega
  simp only[↓Sh.dn,sx,Nat.reduceEqDiff,d,f7,wv]
  refine A5b (fun j F' H9 => ∃ l3 : List Int, a ≤ j ∧ j ≤ v - 1 ∧ Mix a b l l3 ∧ (∀ (p : Nat) x y, a ≤ p → p + 1 < v → p + 1 ≠ j → l3[p]? = some x → l3[p + 1]? = some y → A4c y x = false) ∧ (∀ x y, a < j → j + 1 < v → l3[j - 1]? = some x → l3[j + 1]? = some y → A4c y x = false) ∧ A6e H9 g k n l3 ∧ Chg (fun y => y = g) H H9 ∧
      F'.get 0 = some (.slice (some ⟨g, 0, some k⟩) l.length cap) ∧ F'.get 1 = some (.int .i64 (a : Int)) ∧ F'.get 2 = some (.int .i64 (b : Int)) ∧ F'.get 7 = some (.int .i64 (v : Int)) ∧ F'.get 8 = some (.int .i64 (c : Int)) ∧ F'.get 9 = some (.int .i64 (j : Int))) (m := v-1)
    ⟨l2, by omega, Nat.le_refl _, hm2, hA2, fun x y h1 h2 => by omega, hv2, hc12, by simp only[sx, reduceCtorEq, f0], by simp only[sx, Nat.reduceEqDiff, f1], by simp only[sx, Nat.reduceEqDiff, f2], by simp only[sx, Nat.reduceEqDiff, f7], by simp only[sx, Nat.reduceEqDiff, f8], by simp only[sx]⟩ ?_
  rintro j F' H9 ⟨l3,haj,hjv,hm3,hA,hB,hv3,hc3,g0,g1,g2,g7,g8,g9⟩ k2;have hlen3:=hm3.length;have hall:j=a→B6l a v l3:=fun h p x y h1 h2 hx hy=>hA p x y h1 h2 (by omega) hx hy;by_cases hj0:1≤j
  case neg=>
   have d:decide ((1:Int)≤(j:Int))=false:=by simp;omega
   simp only[↓Sh.dn,sx,reduceCtorEq,Nat.reduceEqDiff,g9,d,hM2,g0,g1,g2,g7,g8];exact⟨l3,hm3,hall (by omega),hv3,hc3⟩
  have d:decide ((1:Int)≤(j:Int))=true:=by simp;omega
  have jj:j<l3.length:=by omega
  have jj1:j-1<l3.length:=by omega
  have ij:=A1d (g:=g) (k:=k) (cap:=cap) (m:=l.length) (i:=j) (j:=.i64) (by omega);have ij1:=A1d (g:=g) (k:=k) (cap:=cap) (m:=l.length) (i:=j-1) (j:=.i64) (by omega);have xj:=A8c hv3 jj;have xj1:=A8c hv3 jj1;have q1:l3[j]?=some l3[j]:=List.getElem?_eq_getElem jj;have q2:l3[j-1]?=some l3[j-1]:=List.getElem?_eq_getElem jj1;have wj:IntKind.wrap .i64 ((j:Int)-1)=((j-1:Nat):Int):=by rw[wrap64 (by omega) (by omega)];omega
  simp only[↓Sh.dn,sx,g9,d];refine(A9a (by kernel_rfl)).2 ?_;simp only[↓Sh.dn,sx,reduceCtorEq,Nat.reduceEqDiff,g0,g9,wj,ij,ij1,xj,xj1];refine⟨_,_,A8d,?_⟩;cases hq:A4c l3[j] l3[j-1] with
  | false=>
   simp only[↓Sh.dn,sx,Nat.reduceBEq,reduceCtorEq,Nat.reduceEqDiff,hM2,g0,g1,g2,g7,g8];refine⟨l3,hm3,fun p x y h1 h2 hx hy=>?_,hv3,hc3⟩;by_cases hp:p+1=j
   ·rw[hp,q1]at hy
    rw[show p=j-1 by omega,q2]at hx;rw[←Option.some.inj hx,←Option.some.inj hy];exact hq
   ·exact hA p x y h1 h2 hp hx hy
  | true=>
   have haj':a<j:=by
    by_cases h:j=a
    ·subst h
     have:=hpre.mix hm3 hb j _ _ (by omega) q2 (Nat.le_refl _) hab q1;rw[this]at hq;cases hq
    ·omega
   obtain⟨L3,L4,c1,c2,hv4,hc4,c5⟩:=A6j hv3 hc3.wf jj jj1;simp only[↓Sh.dn,sx];refine(A9a (by kernel_rfl)).2 ?_;simp only[↓Sh.dn,sx,reduceCtorEq,Nat.reduceEqDiff,g0,g9,wj,ij,ij1,xj,xj1,A7n,c1,c2];refine k2 (j-1) _ _ (by omega) ⟨swp l3 j (j-1),by omega,by omega,hm3.swap (by omega) (by omega) (by omega) (by omega),fun p x y h1 h2 h3 hx hy=>?_,fun x y h1 h2 hx hy=>?_,hv4,hc3.trans hc4,by simp only[sx,reduceCtorEq,g0],by simp only[sx,Nat.reduceEqDiff,g1],by simp only[sx,Nat.reduceEqDiff,g2],by simp only[sx,Nat.reduceEqDiff,g7],by simp only[sx,Nat.reduceEqDiff,g8],by simp only[sx]⟩
   ·rw[swp_get jj jj1]at hx hy
    by_cases hp1:p+1=j
    ·have hp:p=j-1:=by omega
     rw[if_pos hp,q1]at hx;rw[if_neg (by omega),if_pos hp1,q2]at hy;rw[←Option.some.inj hx,←Option.some.inj hy];exact hTO.asymm hq
    ·by_cases hp2:p=j
     ·rw[if_neg (by omega),if_pos hp2,q2]at hx
      rw[if_neg (by omega),if_neg (by omega)]at hy;rw[←Option.some.inj hx];exact hB _ _ haj' (by omega) q2 (by rw[←hp2];exact hy)
     ·rw[if_neg (by omega),if_neg hp2]at hx
      rw[if_neg (by omega),if_neg (by omega)]at hy;exact hA p x y h1 h2 hp1 hx hy
   ·rw[swp_get jj jj1]at hx hy
    rw[if_neg (by omega),if_neg (by omega)]at hx;rw[if_neg (by omega),if_pos (by omega),q2]at hy;rw[←Option.some.inj hy];exact hA (j-2) _ _ (by omega) (by omega) (by omega) (by rw[show j-2=j-1-1 by omega];exact hx) (by rw[show j-2+1=j-1 by omega];exact q2)
 intro F2 H9 h9;rw[hM2]at h9;obtain⟨l3,hm3,hadj3,hv3,hc3,f0,f1,f2,f7,f8⟩:=h9;simp only[↓Sh.dn,sx,Nat.reduceEqDiff,f2,f7,wbv];obtain⟨M3,hM3⟩:∃M:Fr→AH→Prop,M=fun F' H9=>∃l3:List Int,Mix a b l l3∧B6l a v l3∧A6e H9 g k n l3∧Chg (fun y=>y=g) H H9∧F'.get 0=some (.slice (some ⟨g,0,some k⟩) l.length cap)∧F'.get 1=some (.int .i64 (a:Int))∧F'.get 2=some (.int .i64 (b:Int))∧F'.get 7=some (.int .i64 (v:Int))∧F'.get 8=some (.int .i64 (c:Int)):=⟨_,rfl⟩
 refine B1o M3 (by rfl) ?_ ?_
 ·by_cases hbv:2≤b-v
  case neg=>
   have d:decide ((2:Int)≤((b-v:Nat):Int))=false:=by simp;omega
   simp only[↓Sh.dn,sx,reduceCtorEq,Nat.reduceEqDiff,d,hM3,f0,f1,f2,f7,f8];exact⟨l3,hm3,hadj3,hv3,hc3⟩
  have d:decide ((2:Int)≤((b-v:Nat):Int))=true:=by simp;omega
  simp only[↓Sh.dn,sx,Nat.reduceEqDiff,d,f7,wv2]
  refine A5b (fun m F' H9 => ∃ (j : Nat) (l3 : List Int), m = b - j ∧ v + 1 ≤ j ∧ j ≤ b ∧ Mix a b l l3 ∧ B6l a v l3 ∧ A6e H9 g k n l3 ∧ Chg (fun y => y = g) H H9 ∧
      F'.get 0 = some (.slice (some ⟨g, 0, some k⟩) l.length cap) ∧ F'.get 1 = some (.int .i64 (a : Int)) ∧ F'.get 2 = some (.int .i64 (b : Int)) ∧ F'.get 7 = some (.int .i64 (v : Int)) ∧ F'.get 8 = some (.int .i64 (c : Int)) ∧ F'.get 10 = some (.int .i64 (j : Int))) (m := b-(v + 1))
    ⟨v + 1, l3, rfl, Nat.le_refl _, by omega, hm3, hadj3, hv3, hc3, by simp only[sx, reduceCtorEq, f0], by simp only[sx, Nat.reduceEqDiff, f1], by simp only[sx, Nat.reduceEqDiff, f2], by simp only[sx, Nat.reduceEqDiff, f7], by simp only[sx, Nat.reduceEqDiff, f8], by simp only[sx]⟩ ?_
  rintro m F' H9 ⟨j,l4,rfl,hvj,hjb,hm4,hadj4,hv4,hc4,g0,g1,g2,g7,g8,g10⟩ k2;have hlen4:=hm4.length;by_cases hjb':j<b
  case neg=>
   simp only[↓Sh.dn,sx,reduceCtorEq,Nat.reduceEqDiff,g2,g10,A1a,hjb',decide_false,hM3,g0,g1,g7,g8];exact⟨l4,hm4,hadj4,hv4,hc4⟩
  have jj:j<l4.length:=by omega
  have jj1:j-1<l4.length:=by omega
  have ij:=A1d (g:=g) (k:=k) (cap:=cap) (m:=l.length) (i:=j) (j:=.i64) (by omega);have ij1:=A1d (g:=g) (k:=k) (cap:=cap) (m:=l.length) (i:=j-1) (j:=.i64) (by omega);have xj:=A8c hv4 jj;have xj1:=A8c hv4 jj1;have wj:IntKind.wrap .i64 ((j:Int)-1)=((j-1:Nat):Int):=by rw[wrap64 (by omega) (by omega)];omega
  have wj2:IntKind.wrap .i64 ((j:Int)+1)=((j+1:Nat):Int):=by rw[wrap64 (by omega) (by omega)];rfl
  simp only[↓Sh.dn,sx,Nat.reduceEqDiff,g2,g10,A1a,hjb',decide_true];refine(A9a (by kernel_rfl)).2 ?_;simp only[↓Sh.dn,sx,reduceCtorEq,Nat.reduceEqDiff,g0,g10,wj,ij,ij1,xj,xj1];refine⟨_,_,A8d,?_⟩;cases hq:A4c l4[j] l4[j-1] with
  | false=>
   simp only[↓Sh.dn,sx,Nat.reduceBEq,reduceCtorEq,Nat.reduceEqDiff,hM3,g0,g1,g2,g7,g8];exact⟨l4,hm4,hadj4,hv4,hc4⟩
  | true=>
   obtain⟨L3,L4,c1,c2,hv5,hc5',c5⟩:=A6j hv4 hc4.wf jj jj1;simp only[↓Sh.dn,sx];refine(A9a (by kernel_rfl)).2 ?_;simp only[↓Sh.dn,sx,reduceCtorEq,Nat.reduceEqDiff,g0,g10,wj,ij,ij1,xj,xj1,A7n,c1,c2,wj2];refine k2 (b-(j+1)) _ _ (by omega) ⟨j+1,swp l4 j (j-1),rfl,by omega,by omega,hm4.swap (by omega) (by omega) (by omega) (by omega),fun p x y h1 h2 hx hy=>?_,hv5,hc4.trans hc5',by simp only[sx,reduceCtorEq,g0],by simp only[sx,Nat.reduceEqDiff,g1],by simp only[sx,Nat.reduceEqDiff,g2],by simp only[sx,Nat.reduceEqDiff,g7],by simp only[sx,Nat.reduceEqDiff,g8],by simp only[sx]⟩;rw[swp_get jj jj1,if_neg (by omega),if_neg (by omega)]at hx hy;exact hadj4 p x y h1 h2 hx hy
 intro F3 H10 h10;rw[hM3]at h10;obtain⟨l5,hm5,hadj5,hv5,hc5',f0,f1,f2,f7,f8⟩:=h10;simp only[↓Sh.dn,sx,f8,wc];exact kk (5-(c+1)) _ _ (by omega) ⟨c+1,v,l5,rfl,by omega,by omega,by omega,hm5,hadj5,hv5,hc5',by simp only[sx,reduceCtorEq,f0],by simp only[sx,Nat.reduceEqDiff,f1],by simp only[sx,Nat.reduceEqDiff,f2],by simp only[sx,Nat.reduceEqDiff,f7],by simp only[sx]⟩
theorem pdqInt{g k n cap:Nat}:∀(sz:Nat) {H:AH} {a b:Nat} {l:List Int} {lim:Int},b-a≤sz→A6e H g k n l→Wf H→l.length≤16000000→a≤b→b≤l.length→PreInt a b l→
  Sh.Call Tryz.prog (knows 7) 131 [.slice (some ⟨g,0,some k⟩) l.length cap,.int .i64 (a:Int),.int .i64 (b:Int),.int .i64 lim] H
   (fun r H'=>∃l',Mix a b l l'∧Srt A4c a b l'∧A6e H' g k n l'∧Chg (fun y=>y=g) H H'):=by
 intro sz
 induction sz using Nat.strongRecOn with
 | _ sz ih=>
 intro H a b l lim hsz hv hw hl hab hb hpre;refine A3a rfl Tryz.func131 rfl (Nat.le_of_ble_eq_true rfl) ?_;have hres:Tryz.f131.results.toList=[]:=rfl;have hTO:=intTO;simp only[↓Sh.dn,sx]
 refine A5b (fun m F H' => ∃ (a' b' : Nat) (l1 : List Int) (lm : Int) (x8 x9 : Bool), m = b' - a' ∧ a ≤ a' ∧ a' ≤ b' ∧ b' ≤ b ∧ Mix a b l l1 ∧ P3 A4c a a' b' b l1 ∧ PreInt a' b' l1 ∧ A6e H' g k n l1 ∧ Chg (fun y => y = g) H H' ∧
     F.get 0 = some (.slice (some ⟨g, 0, some k⟩) l.length cap) ∧ F.get 1 = some (.int .i64 (a' : Int)) ∧ F.get 2 = some (.int .i64 (b' : Int)) ∧ F.get 3 = some (.int .i64 lm) ∧ F.get 8 = some (.bool x8) ∧ F.get 9 = some (.bool x9)) (m := b-a)
   ⟨a, b, l, lim, true, true, rfl, Nat.le_refl _, hab, Nat.le_refl _, .refl l, fun p q x y h1 h2 h3 h4 => absurd ⟨h1, h3⟩ h4, hpre, hv, Chg.refl hw, by simp only[sx, reduceCtorEq], by simp only[sx, Nat.reduceEqDiff], by simp only[sx, Nat.reduceEqDiff], by simp only[sx, Nat.reduceEqDiff], by simp only[sx, Nat.reduceEqDiff], by simp only[sx]⟩ ?_
 rintro m F H' ⟨a',b',l1,lm,x8,x9,rfl,ha',hab',hb',hm,h3,hpr,hv1,hc1,f0,f1,f2,f3,f8,f9⟩ kk;have hlen:=hm.length;have hvl:l1.length=l.length:=hlen;have wba:IntKind.wrap .i64 ((b':Int)-(a':Int))=((b'-a':Nat):Int):=by rw[wrap64 (by omega) (by omega)];omega
 have fin:∀{H2:AH} {l2:List Int},Mix a' b' l1 l2→Srt A4c a' b' l2→Mix a b l l2∧Srt A4c a b l2:=fun{H2 l2} h1 h2=>⟨hm.trans (h1.wide ha' hb'),(h3.mix ha' hb' h1 (by omega)).srt hTO h2⟩
 simp only[↓Sh.dn,sx,Nat.reduceEqDiff,f1,f2,wba];by_cases h12:b'-a'≤12
 ·have d:decide (((b'-a':Nat):Int)≤12)=true:=by simp;omega
  obtain⟨r,H2,hd,l2,q1,q2,q3,q4⟩:=B6b (cap:=cap) hv1 hc1.wf (by omega) hab' (by omega);rw[hvl]at hd;simp only[↓Sh.dn,sx,reduceCtorEq,Nat.reduceEqDiff,d,f0,f1,f2];refine⟨_,_,hd,?_⟩;simp only[sx,hres];exact⟨l2,(fin (H2:=H2) q1 q2).1,(fin (H2:=H2) q1 q2).2,q3,hc1.trans q4⟩
 have d:decide (((b'-a':Nat):Int)≤12)=false:=by simp;omega
 simp only[↓Sh.dn,sx,Nat.reduceEqDiff,d,f3];by_cases hlm:lm=0
 ·obtain⟨r,H2,hd,l2,q1,q2,q3,q4⟩:=C5g (cap:=cap) hv1 hc1.wf (by omega) (by omega:a'<b') (by omega)
  rw[hvl]at hd;simp only[↓Sh.dn,sx,reduceCtorEq,Nat.reduceEqDiff,hlm,decide_true,f0,f1,f2];refine⟨_,_,hd,?_⟩;simp only[sx,hres];exact⟨l2,(fin (H2:=H2) q1 q2).1,(fin (H2:=H2) q1 q2).2,q3,hc1.trans q4⟩
 simp only[↓Sh.dn,sx,Nat.reduceEqDiff,hlm,decide_false,f8];obtain⟨M1,hM1⟩:∃M:Fr→AH→Prop,M=fun F' H9=>∃l2:List Int,Mix a' b' l1 l2∧A6e H9 g k n l2∧Chg (fun y=>y=g) H H9∧F'.get 0=some (.slice (some ⟨g,0,some k⟩) l.length cap)∧F'.get 1=some (.int .i64 (a':Int))∧F'.get 2=some (.int .i64 (b':Int))∧F'.get 8=some (.bool x8)∧F'.get 9=some (.bool x9)∧F'.get 10=some (.int .i64 ((b'-a':Nat):Int))∧∃lm,F'.get 3=some (.int .i64 lm):=⟨_,rfl⟩
 refine B1o M1 (by rfl) ?_ ?_
 ·cases x8 with
  | true=>
   simp only[↓Sh.dn,sx,reduceCtorEq,Nat.reduceEqDiff,hM1,f0,f1,f2,f3,f8,f9];exact⟨l1,.refl l1,hv1,hc1,lm,rfl⟩
  | false=>
   obtain⟨r,H2,hd,l2,q1,q3,q4⟩:=B9b (cap:=cap) hv1 hc1.wf (by omega) (by omega:a'+12<b') (by omega);rw[hvl]at hd;simp only[↓Sh.dn,sx,reduceCtorEq,Nat.reduceEqDiff,f0,f1,f2];refine⟨_,_,hd,?_⟩;simp only[sx,reduceCtorEq,Nat.reduceEqDiff,hM1,f0,f1,f2,f3,f8,f9];exact⟨l2,q1,q3,hc1.trans q4,_,rfl⟩
 intro F1 H1 h9;rw[hM1]at h9;obtain⟨l2,hm2,hv2,hc2,f0,f1,f2,f8,f9,f10,lm2,f3⟩:=h9;have hlen2:l2.length=l.length:=by rw[hm2.length];exact hlen
 obtain⟨r,H2,hd,q,hint,rfl,hq1,hq2,hv2',hk2⟩:=B2o (cap:=cap) hv2 hc2.wf (by omega) (by omega:a'+12<b') (by omega);have hc2':Chg (fun y=>y=g) H H2:=hc2.trans hk2.chg;rw[hlen2]at hd;simp only[↓Sh.dn,sx,Nat.reduceEqDiff,f0,f1,f2];refine⟨_,_,hd,?_⟩;simp only[sx];obtain⟨M2,hM2⟩:∃M:Fr→AH→Prop,M=fun F' H9=>∃l2:List Int,Mix a' b' l1 l2∧A6e H9 g k n l2∧Chg (fun y=>y=g) H H9∧F'.get 0=some (.slice (some ⟨g,0,some k⟩) l.length cap)∧F'.get 1=some (.int .i64 (a':Int))∧F'.get 2=some (.int .i64 (b':Int))∧F'.get 3=some (.int .i64 lm2)∧F'.get 8=some (.bool x8)∧F'.get 9=some (.bool x9)∧F'.get 10=some (.int .i64 ((b'-a':Nat):Int))∧∃q:Nat,a'≤q∧q<b'∧F'.get 11=some (.int .i64 (q:Int))∧∃hint,F'.get 12=some (.int .i64 hint):=⟨_,rfl⟩
 refine B1o M2 (by rfl) ?_ ?_
 ·by_cases hh:hint=2
  ·have e1:IntKind.wrap .i64 ((b':Int)-1)=((b'-1:Nat):Int):=by rw[wrap64 (by omega) (by omega)];omega
   have e2:IntKind.wrap .i64 ((q:Int)-(a':Int))=((q-a':Nat):Int):=by rw[wrap64 (by omega) (by omega)];omega
   have e3:IntKind.wrap .i64 (((b'-1:Nat):Int)-((q-a':Nat):Int))=((b'-1-(q-a'):Nat):Int):=by rw[wrap64 (by omega) (by omega)];omega
   obtain⟨r,H3,hd3,l3,p1,p2,p3⟩:=B8j (cap:=cap) hv2' hk2.wf (by omega) (by omega:a'<b') (by omega);rw[hlen2]at hd3;simp only[↓Sh.dn,sx,reduceCtorEq,Nat.reduceEqDiff,hh,decide_true,f0,f1,f2];refine⟨_,_,hd3,?_⟩;simp only[sx,reduceCtorEq,Nat.reduceEqDiff,hM2,f0,f1,f2,f3,f8,f9,f10,e1,e2,e3];exact⟨l3,hm2.trans p1,p2,hc2'.trans p3,b'-1-(q-a'),by omega,by omega,rfl,1,rfl⟩
  ·simp only[↓Sh.dn,sx,reduceCtorEq,Nat.reduceEqDiff,hh,decide_false,hM2,f0,f1,f2,f3,f8,f9,f10]
   exact⟨l2,hm2,hv2',hc2',q,hq1,hq2,rfl,hint,rfl⟩
 intro F2 H3 h9;rw[hM2]at h9;obtain⟨l3,hm3,hv3,hc3,f0,f1,f2,f3,f8,f9,f10,q,hq1,hq2,f11,hint,f12⟩:=h9;have hlen3:l3.length=l.length:=by rw[hm3.length];exact hlen
 obtain⟨M3,hM3⟩:∃M:Fr→AH→Prop,M=fun F' H9=>H3=H9∧F'.get 0=some (.slice (some ⟨g,0,some k⟩) l.length cap)∧F'.get 1=some (.int .i64 (a':Int))∧F'.get 2=some (.int .i64 (b':Int))∧F'.get 3=some (.int .i64 lm2)∧F'.get 8=some (.bool x8)∧F'.get 9=some (.bool x9)∧F'.get 10=some (.int .i64 ((b'-a':Nat):Int))∧F'.get 11=some (.int .i64 (q:Int))∧∃bb,F'.get 68=some (.bool bb):=⟨_,rfl⟩
 simp only[↓Sh.wp_seq];refine B7e M3 (by rfl) ?_ ?_
 ·cases x8 with
  | false=>
   simp only[↓Sh.dn,sx,reduceCtorEq,Nat.reduceEqDiff,hM3,f0,f1,f2,f3,f8,f9,f10,f11]
  | true=>
   cases x9 with
   | false=>
    simp only[↓Sh.dn,sx,reduceCtorEq,Nat.reduceEqDiff,hM3,f0,f1,f2,f3,f8,f9,f10,f11]
   | true=>
    simp only[↓Sh.dn,sx,reduceCtorEq,Nat.reduceEqDiff,hM3,f0,f1,f2,f3,f8,f9,f10,f11,f12]
 intro F3 H4 h9;rw[hM3]at h9;obtain⟨rfl,f0,f1,f2,f3,f8,f9,f10,f11,bb,f68⟩:=h9;obtain⟨N,hN⟩:∃N:Fr→AH→Prop,N=fun F' H9=>∃l4:List Int,Mix a' b' l1 l4∧A6e H9 g k n l4∧Chg (fun y=>y=g) H H9∧F'.get 0=some (.slice (some ⟨g,0,some k⟩) l.length cap)∧F'.get 1=some (.int .i64 (a':Int))∧F'.get 2=some (.int .i64 (b':Int))∧F'.get 3=some (.int .i64 lm2)∧F'.get 8=some (.bool x8)∧F'.get 9=some (.bool x9)∧F'.get 10=some (.int .i64 ((b'-a':Nat):Int))∧F'.get 11=some (.int .i64 (q:Int)):=⟨_,rfl⟩
 refine wp_cut N (fun F4 H5 h9=>?_) (fun kont=>?_)
 case refine_2=>
  cases bb with
  | false=>
   refine(A8w (by rw[C4n,f68])).2 (Sh.wp_skip.2 (kont _ _ ?_));rw[hN];exact⟨l3,hm3,hv3,hc3,f0,f1,f2,f3,f8,f9,f10,f11⟩
  | true=>
   obtain⟨r,H5,hd5,b5,rfl,l4,p1,p2,p3,p4⟩:=A33 (cap:=cap) hv3 hc3.wf (by omega) (by omega:a'<b') (by omega) (hpr.mix hm3 (by omega));rw[hlen3]at hd5;simp only[↓Sh.dn,sx,Nat.reduceEqDiff,f68,f0,f1,f2];refine⟨_,_,hd5,?_⟩;cases b5 with
   | true=>
    simp only[↓Sh.dn,sx,hres];exact⟨l4,(fin (H2:=H5) (hm3.trans p1) (p2 rfl)).1,(fin (H2:=H5) (hm3.trans p1) (p2 rfl)).2,p3,hc3.trans p4⟩
   | false=>
    refine(A8w ?_).2 (Sh.wp_skip.2 (kont _ _ ?_))
    ·simp only[sx]
    rw[hN];exact⟨l4,hm3.trans p1,p3,hc3.trans p4,by simp only[sx,reduceCtorEq,f0],by simp only[sx,Nat.reduceEqDiff,f1],by simp only[sx,Nat.reduceEqDiff,f2],by simp only[sx,Nat.reduceEqDiff,f3],by simp only[sx,Nat.reduceEqDiff,f8],by simp only[sx,Nat.reduceEqDiff,f9],by simp only[sx,Nat.reduceEqDiff,f10],by simp only[sx,Nat.reduceEqDiff,f11]⟩
 rw[hN]at h9;clear hN;obtain⟨l4,hm4,hv4,hc4,f0,f1,f2,f3,f8,f9,f10,f11⟩:=h9;have hlen4:l4.length=l.length:=by rw[hm4.length];exact hlen
 have jq:q<l4.length:=by omega
 have iq:=A1d (g:=g) (k:=k) (cap:=cap) (m:=l.length) (i:=q) (j:=.i64) (by omega);have xq:=A8c hv4 jq;have eq4:l4[q]?=some l4[q]:=List.getElem?_eq_getElem jq;have hpr4:PreInt a' b' l4:=hpr.mix hm4 (by omega);have h34:P3 A4c a a' b' b l4:=h3.mix ha' hb' hm4 (by omega);have hm04:Mix a b l l4:=hm.trans (hm4.wide ha' hb');obtain⟨M4,hM4⟩:∃M:Fr→AH→Prop,M=fun F' H9=>H5=H9∧F'.get 0=some (.slice (some ⟨g,0,some k⟩) l.length cap)∧F'.get 1=some (.int .i64 (a':Int))∧F'.get 2=some (.int .i64 (b':Int))∧F'.get 3=some (.int .i64 lm2)∧F'.get 8=some (.bool x8)∧F'.get 9=some (.bool x9)∧F'.get 10=some (.int .i64 ((b'-a':Nat):Int))∧F'.get 11=some (.int .i64 (q:Int))∧∃bb,F'.get 87=some (.bool bb)∧(bb=true→0<a'∧∀y,l4[a'-1]?=some y→A4c y l4[q]=false):=⟨_,rfl⟩
 simp only[↓Sh.wp_seq];refine B7e M4 (by rfl) ?_ ?_
 ·refine(A9a (by kernel_rfl)).2 ?_
  by_cases h0:0<a'
  ·have d:decide ((0:Int)<(a':Int))=true:=by simp;omega
   have wa1:IntKind.wrap .i64 ((a':Int)-1)=((a'-1:Nat):Int):=by rw[wrap64 (by omega) (by omega)];omega
   have ja:a'-1<l4.length:=by omega
   have ia:=A1d (g:=g) (k:=k) (cap:=cap) (m:=l.length) (i:=a'-1) (j:=.i64) (by omega);have xa:=A8c hv4 ja;have ea:l4[a'-1]?=some l4[a'-1]:=List.getElem?_eq_getElem ja;simp only[↓Sh.dn,sx,reduceCtorEq,Nat.reduceEqDiff,f0,f1,f11,d,wa1,ia,iq,xa,xq];refine⟨_,_,A8d,?_⟩;cases hq:A4c l4[a'-1] l4[q] with
   | true=>
    simp only[sx,reduceCtorEq,Nat.reduceEqDiff,hM4,f0,f1,f2,f3,f8,f9,f10,f11]
   | false=>
    simp only[sx,reduceCtorEq,Nat.reduceEqDiff,hM4,f0,f1,f2,f3,f8,f9,f10,f11];refine⟨h0,fun y hy=>?_⟩;rw[ea]at hy;rw[←Option.some.inj hy];exact hq
  ·have d:decide ((0:Int)<(a':Int))=false:=by simp;omega
   simp only[↓Sh.dn,sx,reduceCtorEq,Nat.reduceEqDiff,hM4,f0,f1,f2,f3,f8,f9,f10,f11,d]
 intro F5 H6 h9;rw[hM4]at h9;obtain⟨rfl,f0,f1,f2,f3,f8,f9,f10,f11,bb,f87,hbb⟩:=h9;cases bb with
 | true=>
  obtain⟨hpos,hy⟩:=hbb rfl;obtain⟨r,H7,hd7,m,rfl,hm1,hm2',l5,p1,p2,p3,p4,p5⟩:=A57 (cap:=cap) (p:=q) hv4 hc4.wf (by omega) hq1 hq2 (by omega);rw[hlen4]at hd7;simp only[↓Sh.dn,sx,Nat.reduceBEq,Nat.reduceEqDiff,f87,f0,f1,f2,f11];refine⟨_,_,hd7,?_⟩
  try simp only[↓Sh.dn,sx,Nat.reduceBEq,reduceCtorEq,Nat.reduceEqDiff]
  have hge4:∀(i:Nat) x,a'≤i→i<b'→l4[i]?=some x→A4c x l4[q]=false:=by
   intro i x h1 h2 hx;have ja:a'-1<l4.length:=by omega
   have ea:l4[a'-1]?=some l4[a'-1]:=List.getElem?_eq_getElem ja;exact hTO.le_trans (hy _ ea) (hpr4 i x _ hpos ea h1 h2 hx)
  have hge:∀(i:Nat) x,a'≤i→i<b'→l5[i]?=some x→A4c x l4[q]=false:=p1.all (p:=fun x=>A4c x l4[q]=false) (by omega) hge4;have heq:∀(i:Nat) x,a'≤i→i<m→l5[i]?=some x→x=l4[q]:=by
   intro i x h1 h2 hx;rcases hTO.tri x l4[q] with h|h|h
   ·rw[hge i x h1 (by omega) hx]at h;cases h
   ·exact h
   ·rw[p2 i x h1 h2 hx]at h;cases h
  have h35:=h34.mix ha' hb' p1 (by omega);refine kk (b'-m) _ _ (by omega) ⟨m,b',l5,lm2,x8,x9,rfl,by omega,by omega,hb',hm04.trans (p1.wide ha' hb'),fun i j x z h1 h2 h3' h4 hx hz=>?_,fun i x y h0 hy' h1 h2 hx=>?_,p4,hc4.trans p5,by simp only[sx,reduceCtorEq,f0],by simp only[sx],by simp only[sx,Nat.reduceEqDiff,f2],by simp only[sx,Nat.reduceEqDiff,f3],by simp only[sx,Nat.reduceEqDiff,f8],by simp only[sx,Nat.reduceEqDiff,f9]⟩
  ·by_cases hin:a'≤i∧j<b'
   ·have hx':=heq i x hin.1 (by omega) hx
    by_cases hj:j<m
    ·have hz':=heq j z (by omega) hj hz
     rw[hx',hz'];exact hTO.irrefl _
    ·rw[hx'];exact hTO.asymm (p3 j z (by omega) hin.2 hz)
   ·exact h35 i j x z h1 h2 h3' hin hx hz
  ·have hy2:=heq (m-1) y (by omega) (by omega) hy'
   rw[hy2];exact hTO.asymm (p3 i x h1 h2 hx)
 | false=>
  obtain⟨r,H7,hd7,m,al,rfl,hm1,hm2',l5,p1,y,py,p2,p3,p4,p5⟩:=B40 (cap:=cap) (p:=q) hv4 hc4.wf (by omega) hq1 hq2 (by omega);rw[hlen4]at hd7;have hlen5:l5.length=l.length:=by rw[p1.length];exact hlen4
  have s1:IntKind.wrap .i64 ((m:Int)-(a':Int))=((m-a':Nat):Int):=by rw[wrap64 (by omega) (by omega)];omega
  have s2:IntKind.wrap .i64 ((b':Int)-(m:Int))=((b'-m:Nat):Int):=by rw[wrap64 (by omega) (by omega)];omega
  have s3:Int.tdiv ((b'-a':Nat):Int) 8=(((b'-a')/8:Nat):Int):=by rw[Int.tdiv_eq_ediv_of_nonneg (by omega)];rfl
  have s4:IntKind.wrap .i64 (((b'-a')/8:Nat):Int)=(((b'-a')/8:Nat):Int):=wrap64 (by omega) (by omega);have s5:IntKind.wrap .i64 ((m:Int)+1)=((m+1:Nat):Int):=by rw[wrap64 (by omega) (by omega)];rfl
  simp only[↓Sh.dn,sx,Nat.reduceEqDiff,f87,f0,f1,f2,f11];refine⟨_,_,hd7,?_⟩;simp only[sx,f10,s1,s2,A27 (show (8:Int)≠0 by decide),s3,s4,A1a];have hpr5:PreInt a' b' l5:=hpr4.mix p1 (by omega);have h35:=h34.mix ha' hb' p1 (by omega);have hm05:=hm04.trans (p1.wide ha' hb');have hc5:=hc4.trans p5;by_cases hlr:m-a'<b'-m
  ·obtain⟨r,H8,hd8,l6,u1,u2,u3,u4⟩:=ih (m-a') (by omega) (lim:=lm2) (a:=a') (b:=m) (Nat.le_refl _) p4 p5.wf (by omega) hm1 (by omega) (fun i x z h0 hz h1 h2 hx=>hpr5 i x z h0 hz h1 (by omega) hx)
   rw[hlen5]at hd8;have py6:l6[m]?=some y:=by rw[u1.out (.inr (Nat.le_refl _))];exact py
   have hpart:=P3.part hTO (h35.mix ha' hb' (u1.wide (Nat.le_refl _) (by omega)) (by omega)) hm1 hm2' py6 (u1.all (p:=fun x=>A4c x y=true) (by omega) (fun i x h1 h2 hx=>p2 i x h1 h2 hx)) (fun i x h1 h2 hx=>p3 i x h1 h2 (by rw[←u1.out (.inr (by omega))];exact hx));simp only[↓Sh.dn,sx,reduceCtorEq,Nat.reduceEqDiff,hlr,decide_true,f0,f1,f3];refine⟨_,_,hd8,?_⟩
   try simp only[s5]
   exact kk (b' - (m + 1)) _ _ (by omega) ⟨m + 1, b', l6, lm2, _, al, rfl, by omega, by omega, hb', hm05.trans (u1.wide ha' (by omega)), hpart.1 u2, fun i x z h0 hz h1 h2 hx => by
       rw[show m + 1-1 = m by omega, py6]at hz;rw[←Option.some.inj hz];exact p3 i x (by omega) h2 (by rw[←u1.out (.inr (by omega))];exact hx), u3, hc5.trans u4, by simp only[sx, reduceCtorEq, f0], by simp only[sx], by simp only[sx, Nat.reduceEqDiff, f2], by simp only[sx, Nat.reduceEqDiff, f3], by simp only[sx, Nat.reduceEqDiff];rfl, by simp only[sx, Nat.reduceEqDiff]⟩
  ·obtain ⟨r, H8, hd8, l6, u1, u2, u3, u4⟩ := ih (b' - (m + 1)) (by omega) (lim := lm2) (a := m + 1) (b := b') (Nat.le_refl _) p4 p5.wf (by omega) (by omega) (by omega) (fun i x z h0 hz h1 h2 hx => by
     rw[show m + 1-1 = m by omega, py]at hz;rw[←Option.some.inj hz];exact p3 i x (by omega) h2 hx)
   rw[hlen5]at hd8;have py6 : l6[m]? = some y := by rw[u1.out (.inl (by omega))];exact py
   have hpart := P3.part hTO (h35.mix ha' hb' (u1.wide (by omega) (Nat.le_refl _)) (by omega)) hm1 hm2' py6 (fun i x h1 h2 hx => p2 i x h1 h2 (by rw[←u1.out (.inl (by omega))];exact hx)) (fun i x h1 h2 hx => u1.all (p := fun x => A4c x y = false) (by omega) (fun i x h1 h2 hx => p3 i x (by omega) h2 hx) i x (by omega) h2 hx);simp only[↓Sh.dn, sx, reduceCtorEq, Nat.reduceEqDiff, hlr, decide_false, f0, f2, f3, s5];refine⟨_, _, hd8, ?_⟩
   try simp only[↓Sh.dn, sx, Nat.reduceBEq, reduceCtorEq, Nat.reduceEqDiff]
   exact kk (m - a') _ _ (by omega) ⟨a', m, l6, lm2, _, al, rfl, ha', hm1, by omega, hm05.trans (u1.wide (by omega) hb'), hpart.2 u2, fun i x z h0 hz h1 h2 hx => by
       rw[u1.out (.inl (by omega))]at hz;rw[u1.out (.inl (by omega))]at hx;exact hpr5 i x z h0 hz h1 (by omega) hx, u3, hc5.trans u4, by simp only[sx, reduceCtorEq, f0], by simp only[sx, Nat.reduceEqDiff, f1], by simp only[sx], by simp only[sx, Nat.reduceEqDiff, f3], by simp only[sx, Nat.reduceEqDiff];rfl, by simp only[sx, Nat.reduceEqDiff]⟩
theorem B8n{H:AH}{v:Value}:Sh.Call Tryz.prog (knows 7) 134 [v,.int .i64 0,.int .i64 0] H (fun r H'=>H'=H):=by
 refine A3a rfl Tryz.func134 rfl (Nat.le_of_ble_eq_true rfl) ?_;have hres:Tryz.f134.results.toList=[]:=rfl;have w1:IntKind.wrap .i64 ((0:Int)+1)=1:=rfl;simp only[↓Sh.dn,sx,w1];refine A5b (fun m F H'=>H'=H∧F.get 2=some (.int .i64 0)∧F.get 6=some (.int .i64 1)) (m:=0) ⟨rfl,by simp only[sx,Nat.reduceEqDiff],by simp only[sx]⟩ ?_;rintro m F H' ⟨rfl,f2,f6⟩ kk;have d:decide ((1:Int)<0)=false:=rfl;simp only[↓Sh.dn,sx,Nat.reduceEqDiff,f2,f6,d,hres]
theorem B0o{H:AH}{v:Value}{lim:Int}:Sh.Call Tryz.prog (knows 7) 131 [v,.int .i64 0,.int .i64 0,.int .i64 lim] H (fun r H'=>H'=H):=by
 refine A3a rfl Tryz.func131 rfl (Nat.le_of_ble_eq_true rfl) ?_;have hres:Tryz.f131.results.toList=[]:=rfl;obtain⟨r,H1,hd,rfl⟩:=B8n (H:=H) (v:=v);have w1:IntKind.wrap .i64 ((0:Int)-0)=0:=rfl;have d:decide ((0:Int)≤12)=true:=rfl;simp only[↓Sh.dn,sx];refine A5b (fun m F H'=>H'=H1∧F.get 0=some v∧F.get 1=some (.int .i64 0)∧F.get 2=some (.int .i64 0)) (m:=0) ⟨rfl,by simp only[sx,reduceCtorEq],by simp only[sx,Nat.reduceEqDiff],by simp only[sx,Nat.reduceEqDiff]⟩ ?_;rintro m F H' ⟨rfl,f0,f1,f2⟩ kk;simp only[↓Sh.dn,sx,reduceCtorEq,Nat.reduceEqDiff,f0,f1,f2,w1,d];refine⟨_,_,hd,?_⟩;simp only[sx,hres]
theorem C4c{H:AH}{v:Value}{l:List Int}{ob:Option Nat}(hb:Buf H 1 v (l.map fun x=>[Value.int .i64 x]) ob)(hl:l.length≤16000000)(hw:Wf H):
  Sh.Call Tryz.prog (knows 7) 127 [v] H (fun r H'=>∃l':List Int,l'.Perm l∧Srt A4c 0 l'.length l'∧Buf H' 1 v (l'.map fun x=>[Value.int .i64 x]) ob∧Chg (fun y=>ob=some y) H H'):=by
 refine A3a rfl Tryz.func127 rfl (Nat.le_of_ble_eq_true rfl) ?_;have hres:Tryz.f127.results.toList=[]:=rfl;have hlen:=hb.toSl.len Tryz.underlying71 H;rw[List.length_map]at hlen;have wu:IntKind.wrap .u64 (l.length:Int)=(l.length:Int):=A1w (by omega) (by omega);obtain⟨r,H1,hd,rfl,c,rfl,_⟩:=bitsLen (H:=H) (x:=l.length) (by omega);simp only[↓Sh.dn,sx,reduceCtorEq,Nat.reduceEqDiff,hlen,wu];refine⟨_,_,hd,?_⟩;cases ob with
 | none=>
  have hl0:l=[]:=by
   generalize hL:(l.map fun x=>[Value.int .i64 x])=L at hb;cases hb
   simpa using hL
  subst hl0;obtain⟨r,H2,hd2,rfl⟩:=B0o (H:=H1) (v:=v) (lim:=(c:Int));simp only[reduceCtorEq,List.length_nil,Int.ofNat_zero];refine⟨_,_,hd2,?_⟩;simp only[sx,hres];exact⟨[],List.Perm.refl _,fun i j x y h1 h2 h3=>by simp at h3,hb,Chg.refl hw⟩
 | some g=>
  obtain⟨k,cap,n,rfl,hc,hback⟩:=hb.cells;obtain⟨r,H2,hd2,l',q1,q2,q3,q4⟩:=pdqInt (cap:=cap) l.length (a:=0) (b:=l.length) (lim:=(c:Int)) (by omega) hc hw hl (Nat.zero_le _) (Nat.le_refl _) (fun q x y h=>absurd h (Nat.lt_irrefl 0));simp only[sx];refine⟨_,_,hd2,?_⟩;simp only[sx,hres];exact⟨l',q1.perm,by rw[q1.length];exact q2,hback H2 l' q1.length q3,q4.weak fun x hx=>by rw[hx]⟩
theorem sortInts{H:AH}{v:Value}{l:List Int}{ob:Option Nat}(hb:Buf H 1 v (l.map fun x=>[.int .i64 x]) ob)(hl:l.length≤16000000)(hw:Wf H):
  Sh.Call Tryz.prog (knows 7) 115 [v] H (fun r H'=>∃l':List Int,l'.Perm l∧Srt A4c 0 l'.length l'∧Buf H' 1 v (l'.map fun x=>[.int .i64 x]) ob∧Chg (fun y=>ob=some y) H H'):=by
 refine A3a rfl Tryz.func115 rfl (Nat.le_of_ble_eq_true rfl) ?_;have hres:Tryz.f115.results.toList=[]:=rfl;obtain⟨r,H1,hd,hq⟩:=C4c hb hl hw;simp only[↓Sh.dn,sx];refine⟨_,_,hd,?_⟩;simp only[sx,hres];exact hq
theorem C6k{H:AH}{v u ev bv:Value}{vals:List Value}{n:Nat}{E:List (List (ByteArray×Nat))}{ends:List Bool}{L:List Nat}(h:RG H v n E ends ev bv vals)(hL:Sl H u 1 (L.map natC))(hlt:∀t∈L,t<n)(hll:L.length≤17179869183)(hw:Wf H):
  Sh.Call Tryz.prog (knows 7) 88 [v,u] H (fun r H'=>SetOut H H' r n (Clo (A3e E A0b) fun s=>s∈L)):=by
 refine A3a rfl Tryz.func88 rfl (Nat.le_of_ble_eq_true rfl) ?_;have hres:Tryz.f88.results.toList=[.tmp 4]:=rfl;have hrb:=RBox.of h hw;have hk1:Kept H (H.new 3 [.int .i64 0,ev,bv]).2:=Kept.new hw 3 _;have hE:=h.ed.sl.isCell;have hB:=h.en.isCell;rw[h.eq];simp only[↓Sh.dn,sx,Nat.reduceEqDiff,B28 hE hB];have e0:H.next≤(H.new 3 [.int .i64 0,ev,bv]).2.next:=Nat.le_succ _;generalize (H.new 3 [.int .i64 0,ev,bv]).2=H1 at hrb hk1 e0 ⊢;generalize H.next=gb at hrb e0 ⊢;have hn1:=h.n1;have hn2:=h.n2;have hlenE:∀H',A4a Tryz.prog .len [57] [ev] H'=some (.int .i64 (n:Int),H'):=fun H'=>by
  rw[h.ed.sl.len Tryz.underlying57,List.length_map,h.ed.len];unfold A9h;rw[List.length_map,h.le]
 have hmk:=D5a (H:=H1) (l:=n) (c:=n) (Nat.le_refl _) (by omega);have k2:=Kept.new hk1.wf 1 (List.replicate n (.bool false));have f2:=Buf.fill hk1.wf (.bool false) (c:=n) (by omega);simp only[sx,hrb.c1,hlenE,hmk];obtain⟨os,hos⟩:∃os,(if n=0 then none else some H1.next)=os:=⟨_,rfl⟩
 rw[hos]at f2;have hM0:MB (H1.new 1 (List.replicate n (.bool false))).2 H1.next n (.slice (some ⟨H1.next,0,some 0⟩) n n) os (List.replicate n false) []:=by
  refine⟨Marks.empty n,by rw[List.map_replicate];exact f2,fun y hy=>?_⟩;rw[←hos,if_neg (by omega)]at hy;rw[←Option.some.inj hy];exact Nat.le_refl _
 generalize (Value.slice (some ⟨H1.next,0,some 0⟩) n n)=sv at hM0 ⊢;generalize (H1.new 1 (List.replicate n (.bool false))).2=H2 at k2 hM0 ⊢;refine A5c L.length 7 (List.range' 15 27++[6,7]) (fun i F H'=>Kept H1 H'∧∃z,F.get 6=some z∧∃seen out ob,MB H' H1.next n sv os seen out∧LB H' H1.next os z out ob∧(∀t∈out,t∈L)∧∀(j t:Nat),j<i→L[j]?=some t→t∈out) (by simp only[sx]) ⟨k2,_,by simp only[sx,Nat.reduceEqDiff],_,_,none,hM0,⟨.void none,fun y hy=>by cases hy⟩,fun t ht=>(by cases ht),fun j t hj=>by omega⟩ ?_ ?_
 ·rintro i F H' hi hF f7 ⟨hk,z,f6,seen,out,ob,hM,hl,hsub,hdone⟩ k
  have f1:=hF 1 rfl;have f5:=hF 5 rfl;simp only[sx,Nat.reduceEqDiff]at f1 f5;have hL':=hL.grow ((hk1.trans hk).grow hw);have hlen:=hL'.len Tryz.underlying71 H';rw[List.length_map]at hlen;obtain⟨p,hia,hc⟩:=A13 Tryz.underlying71 A2c hL' hi;have htn:L[i]<n:=hlt _ (List.getElem_mem hi);have hget:L[i]?=some L[i]:=List.getElem?_eq_getElem hi;have hmem:L[i]∈L:=List.getElem_mem hi;generalize L[i]=t at hc htn hget hmem;obtain⟨p2,hia2,hc2⟩:=hM.see Tryz.underlying58 A1k htn;simp only[↓Sh.dn,sx,Nat.reduceEqDiff,f1,f5,f7,A1a,hi,decide_true,hlen,hia,hc,hia2,hc2];by_cases hin:t∈out
  ·simp only[↓Sh.dn,sx,Nat.reduceEqDiff,hin,decide_true,f7,A2a hi (Nat.le_trans hll (by decide))]
   refine k _ _ (by repeat (first|refine Same.put ?_ rfl|exact Same.rfl' _)) (by simp only[sx]) ⟨hk,z,by simp only[sx,Nat.reduceEqDiff,f6],seen,out,ob,hM,hl,hsub,fun j t' hj ht'=>?_⟩;by_cases hji:j=i
   ·subst hji;rw[hget]at ht';rw[←Option.some.inj ht'];exact hin
   ·exact hdone j t' (by omega) ht'
  ·obtain⟨p3,H3,a,cap,w',H4,ob',e1,e2,e3,rfl,e5,e6,e7,e8,e9,e10,e11⟩:=B2c hk hM hl htn hin (by have:=hM.ms.le;omega)
   obtain⟨p4,hia4,hc4⟩:=A13 Tryz.underlying71 A2c (hL.grow ((hk1.trans e5).grow hw)) hi;rw[hia]at hia4;injection hia4 with hq;injection hq with hq;injection hq with hq
   rw[←hq]at hc4;have:L[i]=t:=Option.some.inj ((List.getElem?_eq_getElem hi).symm.trans hget);rw[this]at hc4;simp only[↓Sh.dn,sx,Nat.reduceEqDiff,hin,decide_false,f1,f5,f6,f7,hia,hc,e1,e3,hc4,e6,e7,A2a hi (Nat.le_trans hll (by decide))];refine k _ _ (by repeat (first|refine Same.put ?_ rfl|exact Same.rfl' _)) (by simp only[sx]) ⟨e8,_,by simp only[sx,Nat.reduceEqDiff],_,_,ob',e9,e10,fun x hx=>?_,fun j t' hj ht'=>?_⟩
   ·rcases List.mem_append.1 hx with h|h
    ·exact hsub x h
    ·rw[List.mem_singleton.1 h];exact hmem
   ·by_cases hji:j=i
    ·subst hji;rw[hget]at ht';rw[←Option.some.inj ht'];exact List.mem_append_right _ List.mem_cons_self
    ·exact List.mem_append_left _ (hdone j t' (by omega) ht')
 ·rintro F H' hF f7 ⟨hk,z,f6,seen,out,ob,hM,hl,hsub,hdone⟩
  have f2:=hF 2 rfl;have f5:=hF 5 rfl;have f1:=hF 1 rfl;simp only[sx,Nat.reduceEqDiff]at f1 f2 f5;have hL':=hL.grow ((hk1.trans hk).grow hw);have hlen:=hL'.len Tryz.underlying71 H';rw[List.length_map]at hlen;have hLout:∀t∈L,t∈out:=fun t ht=>by
   obtain⟨j,hj⟩:=List.mem_iff_getElem?.1 ht;exact hdone j t (List.getElem?_eq_some_iff.1 hj).1 hj
  simp only[↓Sh.dn,sx,Nat.reduceEqDiff,f1,f7,A1a,Nat.lt_irrefl,decide_false,hlen];refine A5b (m:=n+1) (fun m F H'=>∃i,m+i=n+1∧F.get 8=some (.int .i64 (i:Int))∧F.get 2=some (.pointer (some ⟨gb,0,some 0⟩))∧F.get 5=some sv∧Kept H1 H'∧∃z,F.get 6=some z∧∃seen out ob,MB H' H1.next n sv os seen out∧LB H' H1.next os z out ob∧i≤out.length∧(∀t∈L,t∈out)∧(∀t∈out,Clo (A3e E A0b) (fun s=>s∈L) t)∧∀s∈out.take i,∀t,A3e E A0b s t→t∈out) ⟨0,by omega,by simp only[sx];rfl,by simp only[sx,Nat.reduceEqDiff,f2],by simp only[sx,Nat.reduceEqDiff,f5],hk,z,by simp only[sx,Nat.reduceEqDiff,f6],seen,out,ob,hM,hl,Nat.zero_le _,hLout,fun t ht=>.base (hsub t ht),fun s hs=>by simp at hs⟩ ?_;clear hk hM hl hsub hdone hLout f1 f2 f5 f6 f7 hL' hlen hF;clear z seen out ob;clear F H';rintro m F H' ⟨i,hmi,f8,f2,f5,hk,z,f6,seen,out,ob,hM,hl,hio,hLout,hclo,hcl⟩ k;have hlen:=hl.bf.toSl.len Tryz.underlying71 H';rw[List.length_map]at hlen;have hout:=hM.ms.le;by_cases hi:i<out.length
  ·simp only[↓Sh.dn,sx,Nat.reduceEqDiff,f6,f8,A1a,hi,decide_true,hlen]
   have hsn:out[i]<n:=hM.ms.lt (List.getElem_mem hi);have hget:out[i]?=some out[i]:=List.getElem?_eq_getElem hi;have hcs:Clo (A3e E A0b) (fun s=>s∈L) out[i]:=hclo _ (List.getElem_mem hi);generalize out[i]=s at hsn hget hcs;obtain⟨r,hr⟩:∃r,E[s]?=some r:=⟨E[s]'(by rw[h.le];exact hsn),List.getElem?_eq_getElem _⟩
   have hr':(A9h E)[s]?=some (r.map A0i):=by unfold A9h;rw[List.getElem?_map,hr];rfl
   obtain⟨hrl,hrt⟩:=h.to s r hr;obtain⟨ga,oa,ka,wr,hia,hca,hsr⟩:=(h.ed.grow (hk1.grow hw)).at Tryz.underlying57 A3r hr';have hro:∀{H'},Kept H1 H'→H'.cell ⟨ga,oa,some ka⟩=some wr∧Sl H' wr 2 (r.map A0i)∧A4a Tryz.prog .len [86] [wr] H'=some (.int .i64 (r.length:Int),H'):=fun hk=>by
    have h2:=hsr.grow (hk.grow hk1.wf);refine⟨A8b (hk.grow hk1.wf) hca,h2,?_⟩;rw[h2.len Tryz.underlying86,List.length_map]
   refine A5c r.length 9 (List.range' 48 44++[6,9,10]) (fun q F'' H''=>Kept H1 H''∧∃z',F''.get 6=some z'∧∃seen' out' ob',MB H'' H1.next n sv os seen' out'∧LB H'' H1.next os z' out' ob'∧out'[i]?=some s∧out'.take i=out.take i∧(∀x∈out,x∈out')∧(∀t∈out',Clo (A3e E A0b) (fun s=>s∈L) t)∧∀e∈r.take q,e.1=A0b→e.2∈out') (by simp only[sx]) ⟨hk,z,by simp only[sx,Nat.reduceEqDiff,f6],seen,out,ob,hM,hl,hget,rfl,fun x hx=>hx,hclo,fun e he=>by simp at he⟩ ?_ ?_
   ·rintro q F'' H'' hq hF'' f9 ⟨hk'',z',f6',seen',out',ob',hM',hl',hget',htk,hsub,hclo',hed⟩ k2
    have g2:=hF'' 2 rfl;have g5:=hF'' 5 rfl;have g8:=hF'' 8 rfl;simp only[sx,Nat.reduceEqDiff,f2,f5,f8]at g2 g5 g8;obtain⟨hc1,hs1,hl1⟩:=hro hk'';have hb1:=hrb.kept hk1.wf hk'';have hil:i<out'.length:=(List.getElem?_eq_some_iff.1 hget').1;have hgs:out'[i]=s:=Option.some.inj ((List.getElem?_eq_getElem hil).symm.trans hget');obtain⟨p1,hia1,hcc1⟩:=A13 Tryz.underlying71 A2c hl'.bf.toSl hil;rw[hgs]at hcc1;obtain⟨g',o',k',hia2,hcs2,_⟩:=hs1.at Tryz.underlying86 A5t (i:=q) (x:=A0i r[q]) (by simp[hq]) .i64;have hrq:r[q]∈r:=List.getElem_mem hq;have htake:r.take (q+1)=r.take q++[r[q]]:=by rw[List.take_add_one,List.getElem?_eq_getElem hq];rfl
    generalize r[q]=e at hcs2 hrq htake;have kn:=Kept.new hk''.wf 2 (A0i e);have hk3:=hk''.trans kn;have hM3:=hM'.kept hk''.wf kn;have hl3:=hl'.kept hk''.wf kn;simp only[↓Sh.dn,sx,Nat.reduceEqDiff,f6',f9,g2,g8,hb1.c1,hia1,hcc1,hia,hc1,hl1,A1a,hq,decide_true];refine(A9a (by kernel_rfl)).2 ?_;simp only[↓Sh.dn,sx,Nat.reduceEqDiff,f6',f9,g2,g8,hb1.c1,hia1,hcc1,hia,hc1,hia2,hcs2,C4q,B8x,C2i,re0]
    have hnext : ∀ {seen2 : List Bool} {out2 : List Nat} {ob2 : Option Nat} {z2 : Value} {F2 : Fr} {H2 : AH}, Same (List.range' 48 44 ++ [6, 9, 10]) F'' F2 → F2.get 6 = some z2 → F2.get 9 = some (.int .i64 ((q + 1 : Nat) : Int)) → Kept H1 H2 → MB H2 H1.next n sv os seen2 out2 → LB H2 H1.next os z2 out2 ob2 → (out2 = out' ∨ out2 = out' ++ [e.2] ∧ e.1 = A0b) → (e.1 = A0b → e.2 ∈ out2) →
        wp Tryz.prog (knows 7) _ _ F2 H2 := fun{seen2 out2 ob2 z2 F2 H2} a1 a2 a3 a4 a5 a6 a7 a8 => k2 F2 H2 a1 a3 ⟨a4, z2, a2, seen2, out2, ob2, a5, a6, by
          rcases a7 with h|⟨h, _⟩
          · rw[h];exact hget'
          · rw[h, List.getElem?_append_left hil];exact hget', by
          rcases a7 with h|⟨h, _⟩
          · rw[h];exact htk
          · rw[h, List.take_append_of_le_length (by omega)];exact htk, fun x hx => by
          rcases a7 with h|⟨h, _⟩
          · rw[h];exact hsub x hx
          · rw[h];exact List.mem_append_left _ (hsub x hx), fun t ht => by
          rcases a7 with h|⟨h, he⟩
          · rw[h]at ht;exact hclo' t ht
          · rw[h]at ht
            rcases List.mem_append.1 ht with h2|h2
            · exact hclo' t h2
            · rw[List.mem_singleton.1 h2];exact .step hcs ⟨r, hr, by rw[←he];exact hrq⟩, fun x hx hxe => by
          rw[htake]at hx;rcases List.mem_append.1 hx with h2|h2
          · have := hed x h2 hxe
            rcases a7 with h|⟨h, _⟩
            · rw[h];exact this
            · rw[h];exact List.mem_append_left _ this
          · rw[List.mem_singleton.1 h2]at hxe ⊢;exact a8 hxe⟩
    by_cases he:e.1=⟨#[]⟩
    ·obtain⟨p5,hia5,hc5⟩:=hM3.see Tryz.underlying58 A1k (hrt e hrq)
     by_cases hin:e.2∈out'
     ·simp only[↓Sh.dn,sx,Nat.reduceEqDiff,he,decide_true,re1,g5,hia5,hc5,hin,f9,A2a hq (Nat.le_trans hrl (by decide))]
      exact hnext (by repeat (first|refine Same.put ?_ rfl|exact Same.rfl' _)) (by simp only[sx,Nat.reduceEqDiff,f6']) (by simp only[sx]) hk3 hM3 hl3 (.inl rfl) fun _=>hin
     ·obtain⟨p3,H3,a,cap,w',H4,ob2,e1,e2,e3,rfl,e5,e6,e7,e8,e9,e10,e11⟩:=B2c hk3 hM3 hl3 (hrt e hrq) hin (by have:=hM3.ms.le;omega)
      have hre:H3.cell ⟨H''.next,1,some 0⟩=some (.int .i64 (e.2:Int)):=by
       have:=((Sh.Obj.new (H:=H'') 2 (A0i e)).arr.keep (e11.old H''.next (Nat.lt_succ_self _) fun hy=>Nat.lt_irrefl _ (hM'.lt hk''.wf _ hy))).cell 1;exact this
      simp only[↓Sh.dn,sx,Nat.reduceEqDiff,he,decide_true,re1,g5,e1,e2,e3,f6',hre,e6,e7,f9,A2a hq (Nat.le_trans hrl (by decide))];exact hnext (by repeat (first|refine Same.put ?_ rfl|exact Same.rfl' _)) (by simp only[sx,Nat.reduceEqDiff]) (by simp only[sx]) e8 e9 e10 (.inr ⟨rfl,he⟩) fun _=>List.mem_append_right _ List.mem_cons_self
    ·simp only[↓Sh.dn,sx,Nat.reduceEqDiff,he,decide_false,f9,A2a hq (Nat.le_trans hrl (by decide))]
     exact hnext (by repeat (first|refine Same.put ?_ rfl|exact Same.rfl' _)) (by simp only[sx,Nat.reduceEqDiff,f6']) (by simp only[sx]) hk3 hM3 hl3 (.inl rfl) fun h=>absurd h he
   ·rintro F'' H'' hF'' f9 ⟨hk'',z',f6',seen',out',ob',hM',hl',hget',htk,hsub,hclo',hed⟩
    have g2:=hF'' 2 rfl;have g5:=hF'' 5 rfl;have g8:=hF'' 8 rfl;simp only[sx,Nat.reduceEqDiff,f2,f5,f8]at g2 g5 g8;obtain⟨hc1,hs1,hl1⟩:=hro hk'';have hb1:=hrb.kept hk1.wf hk'';have hil:i<out'.length:=(List.getElem?_eq_some_iff.1 hget').1;have hgs:out'[i]=s:=Option.some.inj ((List.getElem?_eq_getElem hil).symm.trans hget');obtain⟨p1,hia1,hcc1⟩:=A13 Tryz.underlying71 A2c hl'.bf.toSl hil;rw[hgs]at hcc1;have hout':=hM'.ms.le;simp only[↓Sh.dn,sx,Nat.reduceBEq,Nat.reduceEqDiff,f6',f9,g2,g8,hb1.c1,hia1,hcc1,hia,hc1,hl1,A1a,Nat.lt_irrefl,decide_false,A2a hil (Nat.le_trans (Nat.le_trans hout' hn2) (by decide))];refine k (n+1-(i+1)) _ _ (by omega) ⟨i+1,by omega,by simp only[sx],by simp only[sx,Nat.reduceEqDiff,g2],by simp only[sx,Nat.reduceEqDiff,g5],hk'',z',by simp only[sx,Nat.reduceEqDiff,f6'],seen',out',ob',hM',hl',hil,fun t ht=>hsub t (hLout t ht),hclo',fun x hx t hg=>?_⟩;rw[List.take_add_one,hget']at hx;rcases List.mem_append.1 hx with hx|hx
    ·rw[htk]at hx
     exact hsub t (hcl x hx t hg)
    ·simp only[Option.toList,List.mem_singleton]at hx
     subst hx;obtain⟨r',hr2,hg2⟩:=hg;rw[hr]at hr2;rw[←Option.some.inj hr2]at hg2;exact hed _ (by rw[List.take_length];exact hg2) rfl
  ·simp only[↓Sh.dn,sx,Nat.reduceEqDiff,f6,f8,A1a,hi,decide_false,hlen]
   obtain⟨rr,H3,hd3,l',hperm,hsrt,hb3,hc3⟩:=sortInts (l:=out.map fun(x:Nat)=>(x:Int)) (by rw[C7j];exact hl.bf) (by rw[List.length_map];omega) hk.wf;refine⟨_,_,hd3,?_⟩;simp only[sx,hres];have hl':l'.map (fun x=>[Value.int .i64 x])=(l'.map Int.toNat).map natC:=by
    rw[List.map_map];refine List.map_congr_left fun x hx=>?_;obtain⟨y,_,rfl⟩:=List.mem_map.1 (hperm.mem_iff.1 hx);rfl
   rw[hl']at hb3;have hp2:(l'.map Int.toNat).Perm out:=by
    have:=hperm.map Int.toNat;rw[List.map_map]at this;have e:out.map (Int.toNat∘fun(x:Nat)=>(x:Int))=out:=by
     conv=>rhs;rw[←List.map_id out]
     exact List.map_congr_left fun x _=>rfl
    rw[e]at this;exact this
   refine⟨hk1.trans (hk.then (Nat.le_refl _) (hc3.weak fun y hy=>(hl.fr y hy).1)),l'.map Int.toNat,ob,hb3,fun y hy=>Nat.le_trans hk1.next (hl.fr y hy).1,hp2.nodup_iff.2 hM.ms.nod,fun t ht=>hM.ms.lt (hp2.mem_iff.1 ht),fun t=>?_⟩;rw[hp2.mem_iff];exact Clo.iff hLout hclo (fun s hs=>hcl s (by rw[List.take_of_length_le (by omega)];exact hs)) t
theorem refStart{H:AH}{v ev bv:Value}{vals:List Value}{n:Nat}{E:List (List (ByteArray×Nat))}{ends:List Bool}(h:RG H v n E ends ev bv vals)(hw:Wf H):
  Sh.Call Tryz.prog (knows 7) 52 [v] H (fun r H'=>SetOut H H' r n (Clo (A3e E A0b) fun s=>s=0)):=by
 refine A3a rfl Tryz.func52 rfl (Nat.le_of_ble_eq_true rfl) ?_;have hres:Tryz.f52.results.toList=[.tmp 2]:=rfl;have hrb:=RBox.of h hw;have hk1:Kept H (H.new 3 [.int .i64 0,ev,bv]).2:=Kept.new hw 3 _;have hE:=h.ed.sl.isCell;have hB:=h.en.isCell;rw[h.eq];simp only[↓Sh.dn,sx,Nat.reduceEqDiff,B28 hE hB];generalize (H.new 3 [.int .i64 0,ev,bv]).2=H1 at hrb hk1 ⊢;generalize H.next=gb at hrb ⊢;have hbs:=A4p (H:=H1) (x:=.int .i64 0) rfl rfl;have k2:=Kept.new hk1.wf 1 [.int .i64 0];have hS:Sl (H1.new 1 [.int .i64 0]).2 (.slice (some ⟨H1.next,0,some 0⟩) 1 1) 1 (([0]:List Nat).map natC):=
  (Buf.fresh (H:=H1) (s:=1) (xs:=[natC 0]) hk1.wf (by intro x hx;rw[List.mem_singleton.1 hx];rfl) (by simp) 1 rfl).toSl
 have hR:=hrb.rg.kept hk1.wf k2;obtain⟨r,H3,hd3,ho⟩:=C6k hR hS (fun t ht=>by rw[List.mem_singleton.1 ht];exact h.n1) (by decide) k2.wf;simp only[sx,hrb.c0,hrb.ca,hbs,A6a];refine⟨_,_,hd3,?_⟩;simp only[sx,hres];exact(ho.pre (hk1.trans k2)).iff fun t=>by simp only[List.mem_singleton]
theorem refStep{H:AH}{v u ev bv:Value}{vals:List Value}{n:Nat}{E:List (List (ByteArray×Nat))}{ends:List Bool}{L:List Nat}{x:ByteArray}(h:RG H v n E ends ev bv vals)(hL:Sl H u 1 (L.map natC))(hlt:∀t∈L,t<n)(hll:L.length≤100000)(hw:Wf H):
  Sh.Call Tryz.prog (knows 7) 91 [v,u,.string x] H (fun r H'=>SetOut H H' r n (Clo (A3e E A0b) fun t=>∃s,s∈L∧A3e E x s t)):=by
 refine A3a rfl Tryz.func91 rfl (Nat.le_of_ble_eq_true rfl) ?_;have hres:Tryz.f91.results.toList=[.tmp 6]:=rfl;have hrb:=RBox.of h hw;have hk1:Kept H (H.new 3 [.int .i64 0,ev,bv]).2:=Kept.new hw 3 _;have hE:=h.ed.sl.isCell;have hB:=h.en.isCell;rw[h.eq];simp only[↓Sh.dn,sx,B28 hE hB];generalize (H.new 3 [.int .i64 0,ev,bv]).2=H1 at hrb hk1 ⊢;generalize H.next=gb at hrb ⊢;have hn2:=h.n2;refine A5c L.length 8 (List.range' 7 43) (fun i F H'=>Kept H1 H'∧∃z,F.get 7=some z∧∃out ob,LB H' H1.next none z out ob∧out.length≤i*60000∧(∀t∈out,t<n)∧∀t,t∈out↔∃s∈L.take i,A3e E x s t) (by simp only[sx]) ⟨Kept.refl hk1.wf,_,by simp only[sx,Nat.reduceEqDiff],[],none,⟨.void none,fun y hy=>by cases hy⟩,by simp,fun t ht=>(by cases ht),fun t=>by simp⟩ ?_ ?_
 ·rintro i F H' hi hF f8 ⟨hk,z,f7,out,ob,hl,hol,hon,hiff⟩ k
  have f1:=hF 1 rfl;have f2:=hF 2 rfl;have f3:=hF 3 rfl;simp only[sx,Nat.reduceEqDiff]at f1 f2 f3;have hL':=fun{H'} (hk:Kept H1 H')=>hL.grow ((hk1.trans hk).grow hw);have hlen:=(hL' hk).len Tryz.underlying71 H';rw[List.length_map]at hlen;obtain⟨p,hia,hc⟩:=A13 Tryz.underlying71 A2c (hL' (Kept.refl hk1.wf)) hi;have hc':=fun{H'} (hk:Kept H1 H')=>A8b (hk.grow hk1.wf) hc;have htn:L[i]<n:=hlt _ (List.getElem_mem hi);have htake:L.take (i+1)=L.take i++[L[i]]:=by rw[List.take_add_one,List.getElem?_eq_getElem hi];rfl
  clear hc;generalize L[i]=s at hc' htn htake;obtain⟨r,hr⟩:∃r,E[s]?=some r:=⟨E[s]'(by rw[h.le];exact htn),List.getElem?_eq_getElem _⟩
  have hr':(A9h E)[s]?=some (r.map A0i):=by unfold A9h;rw[List.getElem?_map,hr];rfl
  obtain⟨hrl,hrt⟩:=h.to s r hr;obtain⟨ga,oa,ka,wr,hia2,hca,hsr⟩:=(h.ed.grow (hk1.grow hw)).at Tryz.underlying57 A3r hr';have hro:∀{H'},Kept H1 H'→H'.cell ⟨ga,oa,some ka⟩=some wr∧Sl H' wr 2 (r.map A0i)∧A4a Tryz.prog .len [86] [wr] H'=some (.int .i64 (r.length:Int),H'):=fun hk=>by
   have h2:=hsr.grow (hk.grow hk1.wf);refine⟨A8b (hk.grow hk1.wf) hca,h2,?_⟩;rw[h2.len Tryz.underlying86,List.length_map]
  simp only[↓Sh.dn,sx,Nat.reduceEqDiff,f1,f8,A1a,hi,decide_true,hlen];refine A5c r.length 9 (List.range' 17 33++[7,9,10]) (fun q F'' H''=>Kept H1 H''∧∃z',F''.get 7=some z'∧∃out' ob',LB H'' H1.next none z' out' ob'∧out'.length≤i*60000+q∧(∀t∈out',t<n)∧∀t,t∈out'↔(∃s∈L.take i,A3e E x s t)∨∃e∈r.take q,e.1=x∧e.2=t) (by simp only[sx]) ⟨hk,z,by simp only[sx,Nat.reduceEqDiff,f7],out,ob,hl,Nat.le_trans hol (Nat.le_add_right _ _),hon,fun t=>by rw[hiff t];simp⟩ ?_ ?_
  ·rintro q F'' H'' hq hF'' f9 ⟨hk'',z',f7',out',ob',hl',hol',hon',hiff'⟩ k2
   have g1:=hF'' 1 rfl;have g2:=hF'' 2 rfl;have g3:=hF'' 3 rfl;have g8:=hF'' 8 rfl;simp only[sx,Nat.reduceEqDiff,f1,f2,f3,f8]at g1 g2 g3 g8;obtain⟨hc1,hs1,hl1⟩:=hro hk'';have hcc:=hc' hk'';have hb1:=hrb.kept hk1.wf hk'';obtain⟨g',o',k',hia3,hcs2,_⟩:=hs1.at Tryz.underlying86 A5t (i:=q) (x:=A0i r[q]) (by simp[hq]) .i64;have hrq:r[q]∈r:=List.getElem_mem hq;have htk:r.take (q+1)=r.take q++[r[q]]:=by rw[List.take_add_one,List.getElem?_eq_getElem hq];rfl
   generalize r[q]=e at hcs2 hrq htk;have kn:=Kept.new hk''.wf 2 (A0i e);have hk3:=hk''.trans kn;have hl3:=hl'.kept hk''.wf kn;simp only[↓Sh.dn,sx,Nat.reduceEqDiff,f9,g1,g3,g8,hb1.c1,hia,hcc,hia2,hc1,hl1,A1a,hq,decide_true];refine(A9a (by kernel_rfl)).2 ?_;simp only[↓Sh.dn,sx,Nat.reduceEqDiff,f9,g1,g2,g3,g8,hb1.c1,hia,hcc,hia2,hc1,hia3,hcs2,C4q,B8x,C2i,re0];have hj:∀t,(∃e'∈r.take (q+1),e'.1=x∧e'.2=t)↔(∃e'∈r.take q,e'.1=x∧e'.2=t)∨e.1=x∧e.2=t:=fun t=>by
    rw[htk];simp only[List.mem_append,List.mem_singleton];constructor
    ·rintro⟨e',h1|h1,h2⟩
     ·exact .inl ⟨e',h1,h2⟩
     ·subst h1;exact .inr h2
    ·rintro(⟨e',h1,h2⟩|h2)
     ·exact⟨e',.inl h1,h2⟩
     ·exact⟨e,.inr rfl,h2⟩
   by_cases he:e.1=x
   ·obtain⟨a,cap,w',H4,ob2,rfl,e1,e2,e3,e4,e5⟩:=B8l e.2 hk3 (fun y hy=>by cases hy) hl3 (by omega)
    have hre:=re1 (H:=H'') (e:=e);simp only[↓Sh.dn,sx,Nat.reduceEqDiff,he,decide_true,f7',f9,re1,e1,e2,A2a hq (Nat.le_trans hrl (by decide))];refine k2 _ _ (by repeat (first|refine Same.put ?_ rfl|exact Same.rfl' _)) (by simp only[sx]) ⟨e3,w',by simp only[sx,Nat.reduceEqDiff],out'++[e.2],ob2,e4,by rw[List.length_append];simp;omega,fun t ht=>?_,fun t=>?_⟩
    ·rcases List.mem_append.1 ht with h2|h2
     ·exact hon' t h2
     ·rw[List.mem_singleton.1 h2];exact hrt e hrq
    ·rw[hj,List.mem_append,List.mem_singleton,hiff' t]
     constructor
     ·rintro((h1|h1)|h1)
      ·exact .inl h1
      ·exact .inr (.inl h1)
      ·exact .inr (.inr ⟨he,h1.symm⟩)
     ·rintro(h1|h1|⟨_,h1⟩)
      ·exact .inl (.inl h1)
      ·exact .inl (.inr h1)
      ·exact .inr h1.symm
   ·simp only[↓Sh.dn,sx,Nat.reduceEqDiff,he,decide_false,f9,A2a hq (Nat.le_trans hrl (by decide))]
    refine k2 _ _ (by repeat (first|refine Same.put ?_ rfl|exact Same.rfl' _)) (by simp only[sx]) ⟨hk3,z',by simp only[sx,Nat.reduceEqDiff,f7'],out',ob',hl3,by omega,hon',fun t=>?_⟩;rw[hj,hiff' t];simp[he]
  ·rintro F'' H'' hF'' f9 ⟨hk'',z',f7',out',ob',hl',hol',hon',hiff'⟩
   have g1:=hF'' 1 rfl;have g2:=hF'' 2 rfl;have g3:=hF'' 3 rfl;have g8:=hF'' 8 rfl;simp only[sx,Nat.reduceEqDiff,f1,f2,f3,f8]at g1 g2 g3 g8;obtain⟨hc1,hs1,hl1⟩:=hro hk'';have hcc:=hc' hk'';have hb1:=hrb.kept hk1.wf hk'';simp only[↓Sh.dn,sx,Nat.reduceBEq,Nat.reduceEqDiff,f9,g1,g3,g8,hb1.c1,hia,hcc,hia2,hc1,hl1,A1a,Nat.lt_irrefl,decide_false,A2a hi (Nat.le_trans hll (by decide))];refine k _ _ ?_ (by simp only[sx]) ⟨hk'',z',by simp only[sx,Nat.reduceEqDiff,f7'],out',ob',hl',by omega,hon',fun t=>?_⟩
   ·repeat refine Same.put ?_ rfl
    exact Same.trans (by repeat (first|refine Same.put ?_ rfl|exact Same.rfl' _)) (hF''.sub rfl)
   ·rw[hiff' t,htake,List.take_length]
    simp only[List.mem_append,List.mem_singleton];constructor
    ·rintro(⟨s',h1,h2⟩|⟨e,h1,h2,h3⟩)
     ·exact⟨s',.inl h1,h2⟩
     ·exact⟨s,.inr rfl,r,hr,by rw[←h2,←h3];exact h1⟩
    ·rintro⟨s',h1|h1,h2⟩
     ·exact .inl ⟨s',h1,h2⟩
     ·subst h1
      obtain⟨r',h3,h4⟩:=h2;rw[hr]at h3;rw[←Option.some.inj h3]at h4;exact .inr ⟨_,h4,rfl,rfl⟩
 ·rintro F H' hF f8 ⟨hk,z,f7,out,ob,hl,hol,hon,hiff⟩
  have f1:=hF 1 rfl;have f3:=hF 3 rfl;simp only[sx,Nat.reduceEqDiff]at f1 f3;have hL':=hL.grow ((hk1.trans hk).grow hw);have hlen:=hL'.len Tryz.underlying71 H';rw[List.length_map]at hlen;rw[List.take_length]at hiff;have hb1:=hrb.kept hk1.wf hk;obtain⟨r,H3,hd3,ho⟩:=C6k hb1.rg hl.bf.toSl hon (by omega) hk.wf;simp only[↓Sh.dn,sx,Nat.reduceEqDiff,f1,f3,f7,f8,A1a,Nat.lt_irrefl,decide_false,hlen,hb1.ca];refine⟨_,_,hd3,?_⟩;simp only[sx,hres];refine(ho.pre (hk1.trans hk)).iff fun t=>?_;have:(fun s=>s∈out)=fun t=>∃s,s∈L∧A3e E x s t:=by
   funext t
   exact propext (hiff t)
  rw[this]
theorem C5c{H:AH}{x:ByteArray}:Sh.Call Tryz.prog (knows 7) 129 [Value.string x] H (fun r H'=>H'=H∧r=.bool false):=by
 refine A3a rfl Tryz.func129 rfl (Nat.le_of_ble_eq_true rfl) ?_;have hres:Tryz.f129.results.toList=[.tmp 2]:=rfl;simp only[↓Sh.dn,sx,reduceCtorEq,Nat.reduceEqDiff,hres,decide_true]
theorem B0t{H:AH}{x y:ByteArray}:Sh.Call Tryz.prog (knows 7) 117 [Value.string x,Value.string y] H (fun r H'=>H'=H∧r=.bool (A3b x y)):=by
 refine A3a rfl Tryz.func117 rfl (Nat.le_of_ble_eq_true rfl) ?_;have hres:Tryz.f117.results.toList=[.tmp 4]:=rfl;obtain⟨r,H1,hd,rfl,rfl⟩:=C5c (H:=H) (x:=x);simp only[↓Sh.dn,sx,reduceCtorEq];refine⟨_,_,hd,?_⟩;simp only[↓Sh.dn,sx,reduceCtorEq,Nat.reduceEqDiff,hres]
 try rfl
theorem A7d{H:AH}{x y:ByteArray}:Does Tryz.prog (knows 7) 117 [Value.string x,Value.string y] H (.bool (A3b x y)) H:=by
 obtain⟨r,H1,hd,rfl,rfl⟩:=B0t (H:=H) (x:=x) (y:=y);exact hd
abbrev A8e(H:AH)(g k n:Nat)(l:List ByteArray):Prop:=Cells H g k n (l.map (Value.string))
section
variable {H:AH} {g k n m cap i:Nat} {l:List ByteArray}
theorem A0d{j:IntKind}(h:i<m):A7b Tryz.prog 22 (.slice (some ⟨g,0,some k⟩) m cap) (.int j (i:Int))=some (.pointer (some ⟨g,i,some k⟩)):=by
 rw[ia_22 h,Nat.mul_one,Nat.zero_add]
theorem A7c(h:A8e H g k n l)(hi:i<l.length):H.cell ⟨g,i,some k⟩=some (Value.string l[i]):=h.cell (by simp[hi])
theorem A5n{x:ByteArray}{p:Addr}:A0e Tryz.prog 9 H (Value.string x) (.pointer (some p))=H.write p [Value.string x]:=A0c A4i rfl
theorem A7j(h:A8e H g k n l)(hw:Wf H){i j:Nat}(hi:i<l.length)(hj:j<l.length):
  ∃H1 H2,H.write ⟨g,i,some k⟩ [Value.string l[j]]=some H1∧H1.write ⟨g,j,some k⟩ [Value.string l[i]]=some H2∧A8e H2 g k n (swp l i j)∧Chg (fun y=>y=g) H H2∧H2.next=H.next:=by
 obtain⟨H1,H2,h1,h2,h3,h4,h5⟩:=Cells.swap h hw (i:=i) (j:=j) (x:=Value.string l[i]) (y:=Value.string l[j]) (by simp[hi]) (by simp[hj]);exact⟨H1,H2,h1,h2,by rw[D1a]at h3;exact h3,h4,h5⟩
end
theorem B0c{H:AH}{g k n cap a b:Nat}{l:List ByteArray}(hv:A8e H g k n l)(hw:Wf H)(hl:l.length≤16000000)(hab:a≤b)(hb:b≤l.length):
  Sh.Call Tryz.prog (knows 7) 145 [.slice (some ⟨g,0,some k⟩) l.length cap,.int .i64 (a:Int),.int .i64 (b:Int)] H
   (fun r H'=>∃l',Mix a b l l'∧Srt A3b a b l'∧A8e H' g k n l'∧Chg (fun y=>y=g) H H'):=by
 refine A3a rfl Tryz.func145 rfl (Nat.le_of_ble_eq_true rfl) ?_;have hres:Tryz.f145.results.toList=[]:=rfl;have hTO:=strTO;have w1:IntKind.wrap .i64 ((a:Int)+1)=((a+1:Nat):Int):=by rw[wrap64 (by omega) (by omega)];rfl
 simp only[↓Sh.dn,sx,w1]
 let Adj (i:Nat) (m:List ByteArray):Prop:=∀(p:Nat) x y,a≤p→p+1<i→m[p]?=some x→m[p+1]?=some y→A3b y x=false
 refine A5b (fun m F H' => ∃ (i : Nat) (l1 : List ByteArray), m = b - i ∧ a + 1 ≤ i ∧ (i ≤ b ∨ i = a + 1) ∧ Mix a b l l1 ∧ Adj i l1 ∧ A8e H' g k n l1 ∧ Chg (fun y => y = g) H H' ∧
     F.get 0 = some (.slice (some ⟨g, 0, some k⟩) l.length cap) ∧ F.get 1 = some (.int .i64 (a : Int)) ∧ F.get 2 = some (.int .i64 (b : Int)) ∧ F.get 6 = some (.int .i64 (i : Int))) (m := b-(a + 1))
   ⟨a + 1, l, rfl, by omega, .inr rfl, .refl l, fun p x y h1 h2 => by omega, hv, Chg.refl hw, by simp only[sx, reduceCtorEq], by simp only[sx, Nat.reduceEqDiff], by simp only[sx, Nat.reduceEqDiff], by simp only[sx]⟩ ?_
 rintro m F H' ⟨i,l1,rfl,hai,hib,hm,hadj,hv1,hc1,f0,f1,f2,f6⟩ kk;by_cases hlt:i<b
 ·simp only[↓Sh.dn,sx,Nat.reduceEqDiff,f2,f6,A1a,hlt,decide_true]
  refine A5b (fun m F' H2 => ∃ (j : Nat) (l2 : List ByteArray), m = j ∧ a ≤ j ∧ j ≤ i ∧ Mix a b l l2 ∧ (∀ (p : Nat) x y, a ≤ p → p + 1 < i + 1 → p + 1 ≠ j → l2[p]? = some x → l2[p + 1]? = some y → A3b y x = false) ∧
      (∀x y, a<j → j<i → l2[j-1]? = some x → l2[j + 1]? = some y → A3b y x = false) ∧ A8e H2 g k n l2 ∧ Chg (fun y => y = g) H H2 ∧
      F'.get 0 = some (.slice (some ⟨g, 0, some k⟩) l.length cap) ∧ F'.get 1 = some (.int .i64 (a : Int)) ∧ F'.get 2 = some (.int .i64 (b : Int)) ∧ F'.get 6 = some (.int .i64 (i : Int)) ∧ F'.get 7 = some (.int .i64 (j : Int))) (m := i)
    ⟨i, l1, rfl, by omega, Nat.le_refl _, hm, fun p x y h1 h2 h3 => hadj p x y h1 (by omega), fun x y h1 h2 => by omega, hv1, hc1, by simp only[sx, reduceCtorEq, f0], by simp only[sx, Nat.reduceEqDiff, f1], by simp only[sx, Nat.reduceEqDiff, f2], by simp only[sx, Nat.reduceEqDiff, f6], by simp only[sx]⟩ ?_
  rintro j F' H2 ⟨_,l2,rfl,haj,hji,hm2,hA,hB,hv2,hc2,g0,g1,g2,g6,g7⟩ k2;have hlen:=hm2.length;have wi:IntKind.wrap .i64 ((i:Int)+1)=((i+1:Nat):Int):=by rw[wrap64 (by omega) (by omega)];rfl
  simp only[↓Sh.dn];refine(A9a (by kernel_rfl)).2 ?_;by_cases hgt:a<j
  ·have wj:IntKind.wrap .i64 ((j:Int)-1)=((j-1:Nat):Int):=by rw[wrap64 (by omega) (by omega)];omega
   have hj1:j<l2.length:=by omega
   have hj2:j-1<l2.length:=by omega
   have i1:=A0d (g:=g) (k:=k) (cap:=cap) (m:=l.length) (i:=j) (j:=.i64) (by omega);have i2:=A0d (g:=g) (k:=k) (cap:=cap) (m:=l.length) (i:=j-1) (j:=.i64) (by omega);have r1:=A7c hv2 hj1;have r2:=A7c hv2 hj2;have q1:l2[j]?=some l2[j]:=List.getElem?_eq_getElem hj1;have q2:l2[j-1]?=some l2[j-1]:=List.getElem?_eq_getElem hj2;simp only[↓Sh.dn,sx,reduceCtorEq,Nat.reduceEqDiff,g0,g1,g7,A1a,hgt,decide_true,wj,i1,i2,r1,r2];refine⟨_,_,A7d,?_⟩;cases hc:A3b l2[j] l2[j-1] with
   | true=>
    simp only[↓Sh.dn,sx];refine(A9a (by kernel_rfl)).2 ?_;obtain⟨K1,K2,e1,e2,e3,e4,e5⟩:=A7j hv2 hc2.wf hj1 hj2;simp only[↓Sh.dn,sx,reduceCtorEq,Nat.reduceEqDiff,g0,g7,wj,i1,i2,r1,r2,A5n,e1,e2];refine k2 (j-1) _ _ (by omega) ⟨j-1,swp l2 j (j-1),rfl,by omega,by omega,hm2.swap (by omega) (by omega) (by omega) (by omega),fun p x y h1 h2 h3 hx hy=>?_,fun x y h1 h2 hx hy=>?_,e3,hc2.trans e4,by simp only[sx,reduceCtorEq,g0],by simp only[sx,Nat.reduceEqDiff,g1],by simp only[sx,Nat.reduceEqDiff,g2],by simp only[sx,Nat.reduceEqDiff,g6],by simp only[sx]⟩
    ·rw[swp_get hj1 hj2]at hx hy
     by_cases hp1:p+1=j
     ·have hp:p=j-1:=by omega
      rw[if_pos hp,q1]at hx;rw[if_neg (by omega),if_pos hp1,q2]at hy;rw[←Option.some.inj hx,←Option.some.inj hy];exact hTO.asymm hc
     ·by_cases hp2:p=j
      ·rw[if_neg (by omega),if_pos hp2,q2]at hx
       rw[if_neg (by omega),if_neg (by omega)]at hy;rw[←Option.some.inj hx];exact hB _ _ hgt (by omega) q2 (by rw[←hp2];exact hy)
      ·rw[if_neg (by omega),if_neg hp2]at hx
       rw[if_neg (by omega),if_neg (by omega)]at hy;exact hA p x y h1 h2 hp1 hx hy
    ·rw[swp_get hj1 hj2]at hx hy
     rw[if_neg (by omega),if_neg (by omega)]at hx;rw[if_neg (by omega),if_pos (by omega),q2]at hy;rw[←Option.some.inj hy];exact hA (j-2) _ _ (by omega) (by omega) (by omega) (by rw[show j-2=j-1-1 by omega];exact hx) (by rw[show j-2+1=j-1 by omega];exact q2)
   | false=>
    simp only[↓Sh.dn,sx,Nat.reduceBEq,Nat.reduceEqDiff,g6,wi];refine kk (b-(i+1)) _ _ (by omega) ⟨i+1,l2,rfl,by omega,.inl (by omega),hm2,fun p x y h1 h2 hx hy=>?_,hv2,hc2,by simp only[sx,reduceCtorEq,g0],by simp only[sx,Nat.reduceEqDiff,g1],by simp only[sx,Nat.reduceEqDiff,g2],by simp only[sx]⟩;by_cases hp:p+1=j
    ·have hp':p=j-1:=by omega
     rw[hp',q2]at hx;rw[hp,q1]at hy;rw[←Option.some.inj hx,←Option.some.inj hy];exact hc
    ·exact hA p x y h1 h2 hp hx hy
  ·simp only[↓Sh.dn,sx,Nat.reduceBEq,Nat.reduceEqDiff,g1,g7,A1a,hgt,decide_false,g6,wi]
   exact kk (b-(i+1)) _ _ (by omega) ⟨i+1,l2,rfl,by omega,.inl (by omega),hm2,fun p x y h1 h2 hx hy=>hA p x y h1 h2 (by omega) hx hy,hv2,hc2,by simp only[sx,reduceCtorEq,g0],by simp only[sx,Nat.reduceEqDiff,g1],by simp only[sx,Nat.reduceEqDiff,g2],by simp only[sx]⟩
 ·simp only[↓Sh.dn,sx,Nat.reduceEqDiff,f2,f6,A1a,hlt,decide_false,hres]
  exact⟨l1,hm,B9c hTO fun p x y h1 h2 hx hy=>hadj p x y h1 (by omega) hx hy,hv1,hc1⟩
section
variable {H:AH} {g k n cap a b:Nat} {l:List ByteArray}
theorem B4e(hv:A8e H g k n l)(hw:Wf H)(hl:l.length≤16000000)(hab:a<b)(hb:b≤l.length):
  Sh.Call Tryz.prog (knows 7) 149 [.slice (some ⟨g,0,some k⟩) l.length cap,.int .i64 (a:Int),.int .i64 (b:Int)] H
   (fun r H'=>∃l',Mix a b l l'∧A8e H' g k n l'∧Chg (fun y=>y=g) H H'):=by
 refine A3a rfl Tryz.func149 rfl (Nat.le_of_ble_eq_true rfl) ?_;have hres:Tryz.f149.results.toList=[]:=rfl;have w1:IntKind.wrap .i64 ((b:Int)-1)=((b-1:Nat):Int):=by rw[wrap64 (by omega) (by omega)];omega
 simp only[↓Sh.dn,sx,Nat.reduceEqDiff,w1]
 refine A5b (fun m F H' => ∃ (i j : Nat) (l1 : List ByteArray), m = b - i ∧ a ≤ i ∧ i + j + 1 = a + b ∧ i ≤ b ∧ Mix a b l l1 ∧ A8e H' g k n l1 ∧ Chg (fun y => y = g) H H' ∧
     F.get 0 = some (.slice (some ⟨g, 0, some k⟩) l.length cap) ∧ F.get 6 = some (.int .i64 (i : Int)) ∧ F.get 7 = some (.int .i64 (j : Int))) (m := b-a)
   ⟨a, b-1, l, rfl, by omega, by omega, by omega, .refl l, hv, Chg.refl hw, by simp only[sx, reduceCtorEq], by simp only[sx, Nat.reduceEqDiff], by simp only[sx]⟩ ?_
 rintro m F H' ⟨i,j,l1,rfl,hai,hij,hib,hm,hv1,hc1,f0,f6,f7⟩ kk;have hlen:=hm.length;by_cases hlt:i<j
 ·have hi:i<l1.length:=by omega
  have hj:j<l1.length:=by omega
  have wi:IntKind.wrap .i64 ((i:Int)+1)=((i+1:Nat):Int):=by rw[wrap64 (by omega) (by omega)];rfl
  have wj:IntKind.wrap .i64 ((j:Int)-1)=((j-1:Nat):Int):=by rw[wrap64 (by omega) (by omega)];omega
  have i1:=A0d (g:=g) (k:=k) (cap:=cap) (m:=l.length) (i:=i) (j:=.i64) (by omega);have i2:=A0d (g:=g) (k:=k) (cap:=cap) (m:=l.length) (i:=j) (j:=.i64) (by omega);have r1:=A7c hv1 hi;have r2:=A7c hv1 hj;obtain⟨K1,K2,e1,e2,e3,e4,e5⟩:=A7j hv1 hc1.wf hi hj;simp only[↓Sh.dn,sx,Nat.reduceEqDiff,f6,f7,A1a,hlt,decide_true];refine(A9a (by kernel_rfl)).2 ?_;simp only[↓Sh.dn,sx,reduceCtorEq,Nat.reduceEqDiff,f0,f6,f7,i1,i2,r1,r2,A5n,e1,e2,wi,wj];exact kk (b-(i+1)) _ _ (by omega) ⟨i+1,j-1,swp l1 i j,rfl,by omega,by omega,by omega,hm.swap (by omega) (by omega) (by omega) (by omega),e3,hc1.trans e4,by simp only[sx,reduceCtorEq,f0],by simp only[sx,Nat.reduceEqDiff],by simp only[sx]⟩
 ·simp only[↓Sh.dn,sx,Nat.reduceEqDiff,f6,f7,A1a,hlt,decide_false,hres]
  exact⟨l1,hm,hv1,hc1⟩
def B6f(H:AH)(p:Nat)(c:Int):Prop:=Arr H p 0 1 [.int .i64 c]
theorem B9j{i j p:Nat}{c:Int}(hv:A8e H g k n l)(hp:B6f H p c)(hpg:p≠g)(hw:Wf H)(hi:i<l.length)(hj:j<l.length):
  Sh.Call Tryz.prog (knows 7) 163 [.slice (some ⟨g,0,some k⟩) l.length cap,.int .i64 (i:Int),.int .i64 (j:Int),.pointer (some ⟨p,0,some 0⟩)] H
   (fun r H'=>∃i' j':Nat,r=.tuple #[.int .i64 (i':Int),.int .i64 (j':Int)]∧(i'=i∧j'=j∨i'=j∧j'=i)∧A8e H' g k n l∧∃c',B6f H' p c'∧Chg (fun y=>y=p) H H'):=by
 refine A3a rfl Tryz.func163 rfl (Nat.le_of_ble_eq_true rfl) ?_;have hres:Tryz.f163.results.toList=[.tmp 8,.tmp 9]:=rfl;have i1:=A0d (g:=g) (k:=k) (cap:=cap) (m:=l.length) (i:=i) (j:=.i64) hi;have i2:=A0d (g:=g) (k:=k) (cap:=cap) (m:=l.length) (i:=j) (j:=.i64) hj;have r1:=A7c hv hi;have r2:=A7c hv hj;have r3:H.cell ⟨p,0,some 0⟩=some (.int .i64 c):=hp.cell 0;simp only[↓Sh.dn,sx];refine(A9a (by kernel_rfl)).2 ?_;simp only[↓Sh.dn,sx,reduceCtorEq,Nat.reduceEqDiff,i1,i2,r1,r2];refine⟨_,_,A7d,?_⟩;cases hc:A3b l[j] l[i] with
 | true=>
  obtain⟨K1,e1,e2,e3,e4⟩:=hp.write hw (i:=0) (vs:=[.int .i64 (IntKind.wrap .i64 (c+1))]) (by simp);have st:A0e Tryz.prog 3 H (.int .i64 (IntKind.wrap .i64 (c+1))) (.pointer (some ⟨p,0,some 0⟩))=H.write ⟨p,0,some 0⟩ [.int .i64 (IntKind.wrap .i64 (c+1))]:=A0c A2c rfl;simp only[↓Sh.dn,sx,Nat.reduceEqDiff,r3,st,e1,hres];exact⟨j,i,rfl,.inr ⟨rfl,rfl⟩,hv.chg hw e4 (fun h=>hpg h.symm),_,e2,e4⟩
 | false=>
  simp only[↓Sh.dn,sx,Nat.reduceEqDiff,hres];exact⟨i,j,rfl,.inl ⟨rfl,rfl⟩,hv,c,hp,Chg.refl hw⟩
theorem B7k{i j m p:Nat}{c:Int}(hv:A8e H g k n l)(hp:B6f H p c)(hpg:p≠g)(hw:Wf H)(hi:i<l.length)(hj:j<l.length)(hm:m<l.length):
  Sh.Call Tryz.prog (knows 7) 161 [.slice (some ⟨g,0,some k⟩) l.length cap,.int .i64 (i:Int),.int .i64 (j:Int),.int .i64 (m:Int),.pointer (some ⟨p,0,some 0⟩)] H
   (fun r H'=>∃q:Nat,r=.int .i64 (q:Int)∧(q=i∨q=j∨q=m)∧A8e H' g k n l∧∃c',B6f H' p c'∧Chg (fun y=>y=p) H H'):=by
 refine A3a rfl Tryz.func161 rfl (Nat.le_of_ble_eq_true rfl) ?_;have hres:Tryz.f161.results.toList=[.tmp 10]:=rfl;obtain⟨r,H1,hd1,i1,j1,rfl,h1,hv1,c1,hp1,hc1⟩:=B9j (cap:=cap) hv hp hpg hw hi hj;have hi1:i1<l.length:=by omega
 have hj1:j1<l.length:=by omega
 obtain⟨r,H2,hd2,j2,m2,rfl,h2,hv2,c2,hp2,hc2⟩:=B9j (cap:=cap) hv1 hp1 hpg hc1.wf hj1 hm;have hj2:j2<l.length:=by omega
 obtain⟨r,H3,hd3,i3,j3,rfl,h3,hv3,c3,hp3,hc3⟩:=B9j (cap:=cap) hv2 hp2 hpg hc2.wf hi1 hj2;simp only[↓Sh.dn,sx,reduceCtorEq,Nat.reduceEqDiff];refine⟨_,_,hd1,?_⟩;simp only[sx];refine⟨_,_,hd2,?_⟩;simp only[sx];refine⟨_,_,hd3,?_⟩;simp only[sx,hres];exact⟨j3,rfl,by omega,hv3,c3,hp3,(hc1.trans hc2).trans hc3⟩
theorem A4q{i p:Nat}{c:Int}(hv:A8e H g k n l)(hp:B6f H p c)(hpg:p≠g)(hw:Wf H)(hl:l.length≤16000000)(h0:1≤i)(hi:i+1<l.length):
  Sh.Call Tryz.prog (knows 7) 160 [.slice (some ⟨g,0,some k⟩) l.length cap,.int .i64 (i:Int),.pointer (some ⟨p,0,some 0⟩)] H
   (fun r H'=>∃q:Nat,r=.int .i64 (q:Int)∧(i≤q+1∧q≤i+1)∧A8e H' g k n l∧∃c',B6f H' p c'∧Chg (fun y=>y=p) H H'):=by
 refine A3a rfl Tryz.func160 rfl (Nat.le_of_ble_eq_true rfl) ?_;have hres:Tryz.f160.results.toList=[.tmp 6]:=rfl;have w1:IntKind.wrap .i64 ((i:Int)-1)=((i-1:Nat):Int):=by rw[wrap64 (by omega) (by omega)];omega
 have w2:IntKind.wrap .i64 ((i:Int)+1)=((i+1:Nat):Int):=by rw[wrap64 (by omega) (by omega)];rfl
 obtain⟨r,H1,hd1,q,rfl,h1,hv1,c1,hp1,hc1⟩:=B7k (cap:=cap) (i:=i-1) (j:=i) (m:=i+1) hv hp hpg hw (by omega) (by omega) hi;simp only[↓Sh.dn,sx,reduceCtorEq,Nat.reduceEqDiff,w1,w2];refine⟨_,_,hd1,?_⟩;simp only[sx,hres];exact⟨q,rfl,by omega,by omega,hv1,c1,hp1,hc1⟩
theorem B9n(hv:A8e H g k n l)(hw:Wf H)(hl:l.length≤16000000)(hab:a+12<b)(hb:b≤l.length):
  Sh.Call Tryz.prog (knows 7) 148 [.slice (some ⟨g,0,some k⟩) l.length cap,.int .i64 (a:Int),.int .i64 (b:Int)] H
   (fun r H'=>∃q:Nat,∃h:Int,r=.tuple #[.int .i64 (q:Int),.int .i64 h]∧a≤q∧q<b∧A8e H' g k n l∧Kept H H'):=by
 refine A3a rfl Tryz.func148 rfl (Nat.le_of_ble_eq_true rfl) ?_;have hres:Tryz.f148.results.toList=[.tmp 6,.tmp 7]:=rfl;have al:anew Tryz.prog 3 H (.int .i64 0)=some (.pointer (some ⟨H.next,0,some 0⟩),(H.new 1 [.int .i64 0]).2):=A0t A2c rfl;have w0:IntKind.wrap .i64 ((b:Int)-(a:Int))=((b-a:Nat):Int):=by rw[wrap64 (by omega) (by omega)];omega
 have hq4:(Int.tdiv ((b-a:Nat):Int) 4)=(((b-a)/4:Nat):Int):=by rw[Int.tdiv_eq_ediv_of_nonneg (by omega)];rfl
 have A27:∀{t:TypeId} {c:Bool} {x y:Int},y≠0→abin Tryz.prog t c .quo (.int .i64 x) (.int .i64 y)=some (.int .i64 (IntKind.wrap .i64 (x.tdiv y))):=by
  intro t c x y h;simp only[abin,A5f,cond_true,aint,A9p,show (y == 0)=false from by simpa using h,cond_false]
 have wq:IntKind.wrap .i64 (((b-a)/4:Nat):Int)=(((b-a)/4:Nat):Int):=wrap64 (by omega) (by omega);have m1:IntKind.wrap .i64 ((((b-a)/4:Nat):Int)*1)=(((b-a)/4*1:Nat):Int):=by rw[wrap64 (by omega) (by omega)];omega
 have m2:IntKind.wrap .i64 ((((b-a)/4:Nat):Int)*2)=(((b-a)/4*2:Nat):Int):=by rw[wrap64 (by omega) (by omega)];omega
 have m3:IntKind.wrap .i64 ((((b-a)/4:Nat):Int)*3)=(((b-a)/4*3:Nat):Int):=by rw[wrap64 (by omega) (by omega)];omega
 have p1:IntKind.wrap .i64 ((a:Int)+(((b-a)/4*1:Nat):Int))=((a+(b-a)/4*1:Nat):Int):=by rw[wrap64 (by omega) (by omega)];rfl
 have p2:IntKind.wrap .i64 ((a:Int)+(((b-a)/4*2:Nat):Int))=((a+(b-a)/4*2:Nat):Int):=by rw[wrap64 (by omega) (by omega)];rfl
 have p3:IntKind.wrap .i64 ((a:Int)+(((b-a)/4*3:Nat):Int))=((a+(b-a)/4*3:Nat):Int):=by rw[wrap64 (by omega) (by omega)];rfl
 have d8:decide ((8:Int)≤((b-a:Nat):Int))=true:=by simp;omega
 have hk1:Kept H (H.new 1 [.int .i64 0]).2:=Kept.new hw 1 _;have hv0:A8e (H.new 1 [.int .i64 0]).2 g k n l:=hv.kept hw hk1;have hp0:B6f (H.new 1 [.int .i64 0]).2 H.next 0:=(Obj.new (H:=H) 1 [.int .i64 0]).arr;have hpg:H.next≠g:=by have:=hv.lt hw;omega
 simp only[↓Sh.dn,sx,Nat.reduceEqDiff,al,w0,A27 (show (4:Int)≠0 by decide),hq4,wq,m1,m2,m3,p1,p2,p3,d8];generalize (H.new 1 [.int .i64 0]).2=H1 at hk1 hv0 hp0 ⊢;by_cases h50:50≤b-a
 ·have d50:decide ((50:Int)≤((b-a:Nat):Int))=true:=by simp;omega
  obtain⟨r,H2,hd2,q1,rfl,h1,hv1,c1,hp1,hc1⟩:=A4q (cap:=cap) (i:=a+(b-a)/4*1) hv0 hp0 hpg hk1.wf hl (by omega) (by omega);obtain⟨r,H3,hd3,q2,rfl,h2,hv2,c2,hp2,hc2⟩:=A4q (cap:=cap) (i:=a+(b-a)/4*2) hv1 hp1 hpg hc1.wf hl (by omega) (by omega);obtain⟨r,H4,hd4,q3,rfl,h3,hv3,c3,hp3,hc3⟩:=A4q (cap:=cap) (i:=a+(b-a)/4*3) hv2 hp2 hpg hc2.wf hl (by omega) (by omega);obtain⟨r,H5,hd5,q4,rfl,h4,hv4,c4,hp4,hc4⟩:=B7k (cap:=cap) (i:=q1) (j:=q2) (m:=q3) hv3 hp3 hpg hc3.wf (by omega) (by omega) (by omega);have r9:H5.cell ⟨H.next,0,some 0⟩=some (.int .i64 c4):=hp4.cell 0;have hkk:Kept H H5:=(((hk1.chg.trans hc1).trans hc2).trans hc3 |>.trans hc4).kept fun x hx=>by omega
  simp only[↓Sh.dn,sx,reduceCtorEq,Nat.reduceEqDiff,d50];refine⟨_,_,hd2,?_⟩
  try simp only[↓Sh.dn,sx,Nat.reduceBEq,reduceCtorEq,Nat.reduceEqDiff]
  refine⟨_,_,hd3,?_⟩
  try simp only[↓Sh.dn,sx,Nat.reduceBEq,reduceCtorEq,Nat.reduceEqDiff]
  refine⟨_,_,hd4,?_⟩
  try simp only[↓Sh.dn,sx,Nat.reduceBEq,reduceCtorEq,Nat.reduceEqDiff]
  refine⟨_,_,hd5,?_⟩;simp only[sx,r9];by_cases z0:c4=0
  ·simp only[↓Sh.dn,sx,Nat.reduceEqDiff,z0,decide_true,hres]
   exact⟨q4,1,rfl,by omega,by omega,hv4,hkk⟩
  ·simp only[↓Sh.dn,sx,Nat.reduceEqDiff,z0,decide_false]
   by_cases z1:c4=12
   ·simp only[↓Sh.dn,sx,Nat.reduceEqDiff,z1,decide_true,hres]
    exact⟨q4,2,rfl,by omega,by omega,hv4,hkk⟩
   ·simp only[↓Sh.dn,sx,Nat.reduceEqDiff,z1,decide_false,hres]
    exact⟨q4,0,rfl,by omega,by omega,hv4,hkk⟩
 ·have d50:decide ((50:Int)≤((b-a:Nat):Int))=false:=by simp;omega
  obtain⟨r,H5,hd5,q4,rfl,h4,hv4,c4,hp4,hc4⟩:=B7k (cap:=cap) (i:=a+(b-a)/4*1) (j:=a+(b-a)/4*2) (m:=a+(b-a)/4*3) hv0 hp0 hpg hk1.wf (by omega) (by omega) (by omega);have r9:H5.cell ⟨H.next,0,some 0⟩=some (.int .i64 c4):=hp4.cell 0;have hkk:Kept H H5:=(hk1.chg.trans hc4).kept fun x hx=>by omega
  simp only[↓Sh.dn,sx,reduceCtorEq,Nat.reduceEqDiff,d50];refine⟨_,_,hd5,?_⟩;simp only[sx,r9];by_cases z0:c4=0
  ·simp only[↓Sh.dn,sx,Nat.reduceEqDiff,z0,decide_true,hres]
   exact⟨q4,1,rfl,by omega,by omega,hv4,hkk⟩
  ·simp only[↓Sh.dn,sx,Nat.reduceEqDiff,z0,decide_false]
   by_cases z1:c4=12
   ·simp only[↓Sh.dn,sx,Nat.reduceEqDiff,z1,decide_true,hres]
    exact⟨q4,2,rfl,by omega,by omega,hv4,hkk⟩
   ·simp only[↓Sh.dn,sx,Nat.reduceEqDiff,z1,decide_false,hres]
    exact⟨q4,0,rfl,by omega,by omega,hv4,hkk⟩
end
section
variable {H:AH} {g k n cap a b:Nat} {l:List ByteArray}
theorem C4v{p:Nat}{z:Int}(hp:Arr H p 0 1 [.int .u64 z])(hw:Wf H):
  Sh.Call Tryz.prog (knows 7) 155 [.pointer (some ⟨p,0,some 0⟩)] H (fun r H'=>∃z',r=.int .u64 z'∧Arr H' p 0 1 [.int .u64 z']∧Chg (fun y=>y=p) H H'):=by
 refine A3a rfl Tryz.func155 rfl (Nat.le_of_ble_eq_true rfl) ?_;have hres:Tryz.f155.results.toList=[.tmp 2]:=rfl;have st:∀(H:AH) (z:Int),A0e Tryz.prog 182 H (.int .u64 z) (.pointer (some ⟨p,0,some 0⟩))=H.write ⟨p,0,some 0⟩ [.int .u64 z]:=fun H z=>A0c A71 rfl;obtain⟨s1,h1⟩:∃s,A5m true .u64 z 13=some (.int .u64 s):=A61 (b:=13);have r0:H.cell ⟨p,0,some 0⟩=some (.int .u64 z):=hp.cell 0;obtain⟨K1,e1,a1,n1,c1⟩:=hp.write hw (i:=0) (vs:=[.int .u64 (IntKind.wrap .u64 ((BitVec.ofInt IntKind.u64.bits z) ^^^ (BitVec.ofInt IntKind.u64.bits s1)).toNat)]) (by simp);simp only[↓Sh.dn,sx];refine(A9a (by kernel_rfl)).2 ?_;simp only[↓Sh.dn,sx,reduceCtorEq,Nat.reduceEqDiff,r0,C24,h1,C8s,st,e1];generalize IntKind.wrap .u64 ((BitVec.ofInt IntKind.u64.bits z) ^^^ (BitVec.ofInt IntKind.u64.bits s1)).toNat=z1 at a1 e1 ⊢;obtain⟨s2,h2⟩:∃s,A5m false .u64 z1 7=some (.int .u64 s):=A61 (b:=7);have r1:K1.cell ⟨p,0,some 0⟩=some (.int .u64 z1):=a1.cell 0;obtain⟨K2,e2,a2,n2,c2⟩:=a1.write c1.wf (i:=0) (vs:=[.int .u64 (IntKind.wrap .u64 ((BitVec.ofInt IntKind.u64.bits z1) ^^^ (BitVec.ofInt IntKind.u64.bits s2)).toNat)]) (by simp[setCells]);refine(A9a (by kernel_rfl)).2 ?_;simp only[↓Sh.dn,sx,reduceCtorEq,Nat.reduceEqDiff,r1,C4u,h2,C8s,st,e2];generalize IntKind.wrap .u64 ((BitVec.ofInt IntKind.u64.bits z1) ^^^ (BitVec.ofInt IntKind.u64.bits s2)).toNat=z2 at a2 e2 ⊢;obtain⟨s3,h3⟩:∃s,A5m true .u64 z2 17=some (.int .u64 s):=A61 (b:=17);have r2:K2.cell ⟨p,0,some 0⟩=some (.int .u64 z2):=a2.cell 0;obtain⟨K3,e3,a3,n3,c3⟩:=a2.write c2.wf (i:=0) (vs:=[.int .u64 (IntKind.wrap .u64 ((BitVec.ofInt IntKind.u64.bits z2) ^^^ (BitVec.ofInt IntKind.u64.bits s3)).toNat)]) (by simp[setCells]);refine(A9a (by kernel_rfl)).2 ?_;simp only[↓Sh.dn,sx,reduceCtorEq,Nat.reduceEqDiff,r2,C24,h3,C8s,st,e3];generalize IntKind.wrap .u64 ((BitVec.ofInt IntKind.u64.bits z2) ^^^ (BitVec.ofInt IntKind.u64.bits s3)).toNat=z3 at a3 e3 ⊢;have r3:K3.cell ⟨p,0,some 0⟩=some (.int .u64 z3):=a3.cell 0;simp only[sx,r3,hres];exact⟨z3,rfl,a3,(c1.trans c2).trans c3⟩
theorem B7b(hv:A8e H g k n l)(hw:Wf H)(hl:l.length≤16000000)(hab:a+12<b)(hb:b≤l.length):
  Sh.Call Tryz.prog (knows 7) 147 [.slice (some ⟨g,0,some k⟩) l.length cap,.int .i64 (a:Int),.int .i64 (b:Int)] H
   (fun r H'=>∃l',Mix a b l l'∧A8e H' g k n l'∧Chg (fun y=>y=g) H H'):=by
 refine A3a rfl Tryz.func147 rfl (Nat.le_of_ble_eq_true rfl) ?_;have hres:Tryz.f147.results.toList=[]:=rfl;have w0:IntKind.wrap .i64 ((b:Int)-(a:Int))=((b-a:Nat):Int):=by rw[wrap64 (by omega) (by omega)];omega
 have d8:decide ((8:Int)≤((b-a:Nat):Int))=true:=by simp;omega
 have wu:IntKind.wrap .u64 ((b-a:Nat):Int)=((b-a:Nat):Int):=A1w (by omega) (by omega);have al:anew Tryz.prog 182 H (.int .u64 0)=some (.pointer (some ⟨H.next,0,some 0⟩),(H.new 1 [.int .u64 0]).2):=A0t A71 rfl;have st:∀(H:AH) (p:Addr) (z:Int),A0e Tryz.prog 182 H (.int .u64 z) (.pointer (some p))=H.write p [.int .u64 z]:=fun H p z=>A0c A71 rfl;have ov:(H.new 1 [.int .u64 0]).2.write ⟨H.next,0,some 0⟩ [.int .u64 ((b-a:Nat):Int)]=some (H.new 1 [.int .u64 ((b-a:Nat):Int)]).2:=A3m rfl;have hq4:(Int.tdiv ((b-a:Nat):Int) 4)=(((b-a)/4:Nat):Int):=by rw[Int.tdiv_eq_ediv_of_nonneg (by omega)];rfl
 have wq:IntKind.wrap .i64 (((b-a)/4:Nat):Int)=(((b-a)/4:Nat):Int):=wrap64 (by omega) (by omega);have m2:IntKind.wrap .i64 ((((b-a)/4:Nat):Int)*2)=(((b-a)/4*2:Nat):Int):=by rw[wrap64 (by omega) (by omega)];omega
 have p2:IntKind.wrap .i64 ((a:Int)+(((b-a)/4*2:Nat):Int))=((a+(b-a)/4*2:Nat):Int):=by rw[wrap64 (by omega) (by omega)];rfl
 have q1:IntKind.wrap .i64 (((a+(b-a)/4*2:Nat):Int)-1)=((a+(b-a)/4*2-1:Nat):Int):=by rw[wrap64 (by omega) (by omega)];omega
 have q2:IntKind.wrap .i64 (((a+(b-a)/4*2:Nat):Int)+1)=((a+(b-a)/4*2+1:Nat):Int):=by rw[wrap64 (by omega) (by omega)];rfl
 have hk1:Kept H (H.new 1 [.int .u64 ((b-a:Nat):Int)]).2:=Kept.new hw 1 _;have hp0:Arr (H.new 1 [.int .u64 ((b-a:Nat):Int)]).2 H.next 0 1 [.int .u64 ((b-a:Nat):Int)]:=(Obj.new (H:=H) 1 _).arr;have hv0:=hv.kept hw hk1;have hpg:H.next≠g:=by have:=hv.lt hw;omega
 simp only[↓Sh.dn,sx,Nat.reduceEqDiff,w0,d8,wu,al,st,ov];generalize (H.new 1 [.int .u64 ((b-a:Nat):Int)]).2=H1 at hk1 hv0 hp0 ⊢;obtain⟨r,H2,hd,rfl,c,rfl,hc1,hc2,hc3⟩:=C9x (H:=H1) (x:=b-a) (by omega);refine⟨_,_,hd,?_⟩;simp only[sx,A27 (show (4:Int)≠0 by decide),hq4,wq,m2,p2,q1];have hc2':=hc2 (by omega);have hpos:0<2^c:=Nat.two_pow_pos c;have wc:IntKind.wrap .u64 (((2^c:Nat):Int)-1)=((2^c-1:Nat):Int):=by
  rw[A1w (by omega) (by omega)];omega
 generalize hM:2^c=M at *
 refine A5b (fun m F H' => ∃ (i : Nat) (z : Int) (l1 : List ByteArray), m = a + (b - a) / 4 * 2 + 2 - i ∧ a + (b - a) / 4 * 2 - 1 ≤ i ∧ Mix a b l l1 ∧ A8e H' g k n l1 ∧ Arr H' H.next 0 1 [.int .u64 z] ∧ Chg (fun y => y = g ∨ y = H.next) H2 H' ∧
     F.get 0 = some (.slice (some ⟨g, 0, some k⟩) l.length cap) ∧ F.get 1 = some (.int .i64 (a : Int)) ∧ F.get 6 = some (.int .i64 ((b-a : Nat) : Int)) ∧ F.get 7 = some (.pointer (some ⟨H.next, 0, some 0⟩)) ∧ F.get 8 = some (.int .u64 (M : Int)) ∧ F.get 9 = some (.int .i64 (i : Int))) (m := a + (b-a)/4*2 + 2-(a + (b-a)/4*2-1))
   ⟨a + (b-a)/4*2-1, _, l, rfl, by omega, .refl l, hv0, hp0, Chg.refl hk1.wf, by simp only[sx, reduceCtorEq], by simp only[sx, Nat.reduceEqDiff], by simp only[sx, Nat.reduceEqDiff], by simp only[sx, Nat.reduceEqDiff], by simp only[sx, Nat.reduceEqDiff], by simp only[sx]⟩ ?_
 rintro m F H' ⟨i,z,l1,rfl,hai,hm,hv1,hp1,hch,f0,f1,f6,f7,f8,f9⟩ kk;have hlen:=hm.length;by_cases hlt:i≤a+(b-a)/4*2+1
 ·have dl:decide ((i:Int)≤((a+(b-a)/4*2+1:Nat):Int))=true:=by simp;omega
  obtain⟨r,H3,hd3,z',rfl,hp2,hc3'⟩:=C4v hp1 hch.wf;have hv2:=hv1.chg hch.wf hc3' (fun h=>hpg h.symm);obtain⟨o,ho1,ho2⟩:=and_le z' (m:=M-1) (by omega);have wo:IntKind.wrap .i64 (o:Int)=(o:Int):=wrap64 (by omega) (by omega);simp only[↓Sh.dn,sx,Nat.reduceEqDiff,f1,f6,f9,A27 (show (4:Int)≠0 by decide),hq4,wq,m2,p2,q2,dl,f7];refine⟨_,_,hd3,?_⟩;simp only[sx,f8,wc,b_and,ho2,wo];have key:∀(o':Nat) (F':Fr),o'<b-a→F'.get 0=some (.slice (some ⟨g,0,some k⟩) l.length cap)→F'.get 1=some (.int .i64 (a:Int))→F'.get 6=some (.int .i64 ((b-a:Nat):Int))→F'.get 7=some (.pointer (some ⟨H.next,0,some 0⟩))→F'.get 8=some (.int .u64 (M:Int))→F'.get 9=some (.int .i64 (i:Int))→F'.get 10=some (.int .i64 (o':Int))→True:=fun _ _ _ _ _ _ _ _ _ _=>trivial;have wi:IntKind.wrap .i64 ((i:Int)+1)=((i+1:Nat):Int):=by rw[wrap64 (by omega) (by omega)];rfl
  by_cases hbig:b-a≤o
  ·have db:decide (((b-a:Nat):Int)≤(o:Int))=true:=by simp;omega
   have ws:IntKind.wrap .i64 ((o:Int)-((b-a:Nat):Int))=((o-(b-a):Nat):Int):=by rw[wrap64 (by omega) (by omega)];omega
   have wa:IntKind.wrap .i64 ((a:Int)+((o-(b-a):Nat):Int))=((a+(o-(b-a)):Nat):Int):=by rw[wrap64 (by omega) (by omega)];rfl
   have hi:i<l1.length:=by omega
   have hj:a+(o-(b-a))<l1.length:=by omega
   have i1:=A0d (g:=g) (k:=k) (cap:=cap) (m:=l.length) (i:=i) (j:=.i64) (by omega);have i2:=A0d (g:=g) (k:=k) (cap:=cap) (m:=l.length) (i:=a+(o-(b-a))) (j:=.i64) (by omega);have r1:=A7c hv2 hi;have r2:=A7c hv2 hj;obtain⟨K1,K2,e1,e2,e3,e4,e5⟩:=A7j hv2 hc3'.wf hi hj;simp only[↓Sh.dn,sx,Nat.reduceEqDiff,db,f6,ws];refine(A9a (by kernel_rfl)).2 ?_;simp only[↓Sh.dn,sx,reduceCtorEq,Nat.reduceEqDiff,f0,f1,f9,wa,i1,i2,r1,r2,A5n,e1,e2,wi];exact kk (a+(b-a)/4*2+2-(i+1)) _ _ (by omega) ⟨i+1,z',swp l1 i (a+(o-(b-a))),rfl,by omega,hm.swap (by omega) (by omega) (by omega) (by omega),e3,hp2.keep (e4.old _ (hp2.lt hc3'.wf) hpg),(hch.trans (hc3'.weak fun _ h=>.inr h)).trans (e4.weak fun _ h=>.inl h),by simp only[sx,reduceCtorEq,f0],by simp only[sx,Nat.reduceEqDiff,f1],by simp only[sx,Nat.reduceEqDiff,f6],by simp only[sx,Nat.reduceEqDiff,f7],by simp only[sx,Nat.reduceEqDiff,f8],by simp only[sx]⟩
  ·have db:decide (((b-a:Nat):Int)≤(o:Int))=false:=by simp;omega
   have wa:IntKind.wrap .i64 ((a:Int)+(o:Int))=((a+o:Nat):Int):=by rw[wrap64 (by omega) (by omega)];rfl
   have hi:i<l1.length:=by omega
   have hj:a+o<l1.length:=by omega
   have i1:=A0d (g:=g) (k:=k) (cap:=cap) (m:=l.length) (i:=i) (j:=.i64) (by omega);have i2:=A0d (g:=g) (k:=k) (cap:=cap) (m:=l.length) (i:=a+o) (j:=.i64) (by omega);have r1:=A7c hv2 hi;have r2:=A7c hv2 hj;obtain⟨K1,K2,e1,e2,e3,e4,e5⟩:=A7j hv2 hc3'.wf hi hj;simp only[↓Sh.dn,sx,db];refine(A9a (by kernel_rfl)).2 ?_;simp only[↓Sh.dn,sx,reduceCtorEq,Nat.reduceEqDiff,f0,f1,f9,wa,i1,i2,r1,r2,A5n,e1,e2,wi];exact kk (a+(b-a)/4*2+2-(i+1)) _ _ (by omega) ⟨i+1,z',swp l1 i (a+o),rfl,by omega,hm.swap (by omega) (by omega) (by omega) (by omega),e3,hp2.keep (e4.old _ (hp2.lt hc3'.wf) hpg),(hch.trans (hc3'.weak fun _ h=>.inr h)).trans (e4.weak fun _ h=>.inl h),by simp only[sx,reduceCtorEq,f0],by simp only[sx,Nat.reduceEqDiff,f1],by simp only[sx,Nat.reduceEqDiff,f6],by simp only[sx,Nat.reduceEqDiff,f7],by simp only[sx,Nat.reduceEqDiff,f8],by simp only[sx]⟩
 ·have dl:decide ((i:Int)≤((a+(b-a)/4*2+1:Nat):Int))=false:=by simp;omega
  simp only[↓Sh.dn,sx,Nat.reduceEqDiff,f1,f6,f9,A27 (show (4:Int)≠0 by decide),hq4,wq,m2,p2,q2,dl,hres];refine⟨l1,hm,hv1,?_⟩;exact⟨fun x hx hxg=>(hch.old x (Nat.lt_of_lt_of_le hx hk1.next) (fun h=>by rcases h with h|h;exact hxg h;omega)).trans (hk1.old x hx),Nat.le_trans hk1.next hch.next,hch.wf⟩
end
def A99(l:List ByteArray)(f lo hi:Nat):Prop:=∀(q r:Nat) x y,lo≤r→(q=2*r+1∨q=2*r+2)→q<hi→l[f+r]?=some x→l[f+q]?=some y→A3b x y=false
theorem C4t{l:List ByteArray}{f hi:Nat}(h:A99 l f 0 hi)(hl:f+hi≤l.length):∀(q:Nat) x y,q<hi→l[f]?=some x→l[f+q]?=some y→A3b x y=false:=by
 intro q
 induction q using Nat.strongRecOn with
 | _ q ih=>
  intro x y hq hx hy;by_cases h0:q=0
  ·subst h0
   rw[Nat.add_zero,hx]at hy;rw[←Option.some.inj hy];exact strTO.irrefl x
  ·have hr:(q-1)/2<q:=by omega
   have hz:l[f+(q-1)/2]?=some (l[f+(q-1)/2]'(by omega)):=List.getElem?_eq_getElem (by omega);exact strTO.le_trans (h q ((q-1)/2) _ _ (Nat.zero_le _) (by omega) hq hz hy) (ih _ hr x _ (by omega) hx hz)
section
variable {H:AH} {g k n cap:Nat} {l:List ByteArray}
theorem B0l{lo hi f:Nat}(hv:A8e H g k n l)(hw:Wf H)(hl:l.length≤16000000)(hlo:lo≤hi)(hb:f+hi≤l.length)(hh:A99 l f (lo+1) hi):
  Sh.Call Tryz.prog (knows 7) 159 [.slice (some ⟨g,0,some k⟩) l.length cap,.int .i64 (lo:Int),.int .i64 (hi:Int),.int .i64 (f:Int)] H
   (fun r H'=>∃l',Mix (f+lo) (f+hi) l l'∧A99 l' f lo hi∧A8e H' g k n l'∧Chg (fun y=>y=g) H H'):=by
 refine A3a rfl Tryz.func159 rfl (Nat.le_of_ble_eq_true rfl) ?_;have hres:Tryz.f159.results.toList=[]:=rfl;have hTO:=strTO;simp only[↓Sh.dn,sx]
 refine A5b (fun m F H' => ∃ (r : Nat) (l1 : List ByteArray), m = hi - r ∧ lo ≤ r ∧ r ≤ hi ∧ Mix (f + lo) (f + hi) l l1 ∧
     (∀(q p : Nat) x y, lo ≤ p → p ≠ r → (q = 2*p + 1 ∨ q = 2*p + 2) → q<hi → l1[f + p]? = some x → l1[f + q]? = some y → A3b x y = false) ∧
     (∀(q p : Nat) x y, lo ≤ p → (r = 2*p + 1 ∨ r = 2*p + 2) → (q = 2*r + 1 ∨ q = 2*r + 2) → q<hi → l1[f + p]? = some x → l1[f + q]? = some y → A3b x y = false) ∧
     A8e H' g k n l1 ∧ Chg (fun y => y = g) H H' ∧
     F.get 0 = some (.slice (some ⟨g, 0, some k⟩) l.length cap) ∧ F.get 2 = some (.int .i64 (hi : Int)) ∧ F.get 3 = some (.int .i64 (f : Int)) ∧ F.get 8 = some (.int .i64 (r : Int))) (m := hi-lo)
   ⟨lo, l, rfl, Nat.le_refl _, hlo, .refl l, fun q p x y h1 h2 h3 h4 hx hy => hh q p x y (by omega) h3 h4 hx hy, fun q p x y h1 h2 => by omega, hv, Chg.refl hw, by simp only[sx, reduceCtorEq], by simp only[sx, Nat.reduceEqDiff], by simp only[sx, Nat.reduceEqDiff], by simp only[sx]⟩ ?_
 rintro m F H' ⟨r,l1,rfl,hr,hrh,hm,hA,hB,hv1,hc1,f0,f2,f3,f8⟩ kk;have hlen:=hm.length;have w1:IntKind.wrap .i64 ((2:Int)*(r:Int))=((2*r:Nat):Int):=by rw[wrap64 (by omega) (by omega)];rfl
 have w2:IntKind.wrap .i64 (((2*r:Nat):Int)+1)=((2*r+1:Nat):Int):=by rw[wrap64 (by omega) (by omega)];rfl
 have w3:IntKind.wrap .i64 (((2*r+1:Nat):Int)+1)=((2*r+1+1:Nat):Int):=by rw[wrap64 (by omega) (by omega)];rfl
 simp only[↓Sh.dn,sx,Nat.reduceEqDiff,f2,f8,w1,w2];by_cases hend:hi≤2*r+1
 ·have d:decide ((hi:Int)≤((2*r+1:Nat):Int))=true:=by simp;omega
  simp only[↓Sh.dn,sx,Nat.reduceBEq,d,hres];exact⟨l1,hm,fun q p x y h1 h2 h3 hx hy=>hA q p x y h1 (by omega) h2 h3 hx hy,hv1,hc1⟩
 have d:decide ((hi:Int)≤((2*r+1:Nat):Int))=false:=by simp;omega
 simp only[↓Sh.dn,sx,d];have jr:f+r<l1.length:=by omega
 have ir:=A0d (g:=g) (k:=k) (cap:=cap) (m:=l.length) (i:=f+r) (j:=.i64) (by omega);have gr:=A7c hv1 jr;have qr:l1[f+r]?=some l1[f+r]:=List.getElem?_eq_getElem jr;have wfr:IntKind.wrap .i64 ((f:Int)+(r:Int))=((f+r:Nat):Int):=by rw[wrap64 (by omega) (by omega)];rfl
 refine B7e (fun F' H2=>H2=H'∧F'.get 0=some (.slice (some ⟨g,0,some k⟩) l.length cap)∧F'.get 2=some (.int .i64 (hi:Int))∧F'.get 3=some (.int .i64 (f:Int))∧F'.get 8=some (.int .i64 (r:Int))∧F'.get 9=some (.int .i64 ((2*r+1:Nat):Int))∧
  ∃bb:Bool,F'.get 36=some (.bool bb)∧(bb=true→2*r+2<hi∧∀y z,l1[f+(2*r+1)]?=some y→l1[f+(2*r+2)]?=some z→A3b y z=true)∧(bb=false→2*r+2<hi→∀y z,l1[f+(2*r+1)]?=some y→l1[f+(2*r+2)]?=some z→A3b y z=false)) rfl ?_ ?_
 ·refine(A9a (by kernel_rfl)).2 ?_
  by_cases h2:2*r+1+1<hi
  ·have j1:f+(2*r+1)<l1.length:=by omega
   have j2:f+(2*r+1)+1<l1.length:=by omega
   have i1:=A0d (g:=g) (k:=k) (cap:=cap) (m:=l.length) (i:=f+(2*r+1)) (j:=.i64) (by omega);have i2:=A0d (g:=g) (k:=k) (cap:=cap) (m:=l.length) (i:=f+(2*r+1)+1) (j:=.i64) (by omega);have g1:=A7c hv1 j1;have g2:=A7c hv1 j2;have u1:IntKind.wrap .i64 ((f:Int)+((2*r+1:Nat):Int))=((f+(2*r+1):Nat):Int):=by rw[wrap64 (by omega) (by omega)];rfl
   have u2:IntKind.wrap .i64 (((f+(2*r+1):Nat):Int)+1)=((f+(2*r+1)+1:Nat):Int):=by rw[wrap64 (by omega) (by omega)];rfl
   simp only[↓Sh.dn,sx,reduceCtorEq,Nat.reduceEqDiff,f0,f2,f3,w3,A1a,h2,decide_true,u1,u2,i1,i2,g1,g2];refine⟨_,_,A7d,?_⟩;simp only[sx,f8];have e1:l1[f+(2*r+1)]?=some l1[f+(2*r+1)]:=List.getElem?_eq_getElem j1;have e2:l1[f+(2*r+2)]?=some l1[f+(2*r+1)+1]:=List.getElem?_eq_getElem j2;refine⟨fun hb y z hy hz=>?_,fun hb y z hy hz=>?_⟩
   ·rw[e1]at hy;rw[e2]at hz;rw[←Option.some.inj hy,←Option.some.inj hz];exact hb
   ·rw[e1]at hy;rw[e2]at hz;rw[←Option.some.inj hy,←Option.some.inj hz];exact hb
  ·simp only[↓Sh.dn,sx,reduceCtorEq,Nat.reduceEqDiff,f0,f2,f3,f8,w3,A1a,h2,decide_false]
   try (refine fun h=>by omega)
 rintro F1 H2 ⟨rfl,x0,x2,x3,x8,x9,bb,x36,hb1,hb2⟩;refine B1o (fun F' H3=>H3=H2∧F'.get 0=some (.slice (some ⟨g,0,some k⟩) l.length cap)∧F'.get 2=some (.int .i64 (hi:Int))∧F'.get 3=some (.int .i64 (f:Int))∧F'.get 8=some (.int .i64 (r:Int))∧
  ∃c:Nat,F'.get 9=some (.int .i64 (c:Int))∧(c=2*r+1∨c=2*r+2)∧c<hi∧(∀(q:Nat) y z,(q=2*r+1∨q=2*r+2)→q<hi→l1[f+c]?=some y→l1[f+q]?=some z→A3b y z=false)) rfl ?_ ?_
 ·cases bb with
  | true=>
   obtain⟨h1,h2⟩:=hb1 rfl;simp only[↓Sh.dn,sx,reduceCtorEq,Nat.reduceEqDiff,x0,x2,x3,x8,x9,x36,w3];refine⟨2*r+2,rfl,.inr rfl,h1,fun q y z hq hqh hy hz=>?_⟩;rcases hq with rfl|rfl
   ·exact hTO.asymm (h2 z y hz hy)
   ·rw[hy]at hz;rw[←Option.some.inj hz];exact hTO.irrefl y
  | false=>
   simp only[↓Sh.dn,sx,x0,x2,x3,x8,x9,x36];refine⟨2*r+1,rfl,.inl rfl,by omega,fun q y z hq hqh hy hz=>?_⟩;rcases hq with rfl|rfl
   ·rw[hy]at hz;rw[←Option.some.inj hz];exact hTO.irrefl y
   ·exact hb2 rfl hqh y z hy hz
 rintro F' H3 ⟨rfl,g0,g2,g3,g8,c,g9,hc,hch,hmax⟩;have jc:f+c<l1.length:=by omega
 have ic:=A0d (g:=g) (k:=k) (cap:=cap) (m:=l.length) (i:=f+c) (j:=.i64) (by omega);have gc:=A7c hv1 jc;have qc:l1[f+c]?=some l1[f+c]:=List.getElem?_eq_getElem jc;have wfc:IntKind.wrap .i64 ((f:Int)+(c:Int))=((f+c:Nat):Int):=by rw[wrap64 (by omega) (by omega)];rfl
 simp only[↓Sh.dn];refine(A9a (by kernel_rfl)).2 ?_;simp only[↓Sh.dn,sx,reduceCtorEq,Nat.reduceEqDiff,g0,g3,g8,g9,wfr,wfc,ir,ic,gr,gc];refine⟨_,_,A7d,?_⟩;cases hlt:A3b l1[f+r] l1[f+c] with
 | false=>
  simp only[↓Sh.dn,sx,hres];refine⟨l1,hm,fun q p x y h1 h2 h3 hx hy=>?_,hv1,hc1⟩;by_cases hp:p=r
  ·subst hp
   rw[qr]at hx;rw[←Option.some.inj hx];exact hTO.le_trans (hmax q _ _ h2 h3 qc hy) hlt
  ·exact hA q p x y h1 hp h2 h3 hx hy
 | true=>
  obtain⟨K1,K2,e1,e2,e3,e4,e5⟩:=A7j hv1 hc1.wf jr jc;simp only[↓Sh.dn,sx];refine(A9a (by kernel_rfl)).2 ?_;simp only[↓Sh.dn,sx,reduceCtorEq,Nat.reduceEqDiff,g0,g3,g8,g9,wfr,wfc,ir,ic,gr,gc,A5n,e1,e2];refine kk (hi-c) _ _ (by omega) ⟨c,swp l1 (f+r) (f+c),rfl,by omega,by omega,hm.swap (by omega) (by omega) (by omega) (by omega),fun q p x y h1 h2 h3 h4 hx hy=>?_,fun q p x y h1 h2 h3 h4 hx hy=>?_,e3,hc1.trans e4,by simp only[sx,reduceCtorEq,g0],by simp only[sx,Nat.reduceEqDiff,g2],by simp only[sx,Nat.reduceEqDiff,g3],by simp only[sx]⟩
  ·rw[swp_get jr jc]at hx hy
   by_cases hp:p=r
   ·subst hp
    rw[if_neg (by omega),if_pos rfl,qc]at hx;rw[←Option.some.inj hx];by_cases hq:q=c
    ·subst hq
     rw[if_pos rfl,qr]at hy;rw[←Option.some.inj hy];exact hTO.asymm hlt
    ·rw[if_neg (by omega),if_neg (by omega)]at hy
     exact hmax q _ _ h3 h4 qc hy
   ·rw[if_neg (by omega),if_neg (by omega)]at hx
    by_cases hq:q=r
    ·subst hq
     rw[if_neg (by omega),if_pos rfl]at hy;exact hB c p x _ h1 (by omega) hc hch hx hy
    ·by_cases hq2:q=c
     ·omega
     ·rw[if_neg (by omega),if_neg (by omega)]at hy
      exact hA q p x y h1 hp h3 h4 hx hy
  ·have hpr:p=r:=by omega
   subst hpr;rw[swp_get jr jc]at hx hy;rw[if_neg (by omega),if_pos rfl,qc]at hx;rw[if_neg (by omega),if_neg (by omega)]at hy;rw[←Option.some.inj hx];exact hA q c _ _ (by omega) (by omega) h3 h4 qc hy
theorem C7d{a b:Nat}(hv:A8e H g k n l)(hw:Wf H)(hl:l.length≤16000000)(hab:a<b)(hb:b≤l.length):
  Sh.Call Tryz.prog (knows 7) 146 [.slice (some ⟨g,0,some k⟩) l.length cap,.int .i64 (a:Int),.int .i64 (b:Int)] H
   (fun r H'=>∃l',Mix a b l l'∧Srt A3b a b l'∧A8e H' g k n l'∧Chg (fun y=>y=g) H H'):=by
 refine A3a rfl Tryz.func146 rfl (Nat.le_of_ble_eq_true rfl) ?_;have hres:Tryz.f146.results.toList=[]:=rfl;have hTO:=strTO;obtain⟨hi,rfl⟩:∃hi,b=a+hi:=⟨b-a,by omega⟩
 have w0:IntKind.wrap .i64 (((a+hi:Nat):Int)-(a:Int))=(hi:Int):=by rw[wrap64 (by omega) (by omega)];omega
 have w1:IntKind.wrap .i64 ((hi:Int)-1)=((hi-1:Nat):Int):=by rw[wrap64 (by omega) (by omega)];omega
 have hq2:(Int.tdiv ((hi-1:Nat):Int) 2)=(((hi-1)/2:Nat):Int):=by rw[Int.tdiv_eq_ediv_of_nonneg (by omega)];rfl
 have wq:IntKind.wrap .i64 (((hi-1)/2:Nat):Int)=(((hi-1)/2:Nat):Int):=wrap64 (by omega) (by omega);simp only[↓Sh.dn,sx,Nat.reduceEqDiff,w0,w1,A27 (show (2:Int)≠0 by decide),hq2,wq]
 refine A02 (fun F' H2 => ∃ l1 : List ByteArray, Mix a (a + hi) l l1 ∧ A99 l1 a 0 hi ∧ A8e H2 g k n l1 ∧ Chg (fun y => y = g) H H2 ∧
     F'.get 0 = some (.slice (some ⟨g, 0, some k⟩) l.length cap) ∧ F'.get 6 = some (.int .i64 (a : Int)) ∧ F'.get 7 = some (.int .i64 0) ∧ F'.get 8 = some (.int .i64 (hi : Int))) (by rfl) ?_ ?_
 ·refine A5b (fun m F H' => ∃ l1 : List ByteArray, m ≤ (hi - 1) / 2 + 1 ∧ Mix a (a + hi) l l1 ∧ A99 l1 a m hi ∧ A8e H' g k n l1 ∧ Chg (fun y => y = g) H H' ∧
    F.get 0 = some (.slice (some ⟨g, 0, some k⟩) l.length cap) ∧ F.get 6 = some (.int .i64 (a : Int)) ∧ F.get 7 = some (.int .i64 0) ∧ F.get 8 = some (.int .i64 (hi : Int)) ∧ F.get 9 = some (.int .i64 ((m : Int)-1))) (m := (hi-1)/2 + 1)
    ⟨l, Nat.le_refl _, .refl l, fun q r x y h1 h2 h3 => by omega, hv, Chg.refl hw, by simp only[sx, reduceCtorEq], by simp only[sx, Nat.reduceEqDiff], by simp only[sx, Nat.reduceEqDiff], by simp only[sx, Nat.reduceEqDiff], by simp only[sx];congr 2;omega⟩ ?_
  rintro m F H' ⟨l1, hmh, hm, hh, hv1, hc1, f0, f6, f7, f8, f9⟩ kk;have hlen := hm.length;cases m with
  | zero =>
    have d : decide ((0 : Int) ≤ ((0 : Nat) : Int)-1) = false := by simp
    simp only[↓Sh.dn, sx, reduceCtorEq, Nat.reduceEqDiff, f9, d, f0, f6, f7, f8];exact⟨l1, hm, hh, hv1, hc1⟩
  | succ m =>
    have e9 : ((m + 1 : Nat) : Int)-1 = (m : Int) := by omega
    rw[e9]at f9;have d : decide ((0 : Int) ≤ (m : Int)) = true := by simp
    obtain⟨r, H2, hd, l2, hm2, hh2, hv2, hc2⟩ := B0l (cap := cap) (lo := m) (hi := hi) (f := a) hv1 hc1.wf (by omega) (by omega) (by omega) hh;have wm : IntKind.wrap .i64 ((m : Int)-1) = (m : Int)-1 := wrap64 (by omega) (by omega);rw[hlen]at hd;simp only[↓Sh.dn, sx, reduceCtorEq, Nat.reduceEqDiff, f9, d, f0, f6, f8];refine⟨_, _, hd, ?_⟩;simp only[wm];exact kk m _ _ (by omega) ⟨l2, by omega, hm.trans (hm2.wide (by omega) (Nat.le_refl _)), hh2, hv2, hc1.trans hc2, by simp only[sx, reduceCtorEq, f0], by simp only[sx, Nat.reduceEqDiff, f6], by simp only[sx, Nat.reduceEqDiff, f7], by simp only[sx, Nat.reduceEqDiff, f8], by simp only[sx]⟩
 rintro F1 H1 ⟨l1,hm1,hh1,hv1,hc1,f0,f6,f7,f8⟩;have hlen1:=hm1.length;simp only[↓Sh.dn,sx,f8,w1]
 refine A5b (fun m F H' => ∃ l2 : List ByteArray, m ≤ hi ∧ Mix a (a + hi) l l2 ∧ A99 l2 a 0 m ∧ (∀ (p q : Nat) x y, p < q → m ≤ q → q < hi → l2[a + p]? = some x → l2[a + q]? = some y → A3b y x = false) ∧ A8e H' g k n l2 ∧ Chg (fun y => y = g) H H' ∧
     F.get 0 = some (.slice (some ⟨g, 0, some k⟩) l.length cap) ∧ F.get 6 = some (.int .i64 (a : Int)) ∧ F.get 7 = some (.int .i64 0) ∧ F.get 10 = some (.int .i64 ((m : Int)-1))) (m := hi)
   ⟨l1, Nat.le_refl _, hm1, hh1, fun p q x y h1 h2 h3 => by omega, hv1, hc1, by simp only[sx, reduceCtorEq, f0], by simp only[sx, Nat.reduceEqDiff, f6], by simp only[sx, Nat.reduceEqDiff, f7], by simp only[sx];congr 2;omega⟩ ?_
 rintro m F H' ⟨l2,hmh,hm,hh,hT,hv2,hc2,f0,f6,f7,f10⟩ kk;have hlen:=hm.length;cases m with
 | zero=>
  have d:decide ((0:Int)≤((0:Nat):Int)-1)=false:=by simp
  simp only[↓Sh.dn,sx,f10,d,hres];refine⟨l2,hm,fun i j x y h1 h2 h3 hx hy=>?_,hv2,hc2⟩;by_cases hij:i=j
  ·subst hij
   rw[hx]at hy;rw[←Option.some.inj hy];exact hTO.irrefl x
  ·exact hT (i-a) (j-a) x y (by omega) (Nat.zero_le _) (by omega) (by rw[show a+(i-a)=i by omega];exact hx) (by rw[show a+(j-a)=j by omega];exact hy)
 | succ m=>
  have e10:((m+1:Nat):Int)-1=(m:Int):=by omega
  rw[e10]at f10;have d:decide ((0:Int)≤(m:Int))=true:=by simp
  have ja:a<l2.length:=by omega
  have jm:a+m<l2.length:=by omega
  have i1:=A0d (g:=g) (k:=k) (cap:=cap) (m:=l.length) (i:=a) (j:=.i64) (by omega);have i2:=A0d (g:=g) (k:=k) (cap:=cap) (m:=l.length) (i:=a+m) (j:=.i64) (by omega);have g1:=A7c hv2 ja;have g2:=A7c hv2 jm;have wam:IntKind.wrap .i64 ((a:Int)+(m:Int))=((a+m:Nat):Int):=by rw[wrap64 (by omega) (by omega)];rfl
  have wm:IntKind.wrap .i64 ((m:Int)-1)=(m:Int)-1:=wrap64 (by omega) (by omega);obtain⟨K1,K2,e1,e2,e3,e4,e5⟩:=A7j hv2 hc2.wf ja jm;have hsw:Mix a (a+(m+1)) l2 (swp l2 a (a+m)):=(Mix.refl l2).swap (by omega) (by omega) (by omega) (by omega);obtain⟨r,H3,hd,l3,hm3,hh3,hv3,hc3⟩:=B0l (cap:=cap) (lo:=0) (hi:=m) (f:=a) e3 e4.wf (by rw[A5q];omega) (by omega) (by rw[A5q];omega) (fun q p x y h1 h2 h3 hx hy=>by
   rw[swp_get ja jm,if_neg (by omega),if_neg (by omega)]at hx hy;exact hh q p x y (Nat.zero_le _) h2 (by omega) hx hy)
  rw[A5q,hlen]at hd;have hmix:Mix a (a+(m+1)) l2 l3:=hsw.trans (hm3.wide (by omega) (by omega));have hl3:=hmix.length;simp only[↓Sh.dn,sx,f10,d];refine(A9a (by kernel_rfl)).2 ?_;simp only[↓Sh.dn,sx,reduceCtorEq,Nat.reduceEqDiff,f0,f6,f7,f10,wam,i1,i2,g1,g2,A5n,e1,e2];refine⟨_,_,hd,?_⟩;simp only[wm];have qa:l2[a]?=some l2[a]:=List.getElem?_eq_getElem ja;refine kk m _ _ (by omega) ⟨l3,by omega,hm.trans (hmix.wide (Nat.le_refl _) (by omega)),hh3,fun p q x y h1 h2 h3 hx hy=>?_,hv3,(hc2.trans e4).trans hc3,by simp only[sx,reduceCtorEq,f0],by simp only[sx,Nat.reduceEqDiff,f6],by simp only[sx,Nat.reduceEqDiff,f7],by simp only[sx]⟩;by_cases hq:q=m
  ·subst hq
   have hy':l3[a+q]?=some l2[a]:=by
    rw[hm3.out (.inr (by omega)),swp_get ja jm,if_pos rfl,qa]
   rw[hy']at hy;rw[←Option.some.inj hy];refine hmix.all (p:=fun x=>A3b l2[a] x=false) (by omega) (fun i z hi1 hi2 hz=>?_) (a+p) x (by omega) (by omega) hx;exact C4t hh (by omega) (i-a) _ _ (by omega) qa (by rw[show a+(i-a)=i by omega];exact hz)
  ·have hyq:l2[a+q]?=some y:=by rw[←hmix.out (.inr (by omega))];exact hy
   by_cases hp:p≤m
   ·refine hmix.all (p:=fun x=>A3b y x=false) (by omega) (fun i z hi1 hi2 hz=>?_) (a+p) x (by omega) (by omega) hx
    exact hT (i-a) q z y (by omega) (by omega) h3 (by rw[show a+(i-a)=i by omega];exact hz) hyq
   ·have hxp:l2[a+p]?=some x:=by rw[←hmix.out (.inr (by omega))];exact hx
    exact hT p q x y h1 (by omega) h3 hxp hyq
end
section
variable {H:AH} {g k n cap a b:Nat} {l:List ByteArray}
theorem B29{p:Nat}(hv:A8e H g k n l)(hw:Wf H)(hl:l.length≤16000000)(hap:a≤p)(hpb:p<b)(hb:b≤l.length):
  Sh.Call Tryz.prog (knows 7) 152 [.slice (some ⟨g,0,some k⟩) l.length cap,.int .i64 (a:Int),.int .i64 (b:Int),.int .i64 (p:Int)] H
   (fun r H'=>∃(m:Nat) (al:Bool),r=.tuple #[.int .i64 (m:Int),.bool al]∧a≤m∧m<b∧∃l':List ByteArray,Mix a b l l'∧∃y,l'[m]?=some y∧(∀(q:Nat) x,a≤q→q<m→l'[q]?=some x→A3b x y=true)∧(∀(q:Nat) x,m<q→q<b→l'[q]?=some x→A3b x y=false)∧A8e H' g k n l'∧Chg (fun y=>y=g) H H'):=by
 refine A3a rfl Tryz.func152 rfl (Nat.le_of_ble_eq_true rfl) ?_;have hTO:=strTO;have ja:a<l.length:=by omega
 have jp:p<l.length:=by omega
 have ia:=A0d (g:=g) (k:=k) (cap:=cap) (m:=l.length) (i:=a) (j:=.i64) ja;have ip:=A0d (g:=g) (k:=k) (cap:=cap) (m:=l.length) (i:=p) (j:=.i64) jp;have xa:=A7c hv ja;have xp:=A7c hv jp;have wa:IntKind.wrap .i64 ((a:Int)+1)=((a+1:Nat):Int):=by rw[wrap64 (by omega) (by omega)];rfl
 have wb:IntKind.wrap .i64 ((b:Int)-1)=((b-1:Nat):Int):=by rw[wrap64 (by omega) (by omega)];omega
 obtain⟨K1,H1,e1,e2,hv1,hc1,e5⟩:=A7j hv hw ja jp;have hm1:Mix a b l (swp l a p):=(Mix.refl l).swap (by omega) (by omega) (by omega) (by omega);simp only[↓Sh.dn,sx];refine(A9a (by kernel_rfl)).2 ?_;simp only[↓Sh.dn,sx,reduceCtorEq,Nat.reduceEqDiff,ia,ip,xa,xp,A5n,e1,e2,wa,wb];have hpa:(swp l a p)[a]?=some l[p]:=by
  rw[swp_get ja jp];by_cases h:a=p
  ·rw[if_pos h,List.getElem?_eq_getElem ja];simp only[h]
  ·rw[if_neg h,if_pos rfl];exact List.getElem?_eq_getElem jp
 generalize l[p]=pv at hpa xp e1;generalize hL0:swp l a p=l1 at hpa hm1 hv1;have hlen:=hm1.length;have xa:H1.cell ⟨g,a,some k⟩=some (Value.string pv):=hv1.cell (by simp[hpa]);have hres:Tryz.f152.results.toList=[.tmp 8,.tmp 9]:=rfl
 have last : ∀ (l1 : List ByteArray) (H' : AH) (i j : Nat), Mix a b l l1 → l1[a]? = some pv → a ≤ j → j < b → (∀ (q : Nat) x, a + 1 ≤ q → q ≤ j → l1[q]? = some x → A3b x pv = true) → (∀ (q : Nat) x, j < q → q < b → l1[q]? = some x → A3b x pv = false) →
     Mix a b l (swp l1 j a) ∧ (swp l1 j a)[j]? = some pv ∧ (∀(q : Nat) x, a ≤ q → q<j → (swp l1 j a)[q]? = some x → A3b x pv = true) ∧ (∀(q : Nat) x, j<q → q<b → (swp l1 j a)[q]? = some x → A3b x pv = false) := by
   intro l1 H' i j hm hp hj hjb h1 h2;have hlen := hm.length;have jj : j<l1.length := by omega
   have ja : a<l1.length := by omega
   refine⟨hm.swap (by omega) (by omega) (by omega) (by omega), ?_, fun q x hq1 hq2 hx => ?_, fun q x hq1 hq2 hx => ?_⟩
   · rw[swp_get jj ja]
     by_cases h : j = a
     · rw[if_pos h, h];exact hp
     · rw[if_neg h, if_pos rfl];exact hp
   · rw[swp_get jj ja]at hx
     by_cases h : q = a
     · rw[if_pos h]at hx;exact h1 j x (by omega) (Nat.le_refl _) hx
     · rw[if_neg h, if_neg (by omega)]at hx;exact h1 q x (by omega) (by omega) hx
   · rw[swp_get jj ja, if_neg (by omega), if_neg (by omega)]at hx
     exact h2 q x hq1 hq2 hx
 obtain⟨MF1,hMF1⟩:∃M:Fr→AH→Prop,M=fun F' H9=>H1=H9∧∃v:Nat,F'.get 0=some (.slice (some ⟨g,0,some k⟩) l.length cap)∧F'.get 1=some (.int .i64 (a:Int))∧F'.get 10=some (.int .i64 ((v:Nat):Int))∧F'.get 11=some (.int .i64 (((b-1):Nat):Int))∧(a+1)≤v∧v≤(b-1)+1∧(∀(q:Nat) x,(a+1)≤q→q<v→l1[q]?=some x→A3b x pv=true)∧(v≤(b-1)→∀x,l1[v]?=some x→A3b x pv=false):=⟨_,rfl⟩
 refine A02 MF1 (by rfl) ?_ ?_
 ·refine A5b (fun m F' H9 => H1 = H9 ∧ ∃ v : Nat, m = (b - 1) + 1 - v ∧ F'.get 0 = some (.slice (some ⟨g, 0, some k⟩) l.length cap) ∧ F'.get 1 = some (.int .i64 (a : Int)) ∧ F'.get 10 = some (.int .i64 ((v : Nat) : Int)) ∧ F'.get 11 = some (.int .i64 (((b - 1) : Nat) : Int)) ∧ (a + 1) ≤ v ∧ v ≤ (b - 1) + 1 ∧ (∀ (q : Nat) x, (a + 1) ≤ q → q < v → l1[q]? = some x → A3b x pv = true)) (m := (b - 1) + 1 - (a + 1))
    ⟨rfl, (a + 1), rfl, by simp only[sx, reduceCtorEq], by simp only[sx, Nat.reduceEqDiff], by simp only[sx, Nat.reduceEqDiff], by simp only[sx], by omega, by omega, fun q x h1 h2 => by omega⟩ ?_
  rintro m F' H9 ⟨rfl, v, rfl, g0, g1, gi, gj, h1, h2, h3⟩ k2;simp only[↓Sh.dn];refine(A9a (by kernel_rfl)).2 ?_;by_cases hle : v ≤ (b-1)
  · have jv : v<l1.length := by omega
    have iv := A0d (g := g) (k := k) (cap := cap) (m := l.length) (i := v) (j := .i64) (by omega);have xv := A7c hv1 jv;have qv : l1[v]? = some l1[v] := List.getElem?_eq_getElem jv;have wv : IntKind.wrap .i64 ((v : Int) + 1) = ((v + 1 : Nat) : Int) := by rw[wrap64 (by omega) (by omega)];rfl
    simp only[↓Sh.dn, sx, reduceCtorEq, Nat.reduceEqDiff, g0, g1, gi, gj, A0k, hle, decide_true, iv, ia, xv, xa];refine⟨_, _, A7d, ?_⟩;cases hlt : A3b l1[v] pv with
    | true =>
      simp only[↓Sh.dn, sx, Nat.reduceEqDiff, gi, wv];refine k2 ((b-1) + 1-(v + 1)) _ _ (by omega) ⟨rfl, v + 1, rfl, by simp only[sx, reduceCtorEq, g0], by simp only[sx, Nat.reduceEqDiff, g1], by simp only[sx], by simp only[sx, Nat.reduceEqDiff, gj], by omega, by omega, fun q x hq1 hq2 hx => ?_⟩
      · by_cases hq : q = v
        · subst hq;rw[qv]at hx;rw[←Option.some.inj hx];exact hlt
        · exact h3 q x (by omega) (by omega) hx
    | false =>
      simp only[↓Sh.dn, sx, reduceCtorEq, Nat.reduceEqDiff, hMF1, g0, g1, gi, gj];exact⟨v, rfl, h1, h2, h3, fun _ x hx => by rw[qv]at hx;rw[←Option.some.inj hx];exact hlt⟩
  · simp only[↓Sh.dn, sx, reduceCtorEq, Nat.reduceEqDiff, hMF1, g0, g1, gi, gj, A0k, hle, decide_false]
    exact⟨v, rfl, h1, h2, h3, fun h => absurd h hle⟩
 intro F1 H9 h9;rw[hMF1]at h9;obtain⟨rfl,i1,u0,u1,ui,uj,u5,u6,u7,u8⟩:=h9;simp only[↓Sh.dn];obtain⟨MF2,hMF2⟩:∃M:Fr→AH→Prop,M=fun F' H9=>H1=H9∧∃v:Nat,F'.get 0=some (.slice (some ⟨g,0,some k⟩) l.length cap)∧F'.get 1=some (.int .i64 (a:Int))∧F'.get 10=some (.int .i64 ((i1:Nat):Int))∧F'.get 11=some (.int .i64 ((v:Nat):Int))∧i1≤v+1∧v≤(b-1)∧(∀(q:Nat) x,v<q→q≤(b-1)→l1[q]?=some x→A3b x pv=false)∧(i1≤v→∀x,l1[v]?=some x→A3b x pv=true):=⟨_,rfl⟩
 refine A02 MF2 (by rfl) ?_ ?_
 ·refine A5b (fun m F' H9 => H1 = H9 ∧ ∃ v : Nat, m = v ∧ F'.get 0 = some (.slice (some ⟨g, 0, some k⟩) l.length cap) ∧ F'.get 1 = some (.int .i64 (a : Int)) ∧ F'.get 10 = some (.int .i64 ((i1 : Nat) : Int)) ∧ F'.get 11 = some (.int .i64 ((v : Nat) : Int)) ∧ i1 ≤ v + 1 ∧ v ≤ (b - 1) ∧ (∀ (q : Nat) x, v < q → q ≤ (b - 1) → l1[q]? = some x → A3b x pv = false)) (m := (b - 1))
    ⟨rfl, (b-1), rfl, by simp only[u0], by simp only[u1], by simp only[ui], by simp only[uj], by omega, by omega, fun q x h1 h2 => by omega⟩ ?_
  rintro v F' H9 ⟨rfl, _, rfl, g0, g1, gi, gj, h1, h2, h3⟩ k2;simp only[↓Sh.dn];refine(A9a (by kernel_rfl)).2 ?_;by_cases hle : i1 ≤ v
  · have jv : v<l1.length := by omega
    have iv := A0d (g := g) (k := k) (cap := cap) (m := l.length) (i := v) (j := .i64) (by omega);have xv := A7c hv1 jv;have qv : l1[v]? = some l1[v] := List.getElem?_eq_getElem jv;have wv : IntKind.wrap .i64 ((v : Int)-1) = ((v-1 : Nat) : Int) := by rw[wrap64 (by omega) (by omega)];omega
    simp only[↓Sh.dn, sx, reduceCtorEq, Nat.reduceEqDiff, g0, g1, gi, gj, A0k, hle, decide_true, iv, ia, xv, xa];refine⟨_, _, A7d, ?_⟩;cases hlt : A3b l1[v] pv with
    | false =>
      simp only[↓Sh.dn, sx, Nat.reduceEqDiff, gj, wv];refine k2 ((v-1)) _ _ (by omega) ⟨rfl, v-1, rfl, by simp only[sx, reduceCtorEq, g0], by simp only[sx, Nat.reduceEqDiff, g1], by simp only[sx, Nat.reduceEqDiff, gi], by simp only[sx], by omega, by omega, fun q x hq1 hq2 hx => ?_⟩
      · by_cases hq : q = v
        · subst hq;rw[qv]at hx;rw[←Option.some.inj hx];exact hlt
        · exact h3 q x (by omega) (by omega) hx
    | true =>
      simp only[↓Sh.dn, sx, reduceCtorEq, Nat.reduceEqDiff, hMF2, g0, g1, gi, gj];exact⟨v, rfl, h1, h2, h3, fun _ x hx => by rw[qv]at hx;rw[←Option.some.inj hx];exact hlt⟩
  · simp only[↓Sh.dn, sx, reduceCtorEq, Nat.reduceEqDiff, hMF2, g0, g1, gi, gj, A0k, hle, decide_false]
    exact⟨v, rfl, h1, h2, h3, fun h => absurd h hle⟩
 intro F2 H9 h9;rw[hMF2]at h9;obtain⟨rfl,j1,w0,w1,wi,wj,w5,w6,w7,w8⟩:=h9;simp only[↓Sh.dn,sx,Nat.reduceEqDiff,wi,wj,A1a];by_cases hgt:j1<i1
 ·have jj:j1<l1.length:=by omega
  have ja1:a<l1.length:=by omega
  have ij:=A0d (g:=g) (k:=k) (cap:=cap) (m:=l.length) (i:=j1) (j:=.i64) (by omega);have xj:=A7c hv1 jj;have xa':=A7c hv1 ja1;obtain⟨L1,L2,d1,d2,hv2,hc2,d5⟩:=A7j hv1 hc1.wf jj ja1;obtain⟨p1,p2,p3,p4⟩:=last l1 H1 i1 j1 hm1 hpa (by omega) (by omega) (fun q x h1 h2 hx=>u7 q x h1 (by omega) hx) (fun q x h1 h2 hx=>w7 q x h1 (by omega) hx);simp only[↓Sh.dn,sx,hgt,decide_true];refine(A9a (by kernel_rfl)).2 ?_;simp only[↓Sh.dn,sx,reduceCtorEq,Nat.reduceEqDiff,w0,w1,wj,ij,ia,xj,xa',A5n,d1,d2,hres];exact⟨j1,_,rfl,by omega,by omega,swp l1 j1 a,p1,pv,p2,p3,p4,hv2,hc1.trans hc2⟩
 simp only[↓Sh.dn,sx,hgt,decide_false];have hij:i1<j1:=by
  by_cases h:i1=j1
  ·have h1:=u8 (by omega)
   have h2:=w8 (by omega);obtain⟨x,hx⟩:∃x,l1[i1]?=some x:=⟨_,List.getElem?_eq_getElem (by omega)⟩
   have a1:=h1 x hx;have a2:=h2 x (by rw[←h];exact hx);rw[a1]at a2;cases a2
  ·omega
 have ji1:i1<l1.length:=by omega
 have jj1:j1<l1.length:=by omega
 have ii:=A0d (g:=g) (k:=k) (cap:=cap) (m:=l.length) (i:=i1) (j:=.i64) (by omega);have ij:=A0d (g:=g) (k:=k) (cap:=cap) (m:=l.length) (i:=j1) (j:=.i64) (by omega);have xi:=A7c hv1 ji1;have xj:=A7c hv1 jj1;have yi:IntKind.wrap .i64 ((i1:Int)+1)=((i1+1:Nat):Int):=by rw[wrap64 (by omega) (by omega)];rfl
 have yj:IntKind.wrap .i64 ((j1:Int)-1)=((j1-1:Nat):Int):=by rw[wrap64 (by omega) (by omega)];omega
 obtain⟨L1,L2,d1,d2,hv2,hc2,d5⟩:=A7j hv1 hc1.wf ji1 jj1;refine(A9a (by kernel_rfl)).2 ?_;simp only[↓Sh.dn,sx,reduceCtorEq,Nat.reduceEqDiff,w0,wi,wj,ii,ij,xi,xj,A5n,d1,d2,yi,yj]
 have pair : ∀ (l1 : List ByteArray) (i0 i1 j0 j1 : Nat), l1.length = l.length → l1[a]? = some pv → a + 1 ≤ i0 → i0 ≤ i1 → i1 < j1 → j1 ≤ j0 → j0 < b → (∀ (q : Nat) x, a + 1 ≤ q → q < i1 → l1[q]? = some x → A3b x pv = true) → (∀ (q : Nat) x, j1 < q → q < b → l1[q]? = some x → A3b x pv = false) →
     (∀x, l1[i1]? = some x → A3b x pv = false) → (∀x, l1[j1]? = some x → A3b x pv = true) → (swp l1 i1 j1)[a]? = some pv ∧ (∀(q : Nat) x, a + 1 ≤ q → q<i1 + 1 → (swp l1 i1 j1)[q]? = some x → A3b x pv = true) ∧ (∀(q : Nat) x, j1-1<q → q<b → (swp l1 i1 j1)[q]? = some x → A3b x pv = false) := by
   intro l1 i0 i1 j0 j1 hlen hp h1 h2 h3 h4 h5 hA hB hi hj;have ji : i1<l1.length := by omega
   have jj : j1<l1.length := by omega
   refine⟨by rw[swp_get ji jj, if_neg (by omega), if_neg (by omega)];exact hp, fun q x hq1 hq2 hx => ?_, fun q x hq1 hq2 hx => ?_⟩
   · rw[swp_get ji jj, if_neg (by omega)]at hx
     by_cases h : q = i1
     · rw[if_pos h]at hx;exact hj x hx
     · rw[if_neg h]at hx;exact hA q x hq1 (by omega) hx
   · rw[swp_get ji jj]at hx
     by_cases h : q = j1
     · rw[if_pos h]at hx;exact hi x hx
     · rw[if_neg h, if_neg (by omega)]at hx;exact hB q x (by omega) hq2 hx
 obtain⟨s1,s2,s3⟩:=pair l1 (a+1) i1 (b-1) j1 (by omega) hpa (Nat.le_refl _) (by omega) hij (by omega) (by omega) u7 (fun q x h1 h2 hx=>w7 q x h1 (by omega) hx) (u8 (by omega)) (w8 (by omega))
 refine A5b (fun m F' H2 => ∃ (i j : Nat) (l1 : List ByteArray), m = j + 1 - i ∧ a + 1 ≤ i ∧ i ≤ j + 1 ∧ j < b ∧ Mix a b l l1 ∧ l1[a]? = some pv ∧ (∀ (q : Nat) x, a + 1 ≤ q → q < i → l1[q]? = some x → A3b x pv = true) ∧ (∀ (q : Nat) x, j < q → q < b → l1[q]? = some x → A3b x pv = false) ∧ A8e H2 g k n l1 ∧ Chg (fun y => y = g) H H2 ∧
     F'.get 0 = some (.slice (some ⟨g, 0, some k⟩) l.length cap) ∧ F'.get 1 = some (.int .i64 (a : Int)) ∧ F'.get 10 = some (.int .i64 ((i : Nat) : Int)) ∧ F'.get 11 = some (.int .i64 ((j : Nat) : Int))) (m := j1-1 + 1-(i1 + 1))
   ⟨i1 + 1, j1-1, swp l1 i1 j1, rfl, by omega, by omega, by omega, hm1.swap (by omega) (by omega) (by omega) (by omega), s1, s2, s3, hv2, hc1.trans hc2, by simp only[sx, reduceCtorEq, w0], by simp only[sx, Nat.reduceEqDiff, w1], by simp only[sx, Nat.reduceEqDiff], by simp only[sx]⟩ ?_
 clear xa xi xj hpa hm1 hv1 hlen ji1 jj1 s1 s2 s3 hv2 d1 d2 u7 u8 w7 w8;clear hL0;rintro m F H2 ⟨i0,j0,l1,rfl,hi0,hij0,hj0,hm1,hpa,hA,hB,hv1,hc1,f0,f1,fi,fj⟩ kk;have hlen:=hm1.length;have xa:H2.cell ⟨g,a,some k⟩=some (Value.string pv):=hv1.cell (by simp[hpa]);simp only[↓Sh.dn];obtain⟨MF3,hMF3⟩:∃M:Fr→AH→Prop,M=fun F' H9=>H2=H9∧∃v:Nat,F'.get 0=some (.slice (some ⟨g,0,some k⟩) l.length cap)∧F'.get 1=some (.int .i64 (a:Int))∧F'.get 10=some (.int .i64 ((v:Nat):Int))∧F'.get 11=some (.int .i64 ((j0:Nat):Int))∧i0≤v∧v≤j0+1∧(∀(q:Nat) x,i0≤q→q<v→l1[q]?=some x→A3b x pv=true)∧(v≤j0→∀x,l1[v]?=some x→A3b x pv=false):=⟨_,rfl⟩
 refine A02 MF3 (by rfl) ?_ ?_
 ·refine A5b (fun m F' H9 => H2 = H9 ∧ ∃ v : Nat, m = j0 + 1 - v ∧ F'.get 0 = some (.slice (some ⟨g, 0, some k⟩) l.length cap) ∧ F'.get 1 = some (.int .i64 (a : Int)) ∧ F'.get 10 = some (.int .i64 ((v : Nat) : Int)) ∧ F'.get 11 = some (.int .i64 ((j0 : Nat) : Int)) ∧ i0 ≤ v ∧ v ≤ j0 + 1 ∧ (∀ (q : Nat) x, i0 ≤ q → q < v → l1[q]? = some x → A3b x pv = true)) (m := j0 + 1 - i0)
    ⟨rfl, i0, rfl, by simp only[f0], by simp only[f1], by simp only[fi], by simp only[fj], by omega, by omega, fun q x h1 h2 => by omega⟩ ?_
  rintro m F' H9 ⟨rfl, v, rfl, g0, g1, gi, gj, h1, h2, h3⟩ k2;simp only[↓Sh.dn];refine(A9a (by kernel_rfl)).2 ?_;by_cases hle : v ≤ j0
  · have jv : v<l1.length := by omega
    have iv := A0d (g := g) (k := k) (cap := cap) (m := l.length) (i := v) (j := .i64) (by omega);have xv := A7c hv1 jv;have qv : l1[v]? = some l1[v] := List.getElem?_eq_getElem jv;have wv : IntKind.wrap .i64 ((v : Int) + 1) = ((v + 1 : Nat) : Int) := by rw[wrap64 (by omega) (by omega)];rfl
    simp only[↓Sh.dn, sx, reduceCtorEq, Nat.reduceEqDiff, g0, g1, gi, gj, A0k, hle, decide_true, iv, ia, xv, xa];refine⟨_, _, A7d, ?_⟩;cases hlt : A3b l1[v] pv with
    | true =>
      simp only[↓Sh.dn, sx, Nat.reduceEqDiff, gi, wv];refine k2 (j0 + 1-(v + 1)) _ _ (by omega) ⟨rfl, v + 1, rfl, by simp only[sx, reduceCtorEq, g0], by simp only[sx, Nat.reduceEqDiff, g1], by simp only[sx], by simp only[sx, Nat.reduceEqDiff, gj], by omega, by omega, fun q x hq1 hq2 hx => ?_⟩
      · by_cases hq : q = v
        · subst hq;rw[qv]at hx;rw[←Option.some.inj hx];exact hlt
        · exact h3 q x (by omega) (by omega) hx
    | false =>
      simp only[↓Sh.dn, sx, reduceCtorEq, Nat.reduceEqDiff, hMF3, g0, g1, gi, gj];exact⟨v, rfl, h1, h2, h3, fun _ x hx => by rw[qv]at hx;rw[←Option.some.inj hx];exact hlt⟩
  · simp only[↓Sh.dn, sx, reduceCtorEq, Nat.reduceEqDiff, hMF3, g0, g1, gi, gj, A0k, hle, decide_false]
    exact⟨v, rfl, h1, h2, h3, fun h => absurd h hle⟩
 intro F3 H9 h9;rw[hMF3]at h9;obtain⟨rfl,i2,u0,u1,ui,uj,u5,u6,u7,u8⟩:=h9;simp only[↓Sh.dn];obtain⟨MF4,hMF4⟩:∃M:Fr→AH→Prop,M=fun F' H9=>H2=H9∧∃v:Nat,F'.get 0=some (.slice (some ⟨g,0,some k⟩) l.length cap)∧F'.get 1=some (.int .i64 (a:Int))∧F'.get 10=some (.int .i64 ((i2:Nat):Int))∧F'.get 11=some (.int .i64 ((v:Nat):Int))∧i2≤v+1∧v≤j0∧(∀(q:Nat) x,v<q→q≤j0→l1[q]?=some x→A3b x pv=false)∧(i2≤v→∀x,l1[v]?=some x→A3b x pv=true):=⟨_,rfl⟩
 refine A02 MF4 (by rfl) ?_ ?_
 ·refine A5b (fun m F' H9 => H2 = H9 ∧ ∃ v : Nat, m = v ∧ F'.get 0 = some (.slice (some ⟨g, 0, some k⟩) l.length cap) ∧ F'.get 1 = some (.int .i64 (a : Int)) ∧ F'.get 10 = some (.int .i64 ((i2 : Nat) : Int)) ∧ F'.get 11 = some (.int .i64 ((v : Nat) : Int)) ∧ i2 ≤ v + 1 ∧ v ≤ j0 ∧ (∀ (q : Nat) x, v < q → q ≤ j0 → l1[q]? = some x → A3b x pv = false)) (m := j0)
    ⟨rfl, j0, rfl, by simp only[u0], by simp only[u1], by simp only[ui], by simp only[uj], by omega, by omega, fun q x h1 h2 => by omega⟩ ?_
  rintro v F' H9 ⟨rfl, _, rfl, g0, g1, gi, gj, h1, h2, h3⟩ k2;simp only[↓Sh.dn];refine(A9a (by kernel_rfl)).2 ?_;by_cases hle : i2 ≤ v
  · have jv : v<l1.length := by omega
    have iv := A0d (g := g) (k := k) (cap := cap) (m := l.length) (i := v) (j := .i64) (by omega);have xv := A7c hv1 jv;have qv : l1[v]? = some l1[v] := List.getElem?_eq_getElem jv;have wv : IntKind.wrap .i64 ((v : Int)-1) = ((v-1 : Nat) : Int) := by rw[wrap64 (by omega) (by omega)];omega
    simp only[↓Sh.dn, sx, reduceCtorEq, Nat.reduceEqDiff, g0, g1, gi, gj, A0k, hle, decide_true, iv, ia, xv, xa];refine⟨_, _, A7d, ?_⟩;cases hlt : A3b l1[v] pv with
    | false =>
      simp only[↓Sh.dn, sx, Nat.reduceEqDiff, gj, wv];refine k2 ((v-1)) _ _ (by omega) ⟨rfl, v-1, rfl, by simp only[sx, reduceCtorEq, g0], by simp only[sx, Nat.reduceEqDiff, g1], by simp only[sx, Nat.reduceEqDiff, gi], by simp only[sx], by omega, by omega, fun q x hq1 hq2 hx => ?_⟩
      · by_cases hq : q = v
        · subst hq;rw[qv]at hx;rw[←Option.some.inj hx];exact hlt
        · exact h3 q x (by omega) (by omega) hx
    | true =>
      simp only[↓Sh.dn, sx, reduceCtorEq, Nat.reduceEqDiff, hMF4, g0, g1, gi, gj];exact⟨v, rfl, h1, h2, h3, fun _ x hx => by rw[qv]at hx;rw[←Option.some.inj hx];exact hlt⟩
  · simp only[↓Sh.dn, sx, reduceCtorEq, Nat.reduceEqDiff, hMF4, g0, g1, gi, gj, A0k, hle, decide_false]
    exact⟨v, rfl, h1, h2, h3, fun h => absurd h hle⟩
 intro F4 H9 h9;rw[hMF4]at h9;obtain⟨rfl,j2,w0,w1,wi,wj,w5,w6,w7,w8⟩:=h9;have hA2:∀(q:Nat) x,a+1≤q→q<i2→l1[q]?=some x→A3b x pv=true:=by
  intro q x h1 h2 hx;by_cases h:q<i0
  ·exact hA q x h1 h hx
  ·exact u7 q x (by omega) h2 hx
 have hB2:∀(q:Nat) x,j2<q→q<b→l1[q]?=some x→A3b x pv=false:=by
  intro q x h1 h2 hx;by_cases h:j0<q
  ·exact hB q x h h2 hx
  ·exact w7 q x h1 (by omega) hx
 simp only[↓Sh.dn,sx,Nat.reduceEqDiff,wi,wj,A1a];by_cases hgt:j2<i2
 ·have jj:j2<l1.length:=by omega
  have ja1:a<l1.length:=by omega
  have ij:=A0d (g:=g) (k:=k) (cap:=cap) (m:=l.length) (i:=j2) (j:=.i64) (by omega);have xj:=A7c hv1 jj;have xa':=A7c hv1 ja1;obtain⟨L3,L4,d1,d2,hv2,hc2,d5⟩:=A7j hv1 hc1.wf jj ja1;obtain⟨p1,p2,p3,p4⟩:=last l1 H1 i2 j2 hm1 hpa (by omega) (by omega) (fun q x h1 h2 hx=>hA2 q x h1 (by omega) hx) (fun q x h1 h2 hx=>hB2 q x h1 h2 hx);simp only[↓Sh.dn,sx,Nat.reduceBEq,hgt,decide_true];refine(A9a (by kernel_rfl)).2 ?_;simp only[↓Sh.dn,sx,reduceCtorEq,Nat.reduceEqDiff,w0,w1,wj,ij,ia,xj,xa',A5n,d1,d2,hres];exact⟨j2,_,rfl,by omega,by omega,swp l1 j2 a,p1,pv,p2,p3,p4,hv2,hc1.trans hc2⟩
 simp only[↓Sh.dn,sx,hgt,decide_false];have hij2:i2<j2:=by
  by_cases h:i2=j2
  ·have h1:=u8 (by omega)
   have h2:=w8 (by omega);obtain⟨x,hx⟩:∃x,l1[i2]?=some x:=⟨_,List.getElem?_eq_getElem (by omega)⟩
   have a1:=h1 x hx;have a2:=h2 x (by rw[←h];exact hx);rw[a1]at a2;cases a2
  ·omega
 have ji1:i2<l1.length:=by omega
 have jj1:j2<l1.length:=by omega
 have ii2:=A0d (g:=g) (k:=k) (cap:=cap) (m:=l.length) (i:=i2) (j:=.i64) (by omega);have ij2:=A0d (g:=g) (k:=k) (cap:=cap) (m:=l.length) (i:=j2) (j:=.i64) (by omega);have xi:=A7c hv1 ji1;have xj:=A7c hv1 jj1;have yi2:IntKind.wrap .i64 ((i2:Int)+1)=((i2+1:Nat):Int):=by rw[wrap64 (by omega) (by omega)];rfl
 have yj2:IntKind.wrap .i64 ((j2:Int)-1)=((j2-1:Nat):Int):=by rw[wrap64 (by omega) (by omega)];omega
 obtain⟨L3,L4,d1,d2,hv2,hc2,d5⟩:=A7j hv1 hc1.wf ji1 jj1;obtain⟨s1,s2,s3⟩:=pair l1 i0 i2 j0 j2 (by omega) hpa hi0 (by omega) hij2 (by omega) (by omega) hA2 hB2 (u8 (by omega)) (w8 (by omega));refine(A9a (by kernel_rfl)).2 ?_;simp only[↓Sh.dn,sx,reduceCtorEq,Nat.reduceEqDiff,w0,wi,wj,ii2,ij2,xi,xj,A5n,d1,d2,yi2,yj2];exact kk (j2-1+1-(i2+1)) _ _ (by omega) ⟨i2+1,j2-1,swp l1 i2 j2,rfl,by omega,by omega,by omega,hm1.swap (by omega) (by omega) (by omega) (by omega),s1,s2,s3,hv2,hc1.trans hc2,by simp only[sx,reduceCtorEq,w0],by simp only[sx,Nat.reduceEqDiff,w1],by simp only[sx,Nat.reduceEqDiff],by simp only[sx]⟩
theorem A69{p:Nat}(hv:A8e H g k n l)(hw:Wf H)(hl:l.length≤16000000)(hap:a≤p)(hpb:p<b)(hb:b≤l.length):
  Sh.Call Tryz.prog (knows 7) 151 [.slice (some ⟨g,0,some k⟩) l.length cap,.int .i64 (a:Int),.int .i64 (b:Int),.int .i64 (p:Int)] H
   (fun r H'=>∃m:Nat,r=.int .i64 (m:Int)∧a<m∧m≤b∧∃l':List ByteArray,Mix a b l l'∧(∀(q:Nat) x,a≤q→q<m→l'[q]?=some x→A3b l[p] x=false)∧(∀(q:Nat) x,m≤q→q<b→l'[q]?=some x→A3b l[p] x=true)∧A8e H' g k n l'∧Chg (fun y=>y=g) H H'):=by
 refine A3a rfl Tryz.func151 rfl (Nat.le_of_ble_eq_true rfl) ?_;have hTO:=strTO;have ja:a<l.length:=by omega
 have jp:p<l.length:=by omega
 have ia:=A0d (g:=g) (k:=k) (cap:=cap) (m:=l.length) (i:=a) (j:=.i64) ja;have ip:=A0d (g:=g) (k:=k) (cap:=cap) (m:=l.length) (i:=p) (j:=.i64) jp;have xa:=A7c hv ja;have xp:=A7c hv jp;have wa:IntKind.wrap .i64 ((a:Int)+1)=((a+1:Nat):Int):=by rw[wrap64 (by omega) (by omega)];rfl
 have wb:IntKind.wrap .i64 ((b:Int)-1)=((b-1:Nat):Int):=by rw[wrap64 (by omega) (by omega)];omega
 obtain⟨K1,H1,e1,e2,hv1,hc1,e5⟩:=A7j hv hw ja jp;have hm1:Mix a b l (swp l a p):=(Mix.refl l).swap (by omega) (by omega) (by omega) (by omega);simp only[↓Sh.dn,sx];refine(A9a (by kernel_rfl)).2 ?_;simp only[↓Sh.dn,sx,reduceCtorEq,Nat.reduceEqDiff,ia,ip,xa,xp,A5n,e1,e2,wa,wb];have hpa:(swp l a p)[a]?=some l[p]:=by
  rw[swp_get ja jp];by_cases h:a=p
  ·rw[if_pos h,List.getElem?_eq_getElem ja];simp only[h]
  ·rw[if_neg h,if_pos rfl];exact List.getElem?_eq_getElem jp
 generalize l[p]=pv at hpa xp e1 ⊢;generalize hL0:swp l a p=l0 at hpa hm1 hv1;have hres:Tryz.f151.results.toList=[.tmp 8]:=rfl
 have pair : ∀ (l1 : List ByteArray) (i1 j1 : Nat), l1.length = l.length → l1[a]? = some pv → a + 1 ≤ i1 → i1 < j1 → j1 < b → (∀ (q : Nat) x, a + 1 ≤ q → q < i1 → l1[q]? = some x → A3b pv x = false) → (∀ (q : Nat) x, j1 < q → q < b → l1[q]? = some x → A3b pv x = true) →
     (∀x, l1[i1]? = some x → A3b pv x = true) → (∀x, l1[j1]? = some x → A3b pv x = false) → (swp l1 i1 j1)[a]? = some pv ∧ (∀(q : Nat) x, a + 1 ≤ q → q<i1 + 1 → (swp l1 i1 j1)[q]? = some x → A3b pv x = false) ∧ (∀(q : Nat) x, j1-1<q → q<b → (swp l1 i1 j1)[q]? = some x → A3b pv x = true) := by
   intro l1 i1 j1 hlen hp h1 h3 h5 hA hB hi hj;have ji : i1<l1.length := by omega
   have jj : j1<l1.length := by omega
   refine⟨by rw[swp_get ji jj, if_neg (by omega), if_neg (by omega)];exact hp, fun q x hq1 hq2 hx => ?_, fun q x hq1 hq2 hx => ?_⟩
   · rw[swp_get ji jj, if_neg (by omega)]at hx
     by_cases h : q = i1
     · rw[if_pos h]at hx;exact hj x hx
     · rw[if_neg h]at hx;exact hA q x hq1 (by omega) hx
   · rw[swp_get ji jj]at hx
     by_cases h : q = j1
     · rw[if_pos h]at hx;exact hi x hx
     · rw[if_neg h, if_neg (by omega)]at hx;exact hB q x (by omega) hq2 hx
 refine A5b (fun m F' H2 => ∃ (i j : Nat) (l1 : List ByteArray), m = j + 1 - i ∧ a + 1 ≤ i ∧ i ≤ j + 1 ∧ j < b ∧ Mix a b l l1 ∧ l1[a]? = some pv ∧ (∀ (q : Nat) x, a + 1 ≤ q → q < i → l1[q]? = some x → A3b pv x = false) ∧ (∀ (q : Nat) x, j < q → q < b → l1[q]? = some x → A3b pv x = true) ∧ A8e H2 g k n l1 ∧ Chg (fun y => y = g) H H2 ∧
     F'.get 0 = some (.slice (some ⟨g, 0, some k⟩) l.length cap) ∧ F'.get 1 = some (.int .i64 (a : Int)) ∧ F'.get 9 = some (.int .i64 ((i : Nat) : Int)) ∧ F'.get 10 = some (.int .i64 ((j : Nat) : Int))) (m := b-1 + 1-(a + 1))
   ⟨a + 1, b-1, l0, rfl, by omega, by omega, by omega, hm1, hpa, fun q x h1 h2 => by omega, fun q x h1 h2 => by omega, hv1, hc1, by simp only[sx, reduceCtorEq], by simp only[sx, Nat.reduceEqDiff], by simp only[sx, Nat.reduceEqDiff], by simp only[sx]⟩ ?_
 clear xa hpa hm1 hv1;clear hL0;rintro m F H2 ⟨i0,j0,l1,rfl,hi0,hij0,hj0,hm1,hpa,hA,hB,hv1,hc1,f0,f1,fi,fj⟩ kk;have hlen:=hm1.length;have xa:H2.cell ⟨g,a,some k⟩=some (Value.string pv):=hv1.cell (by simp[hpa]);simp only[↓Sh.dn];obtain⟨MF3,hMF3⟩:∃M:Fr→AH→Prop,M=fun F' H9=>H2=H9∧∃v:Nat,F'.get 0=some (.slice (some ⟨g,0,some k⟩) l.length cap)∧F'.get 1=some (.int .i64 (a:Int))∧F'.get 9=some (.int .i64 ((v:Nat):Int))∧F'.get 10=some (.int .i64 ((j0:Nat):Int))∧i0≤v∧v≤j0+1∧(∀(q:Nat) x,i0≤q→q<v→l1[q]?=some x→A3b pv x=false)∧(v≤j0→∀x,l1[v]?=some x→A3b pv x=true):=⟨_,rfl⟩
 refine A02 MF3 (by rfl) ?_ ?_
 ·refine A5b (fun m F' H9 => H2 = H9 ∧ ∃ v : Nat, m = j0 + 1 - v ∧ F'.get 0 = some (.slice (some ⟨g, 0, some k⟩) l.length cap) ∧ F'.get 1 = some (.int .i64 (a : Int)) ∧ F'.get 9 = some (.int .i64 ((v : Nat) : Int)) ∧ F'.get 10 = some (.int .i64 ((j0 : Nat) : Int)) ∧ i0 ≤ v ∧ v ≤ j0 + 1 ∧ (∀ (q : Nat) x, i0 ≤ q → q < v → l1[q]? = some x → A3b pv x = false)) (m := j0 + 1 - i0)
    ⟨rfl, i0, rfl, by simp only[f0], by simp only[f1], by simp only[fi], by simp only[fj], by omega, by omega, fun q x h1 h2 => by omega⟩ ?_
  rintro m F' H9 ⟨rfl, v, rfl, g0, g1, gi, gj, h1, h2, h3⟩ k2;simp only[↓Sh.dn];refine(A9a (by kernel_rfl)).2 ?_;by_cases hle : v ≤ j0
  · have jv : v<l1.length := by omega
    have iv := A0d (g := g) (k := k) (cap := cap) (m := l.length) (i := v) (j := .i64) (by omega);have xv := A7c hv1 jv;have qv : l1[v]? = some l1[v] := List.getElem?_eq_getElem jv;have wv : IntKind.wrap .i64 ((v : Int) + 1) = ((v + 1 : Nat) : Int) := by rw[wrap64 (by omega) (by omega)];rfl
    simp only[↓Sh.dn, sx, reduceCtorEq, Nat.reduceEqDiff, g0, g1, gi, gj, A0k, hle, decide_true, iv, ia, xv, xa];refine⟨_, _, A7d, ?_⟩;cases hlt : A3b pv l1[v] with
    | false =>
      simp only[↓Sh.dn, sx, Nat.reduceEqDiff, gi, wv];refine k2 (j0 + 1-(v + 1)) _ _ (by omega) ⟨rfl, v + 1, rfl, by simp only[sx, reduceCtorEq, g0], by simp only[sx, Nat.reduceEqDiff, g1], by simp only[sx], by simp only[sx, Nat.reduceEqDiff, gj], by omega, by omega, fun q x hq1 hq2 hx => ?_⟩
      · by_cases hq : q = v
        · subst hq;rw[qv]at hx;rw[←Option.some.inj hx];exact hlt
        · exact h3 q x (by omega) (by omega) hx
    | true =>
      simp only[↓Sh.dn, sx, reduceCtorEq, Nat.reduceEqDiff, hMF3, g0, g1, gi, gj];exact⟨v, rfl, h1, h2, h3, fun _ x hx => by rw[qv]at hx;rw[←Option.some.inj hx];exact hlt⟩
  · simp only[↓Sh.dn, sx, reduceCtorEq, Nat.reduceEqDiff, hMF3, g0, g1, gi, gj, A0k, hle, decide_false]
    exact⟨v, rfl, h1, h2, h3, fun h => absurd h hle⟩
 intro F3 H9 h9;rw[hMF3]at h9;obtain⟨rfl,i2,u0,u1,ui,uj,u5,u6,u7,u8⟩:=h9;simp only[↓Sh.dn];obtain⟨MF4,hMF4⟩:∃M:Fr→AH→Prop,M=fun F' H9=>H2=H9∧∃v:Nat,F'.get 0=some (.slice (some ⟨g,0,some k⟩) l.length cap)∧F'.get 1=some (.int .i64 (a:Int))∧F'.get 9=some (.int .i64 ((i2:Nat):Int))∧F'.get 10=some (.int .i64 ((v:Nat):Int))∧i2≤v+1∧v≤j0∧(∀(q:Nat) x,v<q→q≤j0→l1[q]?=some x→A3b pv x=true)∧(i2≤v→∀x,l1[v]?=some x→A3b pv x=false):=⟨_,rfl⟩
 refine A02 MF4 (by rfl) ?_ ?_
 ·refine A5b (fun m F' H9 => H2 = H9 ∧ ∃ v : Nat, m = v ∧ F'.get 0 = some (.slice (some ⟨g, 0, some k⟩) l.length cap) ∧ F'.get 1 = some (.int .i64 (a : Int)) ∧ F'.get 9 = some (.int .i64 ((i2 : Nat) : Int)) ∧ F'.get 10 = some (.int .i64 ((v : Nat) : Int)) ∧ i2 ≤ v + 1 ∧ v ≤ j0 ∧ (∀ (q : Nat) x, v < q → q ≤ j0 → l1[q]? = some x → A3b pv x = true)) (m := j0)
    ⟨rfl, j0, rfl, by simp only[u0], by simp only[u1], by simp only[ui], by simp only[uj], by omega, by omega, fun q x h1 h2 => by omega⟩ ?_
  rintro v F' H9 ⟨rfl, _, rfl, g0, g1, gi, gj, h1, h2, h3⟩ k2;simp only[↓Sh.dn];refine(A9a (by kernel_rfl)).2 ?_;by_cases hle : i2 ≤ v
  · have jv : v<l1.length := by omega
    have iv := A0d (g := g) (k := k) (cap := cap) (m := l.length) (i := v) (j := .i64) (by omega);have xv := A7c hv1 jv;have qv : l1[v]? = some l1[v] := List.getElem?_eq_getElem jv;have wv : IntKind.wrap .i64 ((v : Int)-1) = ((v-1 : Nat) : Int) := by rw[wrap64 (by omega) (by omega)];omega
    simp only[↓Sh.dn, sx, reduceCtorEq, Nat.reduceEqDiff, g0, g1, gi, gj, A0k, hle, decide_true, iv, ia, xv, xa];refine⟨_, _, A7d, ?_⟩;cases hlt : A3b pv l1[v] with
    | true =>
      simp only[↓Sh.dn, sx, Nat.reduceEqDiff, gj, wv];refine k2 ((v-1)) _ _ (by omega) ⟨rfl, v-1, rfl, by simp only[sx, reduceCtorEq, g0], by simp only[sx, Nat.reduceEqDiff, g1], by simp only[sx, Nat.reduceEqDiff, gi], by simp only[sx], by omega, by omega, fun q x hq1 hq2 hx => ?_⟩
      · by_cases hq : q = v
        · subst hq;rw[qv]at hx;rw[←Option.some.inj hx];exact hlt
        · exact h3 q x (by omega) (by omega) hx
    | false =>
      simp only[↓Sh.dn, sx, reduceCtorEq, Nat.reduceEqDiff, hMF4, g0, g1, gi, gj];exact⟨v, rfl, h1, h2, h3, fun _ x hx => by rw[qv]at hx;rw[←Option.some.inj hx];exact hlt⟩
  · simp only[↓Sh.dn, sx, reduceCtorEq, Nat.reduceEqDiff, hMF4, g0, g1, gi, gj, A0k, hle, decide_false]
    exact⟨v, rfl, h1, h2, h3, fun h => absurd h hle⟩
 intro F4 H9 h9;rw[hMF4]at h9;obtain⟨rfl,j2,w0,w1,wi,wj,w5,w6,w7,w8⟩:=h9;have hA2:∀(q:Nat) x,a+1≤q→q<i2→l1[q]?=some x→A3b pv x=false:=by
  intro q x h1 h2 hx;by_cases h:q<i0
  ·exact hA q x h1 h hx
  ·exact u7 q x (by omega) h2 hx
 have hB2:∀(q:Nat) x,j2<q→q<b→l1[q]?=some x→A3b pv x=true:=by
  intro q x h1 h2 hx;by_cases h:j0<q
  ·exact hB q x h h2 hx
  ·exact w7 q x h1 (by omega) hx
 simp only[↓Sh.dn,sx,Nat.reduceEqDiff,wi,wj,A1a];by_cases hgt:j2<i2
 ·simp only[↓Sh.dn,sx,Nat.reduceBEq,Nat.reduceEqDiff,hgt,decide_true,wi,hres]
  refine⟨i2,rfl,by omega,by omega,l1,hm1,fun q x h1 h2 hx=>?_,fun q x h1 h2 hx=>hB2 q x (by omega) h2 hx,hv1,hc1⟩;by_cases h:q=a
  ·subst h;rw[hpa]at hx;rw[←Option.some.inj hx];exact hTO.irrefl pv
  ·exact hA2 q x (by omega) h2 hx
 simp only[↓Sh.dn,sx,hgt,decide_false];have hij2:i2<j2:=by
  by_cases h:i2=j2
  ·have h1:=u8 (by omega)
   have h2:=w8 (by omega);obtain⟨x,hx⟩:∃x,l1[i2]?=some x:=⟨_,List.getElem?_eq_getElem (by omega)⟩
   have a1:=h1 x hx;have a2:=h2 x (by rw[←h];exact hx);rw[a1]at a2;cases a2
  ·omega
 have ji1:i2<l1.length:=by omega
 have jj1:j2<l1.length:=by omega
 have ii2:=A0d (g:=g) (k:=k) (cap:=cap) (m:=l.length) (i:=i2) (j:=.i64) (by omega);have ij2:=A0d (g:=g) (k:=k) (cap:=cap) (m:=l.length) (i:=j2) (j:=.i64) (by omega);have xi:=A7c hv1 ji1;have xj:=A7c hv1 jj1;have yi2:IntKind.wrap .i64 ((i2:Int)+1)=((i2+1:Nat):Int):=by rw[wrap64 (by omega) (by omega)];rfl
 have yj2:IntKind.wrap .i64 ((j2:Int)-1)=((j2-1:Nat):Int):=by rw[wrap64 (by omega) (by omega)];omega
 obtain⟨L3,L4,d1,d2,hv2,hc2,d5⟩:=A7j hv1 hc1.wf ji1 jj1;obtain⟨s1,s2,s3⟩:=pair l1 i2 j2 (by omega) hpa (by omega) hij2 (by omega) hA2 hB2 (u8 (by omega)) (w8 (by omega));refine(A9a (by kernel_rfl)).2 ?_;simp only[↓Sh.dn,sx,reduceCtorEq,Nat.reduceEqDiff,w0,wi,wj,ii2,ij2,xi,xj,A5n,d1,d2,yi2,yj2];exact kk (j2-1+1-(i2+1)) _ _ (by omega) ⟨i2+1,j2-1,swp l1 i2 j2,rfl,by omega,by omega,by omega,hm1.swap (by omega) (by omega) (by omega) (by omega),s1,s2,s3,hv2,hc1.trans hc2,by simp only[sx,reduceCtorEq,w0],by simp only[sx,Nat.reduceEqDiff,w1],by simp only[sx,Nat.reduceEqDiff],by simp only[sx]⟩
end
def B3i(a i:Nat)(m:List ByteArray):Prop:=∀(p:Nat) x y,a≤p→p+1<i→m[p]?=some x→m[p+1]?=some y→A3b y x=false
def PreStr(a b:Nat)(l:List ByteArray):Prop:=∀(q:Nat) x y,0<a→l[a-1]?=some y→a≤q→q<b→l[q]?=some x→A3b x y=false
theorem PreStr.mix{a b:Nat}{l m:List ByteArray}(h:PreStr a b l)(hm:Mix a b l m)(hb:b≤l.length):PreStr a b m:=by
 intro q x y h0 hy h1 h2 hx;rw[hm.out (.inl (by omega))]at hy;exact hm.all (p:=fun x=>A3b x y=false) hb (fun i z hi1 hi2 hz=>h i z y h0 hy hi1 hi2 hz) q x h1 h2 hx
theorem A44{H:AH}{g k n cap a b:Nat}{l:List ByteArray}(hv:A8e H g k n l)(hw:Wf H)(hl:l.length≤16000000)(hab:a<b)(hb:b≤l.length)(hpre:PreStr a b l):
  Sh.Call Tryz.prog (knows 7) 150 [.slice (some ⟨g,0,some k⟩) l.length cap,.int .i64 (a:Int),.int .i64 (b:Int)] H
   (fun r H'=>∃bb:Bool,r=.bool bb∧∃l',Mix a b l l'∧(bb=true→Srt A3b a b l')∧A8e H' g k n l'∧Chg (fun y=>y=g) H H'):=by
 refine A3a rfl Tryz.func150 rfl (Nat.le_of_ble_eq_true rfl) ?_;have hres:Tryz.f150.results.toList=[.tmp 6]:=rfl;have hTO:=strTO;have w1:IntKind.wrap .i64 ((a:Int)+1)=((a+1:Nat):Int):=by rw[wrap64 (by omega) (by omega)];rfl
 have wba:IntKind.wrap .i64 ((b:Int)-(a:Int))=((b-a:Nat):Int):=by rw[wrap64 (by omega) (by omega)];omega
 simp only[↓Sh.dn,sx,Nat.reduceEqDiff,w1]
 refine A5b (fun m F H' => ∃ (c i : Nat) (l1 : List ByteArray), m = 5 - c ∧ c ≤ 5 ∧ a + 1 ≤ i ∧ i ≤ b ∧ Mix a b l l1 ∧ B3i a i l1 ∧ A8e H' g k n l1 ∧ Chg (fun y => y = g) H H' ∧
     F.get 0 = some (.slice (some ⟨g, 0, some k⟩) l.length cap) ∧ F.get 1 = some (.int .i64 (a : Int)) ∧ F.get 2 = some (.int .i64 (b : Int)) ∧ F.get 7 = some (.int .i64 (i : Int)) ∧ F.get 8 = some (.int .i64 (c : Int))) (m := 5)
   ⟨0, a + 1, l, rfl, by omega, by omega, by omega, .refl l, fun p x y h1 h2 => by omega, hv, Chg.refl hw, by simp only[sx, reduceCtorEq], by simp only[sx, Nat.reduceEqDiff], by simp only[sx, Nat.reduceEqDiff], by simp only[sx, Nat.reduceEqDiff], by simp only[sx];rfl⟩ ?_
 rintro m F H' ⟨c,i,l1,rfl,hc5,hai,hib,hm,hadj,hv1,hc1,f0,f1,f2,f7,f8⟩ kk;have hlen:=hm.length;by_cases hlt:c<5
 case neg=>
  have d:decide ((c:Int)<5)=false:=by simp;omega
  simp only[↓Sh.dn,sx,f8,d,hres];exact⟨l1,hm,hv1,hc1⟩
 have d:decide ((c:Int)<5)=true:=by simp;omega
 simp only[↓Sh.dn,sx,f8,d]
 obtain ⟨M1, hM1⟩ : ∃ M : Fr → AH → Prop, M = fun F' H9 => H' = H9 ∧ ∃ v : Nat, F'.get 0 = some (.slice (some ⟨g, 0, some k⟩) l.length cap) ∧ F'.get 1 = some (.int .i64 (a : Int)) ∧ F'.get 2 = some (.int .i64 (b : Int)) ∧ F'.get 7 = some (.int .i64 (v : Int)) ∧ F'.get 8 = some (.int .i64 (c : Int)) ∧
     i ≤ v ∧ v ≤ b ∧ B3i a v l1 := ⟨_, rfl⟩
 refine A02 M1 (by rfl) ?_ ?_
 ·refine A5b (fun m F' H9 => H' = H9 ∧ ∃ v : Nat, m = b - v ∧ F'.get 0 = some (.slice (some ⟨g, 0, some k⟩) l.length cap) ∧ F'.get 1 = some (.int .i64 (a : Int)) ∧ F'.get 2 = some (.int .i64 (b : Int)) ∧ F'.get 7 = some (.int .i64 (v : Int)) ∧ F'.get 8 = some (.int .i64 (c : Int)) ∧
    i ≤ v ∧ v ≤ b ∧ B3i a v l1) (m := b-i)
    ⟨rfl, i, rfl, by simp only[sx, reduceCtorEq, f0], by simp only[sx, Nat.reduceEqDiff, f1], by simp only[sx, Nat.reduceEqDiff, f2], by simp only[sx, Nat.reduceEqDiff, f7], by simp only[sx, Nat.reduceEqDiff, f8], Nat.le_refl _, hib, hadj⟩ ?_
  rintro m F' H9 ⟨rfl, v, rfl, g0, g1, g2, g7, g8, h1, h2, h3⟩ k2;simp only[↓Sh.dn];refine(A9a (by kernel_rfl)).2 ?_;by_cases hvb : v<b
  · have jv : v<l1.length := by omega
    have jw : v-1<l1.length := by omega
    have iv := A0d (g := g) (k := k) (cap := cap) (m := l.length) (i := v) (j := .i64) (by omega);have iw := A0d (g := g) (k := k) (cap := cap) (m := l.length) (i := v-1) (j := .i64) (by omega);have xv := A7c hv1 jv;have xw := A7c hv1 jw;have wv : IntKind.wrap .i64 ((v : Int)-1) = ((v-1 : Nat) : Int) := by rw[wrap64 (by omega) (by omega)];omega
    have wv2 : IntKind.wrap .i64 ((v : Int) + 1) = ((v + 1 : Nat) : Int) := by rw[wrap64 (by omega) (by omega)];rfl
    simp only[↓Sh.dn, sx, reduceCtorEq, Nat.reduceEqDiff, g0, g2, g7, A1a, hvb, decide_true, wv, iv, iw, xv, xw];refine⟨_, _, A7d, ?_⟩;cases hq : A3b l1[v] l1[v-1] with
    | false =>
      simp only[↓Sh.dn, sx, Nat.reduceEqDiff, g7, wv2];refine k2 (b-(v + 1)) _ _ (by omega) ⟨rfl, v + 1, rfl, by simp only[sx, reduceCtorEq, g0], by simp only[sx, Nat.reduceEqDiff, g1], by simp only[sx, Nat.reduceEqDiff, g2], by simp only[sx], by simp only[sx, Nat.reduceEqDiff, g8], by omega, by omega, fun p x y hp1 hp2 hx hy => ?_⟩;by_cases hpv : p + 1 = v
      · have e1 : l1[v]? = some l1[v] := List.getElem?_eq_getElem jv
        have e2 : l1[v-1]? = some l1[v-1] := List.getElem?_eq_getElem jw;rw[hpv, e1]at hy;rw[show p = v-1 by omega, e2]at hx;rw[←Option.some.inj hx, ←Option.some.inj hy];exact hq
      · exact h3 p x y hp1 (by omega) hx hy
    | true =>
      simp only[↓Sh.dn, sx, reduceCtorEq, Nat.reduceEqDiff, hM1, g0, g1, g2, g7, g8];exact⟨v, rfl, h1, h2, h3⟩
  · simp only[↓Sh.dn, sx, reduceCtorEq, Nat.reduceEqDiff, hM1, g0, g1, g2, g7, g8, A1a, hvb, decide_false]
    exact⟨v, rfl, h1, h2, h3⟩
 intro F1 H9 h9;rw[hM1]at h9;obtain⟨rfl,v,f0,f1,f2,f7,f8,hiv,hvb,hadj⟩:=h9;by_cases hend:v=b
 ·have d:decide ((v:Int)=(b:Int))=true:=by simp[hend]
  simp only[↓Sh.dn,sx,Nat.reduceEqDiff,f2,f7,d,hres];exact⟨l1,hm,B9c hTO (by rw[←hend];exact hadj),hv1,hc1⟩
 have d:decide ((v:Int)=(b:Int))=false:=by simp;omega
 simp only[↓Sh.dn,sx,Nat.reduceEqDiff,f1,f2,f7,d,wba];by_cases h50:b-a<50
 ·have d:decide (((b-a:Nat):Int)<50)=true:=by simp;omega
  simp only[↓Sh.dn,sx,d,hres];exact⟨l1,hm,hv1,hc1⟩
 have d:decide (((b-a:Nat):Int)<50)=false:=by simp;omega
 simp only[↓Sh.dn,sx,d];have jv:v<l1.length:=by omega
 have jw:v-1<l1.length:=by omega
 have iv:=A0d (g:=g) (k:=k) (cap:=cap) (m:=l.length) (i:=v) (j:=.i64) (by omega);have iw:=A0d (g:=g) (k:=k) (cap:=cap) (m:=l.length) (i:=v-1) (j:=.i64) (by omega);have xv:=A7c hv1 jv;have xw:=A7c hv1 jw;have wv:IntKind.wrap .i64 ((v:Int)-1)=((v-1:Nat):Int):=by rw[wrap64 (by omega) (by omega)];omega
 have wv2:IntKind.wrap .i64 ((v:Int)+1)=((v+1:Nat):Int):=by rw[wrap64 (by omega) (by omega)];rfl
 have wva:IntKind.wrap .i64 ((v:Int)-(a:Int))=((v-a:Nat):Int):=by rw[wrap64 (by omega) (by omega)];omega
 have wbv:IntKind.wrap .i64 ((b:Int)-(v:Int))=((b-v:Nat):Int):=by rw[wrap64 (by omega) (by omega)];omega
 have wc:IntKind.wrap .i64 ((c:Int)+1)=((c+1:Nat):Int):=by rw[wrap64 (by omega) (by omega)];rfl
 obtain⟨L1,L2,d1,d2,hv2,hc2,d5⟩:=A7j hv1 hc1.wf jv jw;have hm2:Mix a b l (swp l1 v (v-1)):=hm.swap (by omega) (by omega) (by omega) (by omega);refine(A9a (by kernel_rfl)).2 ?_;simp only[↓Sh.dn,sx,reduceCtorEq,Nat.reduceEqDiff,f0,f1,f7,wv,iv,iw,xv,xw,A5n,d1,d2,wva];have hA2:∀(p:Nat) x y,a≤p→p+1<v→p+1≠v-1→(swp l1 v (v-1))[p]?=some x→(swp l1 v (v-1))[p+1]?=some y→A3b y x=false:=by
  intro p x y h1 h2 h3 hx hy;rw[swp_get jv jw,if_neg (by omega),if_neg (by omega)]at hx hy;exact hadj p x y h1 (by omega) hx hy
 have hc12:=hc1.trans hc2;generalize swp l1 v (v-1)=l2 at hv2 hm2 hA2;obtain⟨M2,hM2⟩:∃M:Fr→AH→Prop,M=fun F' H9=>∃l3:List ByteArray,Mix a b l l3∧B3i a v l3∧A8e H9 g k n l3∧Chg (fun y=>y=g) H H9∧F'.get 0=some (.slice (some ⟨g,0,some k⟩) l.length cap)∧F'.get 1=some (.int .i64 (a:Int))∧F'.get 2=some (.int .i64 (b:Int))∧F'.get 7=some (.int .i64 (v:Int))∧F'.get 8=some (.int .i64 (c:Int)):=⟨_,rfl⟩
 refine B1o M2 (by rfl) ?_ ?_
 ·by_cases hva:2≤v-a
  case neg=>
   have d:decide ((2:Int)≤((v-a:Nat):Int))=false:=by simp;omega
   simp only[↓Sh.dn,sx,reduceCtorEq,Nat.reduceEqDiff,d,hM2,f0,f1,f2,f7,f8];exact⟨l2,hm2,fun p x y h1 h2 hx hy=>by omega,hv2,hc12⟩
  have d:decide ((2:Int)≤((v-a:Nat):Int))=true:=by simp;omega
  simp only[↓Sh.dn,sx,Nat.reduceEqDiff,d,f7,wv]
  refine A5b (fun j F' H9 => ∃ l3 : List ByteArray, a ≤ j ∧ j ≤ v - 1 ∧ Mix a b l l3 ∧ (∀ (p : Nat) x y, a ≤ p → p + 1 < v → p + 1 ≠ j → l3[p]? = some x → l3[p + 1]? = some y → A3b y x = false) ∧ (∀ x y, a < j → j + 1 < v → l3[j - 1]? = some x → l3[j + 1]? = some y → A3b y x = false) ∧ A8e H9 g k n l3 ∧ Chg (fun y => y = g) H H9 ∧
      F'.get 0 = some (.slice (some ⟨g, 0, some k⟩) l.length cap) ∧ F'.get 1 = some (.int .i64 (a : Int)) ∧ F'.get 2 = some (.int .i64 (b : Int)) ∧ F'.get 7 = some (.int .i64 (v : Int)) ∧ F'.get 8 = some (.int .i64 (c : Int)) ∧ F'.get 9 = some (.int .i64 (j : Int))) (m := v-1)
    ⟨l2, by omega, Nat.le_refl _, hm2, hA2, fun x y h1 h2 => by omega, hv2, hc12, by simp only[sx, reduceCtorEq, f0], by simp only[sx, Nat.reduceEqDiff, f1], by simp only[sx, Nat.reduceEqDiff, f2], by simp only[sx, Nat.reduceEqDiff, f7], by simp only[sx, Nat.reduceEqDiff, f8], by simp only[sx]⟩ ?_
  rintro j F' H9 ⟨l3,haj,hjv,hm3,hA,hB,hv3,hc3,g0,g1,g2,g7,g8,g9⟩ k2;have hlen3:=hm3.length;have hall:j=a→B3i a v l3:=fun h p x y h1 h2 hx hy=>hA p x y h1 h2 (by omega) hx hy;by_cases hj0:1≤j
  case neg=>
   have d:decide ((1:Int)≤(j:Int))=false:=by simp;omega
   simp only[↓Sh.dn,sx,reduceCtorEq,Nat.reduceEqDiff,g9,d,hM2,g0,g1,g2,g7,g8];exact⟨l3,hm3,hall (by omega),hv3,hc3⟩
  have d:decide ((1:Int)≤(j:Int))=true:=by simp;omega
  have jj:j<l3.length:=by omega
  have jj1:j-1<l3.length:=by omega
  have ij:=A0d (g:=g) (k:=k) (cap:=cap) (m:=l.length) (i:=j) (j:=.i64) (by omega);have ij1:=A0d (g:=g) (k:=k) (cap:=cap) (m:=l.length) (i:=j-1) (j:=.i64) (by omega);have xj:=A7c hv3 jj;have xj1:=A7c hv3 jj1;have q1:l3[j]?=some l3[j]:=List.getElem?_eq_getElem jj;have q2:l3[j-1]?=some l3[j-1]:=List.getElem?_eq_getElem jj1;have wj:IntKind.wrap .i64 ((j:Int)-1)=((j-1:Nat):Int):=by rw[wrap64 (by omega) (by omega)];omega
  simp only[↓Sh.dn,sx,g9,d];refine(A9a (by kernel_rfl)).2 ?_;simp only[↓Sh.dn,sx,reduceCtorEq,Nat.reduceEqDiff,g0,g9,wj,ij,ij1,xj,xj1];refine⟨_,_,A7d,?_⟩;cases hq:A3b l3[j] l3[j-1] with
  | false=>
   simp only[↓Sh.dn,sx,Nat.reduceBEq,reduceCtorEq,Nat.reduceEqDiff,hM2,g0,g1,g2,g7,g8];refine⟨l3,hm3,fun p x y h1 h2 hx hy=>?_,hv3,hc3⟩;by_cases hp:p+1=j
   ·rw[hp,q1]at hy
    rw[show p=j-1 by omega,q2]at hx;rw[←Option.some.inj hx,←Option.some.inj hy];exact hq
   ·exact hA p x y h1 h2 hp hx hy
  | true=>
   have haj':a<j:=by
    by_cases h:j=a
    ·subst h
     have:=hpre.mix hm3 hb j _ _ (by omega) q2 (Nat.le_refl _) hab q1;rw[this]at hq;cases hq
    ·omega
   obtain⟨L3,L4,c1,c2,hv4,hc4,c5⟩:=A7j hv3 hc3.wf jj jj1;simp only[↓Sh.dn,sx];refine(A9a (by kernel_rfl)).2 ?_;simp only[↓Sh.dn,sx,reduceCtorEq,Nat.reduceEqDiff,g0,g9,wj,ij,ij1,xj,xj1,A5n,c1,c2];refine k2 (j-1) _ _ (by omega) ⟨swp l3 j (j-1),by omega,by omega,hm3.swap (by omega) (by omega) (by omega) (by omega),fun p x y h1 h2 h3 hx hy=>?_,fun x y h1 h2 hx hy=>?_,hv4,hc3.trans hc4,by simp only[sx,reduceCtorEq,g0],by simp only[sx,Nat.reduceEqDiff,g1],by simp only[sx,Nat.reduceEqDiff,g2],by simp only[sx,Nat.reduceEqDiff,g7],by simp only[sx,Nat.reduceEqDiff,g8],by simp only[sx]⟩
   ·rw[swp_get jj jj1]at hx hy
    by_cases hp1:p+1=j
    ·have hp:p=j-1:=by omega
     rw[if_pos hp,q1]at hx;rw[if_neg (by omega),if_pos hp1,q2]at hy;rw[←Option.some.inj hx,←Option.some.inj hy];exact hTO.asymm hq
    ·by_cases hp2:p=j
     ·rw[if_neg (by omega),if_pos hp2,q2]at hx
      rw[if_neg (by omega),if_neg (by omega)]at hy;rw[←Option.some.inj hx];exact hB _ _ haj' (by omega) q2 (by rw[←hp2];exact hy)
     ·rw[if_neg (by omega),if_neg hp2]at hx
      rw[if_neg (by omega),if_neg (by omega)]at hy;exact hA p x y h1 h2 hp1 hx hy
   ·rw[swp_get jj jj1]at hx hy
    rw[if_neg (by omega),if_neg (by omega)]at hx;rw[if_neg (by omega),if_pos (by omega),q2]at hy;rw[←Option.some.inj hy];exact hA (j-2) _ _ (by omega) (by omega) (by omega) (by rw[show j-2=j-1-1 by omega];exact hx) (by rw[show j-2+1=j-1 by omega];exact q2)
 intro F2 H9 h9;rw[hM2]at h9;obtain⟨l3,hm3,hadj3,hv3,hc3,f0,f1,f2,f7,f8⟩:=h9;simp only[↓Sh.dn,sx,Nat.reduceEqDiff,f2,f7,wbv];obtain⟨M3,hM3⟩:∃M:Fr→AH→Prop,M=fun F' H9=>∃l3:List ByteArray,Mix a b l l3∧B3i a v l3∧A8e H9 g k n l3∧Chg (fun y=>y=g) H H9∧F'.get 0=some (.slice (some ⟨g,0,some k⟩) l.length cap)∧F'.get 1=some (.int .i64 (a:Int))∧F'.get 2=some (.int .i64 (b:Int))∧F'.get 7=some (.int .i64 (v:Int))∧F'.get 8=some (.int .i64 (c:Int)):=⟨_,rfl⟩
 refine B1o M3 (by rfl) ?_ ?_
 ·by_cases hbv:2≤b-v
  case neg=>
   have d:decide ((2:Int)≤((b-v:Nat):Int))=false:=by simp;omega
   simp only[↓Sh.dn,sx,reduceCtorEq,Nat.reduceEqDiff,d,hM3,f0,f1,f2,f7,f8];exact⟨l3,hm3,hadj3,hv3,hc3⟩
  have d:decide ((2:Int)≤((b-v:Nat):Int))=true:=by simp;omega
  simp only[↓Sh.dn,sx,Nat.reduceEqDiff,d,f7,wv2]
  refine A5b (fun m F' H9 => ∃ (j : Nat) (l3 : List ByteArray), m = b - j ∧ v + 1 ≤ j ∧ j ≤ b ∧ Mix a b l l3 ∧ B3i a v l3 ∧ A8e H9 g k n l3 ∧ Chg (fun y => y = g) H H9 ∧
      F'.get 0 = some (.slice (some ⟨g, 0, some k⟩) l.length cap) ∧ F'.get 1 = some (.int .i64 (a : Int)) ∧ F'.get 2 = some (.int .i64 (b : Int)) ∧ F'.get 7 = some (.int .i64 (v : Int)) ∧ F'.get 8 = some (.int .i64 (c : Int)) ∧ F'.get 10 = some (.int .i64 (j : Int))) (m := b-(v + 1))
    ⟨v + 1, l3, rfl, Nat.le_refl _, by omega, hm3, hadj3, hv3, hc3, by simp only[sx, reduceCtorEq, f0], by simp only[sx, Nat.reduceEqDiff, f1], by simp only[sx, Nat.reduceEqDiff, f2], by simp only[sx, Nat.reduceEqDiff, f7], by simp only[sx, Nat.reduceEqDiff, f8], by simp only[sx]⟩ ?_
  rintro m F' H9 ⟨j,l4,rfl,hvj,hjb,hm4,hadj4,hv4,hc4,g0,g1,g2,g7,g8,g10⟩ k2;have hlen4:=hm4.length;by_cases hjb':j<b
  case neg=>
   simp only[↓Sh.dn,sx,reduceCtorEq,Nat.reduceEqDiff,g2,g10,A1a,hjb',decide_false,hM3,g0,g1,g7,g8];exact⟨l4,hm4,hadj4,hv4,hc4⟩
  have jj:j<l4.length:=by omega
  have jj1:j-1<l4.length:=by omega
  have ij:=A0d (g:=g) (k:=k) (cap:=cap) (m:=l.length) (i:=j) (j:=.i64) (by omega);have ij1:=A0d (g:=g) (k:=k) (cap:=cap) (m:=l.length) (i:=j-1) (j:=.i64) (by omega);have xj:=A7c hv4 jj;have xj1:=A7c hv4 jj1;have wj:IntKind.wrap .i64 ((j:Int)-1)=((j-1:Nat):Int):=by rw[wrap64 (by omega) (by omega)];omega
  have wj2:IntKind.wrap .i64 ((j:Int)+1)=((j+1:Nat):Int):=by rw[wrap64 (by omega) (by omega)];rfl
  simp only[↓Sh.dn,sx,Nat.reduceEqDiff,g2,g10,A1a,hjb',decide_true];refine(A9a (by kernel_rfl)).2 ?_;simp only[↓Sh.dn,sx,reduceCtorEq,Nat.reduceEqDiff,g0,g10,wj,ij,ij1,xj,xj1];refine⟨_,_,A7d,?_⟩;cases hq:A3b l4[j] l4[j-1] with
  | false=>
   simp only[↓Sh.dn,sx,Nat.reduceBEq,reduceCtorEq,Nat.reduceEqDiff,hM3,g0,g1,g2,g7,g8];exact⟨l4,hm4,hadj4,hv4,hc4⟩
  | true=>
   obtain⟨L3,L4,c1,c2,hv5,hc5',c5⟩:=A7j hv4 hc4.wf jj jj1;simp only[↓Sh.dn,sx];refine(A9a (by kernel_rfl)).2 ?_;simp only[↓Sh.dn,sx,reduceCtorEq,Nat.reduceEqDiff,g0,g10,wj,ij,ij1,xj,xj1,A5n,c1,c2,wj2];refine k2 (b-(j+1)) _ _ (by omega) ⟨j+1,swp l4 j (j-1),rfl,by omega,by omega,hm4.swap (by omega) (by omega) (by omega) (by omega),fun p x y h1 h2 hx hy=>?_,hv5,hc4.trans hc5',by simp only[sx,reduceCtorEq,g0],by simp only[sx,Nat.reduceEqDiff,g1],by simp only[sx,Nat.reduceEqDiff,g2],by simp only[sx,Nat.reduceEqDiff,g7],by simp only[sx,Nat.reduceEqDiff,g8],by simp only[sx]⟩;rw[swp_get jj jj1,if_neg (by omega),if_neg (by omega)]at hx hy;exact hadj4 p x y h1 h2 hx hy
 intro F3 H10 h10;rw[hM3]at h10;obtain⟨l5,hm5,hadj5,hv5,hc5',f0,f1,f2,f7,f8⟩:=h10;simp only[↓Sh.dn,sx,f8,wc];exact kk (5-(c+1)) _ _ (by omega) ⟨c+1,v,l5,rfl,by omega,by omega,by omega,hm5,hadj5,hv5,hc5',by simp only[sx,reduceCtorEq,f0],by simp only[sx,Nat.reduceEqDiff,f1],by simp only[sx,Nat.reduceEqDiff,f2],by simp only[sx,Nat.reduceEqDiff,f7],by simp only[sx]⟩
end Go.Proofs.YtjjgodccecehlaaGreat
