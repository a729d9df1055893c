/- A part of the proof: RefPair, RelPairs, SymsSmall, IndexFuncStr, SymsValidate, GraphCheck, Priced, RelVal, GraphPut, PutEnd, GraphStar, GraphEither, TurnRows, CloneInt, GraphBack, GraphFrom. -/
import Derived.Test.YtnoengaghabmjaaGreatMClose2RelTurns12
import Derived.Test.YtnoengaghabmjaaGreatMClose2RelTurns13
import Derived.Test.YtnoengaghabmjaaGreatMClose2RelTurns8
import Derived.Test.YtnoengaghabmjaaGreatMClose2RelTurns10
import Derived.Test.YtnoengaghabmjaaGreatMClose2RelTurns11
import Derived.Test.YtnoengaghabmjaaGreatMClose2RelTurns2
import Derived.Test.YtnoengaghabmjaaGreatMClose2RelTurns6
set_option linter.unusedVariables false
set_option linter.unusedSimpArgs false
/- The reference's has and Pair: whether a net holds a pair. -/
set_option maxHeartbeats 4000000
set_option maxRecDepth 20000
set_option linter.unusedSimpArgs false
set_option linter.unusedVariables false
namespace Go.Proofs.YtnoengaghabmjaaGreat
open Go Go.Proofs Go.Proofs.Sh
theorem B6q {c:Bool} {a b:Nat×Nat}:abin Tryz.prog 83 c .eql (.agg (A7g a).toArray) (.agg (A7g b).toArray)=some (.bool (decide (a=b))):=by
 have h:=B7t a b
 unfold A08 at h
 unfold abin aeq B8k
 simp only [C9o,Bool.not_false,cond_true,h,Option.map_some]
theorem C25 {H:AH} {ul:Value} {L:List (Nat×Nat)} {p:Nat×Nat} (hl:Sl H ul 2 (L.map A7g)) (hLl:L.length≤1073741823) (hw:Wf H):
  Sh.Call Tryz.prog (knows 10) 48 [ul,.agg (A7g p).toArray] H (fun r H'=>Kept H H'∧r=.bool (decide (p∈L))):=by
 refine A4a rfl Tryz.func48 rfl (Nat.le_of_ble_eq_true rfl) ?_
 have hres:Tryz.f48.results.toList=[.tmp 4]:=rfl
 simp only [↓Sh.dn,sx,Nat.reduceBEq,reduceCtorEq,Nat.reduceEqDiff,spNew]
 have kn:=Kept.new hw 2 (A7g p)
 have ca:(H.new 2 (A7g p)).2.cells ⟨H.next,0,some 0⟩ 2=some (A7g p):=(Sh.Obj.new (H:=H) 2 (A7g p)).cells (i:=0) (n:=2) (by simp [A7g])
 have hl1:=hl.grow (kn.grow hw)
 generalize H.next=g at ca ⊢
 generalize (H.new 2 (A7g p)).2=H1 at kn ca hl1 ⊢
 have hlen:=fun H'=>hl1.len Tryz.underlying80 H'
 simp only [List.length_map] at hlen
 refine A0f L.length 5 (List.range' 5 20) (fun i F H'=>H'=H1∧p∉L.take i) (by simp only [↓Sh.dn,sx,Nat.reduceBEq,reduceCtorEq,Nat.reduceEqDiff]) ⟨rfl,by simp⟩ ?_ ?_
 ·rintro i F H' hi hF f5 ⟨rfl,hn⟩ k
  have f0:=hF 0 rfl
  have f3:=hF 3 rfl
  simp only [↓Sh.dn,sx,Nat.reduceBEq,reduceCtorEq,Nat.reduceEqDiff] at f0 f3
  obtain ⟨g1,o1,q1,i1,c1,_⟩:=hl1.at Tryz.underlying80 A1v (i:=i) (x:=A7g L[i]) (by simp [hi]) .i64
  have htk:L.take (i+1)=L.take i++[L[i]]:=by rw [List.take_add_one,List.getElem?_eq_getElem hi]; rfl
  have hm:L[i]∈L:=List.getElem_mem hi
  generalize L[i]=e at c1 htk hm
  by_cases h:e=p
  ·subst h
   simp only [↓Sh.dn,sx,Nat.reduceBEq,reduceCtorEq,Nat.reduceEqDiff,f0,f3,f5,hlen,A5a,hi,decide_true,i1,c1,ca,Option.map_some,B6q,hres,hm]
   exact kn
  ·simp only [↓Sh.dn,sx,Nat.reduceBEq,reduceCtorEq,Nat.reduceEqDiff,f0,f3,f5,hlen,A5a,hi,decide_true,i1,c1,ca,Option.map_some,B6q,h,decide_false,A7a hi (by omega)]
   refine k _ _ (by repeat (first | refine Same.put ?_ rfl | exact Same.rfl' _)) (by simp only [↓Sh.dn,sx,Nat.reduceBEq,reduceCtorEq,Nat.reduceEqDiff]) ⟨rfl,fun hx=>?_⟩
   rw [htk] at hx
   rcases List.mem_append.1 hx with h2 | h2
   ·exact hn h2
   ·exact h (List.mem_singleton.1 h2).symm
 ·rintro F H' hF f5 ⟨rfl,hn⟩
  have f0:=hF 0 rfl
  simp only [↓Sh.dn,sx,Nat.reduceBEq,reduceCtorEq,Nat.reduceEqDiff] at f0
  rw [List.take_length] at hn
  simp only [↓Sh.dn,sx,Nat.reduceBEq,reduceCtorEq,Nat.reduceEqDiff,f0,f5,hlen,A5a,Nat.lt_irrefl,decide_false,hres,hn]
  exact kn
def A7k (N:NetD) (x y:List ByteArray):Prop:=RelP (A6k N) N.isEnd x y
theorem B39 {N:NetD} {x y:List ByteArray}:(∃ s,N.isEnd s∧Cl (A23 (A6k N) x y) (fun q=>q.1=0∧q.2∈[(0,0)]) (s,x.length,y.length))↔A7k N x y:=by
 unfold A7k RelP
 refine exists_congr fun s=>and_congr_right fun _=>?_
 rw [← places]
 have e:(fun q:Nat×Nat×Nat=>q.1=0∧q.2∈[(0,0)])=fun q=>q=(0,0,0):=funext fun q=>propext (by
  obtain ⟨a,b⟩:=q
  simp [Prod.ext_iff])
 rw [e]
theorem C8d:A2m Tryz.prog 83 [(0,.int .i64 0),(1,.int .i64 0)]=some (.agg (A7g (0,0)).toArray):=B9t (a:=0) (b:=0)
theorem A3u {L:List (Nat×Nat)} {a b:Nat} (hn:L.Nodup) (h:∀ p∈L,p.1≤a∧p.2≤b) (ha:a≤400) (hb:b≤400):L.length≤160801:=by
 have h1:(L.map fun p=>(0,p)).Nodup:=by
  rw [List.nodup_iff_pairwise_ne] at hn ⊢
  rw [List.pairwise_map]
  exact hn.imp fun h e=>h (Prod.mk.inj e).2
 have h2:=C0w (a:=1) (b:=a+1) (c:=b+1) h1 fun w hw=>by
  obtain ⟨p,hp,rfl⟩:=List.mem_map.1 hw
  have:=h p hp
  exact ⟨Nat.one_pos,by simp only; omega,by simp only; omega⟩
 rw [List.length_map] at h2
 have h3:(a+1) * (b+1)≤401 * 401:=Nat.mul_le_mul (by omega) (by omega)
 rw [Nat.one_mul] at h2
 omega
theorem C1d {N:NetD} (hok:A1k N) {x y:List ByteArray} {L O:List (Nat×Nat)} (hL:∀ p∈L,p.1≤x.length∧p.2≤y.length) (hO:∀ p,p∈O↔∃ s,N.isEnd s∧Cl (A23 (A6k N) x y) (fun q=>q.1=0∧q.2∈L) (s,p)):∀ p∈O,p.1≤x.length∧p.2≤y.length:=fun p hp=>by
 obtain ⟨s,_,h2⟩:=(hO p).1 hp
 have:=B9d hok (fun p hp=>⟨hp.1,hL p.2 hp.2⟩) h2
 simp only at this
 exact ⟨by omega,by omega⟩
theorem B98 {H:AH} {v ux uy:Value} {N:NetD} {x y:List ByteArray} (h:A4h H v N) (hok:A1k N) (hsm:A3b N) (hx:Sl H ux 1 (x.map A1b)) (hy:Sl H uy 1 (y.map A1b)) (hxl:x.length≤400) (hyl:y.length≤400) (hw:Wf H):
  Sh.Call Tryz.prog (knows 10) 21 [v,ux,uy] H (fun r H'=>Kept H H'∧r=.bool (tB (A7k N x y))):=by
 refine A4a rfl Tryz.func21 rfl (Nat.le_of_ble_eq_true rfl) ?_
 have hres:Tryz.f21.results.toList=[.tmp 6]:=rfl
 obtain ⟨sg,ar,en,rfl,hsg,har,hen⟩:=h
 have hb1:=NetBox.of (N:=N) hw hsg har hen
 have hk1:Kept H (H.new 4 [sg,.int .i64 N.states,ar,en]).2:=Kept.new hw 4 _
 simp only [↓Sh.dn,sx,Nat.reduceBEq,reduceCtorEq,Nat.reduceEqDiff,A1g hsg.isCell har.isCell hen.isCell]
 generalize H.next=gg at hb1 ⊢
 generalize (H.new 4 [sg,.int .i64 N.states,ar,en]).2=H1 at hb1 hk1 ⊢
 have kn:=Kept.new hk1.wf 2 (A7g (0,0))
 have hl:Sl (H1.new 2 (A7g (0,0))).2 (.slice (some ⟨H1.next,0,some 0⟩) 1 1) 2 ([(0,0)].map A7g):=(Buf.fresh (H:=H1) (s:=2) (xs:=[A7g (0,0)]) hk1.wf (by intro x hx; rw [List.mem_singleton.1 hx]; rfl) (by simp) 1 rfl).toSl
 have hb2:=hb1.kept hk1.wf kn
 have hk2:=hk1.trans kn
 obtain ⟨r3,H3,hd3,hk3,O,oo,hO,hnd,hiff⟩:=refReach hb2.netAt hok hsm (hx.grow (hk2.grow hw)) (hy.grow (hk2.grow hw)) hxl hyl hl (by simp) (by simp) kn.wf
 have hbd:=C1d hok (L:=[(0,0)]) (by simp) hiff
 have hOl:=A3u hnd hbd hxl hyl
 obtain ⟨r4,H4,hd4,hk4,rfl⟩:=C25 (p:=(x.length,y.length)) hO.toSl (by omega) hk3.wf
 have hlx:=fun H'=>hx.len Tryz.underlying22 H'
 have hly:=fun H'=>hy.len Tryz.underlying22 H'
 simp only [List.length_map] at hlx hly
 simp only [↓Sh.dn,sx,Nat.reduceBEq,reduceCtorEq,Nat.reduceEqDiff,hb1.c0,hb1.c1,hb1.c2,hb1.c3,hb1.ca,A2a hb1,A1a hb1,A3a hb1,Option.map_some,C8d,B5s]
 refine ⟨_,_,hd3,?_⟩
 simp only [↓Sh.dn,sx,Nat.reduceBEq,reduceCtorEq,Nat.reduceEqDiff,hlx,hly,B9t]
 refine ⟨_,_,hd4,?_⟩
 simp only [↓Sh.dn,sx,Nat.reduceBEq,reduceCtorEq,Nat.reduceEqDiff,hres]
 refine ⟨(hk2.trans hk3).trans hk4,?_⟩
 have:decide ((x.length,y.length)∈O)=tB (A7k N x y):=by
  rw [Bool.eq_iff_iff,decide_eq_true_iff,A55,hiff,B39]
 rw [this]
end Go.Proofs.YtnoengaghabmjaaGreat
/- Pairs of a net, by texts and by numbers. -/
namespace Go.Proofs.YtnoengaghabmjaaGreat
open Go Go.Proofs Go.Proofs.Sh
theorem B2n {N:NetD} (hok:A1k N) {x:ByteArray} (hx:x=⟨#[]⟩∨x∈N.sigma):labN (A9s N.sigma x)=(labT x).map (ixN N.sigma)∧∀ s,labT x=some s→s∈N.sigma:=by
 have e0:(⟨#[]⟩:ByteArray)=A7f:=rfl
 rw [e0] at hx
 by_cases h:x=A7f
 ·subst h
  have:=(C4h hok.asc).2 (C1q hok)
  unfold labN labT
  rw [if_pos this,if_pos rfl]
  exact ⟨rfl,fun s hs=>by cases hs⟩
 ·have hm:=hx.resolve_left h
  obtain ⟨k,_,h2,h3⟩:=C6m hok.asc hm
  unfold labN labT
  rw [if_neg (by omega),if_neg h,h2]
  exact ⟨by rw [Option.map_some,h3]; rfl,fun s hs=>by rw [← Option.some.inj hs]; exact hm⟩
theorem B3b {N:NetD} (hok:A1k N) {x:ByteArray} (hx:x=⟨#[]⟩∨x∈N.sigma):A9s N.sigma x < (N.sigma.length:Int):=by
 by_cases h:x∈N.sigma
 ·obtain ⟨k,h1,h2,_⟩:=C6m hok.asc h
  have:=(List.getElem?_eq_some_iff.1 h1).1
  omega
 ·have:=(C4h hok.asc).2 h
  omega
theorem A30 {N:NetD} (hok:A1k N) (s:Nat) (a b:Option Nat) (t:Nat):A0n (A7m N) s a b t↔∃ c d,A6k N s c d t∧a=c.map (ixN N.sigma)∧b=d.map (ixN N.sigma):=by
 unfold A0n A6k
 constructor
 ·rintro ⟨r,hr,e,he,h1,h2,h3⟩
  obtain ⟨c,hc,h4,rfl⟩:=(A3r hr e).1 he
  obtain ⟨_,_,h5,_,h6,h7⟩:=hok.arc c hc
  simp only at h1 h2 h3
  exact ⟨_,_,⟨c,hc,h4,rfl,rfl,by omega⟩,by rw [← h2,(B2n hok h6).1],by rw [← h3,(B2n hok h7).1]⟩
 ·rintro ⟨_,_,⟨c,hc,h1,rfl,rfl,h4⟩,rfl,rfl⟩
  obtain ⟨h7,h8,h5,_,h6,h9⟩:=hok.arc c hc
  have hs:s < N.states.toNat:=by omega
  unfold A7m
  exact ⟨_,A3i hs,(c.to.toNat,A9s N.sigma c.inn,A9s N.sigma c.out,c.cost),(A3r (A3i hs) _).2 ⟨c,hc,h1,rfl⟩,by simp only; omega,(B2n hok h6).1,(B2n hok h9).1⟩
theorem B1d {N:NetD} (hok:A1k N) {s t:Nat} {x y:List ByteArray} (h:Sh.Way (A6k N) s x y t):(∀ z∈x,z∈N.sigma)∧∀ z∈y,z∈N.sigma:=by
 induction h with
 | nil s=>exact ⟨fun z hz=>(by cases hz),fun z hz=>by cases hz⟩
 | @cons s t u a b x y h1 _ ih=>
  obtain ⟨c,hc,_,rfl,rfl,_⟩:=h1
  obtain ⟨_,_,_,_,h6,h7⟩:=hok.arc c hc
  have key:∀ {o:Option ByteArray} {w:List ByteArray},(∀ s,o=some s→s∈N.sigma)→(∀ z∈w,z∈N.sigma)→∀ z∈o.toList++w,z∈N.sigma:=fun {o w} ho hw z hz=>by
   rcases List.mem_append.1 hz with h | h
   ·exact ho z (by cases o with
      | none => cases h
      | some s => rw [List.mem_singleton.1 h])
   ·exact hw z h
  exact ⟨key (B2n hok h6).2 ih.1,key (B2n hok h7).2 ih.2⟩
theorem A4r {α β:Type} {f:α→β} {S:α→Prop} (hf:∀ x y,S x→S y→f x=f y→x=y):∀ {l m:List α},(∀ x∈l,S x)→(∀ x∈m,S x)→l.map f=m.map f→l=m
 | [],[],_,_,_=>rfl
 | [],_ :: _,_,_,h=>by simp at h
 | _ :: _,[],_,_,h=>by simp at h
 | a :: l,b :: m,hl,hm,h=>by
  simp only [List.map_cons,List.cons.injEq] at h
  rw [hf a b (hl a List.mem_cons_self) (hm b List.mem_cons_self) h.1,A4r hf (fun x hx=>hl x (List.mem_cons_of_mem _ hx)) (fun x hx=>hm x (List.mem_cons_of_mem _ hx)) h.2]
theorem way_rows {N:NetD} (hok:A1k N) {x y:List ByteArray} (hx:∀ z∈x,z∈N.sigma) (hy:∀ z∈y,z∈N.sigma) (s t:Nat):Sh.Way (A0n (A7m N)) s (x.map (ixN N.sigma)) (y.map (ixN N.sigma)) t↔Sh.Way (A6k N) s x y t:=by
 constructor
 ·intro h
  have key:∀ {s t:Nat} {u v:List Nat},Sh.Way (A0n (A7m N)) s u v t→∃ x y,Sh.Way (A6k N) s x y t∧u=x.map (ixN N.sigma)∧v=y.map (ixN N.sigma):=by
   intro s t u v k
   induction k with
   | nil s=>exact ⟨[],[],.nil s,rfl,rfl⟩
   | @cons s t w a b u v h1 _ ih=>
    obtain ⟨c,d,h2,rfl,rfl⟩:=(A30 hok _ _ _ _).1 h1
    obtain ⟨x,y,h3,rfl,rfl⟩:=ih
    have e:∀ o:Option ByteArray,(o.map (ixN N.sigma)).toList=o.toList.map (ixN N.sigma):=fun o=>by cases o <;> rfl
    exact ⟨c.toList++x,d.toList++y,.cons h2 h3,by rw [List.map_append,e],by rw [List.map_append,e]⟩
  obtain ⟨x',y',h1,h2,h3⟩:=key h
  obtain ⟨h4,h5⟩:=B1d hok h1
  rw [A4r (S:=fun z=>z∈N.sigma) (B6a hok.asc) hx h4 h2,A4r (S:=fun z=>z∈N.sigma) (B6a hok.asc) hy h5 h3]
  exact h1
 ·intro h
  exact h.map (f:=ixN N.sigma) fun s a b t hs=>(A30 hok _ _ _ _).2 ⟨a,b,hs,rfl,rfl⟩
theorem B4e {N:NetD} (hok:A1k N) {x y:List ByteArray} (hx:∀ z∈x,z∈N.sigma) (hy:∀ z∈y,z∈N.sigma):(∃ t,0 < (A2l N N.ends).getD t 0∧Sh.Way (A0n (A7m N)) 0 (x.map (ixN N.sigma)) (y.map (ixN N.sigma)) t)↔A7k N x y:=by
 unfold A7k RelP
 refine exists_congr fun t=>and_congr (B0w hok t) (way_rows hok hx hy 0 t)
theorem B04 {N:NetD} (hok:A1k N) {x y:List ByteArray} (h:A7k N x y):(∀ z∈x,z∈N.sigma)∧∀ z∈y,z∈N.sigma:=by
 obtain ⟨t,_,h2⟩:=h
 exact B1d hok h2
end Go.Proofs.YtnoengaghabmjaaGreat
/- syms.isLong and syms.isSymbol. -/
namespace Go.Proofs.YtnoengaghabmjaaGreat
open Go Go.Proofs Go.Proofs.Sh
theorem C2p {H:AH} {x:ByteArray}:Sh.Call Tryz.prog (knows 10) 91 [.string x] H (fun r H'=>H'=H∧r=.bool (decide (16 < x.size))):=by
 refine A4a rfl Tryz.func91 rfl (Nat.le_of_ble_eq_true rfl) ?_
 have hres:Tryz.f91.results.toList=[.tmp 2]:=rfl
 have e:decide ((16:Int) < (x.size:Int))=decide (16 < x.size):=decide_eq_decide.2 (by omega)
 simp only [↓Sh.dn,sx,Nat.reduceBEq,reduceCtorEq,Nat.reduceEqDiff,hres,e]
def chOk (s:ByteArray):Bool:=!s.data.toList.any badByte && decide (1≤s.size)
theorem C0r (s:ByteArray):A01 s=(chOk s && decide (s.size≤16)):=rfl
theorem C8s {x:ByteArray}:decide (x=⟨#[]⟩)=!decide (1≤x.size):=by
 by_cases h:x=⟨#[]⟩
 ·subst h; rfl
 ·have : 1 ≤ x.size := by
    refine Nat.one_le_iff_ne_zero.2 fun h0 => h (ByteArray.ext ?_)
    exact Array.eq_empty_of_size_eq_zero h0
  simp [h, this]
theorem B50 {H:AH} {x:ByteArray} (hl:x.size≤1048576):
  Sh.Call Tryz.prog (knows 10) 93 [.string x] H (fun r H'=>H'=H∧r=.bool (chOk x)):=by
 refine A4a rfl Tryz.func93 rfl (Nat.le_of_ble_eq_true rfl) ?_
 have hres:Tryz.f93.results.toList=[.tmp 2]:=rfl
 have hsz:x.data.toList.length=x.size:=by rw [Array.length_toList]; rfl
 simp only [↓Sh.dn,sx,Nat.reduceBEq,reduceCtorEq,Nat.reduceEqDiff]
 refine A0f x.size 6 (List.range' 6 26++[2,3]) (fun i F H'=>H'=H∧(x.data.toList.take i).any badByte=false) (by simp only [↓Sh.dn,sx,Nat.reduceBEq,reduceCtorEq,Nat.reduceEqDiff]) ⟨rfl,rfl⟩ ?_ ?_
 ·rintro i F H' hlt hF f6 ⟨rfl,hall⟩ k
  have f0:=hF 0 rfl
  have f5:=hF 5 rfl
  simp only [↓Sh.dn,sx,Nat.reduceBEq,reduceCtorEq,Nat.reduceEqDiff] at f0 f5
  obtain ⟨u,hu⟩:∃ u,x.data.toList[i]?=some u:=⟨x.data.toList[i]'(by omega),List.getElem?_eq_getElem (by omega)⟩
  have hix:=B6h (P:=Tryz.prog) (j:=.i64) Tryz.underlying9 hu
  have e33:decide ((u.toNat:Int) < 33)=decide (u.toNat < 33):=decide_eq_decide.2 (by omega)
  have e126:decide (126 < (u.toNat:Int))=decide (126 < u.toNat):=decide_eq_decide.2 (by omega)
  have e60:decide ((u.toNat:Int)=60)=decide (u.toNat=60):=decide_eq_decide.2 (by omega)
  have e62:decide ((u.toNat:Int)=62)=decide (u.toNat=62):=decide_eq_decide.2 (by omega)
  have hbad:badByte u=true→chOk x=false:=by
   intro h
   have:x.data.toList.any badByte=true:=List.any_eq_true.2 ⟨_,List.mem_of_getElem? hu,h⟩
   simp [chOk,this]
  simp only [↓Sh.dn,sx,Nat.reduceBEq,reduceCtorEq,Nat.reduceEqDiff,f0,f5,f6,hix,A5a,hlt,e33,decide_true]
  by_cases h1:u.toNat < 33
  ·simp only [↓Sh.dn,sx,Nat.reduceBEq,reduceCtorEq,Nat.reduceEqDiff,h1,decide_true,hres,hbad (by simp [badByte,h1])]
  simp only [↓Sh.dn,sx,Nat.reduceBEq,reduceCtorEq,Nat.reduceEqDiff,f0,hix,h1,e126,decide_false]
  by_cases h2:126 < u.toNat
  ·simp only [↓Sh.dn,sx,Nat.reduceBEq,reduceCtorEq,Nat.reduceEqDiff,h2,decide_true,hres,hbad (by simp [badByte,h2])]
  simp only [↓Sh.dn,sx,Nat.reduceBEq,reduceCtorEq,Nat.reduceEqDiff,f0,hix,h2,e60,decide_false]
  by_cases h3:u.toNat=60
  ·simp only [↓Sh.dn,sx,Nat.reduceBEq,reduceCtorEq,Nat.reduceEqDiff,h3,decide_true,hres,hbad (by simp [badByte,h3])]
  simp only [↓Sh.dn,sx,Nat.reduceBEq,reduceCtorEq,Nat.reduceEqDiff,f0,hix,h3,e62,decide_false]
  by_cases h4:u.toNat=62
  ·simp only [↓Sh.dn,sx,Nat.reduceBEq,reduceCtorEq,Nat.reduceEqDiff,h4,decide_true,hres,hbad (by simp [badByte,h4])]
  simp only [↓Sh.dn,sx,Nat.reduceBEq,reduceCtorEq,Nat.reduceEqDiff,f6,h4,decide_false,wrap_succ hlt hl]
  refine k _ _ (by repeat (first | refine Same.put ?_ rfl | exact Same.rfl' _)) (by simp only [↓Sh.dn,sx,Nat.reduceBEq,reduceCtorEq,Nat.reduceEqDiff]) ⟨rfl,?_⟩
  rw [List.take_add_one,hu]
  simp only [Option.toList,List.any_append,hall,Bool.false_or,List.any_cons,List.any_nil,Bool.or_false,badByte,h1,h2,h3,h4,decide_false]
 ·rintro F H' hF f6 ⟨rfl,hall⟩
  have f0:=hF 0 rfl
  have f5:=hF 5 rfl
  simp only [↓Sh.dn,sx,Nat.reduceBEq,reduceCtorEq,Nat.reduceEqDiff] at f0 f5
  rw [← hsz,List.take_length] at hall
  simp only [↓Sh.dn,sx,Nat.reduceBEq,reduceCtorEq,Nat.reduceEqDiff,f0,f5,f6,A5a,Nat.lt_irrefl,decide_false,hres,chOk,hall,C8s]
end Go.Proofs.YtnoengaghabmjaaGreat
/- slices.IndexFunc and ContainsFunc: whether some element is so. -/
namespace Go.Proofs.YtnoengaghabmjaaGreat
open Go Go.Proofs Go.Proofs.Sh
theorem B7x {H:AH} {v:Value} {l:List ByteArray} {fid:Nat} {caps:List Value} (p:ByteArray→Bool) (hs:Sl H v 1 (l.map A1b)) (hl:l.length≤1048576) (hw:Wf H)
  (hp:∀ H',Kept H H'→∀ x∈l,Sh.Call Tryz.prog (knows 10) fid ((fun s=>Value.string s) x :: caps) H' (fun r H''=>Kept H' H''∧r=.bool (p x))):
  Sh.Call Tryz.prog (knows 10) 133 [v,.func (.func fid) #[] caps.toArray] H (fun r H'=>Kept H H'∧∃ k:Int,r=.int .i64 k∧decide (0≤k)=l.any p):=by
 refine A4a rfl Tryz.func133 rfl (Nat.le_of_ble_eq_true rfl) ?_
 have hres:Tryz.f133.results.toList=[.tmp 4]:=rfl
 have hlen:=hs.len Tryz.underlying22 H
 simp only [↓Sh.dn,sx,Nat.reduceBEq,reduceCtorEq,Nat.reduceEqDiff,hlen,List.length_map]
 refine A0f l.length 8 [5,8,9,10,11,12,13,14,15,16,18] (fun i F H'=>Kept H H'∧(l.take i).any p=false) (by simp only [↓Sh.dn,sx,Nat.reduceBEq,reduceCtorEq,Nat.reduceEqDiff]) ⟨Kept.refl hw,rfl⟩ ?_ ?_
 ·rintro i F H' hlt hF f8 ⟨hk,hall⟩ k
  have hs1:=hs.grow (hk.grow hw)
  obtain ⟨g,o,kk,hia,hc,hcc⟩:=hs1.at Tryz.underlying22 A2n (i:=i) (x:=A1b l[i]) (by simp [hlt]) .i64
  have hld:=hcc 0 _ rfl; simp only [Nat.add_zero] at hld
  have f0:=hF 0 rfl
  have f1:=hF 1 rfl
  have f7:=hF 7 rfl
  simp only [↓Sh.dn,sx,Nat.reduceBEq,reduceCtorEq,Nat.reduceEqDiff] at f0 f1 f7
  obtain ⟨r,H2,hd,hk2,rfl⟩:=hp H' hk l[i] (List.getElem_mem hlt)
  simp only [↓Sh.dn,sx,Nat.reduceBEq,reduceCtorEq,Nat.reduceEqDiff,f0,f1,f7,f8,A5a,hlt,decide_true,hia,hld,Option.map_some,forall_const,reduceCtorEq,false_implies,and_true,true_and]
  refine ⟨_,_,hd,?_⟩
  cases hpv:p l[i] with
  | true=>
   simp only [↓Sh.dn,sx,Nat.reduceBEq,reduceCtorEq,Nat.reduceEqDiff,hres,forall_const,reduceCtorEq,false_implies,and_true,true_and]
   refine ⟨hk.trans hk2,_,rfl,?_⟩
   rw [List.any_eq_true.2 ⟨_,List.getElem_mem hlt,hpv⟩]
   simp
  | false=>
   simp only [↓Sh.dn,sx,Nat.reduceBEq,reduceCtorEq,Nat.reduceEqDiff,hres,f8,wrap_succ hlt hl,forall_const,reduceCtorEq,false_implies,and_true,true_and]
   refine k _ _ (by repeat (first | refine Same.put ?_ rfl | exact Same.rfl' _)) (by simp only [↓Sh.dn,sx,Nat.reduceBEq,reduceCtorEq,Nat.reduceEqDiff]) ⟨hk.trans hk2,?_⟩
   rw [List.take_add_one,List.getElem?_eq_getElem hlt]
   simp only [Option.toList,List.any_append,hall,List.any_cons,List.any_nil,hpv,Bool.or_false]
 ·rintro F H' hF f8 ⟨hk,hall⟩
  have f7:=hF 7 rfl
  simp only [↓Sh.dn,sx,Nat.reduceBEq,reduceCtorEq,Nat.reduceEqDiff] at f7
  rw [List.take_length] at hall
  simp only [↓Sh.dn,sx,Nat.reduceBEq,reduceCtorEq,Nat.reduceEqDiff,f7,f8,A5a,Nat.lt_irrefl,decide_false,hres,forall_const,reduceCtorEq,false_implies,and_true,true_and]
  exact ⟨hk,_,rfl,by rw [hall]; rfl⟩
theorem B6e {H:AH} {v:Value} {l:List ByteArray} {fid:Nat} {caps:List Value} (p:ByteArray→Bool) (hs:Sl H v 1 (l.map A1b)) (hl:l.length≤1048576) (hw:Wf H)
  (hp:∀ H',Kept H H'→∀ x∈l,Sh.Call Tryz.prog (knows 10) fid ((fun s=>Value.string s) x :: caps) H' (fun r H''=>Kept H' H''∧r=.bool (p x))):
  Sh.Call Tryz.prog (knows 10) 90 [v,.func (.func fid) #[] caps.toArray] H (fun r H'=>Kept H H'∧r=.bool (l.any p)):=by
 refine A4a rfl Tryz.func90 rfl (Nat.le_of_ble_eq_true rfl) ?_
 have hres:Tryz.f90.results.toList=[.tmp 4]:=rfl
 obtain ⟨r,H2,hd,hk,k,rfl,hk0⟩:=B7x p hs hl hw hp
 simp only [↓Sh.dn,sx,Nat.reduceBEq,reduceCtorEq,Nat.reduceEqDiff]
 refine ⟨_,_,hd,?_⟩
 simp only [↓Sh.dn,sx,Nat.reduceBEq,reduceCtorEq,Nat.reduceEqDiff,hres,hk0,and_true]
 exact hk
end Go.Proofs.YtnoengaghabmjaaGreat
/- What is wrong with an alphabet, by the program. -/
namespace Go.Proofs.YtnoengaghabmjaaGreat
open Go Go.Proofs Go.Proofs.Sh
theorem B40 {H:AH} {v:Value} {l:List ByteArray} (hs:Sl H v 1 (l.map A1b)) (hl:l.length≤1048576) (hlx:∀ x∈l,x.size≤1048576) (hw:Wf H):
  Sh.Call Tryz.prog (knows 10) 113 [v] H (fun r H'=>Kept H H'∧r=.int .i64 (A8j l)):=by
 refine A4a rfl Tryz.func113 rfl (Nat.le_of_ble_eq_true rfl) ?_
 have hres:Tryz.f113.results.toList=[.tmp 2]:=rfl
 have hlen:=hs.len Tryz.underlying22 H
 have e40:decide ((40:Int) < ((l.length:Nat):Int))=decide (40 < l.length):=decide_eq_decide.2 (by omega)
 simp only [↓Sh.dn,sx,Nat.reduceBEq,reduceCtorEq,Nat.reduceEqDiff,hlen,List.length_map,e40]
 by_cases h40:40 < l.length
 ·simp only [↓Sh.dn,sx,Nat.reduceBEq,reduceCtorEq,Nat.reduceEqDiff,h40,decide_true,hres,A8j,Bool.true_or,Kept.refl hw]
 simp only [↓Sh.dn,sx,Nat.reduceBEq,reduceCtorEq,Nat.reduceEqDiff,h40,decide_false]
 obtain ⟨r1,H1,hd1,hk1,rfl⟩:=B6e (caps:=[]) (fid:=91) (fun s=>decide (16 < s.size)) hs hl hw (fun H' hk x hx=>(C2p (H:=H') (x:=x)).mono fun r H'' h=>by rcases h with ⟨rfl,h⟩; exact ⟨Kept.refl hk.wf,h⟩)
 refine ⟨_,_,hd1,?_⟩
 cases hL:(l.any fun s=>decide (16 < s.size)) with
 | true=>simp only [↓Sh.dn,sx,Nat.reduceBEq,reduceCtorEq,Nat.reduceEqDiff,hres,hL,A8j,A6u,h40,decide_false,Bool.false_or,hk1]
 | false=>
  have hs1:=hs.grow (hk1.grow hw)
  have hlen1:=hs1.len Tryz.underlying22 H1
  simp only [↓Sh.dn,sx,Nat.reduceBEq,reduceCtorEq,Nat.reduceEqDiff,hlen1,List.length_map]
  have h16:∀ x∈l,decide (x.size≤16)=true:=by
   intro x hx
   have:=List.any_eq_false.1 hL x hx
   simp only [decide_eq_true_eq,Nat.not_lt] at this
   simpa using this
  have e1:(l.all A01 && ascB l)=false→A8j l=1:=by intro h; simp [A8j,A6u,h40,hL]; simpa using h
  have e0:(l.all A01 && ascB l)=true→A8j l=0:=by intro h; simp [A8j,A6u,h40,hL]; simpa using h
  have hsy:∀ x∈l,A01 x=chOk x:=by intro x hx; rw [C0r,h16 x hx,Bool.and_true]
  refine A0f l.length 14 (List.range' 14 22++[2,3,4]) (fun i F H'=>H'=H1∧(∀ (j:Nat) x,j < i→l[j]?=some x→chOk x=true)∧(∀ (j:Nat) x y,j+1 < i→l[j]?=some x→l[j+1]?=some y→A3o x y=true)) (by simp only [↓Sh.dn,sx,Nat.reduceBEq,reduceCtorEq,Nat.reduceEqDiff]) ⟨rfl,fun j x h=>by omega,fun j x y h=>by omega⟩ ?_ ?_
  ·rintro i F H' hlt hF f14 ⟨rfl,hall,hasc⟩ k
   have f0:=hF 0 rfl
   have f12:=hF 12 rfl
   have f13:=hF 13 rfl
   simp only [↓Sh.dn,sx,Nat.reduceBEq,reduceCtorEq,Nat.reduceEqDiff] at f0 f12 f13
   obtain ⟨g,o,kk,hia,hc,hcc⟩:=hs1.at Tryz.underlying22 A2n (i:=i) (x:=A1b l[i]) (by simp [hlt]) .i64
   have hy:=hcc 0 _ rfl
   simp only [Nat.add_zero] at hy
   have hget:l[i]?=some l[i]:=List.getElem?_eq_getElem hlt
   obtain ⟨r,H2,hd2,rfl,rfl⟩:=B50 (H:=H') (x:=l[i]) (hlx _ (List.getElem_mem hlt))
   simp only [↓Sh.dn,sx,Nat.reduceBEq,reduceCtorEq,Nat.reduceEqDiff,f0,f12,f13,f14,A5a,hlt,decide_true,hia,hy]
   refine ⟨_,_,hd2,?_⟩
   cases hch:chOk l[i] with
   | false=>
    have hbad:A8j l=1:=e1 (by
     rw [Bool.and_eq_false_iff]; left
     exact List.all_eq_false.2 ⟨_,List.getElem_mem hlt,by rw [hsy _ (List.getElem_mem hlt),hch]; simp⟩)
    simp only [↓Sh.dn,sx,Nat.reduceBEq,reduceCtorEq,Nat.reduceEqDiff,hres,hbad,hk1]
   | true=>
    have hall':∀ (j:Nat) x,j < i+1→l[j]?=some x→chOk x=true:=by
     intro j x hj hx
     by_cases he:j=i
     ·subst he; rw [hget] at hx; rw [← Option.some.inj hx]; exact hch
     ·exact hall j x (by omega) hx
    by_cases hi0:0 < i
    ·have hlt1:i - 1 < l.length:=by omega
     obtain ⟨g',o',kk',hia',hc',hcc'⟩:=hs1.at Tryz.underlying22 A2n (i:=i - 1) (x:=A1b l[i - 1]) (by simp [hlt1]) .i64
     have hy':=hcc' 0 _ rfl
     simp only [Nat.add_zero] at hy'
     have hw1:IntKind.wrap .i64 ((i:Int) - 1)=((i - 1:Nat):Int):=by rw [wrap64 (by omega) (by omega)]; omega
     have ei:decide ((0:Int) < (i:Int))=true:=by simpa using hi0
     have hget':l[i - 1]?=some l[i - 1]:=List.getElem?_eq_getElem hlt1
     simp only [↓Sh.dn,sx,Nat.reduceBEq,reduceCtorEq,Nat.reduceEqDiff,f0,ei,hw1,hia',hy']
     cases hq:A3o l[i - 1] l[i] with
     | false=>
      have hbad:A8j l=1:=e1 (by
       rw [Bool.and_eq_false_iff]; right
       cases hb:ascB l with
       | false=>rfl
       | true=>
        have:=A52.1 hb (i - 1) _ _ hget' (by rw [show i - 1+1=i by omega]; exact hget)
        rw [this] at hq; cases hq)
      simp only [↓Sh.dn,sx,Nat.reduceBEq,reduceCtorEq,Nat.reduceEqDiff,hres,hbad,hk1]
     | true=>
      simp only [↓Sh.dn,sx,Nat.reduceBEq,reduceCtorEq,Nat.reduceEqDiff,f14,wrap_succ hlt hl]
      refine k _ _ (by repeat (first | refine Same.put ?_ rfl | exact Same.rfl' _)) (by simp only [↓Sh.dn,sx,Nat.reduceBEq,reduceCtorEq,Nat.reduceEqDiff]) ⟨rfl,hall',fun j x y hj hx hy=>?_⟩
      by_cases he:j+1=i
      ·have:j=i - 1:=by omega
       subst this
       rw [he,hget] at hy
       rw [hget'] at hx
       rw [← Option.some.inj hx,← Option.some.inj hy]; exact hq
      ·exact hasc j x y (by omega) hx hy
    ·have ei:decide ((0:Int) < (i:Int))=false:=by simpa using hi0
     simp only [↓Sh.dn,sx,Nat.reduceBEq,reduceCtorEq,Nat.reduceEqDiff,f14,ei,wrap_succ hlt hl]
     exact k _ _ (by repeat (first | refine Same.put ?_ rfl | exact Same.rfl' _)) (by simp only [↓Sh.dn,sx,Nat.reduceBEq,reduceCtorEq,Nat.reduceEqDiff]) ⟨rfl,hall',fun j x y hj hx hy=>by omega⟩
  ·rintro F H' hF f14 ⟨rfl,hall,hasc⟩
   have f13:=hF 13 rfl
   simp only [↓Sh.dn,sx,Nat.reduceBEq,reduceCtorEq,Nat.reduceEqDiff] at f13
   have hgood:A8j l=0:=e0 (by
    rw [Bool.and_eq_true]
    refine ⟨List.all_eq_true.2 fun x hx=>?_,A52.2 fun j x y hx hy=>hasc j x y (List.getElem?_eq_some_iff.1 hy).1 hx hy⟩
    obtain ⟨j,hj⟩:=List.mem_iff_getElem?.1 hx
    rw [hsy x hx]
    exact hall j x (List.getElem?_eq_some_iff.1 hj).1 hj)
   simp only [↓Sh.dn,sx,Nat.reduceBEq,reduceCtorEq,Nat.reduceEqDiff,f13,f14,A5a,Nat.lt_irrefl,decide_false,hres,hgood,hk1]
end Go.Proofs.YtnoengaghabmjaaGreat
/- What is wrong with a net of any kind, by the program. -/
namespace Go.Proofs.YtnoengaghabmjaaGreat
open Go Go.Proofs Go.Proofs.Sh
theorem C26 {H:AH} {gg:Nat} {sg ar en:Value} {N:NetD} {s:ByteArray} (hb:NetBox H gg sg ar en N) (ha:Asc N.sigma) (hl:N.sigma.length≤1048576):
  Sh.Call Tryz.prog (knows 10) 114 [.string s,.pointer (some ⟨gg,0,some 0⟩)] H (fun r H'=>H'=H∧r=.bool (!A5k N s)):=by
 refine A4a rfl Tryz.func114 rfl (Nat.le_of_ble_eq_true rfl) ?_
 have hres:Tryz.f114.results.toList=[.tmp 3]:=rfl
 obtain ⟨r,H1,hd,rfl,k,rfl,_,_⟩:=B2c (x:=s) hb.hsg ha hl
 simp only [↓Sh.dn,sx,Nat.reduceBEq,reduceCtorEq,Nat.reduceEqDiff,hb.c0,hb.c1,hb.c2,hb.c3,hb.ca,A2a hb,A1a hb,A3a hb]
 refine ⟨_,_,hd,?_⟩
 simp only [↓Sh.dn,sx,Nat.reduceBEq,reduceCtorEq,Nat.reduceEqDiff,B5j]
 by_cases h:s=⟨#[]⟩
 ·simp only [↓Sh.dn,sx,Nat.reduceBEq,reduceCtorEq,Nat.reduceEqDiff,h,decide_true,hres,A5k]
 ·simp only [↓Sh.dn,sx,Nat.reduceBEq,reduceCtorEq,Nat.reduceEqDiff,h,decide_false,hres,A5k]
theorem C5p {H:AH} {v:Value} {N:NetD} (h:A4h H v N) (hsm:A3b N) (hw:Wf H):
  Sh.Call Tryz.prog (knows 10) 66 [v] H (fun r H'=>Kept H H'∧r=.int .i64 (A3h N)):=by
 refine A4a rfl Tryz.func66 rfl (Nat.le_of_ble_eq_true rfl) ?_
 have hres:Tryz.f66.results.toList=[.tmp 2]:=rfl
 obtain ⟨sg,ar,en,rfl,hsg,har,hen⟩:=h
 have hb1:=NetBox.of (N:=N) hw hsg har hen
 have hk1:Kept H (H.new 4 [sg,.int .i64 N.states,ar,en]).2:=Kept.new hw 4 _
 have eA:decide ((60000:Int) < (N.arcs.length:Int))=decide (60000 < N.arcs.length):=decide_eq_decide.2 (by omega)
 have eE:decide ((60000:Int) < (N.ends.length:Int))=decide (60000 < N.ends.length):=decide_eq_decide.2 (by omega)
 simp only [↓Sh.dn,sx,Nat.reduceBEq,reduceCtorEq,Nat.reduceEqDiff,A1g hsg.isCell har.isCell hen.isCell]
 generalize H.next=gg at hb1 ⊢
 generalize (H.new 4 [sg,.int .i64 N.states,ar,en]).2=H1 at hb1 hk1 ⊢
 simp only [↓Sh.dn,sx,Nat.reduceBEq,reduceCtorEq,Nat.reduceEqDiff,hb1.c0,hb1.c1,hb1.c2,hb1.c3,hb1.ca,A2a hb1,A1a hb1,A3a hb1]
 by_cases hA:3000 < N.states
 ·simp only [↓Sh.dn,sx,Nat.reduceBEq,reduceCtorEq,Nat.reduceEqDiff,hA,decide_true,hres,A3h,A9n,Bool.true_or,hk1]
 by_cases hB:60000 < N.arcs.length
 ·simp only [↓Sh.dn,sx,Nat.reduceBEq,reduceCtorEq,Nat.reduceEqDiff,hb1.c0,hb1.c1,hb1.c2,hb1.c3,hb1.ca,A2a hb1,A1a hb1,A3a hb1,hA,eA,hB,decide_true,decide_false,hres,A3h,A9n,Bool.true_or,Bool.or_true,hk1]
 by_cases hC:60000 < N.ends.length
 ·simp only [↓Sh.dn,sx,Nat.reduceBEq,reduceCtorEq,Nat.reduceEqDiff,hb1.c0,hb1.c1,hb1.c2,hb1.c3,hb1.ca,A2a hb1,A1a hb1,A3a hb1,hA,eA,eE,hB,hC,decide_true,decide_false,hres,A3h,A9n,Bool.true_or,Bool.or_true,hk1]
 have hT:A9n N=false:=by simp [A9n,hA,hB,hC]
 simp only [↓Sh.dn,sx,Nat.reduceBEq,reduceCtorEq,Nat.reduceEqDiff,hb1.c0,hb1.c1,hb1.c2,hb1.c3,hb1.ca,A2a hb1,A1a hb1,A3a hb1,hA,eA,eE,hB,hC,decide_true,decide_false,hres]
 obtain ⟨r,H2,hd,hk2,rfl⟩:=B40 hb1.hsg hsm.sg hsm.sx hk1.wf
 refine ⟨_,_,hd,?_⟩
 have hb2:=hb1.kept hk1.wf hk2
 have hk12:=hk1.trans hk2
 by_cases hS:A8j N.sigma=0
 case neg=>simp only [↓Sh.dn,sx,Nat.reduceBEq,reduceCtorEq,Nat.reduceEqDiff,hS,decide_false,hres,A3h,hT,Bool.false_eq_true,if_false,ne_eq,not_false_eq_true,if_true,hk12]
 have hasc:=A81 hS
 simp only [↓Sh.dn,sx,Nat.reduceBEq,reduceCtorEq,Nat.reduceEqDiff,hS,decide_true,hb2.c0,hb2.c1,hb2.c2,hb2.c3,hb2.ca,A2a hb2,A1a hb2,A3a hb2]
 by_cases hst:N.states < 1
 ·simp only [↓Sh.dn,sx,Nat.reduceBEq,reduceCtorEq,Nat.reduceEqDiff,hst,decide_true,hres,A3h,hT,hS,ne_eq,not_true_eq_false,if_false,if_true,hk12,Bool.false_eq_true]
 simp only [↓Sh.dn,sx,Nat.reduceBEq,reduceCtorEq,Nat.reduceEqDiff,hst,decide_false,hb2.c0,hb2.c1,hb2.c2,hb2.c3,hb2.ca,A2a hb2,A1a hb2,A3a hb2]
 have e1:N.arcs.any (A4j N)=true→A3h N=1:=by intro h; simp [A3h,hT,hS,hst,h]
 have e2:N.ends.any (A6q N)=true→A3h N=1:=by intro h; simp [A3h,hT,hS,hst,h]
 have e3:N.arcs.any (A4j N)=false→N.ends.any (A6q N)=false→A3h N=0:=by intro h h'; simp [A3h,hT,hS,hst,h,h']
 refine A0f N.arcs.length 37 (List.range' 37 41++[2,6]) (fun i F H'=>Kept H2 H'∧(N.arcs.take i).any (A4j N)=false) (by simp only [↓Sh.dn,sx,Nat.reduceBEq,reduceCtorEq,Nat.reduceEqDiff]) ⟨Kept.refl hk12.wf,rfl⟩ ?_ ?_
 ·rintro i F H' hlt hF f37 ⟨hk,hall⟩ k
  have f1:=hF 1 rfl
  have f4:=hF 4 rfl
  have f35:=hF 35 rfl
  have f36:=hF 36 rfl
  simp only [↓Sh.dn,sx,Nat.reduceBEq,reduceCtorEq,Nat.reduceEqDiff] at f1 f4 f35 f36
  have hb':=hb2.kept hk12.wf hk
  have hb3:=hb'.new hk.wf 5 (N.arcs[i].cells)
  have hk3:=hk.news 5 (N.arcs[i].cells)
  obtain ⟨g,o,kk,hia,hc,hcc⟩:=hb'.har.at Tryz.underlying23 A9l (i:=i) (x:=N.arcs[i].cells) (by simp [hlt]) .i64
  clear hcc
  have hin:N.arcs[i]∈N.arcs:=List.getElem_mem hlt
  have hnext:A4j N N.arcs[i]=false→(N.arcs.take (i+1)).any (A4j N)=false:=by
   intro h
   rw [List.take_add_one,List.getElem?_eq_getElem hlt]
   simp only [Option.toList,List.any_append,hall,List.any_cons,List.any_nil,h,Bool.or_false]
  have hbad:A4j N N.arcs[i]=true→A3h N=1:=fun h=>e1 (List.any_eq_true.2 ⟨_,hin,h⟩)
  generalize N.arcs[i]=a at hb3 hk3 hc hnext hbad
  simp only [↓Sh.dn,sx,Nat.reduceBEq,reduceCtorEq,Nat.reduceEqDiff,hb'.c0,hb'.c1,hb'.c2,hb'.c3,hb'.ca,A2a hb',A1a hb',A3a hb',A5b,A5e,A8e,A9g,A1h,A5c,A7c,A2e,A7e,A5d,arc0,arc1,arc2,arc3,arc4,end0,end1,f1,f35,f36,f37,Option.map_some,A5a,hlt,decide_true,hia,hc,hres]
  by_cases h1:a.fr < 0
  ·simp only [↓Sh.dn,sx,Nat.reduceBEq,reduceCtorEq,Nat.reduceEqDiff,hb3.c0,hb3.c1,hb3.c2,hb3.c3,hb3.ca,A2a hb3,A1a hb3,A3a hb3,A5b,A5e,A8e,A9g,A1h,A5c,A7c,A2e,A7e,A5d,arc0,arc1,arc2,arc3,arc4,end0,end1,h1,decide_true,hres,hbad (by simp [A4j,h1]),hk12.trans hk3]
  simp only [↓Sh.dn,sx,Nat.reduceBEq,reduceCtorEq,Nat.reduceEqDiff,hb3.c0,hb3.c1,hb3.c2,hb3.c3,hb3.ca,A2a hb3,A1a hb3,A3a hb3,A5b,A5e,A8e,A9g,A1h,A5c,A7c,A2e,A7e,A5d,arc0,arc1,arc2,arc3,arc4,end0,end1,f1,h1,decide_false]
  by_cases h2:N.states≤a.fr
  ·simp only [↓Sh.dn,sx,Nat.reduceBEq,reduceCtorEq,Nat.reduceEqDiff,hb3.c0,hb3.c1,hb3.c2,hb3.c3,hb3.ca,A2a hb3,A1a hb3,A3a hb3,A5b,A5e,A8e,A9g,A1h,A5c,A7c,A2e,A7e,A5d,arc0,arc1,arc2,arc3,arc4,end0,end1,h2,decide_true,hres,hbad (by simp [A4j,h2]),hk12.trans hk3]
  simp only [↓Sh.dn,sx,Nat.reduceBEq,reduceCtorEq,Nat.reduceEqDiff,hb3.c0,hb3.c1,hb3.c2,hb3.c3,hb3.ca,A2a hb3,A1a hb3,A3a hb3,A5b,A5e,A8e,A9g,A1h,A5c,A7c,A2e,A7e,A5d,arc0,arc1,arc2,arc3,arc4,end0,end1,f1,h2,decide_false]
  by_cases h3:a.to < 0
  ·simp only [↓Sh.dn,sx,Nat.reduceBEq,reduceCtorEq,Nat.reduceEqDiff,hb3.c0,hb3.c1,hb3.c2,hb3.c3,hb3.ca,A2a hb3,A1a hb3,A3a hb3,A5b,A5e,A8e,A9g,A1h,A5c,A7c,A2e,A7e,A5d,arc0,arc1,arc2,arc3,arc4,end0,end1,h3,decide_true,hres,hbad (by simp [A4j,h3]),hk12.trans hk3]
  simp only [↓Sh.dn,sx,Nat.reduceBEq,reduceCtorEq,Nat.reduceEqDiff,hb3.c0,hb3.c1,hb3.c2,hb3.c3,hb3.ca,A2a hb3,A1a hb3,A3a hb3,A5b,A5e,A8e,A9g,A1h,A5c,A7c,A2e,A7e,A5d,arc0,arc1,arc2,arc3,arc4,end0,end1,f1,h3,decide_false]
  by_cases h4:N.states≤a.to
  ·simp only [↓Sh.dn,sx,Nat.reduceBEq,reduceCtorEq,Nat.reduceEqDiff,hb3.c0,hb3.c1,hb3.c2,hb3.c3,hb3.ca,A2a hb3,A1a hb3,A3a hb3,A5b,A5e,A8e,A9g,A1h,A5c,A7c,A2e,A7e,A5d,arc0,arc1,arc2,arc3,arc4,end0,end1,h4,decide_true,hres,hbad (by simp [A4j,h4]),hk12.trans hk3]
  obtain ⟨r,H4,hd4,rfl,rfl⟩:=C26 (s:=a.inn) hb3 hasc hsm.sg
  simp only [↓Sh.dn,sx,Nat.reduceBEq,reduceCtorEq,Nat.reduceEqDiff,hb3.c0,hb3.c1,hb3.c2,hb3.c3,hb3.ca,A2a hb3,A1a hb3,A3a hb3,A5b,A5e,A8e,A9g,A1h,A5c,A7c,A2e,A7e,A5d,arc0,arc1,arc2,arc3,arc4,end0,end1,f1,f4,h4,decide_false]
  refine ⟨_,_,hd4,?_⟩
  have hb4:=hb3
  cases hI:A5k N a.inn with
  | true=>simp only [↓Sh.dn,sx,Nat.reduceBEq,reduceCtorEq,Nat.reduceEqDiff,hres,hbad (by simp [A4j,hI]),hk12.trans hk3]
  | false=>
   obtain ⟨r,H5,hd5,rfl,rfl⟩:=C26 (s:=a.out) hb3 hasc hsm.sg
   simp only [↓Sh.dn,sx,Nat.reduceBEq,reduceCtorEq,Nat.reduceEqDiff,hb3.c0,hb3.c1,hb3.c2,hb3.c3,hb3.ca,A2a hb3,A1a hb3,A3a hb3,A5b,A5e,A8e,A9g,A1h,A5c,A7c,A2e,A7e,A5d,arc0,arc1,arc2,arc3,arc4,end0,end1,f1,f4]
   refine ⟨_,_,hd5,?_⟩
   cases hO:A5k N a.out with
   | true=>simp only [↓Sh.dn,sx,Nat.reduceBEq,reduceCtorEq,Nat.reduceEqDiff,hres,hbad (by simp [A4j,hO]),hk12.trans hk3]
   | false=>
    simp only [↓Sh.dn,sx,Nat.reduceBEq,reduceCtorEq,Nat.reduceEqDiff,f37,wrap_succ hlt hsm.ar]
    exact k _ _ (by repeat (first | refine Same.put ?_ rfl | exact Same.rfl' _)) (by simp only [↓Sh.dn,sx,Nat.reduceBEq,reduceCtorEq,Nat.reduceEqDiff]) ⟨hk3,hnext (by simp [A4j,h1,h2,h3,h4,hI,hO])⟩
 ·rintro F H' hF f37 ⟨hk,hall⟩
  have f1:=hF 1 rfl
  have f36:=hF 36 rfl
  simp only [↓Sh.dn,sx,Nat.reduceBEq,reduceCtorEq,Nat.reduceEqDiff] at f1 f36
  rw [List.take_length] at hall
  have hb':=hb2.kept hk12.wf hk
  simp only [↓Sh.dn,sx,Nat.reduceBEq,reduceCtorEq,Nat.reduceEqDiff,hb'.c0,hb'.c1,hb'.c2,hb'.c3,hb'.ca,A2a hb',A1a hb',A3a hb',f1,f36,f37,A5a,Nat.lt_irrefl,decide_false]
  refine A0f N.ends.length 81 (List.range' 81 15++[2,8]) (fun i F H''=>Kept H' H''∧(N.ends.take i).any (A6q N)=false) (by simp only [↓Sh.dn,sx,Nat.reduceBEq,reduceCtorEq,Nat.reduceEqDiff]) ⟨Kept.refl hk.wf,rfl⟩ ?_ ?_
  ·rintro i F2 H'' hlt hF2 f81 ⟨hk2',hall2⟩ k
   have g1:=hF2 1 rfl
   have g79:=hF2 79 rfl
   have g80:=hF2 80 rfl
   simp only [↓Sh.dn,sx,Nat.reduceBEq,reduceCtorEq,Nat.reduceEqDiff,f1] at g1 g79 g80
   have hbx:=hb'.kept hk.wf hk2'
   have hb3:=hbx.new hk2'.wf 2 (N.ends[i].cells)
   have hk3:=hk2'.news 2 (N.ends[i].cells)
   have hkk:=(hk12.trans hk).trans hk3
   obtain ⟨g,o,kk,hia,hc,hcc⟩:=hbx.hen.at Tryz.underlying24 A1r (i:=i) (x:=N.ends[i].cells) (by simp [hlt]) .i64
   clear hcc
   have hbad:A6q N N.ends[i]=true→A3h N=1:=fun h=>e2 (List.any_eq_true.2 ⟨_,List.getElem_mem hlt,h⟩)
   simp only [↓Sh.dn,sx,Nat.reduceBEq,reduceCtorEq,Nat.reduceEqDiff,hbx.c0,hbx.c1,hbx.c2,hbx.c3,hbx.ca,A2a hbx,A1a hbx,A3a hbx,A5b,A5e,A8e,A9g,A1h,A5c,A7c,A2e,A7e,A5d,arc0,arc1,arc2,arc3,arc4,end0,end1,g1,g79,g80,f81,A5a,hlt,decide_true,hia,hc,Option.map_some]
   by_cases h1:N.ends[i].state < 0
   ·simp only [↓Sh.dn,sx,Nat.reduceBEq,reduceCtorEq,Nat.reduceEqDiff,hb3.c0,hb3.c1,hb3.c2,hb3.c3,hb3.ca,A2a hb3,A1a hb3,A3a hb3,A5b,A5e,A8e,A9g,A1h,A5c,A7c,A2e,A7e,A5d,arc0,arc1,arc2,arc3,arc4,end0,end1,h1,decide_true,hres,hbad (by simp [A6q,h1]),hkk]
   simp only [↓Sh.dn,sx,Nat.reduceBEq,reduceCtorEq,Nat.reduceEqDiff,hb3.c0,hb3.c1,hb3.c2,hb3.c3,hb3.ca,A2a hb3,A1a hb3,A3a hb3,A5b,A5e,A8e,A9g,A1h,A5c,A7c,A2e,A7e,A5d,arc0,arc1,arc2,arc3,arc4,end0,end1,g1,f81,h1,decide_false]
   by_cases h2:N.states≤N.ends[i].state
   ·simp only [↓Sh.dn,sx,Nat.reduceBEq,reduceCtorEq,Nat.reduceEqDiff,h2,decide_true,hres,hbad (by simp [A6q,h2]),hkk]
   simp only [↓Sh.dn,sx,Nat.reduceBEq,reduceCtorEq,Nat.reduceEqDiff,f81,h2,decide_false,wrap_succ hlt hsm.en]
   refine k _ _ (by repeat (first | refine Same.put ?_ rfl | exact Same.rfl' _)) (by simp only [↓Sh.dn,sx,Nat.reduceBEq,reduceCtorEq,Nat.reduceEqDiff]) ⟨hk3,?_⟩
   rw [List.take_add_one,List.getElem?_eq_getElem hlt]
   simp only [Option.toList,List.any_append,hall2,List.any_cons,List.any_nil,Bool.or_false,A6q,h1,h2,decide_false]
  ·rintro F2 H'' hF2 f81 ⟨hk2',hall2⟩
   have g80:=hF2 80 rfl
   simp only [↓Sh.dn,sx,Nat.reduceBEq,reduceCtorEq,Nat.reduceEqDiff] at g80
   rw [List.take_length] at hall2
   simp only [↓Sh.dn,sx,Nat.reduceBEq,reduceCtorEq,Nat.reduceEqDiff,g80,f81,A5a,Nat.lt_irrefl,decide_false,hres,e3 hall hall2,(hk12.trans hk).trans hk2']
end Go.Proofs.YtnoengaghabmjaaGreat
/- Whether a net has a cost out of bounds. -/
namespace Go.Proofs.YtnoengaghabmjaaGreat
open Go Go.Proofs Go.Proofs.Sh
def A60 (N:NetD) (m:Int):Bool:=N.arcs.any (fun a=>decide (a.cost < 0) || decide (m < a.cost)) || N.ends.any (fun a=>decide (a.cost < 0) || decide (m < a.cost))
theorem priced {H:AH} {v:Value} {N:NetD} {m:Int} (h:A4h H v N) (hsm:A3b N) (hw:Wf H):
  Sh.Call Tryz.prog (knows 10) 67 [v,.int .i64 m] H (fun r H'=>Kept H H'∧r=.bool (A60 N m)):=by
 refine A4a rfl Tryz.func67 rfl (Nat.le_of_ble_eq_true rfl) ?_
 have hres:Tryz.f67.results.toList=[.tmp 4]:=rfl
 obtain ⟨sg,ar,en,rfl,hsg,har,hen⟩:=h
 have hb1:=NetBox.of (N:=N) hw hsg har hen
 have hk1:Kept H (H.new 4 [sg,.int .i64 N.states,ar,en]).2:=Kept.new hw 4 _
 simp only [↓Sh.dn,sx,Nat.reduceBEq,reduceCtorEq,Nat.reduceEqDiff,A1g hsg.isCell har.isCell hen.isCell]
 generalize H.next=gg at hb1 ⊢
 generalize (H.new 4 [sg,.int .i64 N.states,ar,en]).2=H1 at hb1 hk1 ⊢
 simp only [↓Sh.dn,sx,Nat.reduceBEq,reduceCtorEq,Nat.reduceEqDiff,hb1.c0,hb1.c1,hb1.c2,hb1.c3,hb1.ca,A2a hb1,A1a hb1,A3a hb1]
 refine A0f N.arcs.length 12 (List.range' 12 14++[4,6]) (fun i F H'=>Kept H1 H'∧(N.arcs.take i).any (fun a=>decide (a.cost < 0) || decide (m < a.cost))=false) (by simp only [↓Sh.dn,sx,Nat.reduceBEq,reduceCtorEq,Nat.reduceEqDiff]) ⟨Kept.refl hk1.wf,rfl⟩ ?_ ?_
 ·rintro i F H' hlt hF f12 ⟨hk,hall⟩ k
  have f1:=hF 1 rfl
  have f10:=hF 10 rfl
  have f11:=hF 11 rfl
  simp only [↓Sh.dn,sx,Nat.reduceBEq,reduceCtorEq,Nat.reduceEqDiff] at f1 f10 f11
  have hb':=hb1.kept hk1.wf hk
  have hb3:=hb'.new hk.wf 5 (N.arcs[i].cells)
  have hk3:=hk.news 5 (N.arcs[i].cells)
  obtain ⟨g,o,kk,hia,hc,hcc⟩:=hb'.har.at Tryz.underlying23 A9l (i:=i) (x:=N.arcs[i].cells) (by simp [hlt]) .i64
  clear hcc
  have hbad:(decide (N.arcs[i].cost < 0) || decide (m < N.arcs[i].cost))=true→A60 N m=true:=fun h=>by
   rw [A60,List.any_eq_true.2 ⟨_,List.getElem_mem hlt,h⟩]; rfl
  simp only [↓Sh.dn,sx,Nat.reduceBEq,reduceCtorEq,Nat.reduceEqDiff,hb'.c0,hb'.c1,hb'.c2,hb'.c3,hb'.ca,A2a hb',A1a hb',A3a hb',A5b,A5e,A8e,A9g,A1h,A5c,A7c,A2e,A7e,A5d,arc0,arc1,arc2,arc3,arc4,end0,end1,f1,f10,f11,f12,Option.map_some,A5a,hlt,decide_true,hia,hc,hres]
  by_cases h1:N.arcs[i].cost < 0
  ·simp only [↓Sh.dn,sx,Nat.reduceBEq,reduceCtorEq,Nat.reduceEqDiff,h1,decide_true,hres,hbad (by simp [h1]),hk1.trans hk3]
  simp only [↓Sh.dn,sx,Nat.reduceBEq,reduceCtorEq,Nat.reduceEqDiff,A5b,A5e,A8e,A9g,A1h,A5c,A7c,A2e,A7e,A5d,arc0,arc1,arc2,arc3,arc4,end0,end1,f1,h1,decide_false]
  by_cases h2:m < N.arcs[i].cost
  ·simp only [↓Sh.dn,sx,Nat.reduceBEq,reduceCtorEq,Nat.reduceEqDiff,h2,decide_true,hres,hbad (by simp [h2]),hk1.trans hk3]
  simp only [↓Sh.dn,sx,Nat.reduceBEq,reduceCtorEq,Nat.reduceEqDiff,f12,h2,decide_false,wrap_succ hlt hsm.ar]
  refine k _ _ (by repeat (first | refine Same.put ?_ rfl | exact Same.rfl' _)) (by simp only [↓Sh.dn,sx,Nat.reduceBEq,reduceCtorEq,Nat.reduceEqDiff]) ⟨hk3,?_⟩
  rw [List.take_add_one,List.getElem?_eq_getElem hlt]
  simp only [Option.toList,List.any_append,hall,List.any_cons,List.any_nil,Bool.or_false,h1,h2,decide_false]
 ·rintro F H' hF f12 ⟨hk,hall⟩
  have f2:=hF 2 rfl
  have f11:=hF 11 rfl
  simp only [↓Sh.dn,sx,Nat.reduceBEq,reduceCtorEq,Nat.reduceEqDiff] at f2 f11
  rw [List.take_length] at hall
  have hb':=hb1.kept hk1.wf hk
  simp only [↓Sh.dn,sx,Nat.reduceBEq,reduceCtorEq,Nat.reduceEqDiff,hb'.c0,hb'.c1,hb'.c2,hb'.c3,hb'.ca,A2a hb',A1a hb',A3a hb',f2,f11,f12,A5a,Nat.lt_irrefl,decide_false]
  refine A0f N.ends.length 29 (List.range' 29 14++[4,8]) (fun i F H''=>Kept H' H''∧(N.ends.take i).any (fun a=>decide (a.cost < 0) || decide (m < a.cost))=false) (by simp only [↓Sh.dn,sx,Nat.reduceBEq,reduceCtorEq,Nat.reduceEqDiff]) ⟨Kept.refl hk.wf,rfl⟩ ?_ ?_
  ·rintro i F2 H'' hlt hF2 f29 ⟨hk2',hall2⟩ k
   have g1:=hF2 1 rfl
   have h1':=hF 1 rfl
   have g27:=hF2 27 rfl
   have g28:=hF2 28 rfl
   simp only [↓Sh.dn,sx,Nat.reduceBEq,reduceCtorEq,Nat.reduceEqDiff] at g1 g27 g28 h1'
   have hbx:=hb'.kept hk.wf hk2'
   have hb3:=hbx.new hk2'.wf 2 (N.ends[i].cells)
   have hk3:=hk2'.news 2 (N.ends[i].cells)
   have hkk:=(hk1.trans hk).trans hk3
   obtain ⟨g,o,kk,hia,hc,hcc⟩:=hbx.hen.at Tryz.underlying24 A1r (i:=i) (x:=N.ends[i].cells) (by simp [hlt]) .i64
   clear hcc
   have hbad:(decide (N.ends[i].cost < 0) || decide (m < N.ends[i].cost))=true→A60 N m=true:=fun h=>by
    rw [A60,List.any_eq_true.2 ⟨_,List.getElem_mem hlt,h⟩,Bool.or_true]
   simp only [↓Sh.dn,sx,Nat.reduceBEq,reduceCtorEq,Nat.reduceEqDiff,hbx.c0,hbx.c1,hbx.c2,hbx.c3,hbx.ca,A2a hbx,A1a hbx,A3a hbx,A5b,A5e,A8e,A9g,A1h,A5c,A7c,A2e,A7e,A5d,arc0,arc1,arc2,arc3,arc4,end0,end1,g1,h1',g27,g28,f29,A5a,hlt,decide_true,hia,hc,Option.map_some]
   by_cases h1:N.ends[i].cost < 0
   ·simp only [↓Sh.dn,sx,Nat.reduceBEq,reduceCtorEq,Nat.reduceEqDiff,h1,decide_true,hres,hbad (by simp [h1]),hkk]
   simp only [↓Sh.dn,sx,Nat.reduceBEq,reduceCtorEq,Nat.reduceEqDiff,A5b,A5e,A8e,A9g,A1h,A5c,A7c,A2e,A7e,A5d,arc0,arc1,arc2,arc3,arc4,end0,end1,g1,h1',f29,h1,decide_false]
   by_cases h2:m < N.ends[i].cost
   ·simp only [↓Sh.dn,sx,Nat.reduceBEq,reduceCtorEq,Nat.reduceEqDiff,h2,decide_true,hres,hbad (by simp [h2]),hkk]
   simp only [↓Sh.dn,sx,Nat.reduceBEq,reduceCtorEq,Nat.reduceEqDiff,f29,h2,decide_false,wrap_succ hlt hsm.en]
   refine k _ _ (by repeat (first | refine Same.put ?_ rfl | exact Same.rfl' _)) (by simp only [↓Sh.dn,sx,Nat.reduceBEq,reduceCtorEq,Nat.reduceEqDiff]) ⟨hk3,?_⟩
   rw [List.take_add_one,List.getElem?_eq_getElem hlt]
   simp only [Option.toList,List.any_append,hall2,List.any_cons,List.any_nil,Bool.or_false,h1,h2,decide_false]
  ·rintro F2 H'' hF2 f29 ⟨hk2',hall2⟩
   have g28:=hF2 28 rfl
   simp only [↓Sh.dn,sx,Nat.reduceBEq,reduceCtorEq,Nat.reduceEqDiff] at g28
   rw [List.take_length] at hall2
   simp only [↓Sh.dn,sx,Nat.reduceBEq,reduceCtorEq,Nat.reduceEqDiff,g28,f29,A5a,Nat.lt_irrefl,decide_false,hres,A60,hall,hall2,(hk1.trans hk).trans hk2']
end Go.Proofs.YtnoengaghabmjaaGreat
/- What is wrong with a relation, by both. -/
namespace Go.Proofs.YtnoengaghabmjaaGreat
open Go Go.Proofs Go.Proofs.Sh
def A5f (N:NetD):Int:=if A3h N≠0 then A3h N else if NetD.free N=true then 0 else 6
theorem A1i {N:NetD} (h:A5f N=0):A1k N∧A3h N=0∧NetD.free N=true:=by
 unfold A5f at h
 split at h
 ·rename_i h1; exact absurd h h1
 ·rename_i h1
  split at h
  ·rename_i h2
   exact ⟨netOk (by simpa using h1),by simpa using h1,h2⟩
  ·cases h
theorem B9g (N:NetD):A60 N 0=!NetD.free N:=by
 unfold A60 NetD.free
 rw [Bool.not_and,List.not_all_eq_any_not,List.not_all_eq_any_not]
 have e:∀ c:Int,(decide (c < 0) || decide (0 < c))=!decide (c=0):=fun c=>by
  by_cases h:c=0
  ·subst h; rfl
  ·rw [decide_eq_false h,Bool.not_false,Bool.or_eq_true,decide_eq_true_eq,decide_eq_true_eq]; omega
 simp only [e]
theorem A7r {H:AH} {v:Value} {N:NetD} (h:A4h H v N) (hsm:A3b N) (hw:Wf H):
  Sh.Call Tryz.prog (knows 10) 28 [v] H (fun r H'=>Kept H H'∧r=.int .i64 (A5f N)):=by
 refine A4a rfl Tryz.func28 rfl (Nat.le_of_ble_eq_true rfl) ?_
 have hres:Tryz.f28.results.toList=[.tmp 2]:=rfl
 obtain ⟨sg,ar,en,rfl,hsg,har,hen⟩:=h
 have hb1:=NetBox.of (N:=N) hw hsg har hen
 have hk1:Kept H (H.new 4 [sg,.int .i64 N.states,ar,en]).2:=Kept.new hw 4 _
 simp only [↓Sh.dn,sx,Nat.reduceBEq,reduceCtorEq,Nat.reduceEqDiff,A1g hsg.isCell har.isCell hen.isCell]
 generalize H.next=gg at hb1 ⊢
 generalize (H.new 4 [sg,.int .i64 N.states,ar,en]).2=H1 at hb1 hk1 ⊢
 simp only [↓Sh.dn,sx,Nat.reduceBEq,reduceCtorEq,Nat.reduceEqDiff,hb1.c0,hb1.c1,hb1.c2,hb1.c3,hb1.ca,A2a hb1,A1a hb1,A3a hb1,Option.map_some]
 obtain ⟨r,H2,hd,hk2,rfl⟩:=C5p hb1.netAt hsm hk1.wf
 refine ⟨_,_,hd,?_⟩
 have hb2:=hb1.kept hk1.wf hk2
 have hk12:=hk1.trans hk2
 by_cases hE:A3h N=0
 case neg=>simp only [↓Sh.dn,sx,Nat.reduceBEq,reduceCtorEq,Nat.reduceEqDiff,hE,decide_false,hres,A5f,hk12]
 simp only [↓Sh.dn,sx,Nat.reduceBEq,reduceCtorEq,Nat.reduceEqDiff,hE,decide_true,hb2.c0,hb2.c1,hb2.c2,hb2.c3,hb2.ca,A2a hb2,A1a hb2,A3a hb2,Option.map_some]
 obtain ⟨r,H4,hd4,hk4,rfl⟩:=priced (m:=0) hb2.netAt hsm hk12.wf
 refine ⟨_,_,hd4,?_⟩
 cases hp:NetD.free N with
 | true=>simp only [↓Sh.dn,sx,Nat.reduceBEq,reduceCtorEq,Nat.reduceEqDiff,hres,A5f,hE,hp,B9g,hk12.trans hk4]
 | false=>simp only [↓Sh.dn,sx,Nat.reduceBEq,reduceCtorEq,Nat.reduceEqDiff,hres,A5f,hE,hp,B9g,hk12.trans hk4]
theorem A8t {H:AH} {v:Value} {N:NetD} (h:A4h H v N) (hsm:A3b N) (hw:Wf H):
  Sh.Call Tryz.prog (knows 10) 29 [v] H (fun r H'=>Kept H H'∧r=.int .i64 (A5f N)):=by
 refine A4a rfl Tryz.func29 rfl (Nat.le_of_ble_eq_true rfl) ?_
 have hres:Tryz.f29.results.toList=[.tmp 2]:=rfl
 obtain ⟨sg,ar,en,rfl,hsg,har,hen⟩:=h
 have hb1:=NetBox.of (N:=N) hw hsg har hen
 have hk1:Kept H (H.new 4 [sg,.int .i64 N.states,ar,en]).2:=Kept.new hw 4 _
 simp only [↓Sh.dn,sx,Nat.reduceBEq,reduceCtorEq,Nat.reduceEqDiff,A1g hsg.isCell har.isCell hen.isCell]
 generalize H.next=gg at hb1 ⊢
 generalize (H.new 4 [sg,.int .i64 N.states,ar,en]).2=H1 at hb1 hk1 ⊢
 simp only [↓Sh.dn,sx,Nat.reduceBEq,reduceCtorEq,Nat.reduceEqDiff,hb1.c0,hb1.c1,hb1.c2,hb1.c3,hb1.ca,A2a hb1,A1a hb1,A3a hb1,Option.map_some]
 obtain ⟨r,H2,hd,hk2,rfl⟩:=B3h hb1.netAt hsm hk1.wf
 refine ⟨_,_,hd,?_⟩
 have hb2:=hb1.kept hk1.wf hk2
 have hk12:=hk1.trans hk2
 by_cases hE:A3h N=0
 case neg=>simp only [↓Sh.dn,sx,Nat.reduceBEq,reduceCtorEq,Nat.reduceEqDiff,hE,decide_false,hres,A5f,hk12]
 simp only [↓Sh.dn,sx,Nat.reduceBEq,reduceCtorEq,Nat.reduceEqDiff,hE,decide_true,hb2.c0,hb2.c1,hb2.c2,hb2.c3,hb2.ca,A2a hb2,A1a hb2,A3a hb2,Option.map_some]
 obtain ⟨r,H4,hd4,rfl,hk4⟩:=isFree hb2.netAt hk12.wf hsm.ar hsm.en
 refine ⟨_,_,hd4,?_⟩
 cases hp:NetD.free N with
 | true=>simp only [↓Sh.dn,sx,Nat.reduceBEq,reduceCtorEq,Nat.reduceEqDiff,hres,A5f,hE,hp,hk12.trans hk4]
 | false=>simp only [↓Sh.dn,sx,Nat.reduceBEq,reduceCtorEq,Nat.reduceEqDiff,hres,A5f,hE,hp,hk12.trans hk4]
end Go.Proofs.YtnoengaghabmjaaGreat
/- What the net of a graph is as a relation. -/
namespace Go.Proofs.YtnoengaghabmjaaGreat
open Go Go.Proofs Go.Proofs.Sh
theorem grNow {H:AH} {X:Nat→Prop} {g:Nat} {sigma:List ByteArray} {rows:List (List (List Value))} {ends costs:List Int} (h:GrX H X g sigma rows ends costs) (hw:Wf H):GrX H (fun y=>X y∧y < H.next) g sigma rows ends costs:=by
 obtain ⟨sv,av,ev,cv,os,ot,oe,oc,vals,obs,h,ho⟩:=h
 refine ⟨sv,av,ev,cv,os,ot,oe,oc,vals,obs,h,fun y hy=>⟨ho y hy,?_⟩⟩
 rcases hy with rfl | hy | hy | hy | hy
 ·exact h.arr.lt hw
 ·exact h.sg.lt hw y hy
 ·exact h.jag.lt hw y hy
 ·exact h.en.lt hw y hy
 ·exact h.co.lt hw y hy
structure B5c (sigma:List ByteArray) (E:List (List GE)) (ends costs:List Int) (n:Nat) (M:NetD):Prop where
 sg:M.sigma=sigma
 st:M.states=(n:Int)
 al:M.arcs.length≤(E.map List.length).sum
 arc:∀ a,a∈M.arcs↔∃ (s:Nat) (r:List GE),E[s]?=some r∧∃ e∈r,a=B7c sigma s e
 el:M.ends.length≤n
 fin:∀ x,x∈M.ends↔∃ s:Nat,s < n∧0 < ends.getD s 0∧x=⟨(s:Int),costs.getD s 0⟩
structure A46 (sigma:List ByteArray) (E:List (List GE)) (ends costs:List Int) (n:Nat):Prop where
 le:E.length=n
 ln:ends.length=n
 lc:costs.length=n
 n1:1≤n
 n2:n≤3000
 to:∀ r∈E,∀ e∈r,e.1 < n∧e.2.1 < (sigma.length:Int)∧e.2.2.1 < (sigma.length:Int)∧e.2.2.2=0
 sum:(E.map List.length).sum≤60000
 zero:∀ s,costs.getD s 0=0
theorem A96 {sigma:List ByteArray} (hs:A8j sigma=0) {k:Int} (hk:k < (sigma.length:Int)):(A4w sigma k=⟨#[]⟩∨A4w sigma k∈sigma)∧(labT (A4w sigma k)).map (ixN sigma)=labN k:=by
 have hno:=C1t hs
 have hasc:=A81 hs
 have e0:(⟨#[]⟩:ByteArray)=A7f:=rfl
 unfold A4w labN
 by_cases h:k < 0
 ·rw [if_pos h,if_pos h]
  refine ⟨.inl rfl,?_⟩
  unfold labT
  rw [e0,if_pos rfl]; rfl
 ·rw [if_neg h,if_neg h]
  have hl:k.toNat < sigma.length:=by omega
  have hg:sigma[k.toNat]?=some sigma[k.toNat]:=List.getElem?_eq_getElem hl
  have e:sigma.getD k.toNat ⟨#[]⟩=sigma[k.toNat]:=by simp [List.getD,hl]
  rw [e]
  have hm:sigma[k.toNat]∈sigma:=List.getElem_mem hl
  refine ⟨.inr hm,?_⟩
  unfold labT
  rw [if_neg fun h=>hno (by rw [← h]; exact hm),Option.map_some]
  unfold ixN
  rw [A51 hasc hg]
  rfl
section
variable {sigma:List ByteArray} {E:List (List GE)} {ends costs:List Int} {n:Nat} {M:NetD}
theorem A4t (hM:B5c sigma E ends costs n M) (hR:A46 sigma E ends costs n) (hs:A8j sigma=0):A5f M=0:=by
 have h1:=hR.n1
 have h2:=hR.n2
 have h3:=hM.st
 have h4:=hM.al
 have h5:=hM.el
 have h6:=hR.sum
 have hsy:∀ k:Int,k < (sigma.length:Int)→A5k M (A4w sigma k)=false:=fun k hk=>by
  unfold A5k
  rw [hM.sg]
  rcases (A96 hs hk).1 with h | h
  ·rw [h]; simp
  ·simp [A5m.2 h]
 have hn:A3h M=0:=by
  unfold A3h
  rw [if_neg,if_neg,if_neg,if_neg,if_neg]
  ·intro h
   obtain ⟨e,he,hb⟩:=List.any_eq_true.1 h
   obtain ⟨s,h7,_,rfl⟩:=(hM.fin e).1 he
   simp only [A6q,Bool.or_eq_true,decide_eq_true_eq] at hb
   omega
  ·intro h
   obtain ⟨a,ha,hb⟩:=List.any_eq_true.1 h
   obtain ⟨s,r,hr,e,he,rfl⟩:=(hM.arc a).1 ha
   obtain ⟨k1,k2,k3,k4⟩:=hR.to r (List.mem_of_getElem? hr) e he
   have hsl:=(List.getElem?_eq_some_iff.1 hr).1
   have hle:=hR.le
   simp only [A4j,B7c,hsy _ k2,hsy _ k3,Bool.or_eq_true,decide_eq_true_eq,Bool.false_eq_true,or_false] at hb
   rcases hb with ((hb | hb) | hb) | hb <;> have hb2:=of_decide_eq_true hb <;> omega
  ·omega
  ·rw [hM.sg]; simp [hs]
  ·simp only [A9n,Bool.or_eq_true,decide_eq_true_eq]; omega
 unfold A5f
 rw [if_neg (by simp [hn]),if_pos]
 simp only [NetD.free,Bool.and_eq_true,List.all_eq_true,decide_eq_true_eq]
 refine ⟨fun a ha=>?_,fun e he=>?_⟩
 ·obtain ⟨s,r,hr,e,he,rfl⟩:=(hM.arc a).1 ha
  exact (hR.to r (List.mem_of_getElem? hr) e he).2.2.2
 ·obtain ⟨s,_,_,rfl⟩:=(hM.fin e).1 he
  exact hR.zero s
theorem A8q (hM:B5c sigma E ends costs n M) (hR:A46 sigma E ends costs n) (hsl:sigma.length≤1048576) (hsx:∀ x∈sigma,x.size≤1048576):A3b M:=by
 have h1:=hR.n2
 have h4:=hM.al
 have h5:=hM.el
 have h6:=hR.sum
 exact ⟨by rw [hM.sg]; exact hsl,by omega,by omega,by rw [hM.sg]; exact hsx⟩
theorem B4n (hM:B5c sigma E ends costs n M) (hR:A46 sigma E ends costs n) (hs:A8j sigma=0):A0n (A7m M)=A0n E:=by
 obtain ⟨hok,_,_⟩:=A1i (A4t hM hR hs)
 funext s a b t
 apply propext
 rw [A30 hok]
 have hsg:=hM.sg
 rw [hsg]
 constructor
 ·rintro ⟨_,_,⟨c,hc,h1,rfl,rfl,h2⟩,rfl,rfl⟩
  obtain ⟨s',r,hr,e,he,rfl⟩:=(hM.arc c).1 hc
  obtain ⟨k1,k2,k3,k4⟩:=hR.to r (List.mem_of_getElem? hr) e he
  have hss:s'=s:=by
   have:((s':Nat):Int)=(s:Int):=h1
   omega
  subst hss
  have htt:e.1=t:=by
   have:((e.1:Nat):Int)=(t:Int):=h2
   omega
  exact ⟨r,hr,e,he,htt,(A96 hs k2).2.symm,(A96 hs k3).2.symm⟩
 ·rintro ⟨r,hr,e,he,rfl,rfl,rfl⟩
  obtain ⟨k1,k2,k3,k4⟩:=hR.to r (List.mem_of_getElem? hr) e he
  exact ⟨_,_,⟨B7c sigma s e,(hM.arc _).2 ⟨s,r,hr,e,he,rfl⟩,rfl,rfl,rfl,rfl⟩,(A96 hs k2).2.symm,(A96 hs k3).2.symm⟩
def endP (ends:List Int) (t:Nat):Prop:=0 < ends.getD t 0
theorem A7t (hM:B5c sigma E ends costs n M) (hR:A46 sigma E ends costs n) (hs:A8j sigma=0) (x y:List ByteArray):
  A7k M x y↔((∀ z∈x,z∈sigma)∧∀ z∈y,z∈sigma)∧RelP (A0n E) (endP ends) (x.map (ixN sigma)) (y.map (ixN sigma)):=by
 obtain ⟨hok,_,_⟩:=A1i (A4t hM hR hs)
 have key:∀ (hx:∀ z∈x,z∈sigma) (hy:∀ z∈y,z∈sigma),A7k M x y↔RelP (A0n E) (endP ends) (x.map (ixN sigma)) (y.map (ixN sigma)):=fun hx hy=>by
  rw [← B4e hok (by rw [hM.sg]; exact hx) (by rw [hM.sg]; exact hy),B4n hM hR hs,hM.sg]
  unfold RelP
  refine exists_congr fun t=>and_congr_left fun _=>?_
  rw [B0w hok]
  unfold NetD.isEnd endP
  constructor
  ·rintro ⟨e,he,h1⟩
   obtain ⟨s,h2,h3,rfl⟩:=(hM.fin e).1 he
   have:((s:Nat):Int)=(t:Int):=h1
   have:s=t:=by omega
   rw [← this]; exact h3
  ·intro h1
   refine ⟨_,(hM.fin _).2 ⟨t,?_,h1,rfl⟩,rfl⟩
   have hln:=hR.ln
   rcases Nat.lt_or_ge t ends.length with h2 | h2
   ·omega
   ·rw [List.getD_eq_getElem?_getD,List.getElem?_eq_none h2] at h1
    exact absurd h1 (Int.lt_irrefl 0)
 constructor
 ·intro h
  have hsy:=B04 hok h
  rw [hM.sg] at hsy
  exact ⟨hsy,(key hsy.1 hsy.2).1 h⟩
 ·rintro ⟨h1,h2⟩
  exact (key h1.1 h1.2).2 h2
end
theorem A0r {N:NetD} (hok:A1k N) (x y:List ByteArray):A7k N x y↔((∀ z∈x,z∈N.sigma)∧∀ z∈y,z∈N.sigma)∧RelP (A0n (A7m N)) (endP (A2l N N.ends)) (x.map (ixN N.sigma)) (y.map (ixN N.sigma)):=by
 constructor
 ·intro h
  have hsy:=B04 hok h
  exact ⟨hsy,(B4e hok hsy.1 hsy.2).2 h⟩
 ·rintro ⟨h1,h2⟩
  exact (B4e hok h1.1 h1.2).1 h2
end Go.Proofs.YtnoengaghabmjaaGreat
/- An end of a graph is set. -/
namespace Go.Proofs.YtnoengaghabmjaaGreat
open Go Go.Proofs Go.Proofs.Sh
theorem grPutEnd {H:AH} {X:Nat→Prop} {g:Nat} {sigma:List ByteArray} {rows:List (List (List Value))} {ends costs:List Int} {s:Nat} {x:Int}
  (h:GrX H X g sigma rows ends costs) (hs:s < ends.length) (hw:Wf H):
  ∃ ev p H',H.cell ⟨g,2,some 0⟩=some ev∧A4c Tryz.prog 88 ev (.int .i64 (s:Int))=some (.pointer (some p))∧A4f Tryz.prog 3 H (.int .i64 x) (.pointer (some p))=some H'∧Chg X H H'∧GrX H' X g sigma rows (ends.set s x) costs:=by
 obtain ⟨sv,av,ev,cv,os,ot,oe,oc,vals,obs,h,ho⟩:=h
 obtain ⟨pe,H2,ia,e1,b1,c1,n1⟩:=Buf.set (P:=Tryz.prog) h.en hw (i:=s) (x:=[.int .i64 x]) (by simpa using hs) rfl
 refine ⟨ev,pe,H2,h.arr.cell 2,ia Tryz.underlying88 A6d (j:=.i64),by rw [A1d A6d rfl]; exact e1,c1.weak fun y hy=>ho y (.inr (.inr (.inr (.inl hy)))),sv,av,ev,cv,os,ot,oe,oc,vals,obs,
  { h with arr:=h.arr.keep (c1.old g (h.arr.lt hw) ?_),sg:=h.sg.chg hw c1 ?_,jag:=h.jag.chg hw c1 ?_,en:=by rw [List.map_set]; exact b1,co:=h.co.chg hw c1 ?_ },ho⟩
 ·exact h.ge
 ·intro y hy hy2
  exact h.se y hy hy2
 ·intro y hy hy2
  exact h.je y hy2 hy
 ·intro y hy hy2
  exact h.ec y hy2 hy
end Go.Proofs.YtnoengaghabmjaaGreat
/- graph.Star: any number of pairs one behind the other. -/
namespace Go.Proofs.YtnoengaghabmjaaGreat
open Go Go.Proofs Go.Proofs.Sh
def A4z (E:List (List GE)) (ends costs:List Int) (i s:Nat):List GE:=(E.getD s []).map (A17 1)++(if s < i∧0 < ends.getD s 0 then [(0,-1,-1,costs.getD s 0)] else [])
def stE (E:List (List GE)) (ends costs:List Int) (n i:Nat):List (List GE):=[(1,-1,-1,0)] :: (List.range n).map (A4z E ends costs i)
def B9w (ends:List Int) (i s:Nat):Int:=if s < i∧0 < ends.getD s 0 then 0 else ends.getD s 0
def A7q (ends:List Int) (n i:Nat):List Int:=(List.range n).map (B9w ends i)
theorem B4z {α:Type} {n i:Nat} {f g:Nat→α} (hi:i < n) (h:∀ j,j≠i→f j=g j):((List.range n).map f).set i (g i)=(List.range n).map g:=by
 refine List.ext_getElem? fun j=>?_
 rw [List.getElem?_set]
 by_cases hj:i=j
 ·subst hj
  rw [if_pos rfl,List.length_map,List.length_range,if_pos hi,List.getElem?_map,List.getElem?_range hi]; rfl
 ·rw [if_neg hj,List.getElem?_map,List.getElem?_map]
  by_cases hjn:j < n
  ·rw [List.getElem?_range hjn,Option.map_some,Option.map_some,h j (Ne.symm hj)]
  ·rw [List.getElem?_eq_none (by simp; omega)]; rfl
section
variable {E:List (List GE)} {ends costs:List Int} {n:Nat}
theorem C92 (i:Nat):(stE E ends costs n i).length=1+n:=by simp [stE]; omega
theorem B0q (i:Nat):(A7q ends n i).length=n:=by simp [A7q]
theorem stE_zero (hE:E.length=n):stE E ends costs n 0=[(1,-1,-1,0)] :: A8n 1 E:=by
 unfold stE A8n
 congr 1
 refine List.ext_getElem? fun j=>?_
 rw [List.getElem?_map,List.getElem?_map]
 by_cases hj:j < n
 ·rw [List.getElem?_range hj,List.getElem?_eq_getElem (by omega)]
  simp [A4z,List.getD_eq_getElem?_getD,List.getElem?_eq_getElem (show j < E.length by omega)]
 ·rw [List.getElem?_eq_none (by simp; omega),List.getElem?_eq_none (by omega)]; rfl
theorem C6b (he:ends.length=n):A7q ends n 0=ends:=by
 unfold A7q
 refine List.ext_getElem? fun j=>?_
 rw [List.getElem?_map]
 by_cases hj:j < n
 ·rw [List.getElem?_range hj]
  simp [B9w,List.getD_eq_getElem?_getD,List.getElem?_eq_getElem (show j < ends.length by omega)]
 ·rw [List.getElem?_eq_none (by simp; omega),List.getElem?_eq_none (by omega)]; rfl
theorem B1o {i j:Nat} (h:j≠i∨¬0 < ends.getD j 0):A4z E ends costs i j=A4z E ends costs (i+1) j:=by
 unfold A4z
 have:(j < i∧0 < ends.getD j 0)↔(j < i+1∧0 < ends.getD j 0):=⟨fun h=>⟨by omega,h.2⟩,fun h2=>⟨by
  rcases h with h | h
  ·omega
  ·exact absurd h2.2 h,h2.2⟩⟩
 simp only [this]
theorem B9r {i j:Nat} (h:j≠i∨¬0 < ends.getD j 0):B9w ends i j=B9w ends (i+1) j:=by
 unfold B9w
 have:(j < i∧0 < ends.getD j 0)↔(j < i+1∧0 < ends.getD j 0):=⟨fun h=>⟨by omega,h.2⟩,fun h2=>⟨by
  rcases h with h | h
  ·omega
  ·exact absurd h2.2 h,h2.2⟩⟩
 simp only [this]
theorem stE_skip {i:Nat} (h:¬0 < ends.getD i 0):stE E ends costs n (i+1)=stE E ends costs n i:=by
 unfold stE
 congr 1
 refine List.map_congr_left fun j _=>(B1o ?_).symm
 by_cases hj:j=i
 ·subst hj; exact .inr h
 ·exact .inl hj
theorem C8a {i:Nat} (h:¬0 < ends.getD i 0):A7q ends n (i+1)=A7q ends n i:=by
 unfold A7q
 refine List.map_congr_left fun j _=>(B9r ?_).symm
 by_cases hj:j=i
 ·subst hj; exact .inr h
 ·exact .inl hj
theorem B4v {i s:Nat} (hs:s < n):(stE E ends costs n i)[1+s]?=some (A4z E ends costs i s):=by
 unfold stE
 rw [Nat.add_comm,List.getElem?_cons_succ,List.getElem?_map,List.getElem?_range hs]; rfl
theorem stE_add {i:Nat} (hi:i < n) (h:0 < ends.getD i 0):(stE E ends costs n i).set (1+i) (A4z E ends costs i i++[(0,-1,-1,costs.getD i 0)])=stE E ends costs n (i+1):=by
 have e:A4z E ends costs i i++[(0,-1,-1,costs.getD i 0)]=A4z E ends costs (i+1) i:=by
  unfold A4z
  rw [if_neg (by omega),if_pos ⟨Nat.lt_succ_self i,h⟩,List.append_nil]
 rw [e]
 unfold stE
 rw [Nat.add_comm,List.set_cons_succ]
 congr 1
 exact B4z hi fun j hj=>B1o (.inl hj)
theorem C7o {i:Nat} (hi:i < n) (h:0 < ends.getD i 0):(A7q ends n i).set i 0=A7q ends n (i+1):=by
 have e:(0:Int)=B9w ends (i+1) i:=by
  unfold B9w
  rw [if_pos ⟨Nat.lt_succ_self i,h⟩]
 rw [e]
 unfold A7q
 exact B4z hi fun j hj=>B9r (.inl hj)
theorem star_of (hE:E.length=n) (hl:ends.length=n):StarOf (A0n E) (A0n (stE E ends costs n n)) (endP ends) (endP (1 :: A7q ends n n)):=by
 have l1:labN (-1)=none:=rfl
 have hg:∀ {s:Nat},0 < ends.getD s 0→s < n:=fun {s} h=>by
  rcases Nat.lt_or_ge s n with h2 | h2
  ·exact h2
  ·rw [List.getD_eq_getElem?_getD,List.getElem?_eq_none (by omega)] at h
   exact absurd h (Int.lt_irrefl 0)
 have gr:∀ {s:Nat} {e:GE},e∈E.getD s []↔∃ r,E[s]?=some r∧e∈r:=fun {s e}=>by
  rw [List.getD_eq_getElem?_getD]
  cases h:E[s]? with
  | none=>simp
  | some r=>simp
 refine ⟨fun s a b t=>?_,fun t=>?_⟩
 ·constructor
  ·rintro ⟨r,h1,e,h2,h3,h4,h5⟩
   cases s with
   | zero=>
    have:r=[(1,-1,-1,0)]:=(Option.some.inj h1).symm
    subst this
    have e1:=List.mem_singleton.1 h2
    subst e1
    exact .inl ⟨rfl,h3.symm,by rw [← h4,l1],by rw [← h5,l1]⟩
   | succ s=>
    have hs:s < n:=by
     have:=(List.getElem?_eq_some_iff.1 h1).1
     rw [C92] at this; omega
    rw [Nat.add_comm s 1,B4v hs] at h1
    rw [← Option.some.inj h1] at h2
    rcases List.mem_append.1 h2 with h6 | h6
    ·obtain ⟨e0,h7,rfl⟩:=List.mem_map.1 h6
     obtain ⟨r0,h8,h9⟩:=gr.1 h7
     exact .inr (.inl ⟨s,e0.1,by omega,h3.symm,r0,h8,e0,h9,rfl,h4,h5⟩)
    ·split at h6
     ·rename_i h7
      have e1:=List.mem_singleton.1 h6
      subst e1
      exact .inr (.inr ⟨s,by omega,h7.2,h3.symm,by rw [← h4,l1],by rw [← h5,l1]⟩)
     ·cases h6
  ·rintro (⟨rfl,rfl,rfl,rfl⟩ | ⟨s',t',rfl,rfl,r,h1,e,h2,rfl,h4,h5⟩ | ⟨s',rfl,h1,rfl,rfl,rfl⟩)
   ·exact ⟨_,rfl,(1,-1,-1,0),List.mem_singleton.2 rfl,rfl,l1,l1⟩
   ·have hs:s' < n:=by have:=(List.getElem?_eq_some_iff.1 h1).1; omega
    exact ⟨_,B4v hs,A17 1 e,List.mem_append_left _ (List.mem_map.2 ⟨e,gr.2 ⟨r,h1,h2⟩,rfl⟩),rfl,h4,h5⟩
   ·refine ⟨_,B4v (hg h1),(0,-1,-1,costs.getD s' 0),List.mem_append_right _ ?_,rfl,l1,l1⟩
    rw [if_pos ⟨hg h1,h1⟩]
    exact List.mem_singleton.2 rfl
 ·unfold endP
  cases t with
  | zero=>exact ⟨fun _=>rfl,fun _=>by show (0:Int) < 1; decide⟩
  | succ t=>
   constructor
   ·intro h
    exfalso
    rw [List.getD_eq_getElem?_getD,List.getElem?_cons_succ] at h
    unfold A7q at h
    rw [List.getElem?_map] at h
    by_cases ht:t < n
    ·rw [List.getElem?_range ht] at h
     have h':0 < B9w ends n t:=h
     unfold B9w at h'
     split at h'
     ·exact absurd h' (Int.lt_irrefl 0)
     ·rename_i h2; exact h2 ⟨ht,h'⟩
    ·rw [List.getElem?_eq_none (by simp; omega)] at h
     exact absurd h (Int.lt_irrefl 0)
   ·intro h; cases h
theorem stE_ok {m:Int} (hm:0≤m) (hE:E.length=n) (hz:∀ s,costs.getD s 0=0) (hto:∀ r∈E,∀ e∈r,e.1 < n∧e.2.1 < m∧e.2.2.1 < m∧e.2.2.2=0) (i:Nat) (hn:0 < n):∀ r∈stE E ends costs n i,∀ e∈r,e.1 < 1+n∧e.2.1 < m∧e.2.2.1 < m∧e.2.2.2=0:=by
 have hm1:(-1:Int) < m:=by omega
 intro r hr e he
 rcases List.mem_cons.1 hr with rfl | h
 ·rw [List.mem_singleton.1 he]
  exact ⟨by simp only; omega,hm1,hm1,rfl⟩
 ·obtain ⟨s,hs,rfl⟩:=List.mem_map.1 h
  rcases List.mem_append.1 he with h6 | h6
  ·obtain ⟨e0,h7,rfl⟩:=List.mem_map.1 h6
   rw [List.getD_eq_getElem?_getD] at h7
   cases h8:E[s]? with
   | none=>rw [h8] at h7; cases h7
   | some r0=>
    rw [h8] at h7
    have:=hto r0 (List.mem_of_getElem? h8) e0 h7
    unfold A17
    exact ⟨by simp only; omega,this.2⟩
  ·split at h6
   ·rw [List.mem_singleton.1 h6]
    exact ⟨by simp only; omega,hm1,hm1,hz s⟩
   ·cases h6
theorem stE_sum (hE:E.length=n) (i:Nat):((stE E ends costs n i).map List.length).sum≤1+n+(E.map List.length).sum:=by
 unfold stE
 rw [List.map_cons,List.sum_cons,List.map_map]
 have key:∀ k,k≤n→((List.range k).map (List.length ∘ A4z E ends costs i)).sum≤k+((E.take k).map List.length).sum:=fun k=>by
  induction k with
  | zero=>intro _; simp
  | succ k ih=>
   intro hk
   have h1:=ih (by omega)
   have hkE:k < E.length:=by omega
   have ht:E.take (k+1)=E.take k++[E[k]]:=by rw [List.take_add_one,List.getElem?_eq_getElem hkE]; rfl
   have hl:(A4z E ends costs i k).length≤E[k].length+1:=by
    unfold A4z
    rw [List.length_append,List.length_map,List.getD_eq_getElem?_getD,List.getElem?_eq_getElem hkE]
    split <;> simp
   rw [List.range_succ,List.map_append,List.sum_append,ht,List.map_append,List.sum_append]
   simp only [List.map_cons,List.map_nil,List.sum_cons,List.sum_nil,Function.comp]
   omega
 have:=key n (Nat.le_refl _)
 rw [List.take_of_length_le (by omega)] at this
 simp only [List.length_singleton]
 omega
end
theorem C46 {H:AH} {Y1:Nat→Prop} {g1 n:Nat} {sigma:List ByteArray} {E:List (List GE)} {ends costs:List Int} (h1:GrX H Y1 g1 sigma (A0d E) ends costs)
  (hl1:E.length=n) (he1:ends.length=n) (hc1:costs.length=n) (hp1:1≤n) (hq1:n≤2999) (hsl:sigma.length≤1048576) (ht1:∀ r∈E,r.length≤60000∧∀ e∈r,e.1 < n) (hw:Wf H):
  Sh.Call Tryz.prog (knows 10) 103 [.pointer (some ⟨g1,0,some 0⟩)] H (fun r H'=>Kept H H'∧∃ g,r=.pointer (some ⟨g,0,some 0⟩)∧∃ X:Nat→Prop,GrX H' X g sigma (A0d (stE E ends costs n n)) (1 :: A7q ends n n) (0 :: costs)):=by
 refine A4a rfl Tryz.func103 rfl (Nat.le_of_ble_eq_true rfl) ?_
 have hres:Tryz.f103.results.toList=[.tmp 2]:=rfl
 obtain ⟨sv,av,ev,cv,vals,hR⟩:=h1.read
 have hc0:H.cell ⟨g1,0,some 0⟩=some sv:=hR.arr.cell 0
 obtain ⟨r3,H3,hd3,hk3,g,rfl,hG3⟩:=A67 (n:=1) hR.sg hsl (by decide) hw
 have hX3:GrX H3 (fun y=>H.next≤y∧y < H3.next) g sigma (A0d [[]]) [0] [0]:=by simpa [A0d] using hG3.own hk3.wf
 have h1n:=grNow h1 hw
 obtain ⟨r4,H4,hd4,rfl,hc4,hX4⟩:=grAdd hX3 (h1n.kept hw hk3) (fun y hy=>⟨fun hx=>by have:=hy.2; omega,by have:=hk3.next; have:=hy.2; omega⟩) rfl rfl hl1 he1 hc1 hp1 (by omega) (by simp [A0d]) (fun r hr=>⟨by have:=(ht1 r hr).1; omega,(ht1 r hr).2⟩) hk3.wf
 have hk4:Kept H H4:=hk3.then (Nat.le_refl _) (hc4.weak fun y hy=>by
  rcases hy with h | h
  ·exact h.1
  ·have:=hk3.next; omega)
 have hX4':GrX H4 (fun y=>H.next≤y) g sigma (A0d ([] :: A8n 1 E)) ([0]++ends) ([0]++costs):=hX4.mono fun y hy=>by
  rcases hy with h | h
  ·exact h.1
  ·have:=hk3.next; omega
 have l11:(A0d [([]:List GE)]).length=1:=rfl
 rw [l11] at hd4
 obtain ⟨r5,H5,hd5,hc5,hX5⟩:=B73 (s:=0) (x0:=1) (x1:=-1) (x2:=-1) (x3:=0) hX4' rfl (by simp) hk4.wf
 have hk5:Kept H H5:=hk4.then (Nat.le_refl _) hc5
 have hX5':GrX H5 (fun y=>H.next≤y) g sigma (A0d (stE E ends costs n 0)) (0 :: A7q ends n 0) (0 :: costs):=by
  rw [stE_zero hl1,C6b he1]
  have:=hX5.mono (Z:=fun y=>H.next≤y) fun y hy=>by
   rcases hy with h | h
   ·exact h
   ·have:=hk4.next; omega
  simpa [A0d,A9e] using this
 have hc2':∀ {H':AH},Kept H H'→H'.cell ⟨g1,2,some 0⟩=some ev:=fun hk=>A9d (hk.grow hw) (hR.arr.cell 2)
 have hc3':∀ {H':AH},Kept H H'→H'.cell ⟨g1,3,some 0⟩=some cv:=fun hk=>A9d (hk.grow hw) (hR.arr.cell 3)
 have hlen:∀ H',A6a Tryz.prog .len [88] [ev] H'=some (.int .i64 (n:Int),H'):=fun H'=>by
  rw [hR.en.len Tryz.underlying88 H',List.length_map,he1]
 simp only [↓Sh.dn,sx,Nat.reduceBEq,reduceCtorEq,Nat.reduceEqDiff,hc0]
 refine ⟨_,_,hd3,?_⟩
 refine ⟨_,_,hd4,?_⟩
 refine ⟨_,_,hd5,?_⟩
 simp only [↓Sh.dn,sx,Nat.reduceBEq,reduceCtorEq,Nat.reduceEqDiff,hc2' hk5,hlen]
 refine A0f n 23 (List.range' 23 28++[5,6]) (fun i F H'=>Kept H H'∧∃ X:Nat→Prop,(∀ y,X y→H.next≤y)∧GrX H' X g sigma (A0d (stE E ends costs n i)) (0 :: A7q ends n i) (0 :: costs)) (by simp only [↓Sh.dn,sx,Nat.reduceBEq,reduceCtorEq,Nat.reduceEqDiff]) ⟨hk5,_,fun y hy=>hy,hX5'⟩ ?_ ?_
 ·rintro i F H' hi hF f23 ⟨hk,X,hXb,hX⟩ k
  have f0:=hF 0 rfl
  have f3:=hF 3 rfl
  have f4:=hF 4 rfl
  have f21:=hF 21 rfl
  have f22:=hF 22 rfl
  simp only [↓Sh.dn,sx,Nat.reduceBEq,reduceCtorEq,Nat.reduceEqDiff] at f0 f3 f4 f21 f22
  rw [show ((1:Nat):Int)=1 from rfl] at f4
  have hie:i < ends.length:=by omega
  have hic:i < costs.length:=by omega
  have ge:ends.getD i 0=ends[i]:=by rw [List.getD_eq_getElem?_getD,List.getElem?_eq_getElem hie]; rfl
  have gc:costs.getD i 0=costs[i]:=by rw [List.getD_eq_getElem?_getD,List.getElem?_eq_getElem hic]; rfl
  obtain ⟨p1,i1,e1⟩:=Sl.elem (s:=1) Tryz.underlying88 A6d (hR.en.grow (hk.grow hw)) (i:=i) (u:=.int .i64 ends[i]) (by rw [List.getElem?_map,List.getElem?_eq_getElem hie]; rfl)
  have w1:IntKind.wrap .i64 (1+(i:Int))=((1+i:Nat):Int):=by rw [wrap64 (by omega) (by omega)]; omega
  by_cases hpos:0 < ends[i]
  ·obtain ⟨ev6,p6,H6,c6,ia6,st6,chg6,hX6⟩:=grPutEnd (s:=1+i) (x:=0) hX (by rw [List.length_cons,B0q]; omega) hk.wf
   have hk6:Kept H H6:=hk.then (Nat.le_refl _) (chg6.weak hXb)
   obtain ⟨p7,i7,e7⟩:=Sl.elem (s:=1) Tryz.underlying88 A6d (hR.co.grow (hk6.grow hw)) (i:=i) (u:=.int .i64 costs[i]) (by rw [List.getElem?_map,List.getElem?_eq_getElem hic]; rfl)
   have hrl:(A4z E ends costs i i).length≤60001:=by
    unfold A4z
    rw [List.length_append,List.length_map,List.getD_eq_getElem?_getD,List.getElem?_eq_getElem (by omega)]
    have:=(ht1 _ (List.getElem_mem (show i < E.length by omega))).1
    simp only [Option.getD_some]
    split <;> simp <;> omega
   have hrow:(A0d (stE E ends costs n i))[1+i]?=some ((A4z E ends costs i i).map A9e):=by unfold A0d; rw [List.getElem?_map,B4v hi]; rfl
   obtain ⟨r8,H8,hd8,hc8,hX8⟩:=B73 (s:=1+i) (x0:=0) (x1:=-1) (x2:=-1) (x3:=costs[i]) hX6 hrow (by rw [List.length_map]; omega) chg6.wf
   have hset:(A0d (stE E ends costs n i)).set (1+i) ((A4z E ends costs i i).map A9e++[[Value.int .i64 0,Value.int .i64 (-1),Value.int .i64 (-1),Value.int .i64 costs[i]]])=A0d (stE E ends costs n (i+1)):=by
    rw [← stE_add hi (by rw [ge]; exact hpos),gc]
    unfold A0d
    rw [List.map_set,List.map_append (l₁:=A4z E ends costs i i)]
    rfl
   have hse:(0 :: A7q ends n i).set (1+i) 0=0 :: A7q ends n (i+1):=by
    rw [Nat.add_comm,List.set_cons_succ,C7o hi (by rw [ge]; exact hpos)]
   rw [hset,hse] at hX8
   have hn6:=hk6.next
   have hXb':∀ y,(X y∨H6.next≤y)→H.next≤y:=fun y hy=>by
    rcases hy with h | h
    ·exact hXb y h
    ·omega
   have hk8:Kept H H8:=hk6.then (Nat.le_refl _) (hc8.weak hXb)
   simp only [↓Sh.dn,sx,Nat.reduceBEq,reduceCtorEq,Nat.reduceEqDiff,f0,f3,f4,f21,f22,f23,A5a,hi,decide_true,i1,e1,hpos,c6,w1,ia6,st6,hc3' hk6,i7,e7]
   refine ⟨_,_,hd8,?_⟩
   simp only [↓Sh.dn,sx,Nat.reduceBEq,reduceCtorEq,Nat.reduceEqDiff,f23,A7a hi (by omega)]
   exact k _ _ (by repeat (first | refine Same.put ?_ rfl | exact Same.rfl' _)) (by simp only [↓Sh.dn,sx,Nat.reduceBEq,reduceCtorEq,Nat.reduceEqDiff]) ⟨hk8,_,hXb',hX8⟩
  ·simp only [↓Sh.dn,sx,Nat.reduceBEq,reduceCtorEq,Nat.reduceEqDiff,f0,f3,f4,f21,f22,f23,A5a,hi,decide_true,i1,e1,hpos,decide_false,A7a hi (by omega)]
   exact k _ _ (by repeat (first | refine Same.put ?_ rfl | exact Same.rfl' _)) (by simp only [↓Sh.dn,sx,Nat.reduceBEq,reduceCtorEq,Nat.reduceEqDiff]) ⟨hk,X,hXb,by rw [stE_skip (by rw [ge]; exact hpos),C8a (by rw [ge]; exact hpos)]; exact hX⟩
 ·rintro F H' hF f23 ⟨hk,X,hXb,hX⟩
  have f3:=hF 3 rfl
  have f22:=hF 22 rfl
  simp only [↓Sh.dn,sx,Nat.reduceBEq,reduceCtorEq,Nat.reduceEqDiff] at f3 f22
  obtain ⟨rr,H9,hd9,hc9,hX9⟩:=grEndX (s:=0) (x:=0) hX (by simp) (by simp) hk.wf (by simp) (by simp)
  simp only [↓Sh.dn,sx,Nat.reduceBEq,reduceCtorEq,Nat.reduceEqDiff,f3,f22,f23,A5a,Nat.lt_irrefl,decide_false]
  refine ⟨_,_,hd9,?_⟩
  simp only [↓Sh.dn,sx,Nat.reduceBEq,reduceCtorEq,Nat.reduceEqDiff,f3,hres]
  refine ⟨hk.then (Nat.le_refl _) (hc9.weak hXb),g,rfl,X,?_⟩
  have e0:A3v 0 0 0=0:=rfl
  simpa [e0] using hX9
end Go.Proofs.YtnoengaghabmjaaGreat
/- graph.Either: the graph of the words of two. -/
namespace Go.Proofs.YtnoengaghabmjaaGreat
open Go Go.Proofs Go.Proofs.Sh
end Go.Proofs.YtnoengaghabmjaaGreat
/- A graph's edges with other sides. -/
namespace Go.Proofs.YtnoengaghabmjaaGreat
open Go Go.Proofs Go.Proofs.Sh
def B4l (f:GE→Int×Int) (e:GE):GE:=(e.1,(f e).1,(f e).2,e.2.2.2)
def A8v (f:GE→Int×Int) (E:List (List GE)):List (List GE):=E.map fun r=>r.map (B4l f)
def C5b (e:GE):Int×Int:=(e.2.2.1,e.2.1)
def B1h (e:GE):Int×Int:=(e.2.1,e.2.1)
def B8g (e:GE):Int×Int:=(e.2.2.1,e.2.2.1)
theorem C5y (f:GE→Int×Int) (E:List (List GE)):(A8v f E).length=E.length:=by unfold A8v; rw [List.length_map]
theorem B2a {f:GE→Int×Int} {E:List (List GE)} {s:Nat} {a b:Option Nat} {t:Nat}:A0n (A8v f E) s a b t↔∃ r,E[s]?=some r∧∃ e∈r,e.1=t∧labN (f e).1=a∧labN (f e).2=b:=by
 unfold A0n A8v
 constructor
 ·rintro ⟨r,h1,e,h2,h3⟩
  rw [List.getElem?_map] at h1
  obtain ⟨r0,h4,rfl⟩:=Option.map_eq_some_iff.1 h1
  obtain ⟨e0,h5,rfl⟩:=List.mem_map.1 h2
  exact ⟨r0,h4,e0,h5,h3⟩
 ·rintro ⟨r,h1,e,h2,h3⟩
  exact ⟨_,by rw [List.getElem?_map,h1]; rfl,B4l f e,List.mem_map.2 ⟨e,h2,rfl⟩,h3⟩
theorem turn_ok {f:GE→Int×Int} {E:List (List GE)} {n:Nat} {m:Int} (hf:∀ e:GE,e.2.1 < m→e.2.2.1 < m→(f e).1 < m∧(f e).2 < m) (h:∀ r∈E,∀ e∈r,e.1 < n∧e.2.1 < m∧e.2.2.1 < m∧e.2.2.2=0):∀ r∈A8v f E,∀ e∈r,e.1 < n∧e.2.1 < m∧e.2.2.1 < m∧e.2.2.2=0:=by
 intro r hr e he
 obtain ⟨r0,h1,rfl⟩:=List.mem_map.1 hr
 obtain ⟨e0,h2,rfl⟩:=List.mem_map.1 he
 obtain ⟨q1,q2,q3,q4⟩:=h r0 h1 e0 h2
 obtain ⟨p1,p2⟩:=hf e0 q2 q3
 exact ⟨q1,p1,p2,q4⟩
theorem turn_sum (f:GE→Int×Int) (E:List (List GE)):((A8v f E).map List.length).sum=(E.map List.length).sum:=by
 unfold A8v
 rw [List.map_map]
 congr 1
 exact List.map_congr_left fun r _=>by simp
end Go.Proofs.YtnoengaghabmjaaGreat
/- slices.Clone. -/
namespace Go.Proofs.YtnoengaghabmjaaGreat
open Go Go.Proofs Go.Proofs.Sh
theorem B57 {H:AH} {v:Value} {l:List (List Value)} (hs:Sl H v 1 l) (hl:l.length≤1073741823) (hw:Wf H):
  Sh.Call Tryz.prog (knows 10) 147 [v] H (fun r H'=>Kept H H'∧∃ b,Buf H' 1 r l b∧∀ g,b=some g→H.next≤g):=by
 refine A4a rfl Tryz.func147 rfl (Nat.le_of_ble_eq_true rfl) ?_
 have hres:Tryz.f147.results.toList=[.tmp 2]:=rfl
 obtain ⟨a,cap,rfl,h2,h3,h4⟩:=id hs
 cases a with
 | none=>
  obtain ⟨rfl,rfl⟩:=h3 rfl
  simp only [↓Sh.dn,sx,Nat.reduceBEq,reduceCtorEq,Nat.reduceEqDiff,List.length_nil,Option.isNone_none,hres]
  exact ⟨Kept.refl hw,none,.void none,fun g h=>by cases h⟩
 | some a=>
  have hs1:=hs.grow (HGrow.new hw 1 [])
  have hk1:Kept H (H.new 1 []).2:=Kept.new hw 1 []
  obtain ⟨v',H',b',e1,e2,e3,e4⟩:=(Buf.void (H:=(H.new 1 []).2) (s:=1) (some ⟨H.next,0,some 0⟩)).append hk1.wf h2
  have happ:=C8z (base:=some ⟨H.next,0,some 0⟩) (len:=0) (cap:=0) (hs1.srcKind Tryz.underlying88) hs1.newCells (by omega)
  have hk2:Kept (H.new 1 []).2 H':=e3.kept fun g hg h=>by cases h
  simp only [↓Sh.dn,sx,Nat.reduceBEq,reduceCtorEq,Nat.reduceEqDiff,Option.isNone_some,happ,e1,hres]
  refine ⟨hk1.trans hk2,b',by simpa using e2,fun g hg=>?_⟩
  rcases e4 with rfl | ⟨rfl,_⟩
  ·cases hg
  ·cases hg; exact Nat.le_succ _
theorem cloneInt {H:AH} {v:Value} {l:List (List Value)} (hs:Sl H v 1 l) (hl:l.length≤1048576) (hw:Wf H):
  Sh.Call Tryz.prog (knows 10) 147 [v] H (fun r H'=>Kept H H'∧∃ b,Buf H' 1 r l b∧∀ g,b=some g→H.next≤g):=B57 hs (Nat.le_trans hl (by decide)) hw
end Go.Proofs.YtnoengaghabmjaaGreat
/- (*graph.Graph).Back: the graph with its arcs the other way round. -/
namespace Go.Proofs.YtnoengaghabmjaaGreat
open Go Go.Proofs Go.Proofs.Sh
theorem C8v {H:AH} {g n:Nat} {E:List (List (Nat×Int×Int×Int))} {ends:List Int} {sv av ev cv:Value} {vals:List Value} {sigma:List ByteArray} {costs:List Int} (h:PG H g n 60000 E ends sv av ev cv vals sigma costs) (hsg:sigma.length≤1048576) (hw:Wf H):
  Sh.Call Tryz.prog (knows 10) 150 [.pointer (some ⟨g,0,some 0⟩)] H (fun r H'=>Kept H H'∧∃ g',r=.pointer (some ⟨g',0,some 0⟩)∧∃ R base,H.next≤base∧Gr H' base g' sigma (A0d R) (List.replicate n 0) (List.replicate n 0)∧R.length=n∧(∀ r∈R,r.length≤180000000∧∀ e∈r,e.1 < n)∧∀ p t s,A3t R p t s↔A3t E p s t):=by
 refine A4a rfl Tryz.func150 rfl (Nat.le_of_ble_eq_true rfl) ?_
 have hres:Tryz.f150.results.toList=[.tmp 2]:=rfl
 have hn2:=h.n2
 have hc0:=h.gr.arr.cell 0
 have hc1:=h.gr.arr.cell 1
 have hlenA:∀ H',A6a Tryz.prog .len [123] [av] H'=some (.int .i64 (n:Int),H'):=fun H'=>by
  rw [h.gr.jag.sl.len Tryz.underlying123,List.length_map,h.gr.jag.len]; unfold A0d; rw [List.length_map,h.le]
 obtain ⟨r1,H1,hd1,hk1,g1,rfl,hG1⟩:=A67 (n:=n) h.gr.sg hsg (by omega) hw
 simp only [↓Sh.dn,sx,Nat.reduceBEq,reduceCtorEq,Nat.reduceEqDiff]
 refine A9v (fl:=[(0,[]),(1,[]),(2,[]),(3,[]),(4,[]),(5,[]),(6,[]),(7,[]),(8,[]),(9,[]),(10,[])]) (by kernel_rfl) (by kernel_rfl) (by kernel_rfl) ?_
 simp only [↓Sh.dn,sx,Nat.reduceBEq,reduceCtorEq,Nat.reduceEqDiff,wpr,again,A9b,A3e,A1c,A4e,A6c,A6b,A0g,forall_eq,forall_eq',hc0,hc1,hlenA]
 refine ⟨_,_,hd1,?_⟩
 have hc1':=A9d (hk1.grow hw) hc1
 simp only [↓Sh.dn,sx,Nat.reduceBEq,reduceCtorEq,Nat.reduceEqDiff,wpr,again,A9b,A3e,A1c,A4e,A6c,A6b,A0g,forall_eq,forall_eq',hc1',hlenA]
 have hg0:A0d (List.replicate n ([]:List (Nat×Int×Int×Int)))=List.replicate n []:=by simp [A0d]
 rw [← hg0] at hG1
 refine A0f n 23 (List.range' 23 24++[4,5,7]) (fun i F H'=>Kept H H'∧∃ R,Gr H' H.next g1 sigma (A0d R) (List.replicate n 0) (List.replicate n 0)∧R.length=n∧(∀ r∈R,r.length≤i * 60000∧∀ e∈r,e.1 < n)∧∀ p t s,A3t R p t s↔s < i∧A3t E p s t) (by simp only [↓Sh.dn,sx,Nat.reduceBEq,reduceCtorEq,Nat.reduceEqDiff]) ⟨hk1,_,hG1,by simp,fun r hr=>by rw [List.eq_of_mem_replicate hr]; simp,fun p t s=>by
  constructor
  ·rintro ⟨r,h1,e,h2,_⟩
   rw [List.getElem?_replicate] at h1
   split at h1
   ·rw [← Option.some.inj h1] at h2; cases h2
   ·cases h1
  ·rintro ⟨h1,_⟩; exact absurd h1 (Nat.not_lt_zero _)⟩ ?_ ?_
 ·rintro i F H' hi hF f23 ⟨hk,R,hG,hRl,hRr,hiff⟩ k
  have f3:=hF 3 rfl
  have f21:=hF 21 rfl
  have f22:=hF 22 rfl
  simp only [↓Sh.dn,sx,Nat.reduceBEq,reduceCtorEq,Nat.reduceEqDiff] at f3 f21 f22
  obtain ⟨r,hr⟩:∃ r,E[i]?=some r:=⟨E[i]'(by rw [h.le]; exact hi),List.getElem?_eq_getElem _⟩
  obtain ⟨hrl,hrt⟩:=h.to i r hr
  obtain ⟨pr,wr,hiar,hcr,hsr,hlr⟩:=PG.row h hr
  have q2:=A9d (hk.grow hw) hcr
  simp only [↓Sh.dn,sx,Nat.reduceBEq,reduceCtorEq,Nat.reduceEqDiff,f21,f22,f23,A5a,hi,decide_true,hiar,q2,hlr]
  refine A0f r.length 30 (List.range' 30 16++[7]) (fun q F'' H''=>Kept H H''∧∃ R,Gr H'' H.next g1 sigma (A0d R) (List.replicate n 0) (List.replicate n 0)∧R.length=n∧(∀ r∈R,r.length≤i * 60000+q∧∀ e∈r,e.1 < n)∧∀ p t s,A3t R p t s↔s < i∧A3t E p s t∨s=i∧∃ e∈r.take q,e.1=t∧p e.2.1) (by simp only [↓Sh.dn,sx,Nat.reduceBEq,reduceCtorEq,Nat.reduceEqDiff]) ⟨hk,R,hG,hRl,fun r hr=>⟨Nat.le_trans (hRr r hr).1 (Nat.le_add_right _ _),(hRr r hr).2⟩,fun p t s=>by rw [hiff]; simp⟩ ?_ ?_
  ·rintro q F'' H'' hq hF'' f30 ⟨hk'',R,hG,hRl,hRr,hiff⟩ k2
   have g3:=hF'' 3 rfl
   have g4:=hF'' 4 rfl
   have g28:=hF'' 28 rfl
   have g29:=hF'' 29 rfl
   simp only [↓Sh.dn,sx,Nat.reduceBEq,reduceCtorEq,Nat.reduceEqDiff,f3] at g3 g4 g28 g29
   obtain ⟨pe,hiae,hce⟩:=PG.edge (hsr.grow (hk''.grow hw)) hq
   have hrq:r[q]∈r:=List.getElem_mem hq
   have htk:r.take (q+1)=r.take q++[r[q]]:=by rw [List.take_add_one,List.getElem?_eq_getElem hq]; rfl
   generalize r[q]=e at hce hrq htk
   have kn:=Kept.new hk''.wf 4 (A9e e)
   have hk3:=hk''.trans kn
   have hG3:=hG.kept hk''.wf kn
   obtain ⟨ro,hro2⟩:∃ ro,R[e.1]?=some ro:=⟨R[e.1]'(by rw [hRl]; exact hrt e hrq),List.getElem?_eq_getElem _⟩
   have hrow:(A0d R)[e.1]?=some (ro.map A9e):=by unfold A0d; rw [List.getElem?_map,hro2]; rfl
   obtain ⟨hrol,hrot⟩:=hRr ro (List.mem_of_getElem? hro2)
   obtain ⟨rr,H5,hd5,hc5,hG5⟩:=grArc (x0:=(i:Int)) (x1:=e.2.1) (x2:=e.2.2.1) (x3:=e.2.2.2) hG3 hrow (by rw [List.length_map]; omega) hk3.wf
   simp only [↓Sh.dn,sx,Nat.reduceBEq,reduceCtorEq,Nat.reduceEqDiff,f30,g3,g4,g28,g29,hiae,hce,A5a,hq,decide_true,Option.map_some,B4q,A79,B3o,ge0,ge1,ge2,ge3]
   refine ⟨_,_,hd5,?_⟩
   simp only [↓Sh.dn,sx,Nat.reduceBEq,reduceCtorEq,Nat.reduceEqDiff,f30,A7a hq (Nat.le_trans hrl (by decide))]
   have hrs:A0d (R.set e.1 (ro++[(i,e.2)]))=(A0d R).set e.1 (ro.map A9e++[[.int .i64 (i:Int),.int .i64 e.2.1,.int .i64 e.2.2.1,.int .i64 e.2.2.2]]):=by unfold A0d; rw [List.map_set]; simp [A9e]
   refine k2 _ _ (by repeat (first | refine Same.put ?_ rfl | exact Same.rfl' _)) (by simp only [↓Sh.dn,sx,Nat.reduceBEq,reduceCtorEq,Nat.reduceEqDiff]) ⟨hk3.then (Nat.le_refl _) hc5,R.set e.1 (ro++[(i,e.2)]),by rw [hrs]; exact hG5,by rw [List.length_set]; exact hRl,fun r' hr'=>?_,fun p t s=>?_⟩
   ·rcases List.mem_or_eq_of_mem_set hr' with h1 | h1
    ·have:=hRr r' h1; exact ⟨by omega,this.2⟩
    ·rw [h1]
     refine ⟨by rw [List.length_append]; simp; omega,fun e' he'=>?_⟩
     rcases List.mem_append.1 he' with h2 | h2
     ·exact hrot e' h2
     ·rw [List.mem_singleton.1 h2]; exact hi
   ·rw [C0p hro2,hiff,htk]
    simp only [List.mem_append,List.mem_singleton]
    constructor
    ·rintro ((h1 | ⟨h1,e',h2,h3⟩) | ⟨h1,h2,h3⟩)
     ·exact .inl h1
     ·exact .inr ⟨h1,e',.inl h2,h3⟩
     ·exact .inr ⟨h3,e,.inr rfl,h1.symm,h2⟩
    ·rintro (h1 | ⟨h1,e',h2 | h2,h3,h4⟩)
     ·exact .inl (.inl h1)
     ·exact .inl (.inr ⟨h1,e',h2,h3,h4⟩)
     ·subst h2; exact .inr ⟨h3.symm,h4,h1⟩
  ·rintro F'' H'' hF'' f30 ⟨hk'',R,hG,hRl,hRr,hiff⟩
   have g23:=hF'' 23 rfl
   have g29:=hF'' 29 rfl
   simp only [↓Sh.dn,sx,Nat.reduceBEq,reduceCtorEq,Nat.reduceEqDiff,f23] at g23 g29
   rw [List.take_length] at hiff
   simp only [↓Sh.dn,sx,Nat.reduceBEq,reduceCtorEq,Nat.reduceEqDiff,f30,g23,g29,A5a,Nat.lt_irrefl,decide_false,A7a hi (Nat.le_trans hn2 (by decide))]
   refine k _ _ ?_ (by simp only [↓Sh.dn,sx,Nat.reduceBEq,reduceCtorEq,Nat.reduceEqDiff]) ⟨hk'',R,hG,hRl,fun r' hr'=>?_,fun p t s=>?_⟩
   ·repeat refine Same.put ?_ rfl
    exact Same.trans (by repeat (first | refine Same.put ?_ rfl | exact Same.rfl' _)) (hF''.sub rfl)
   ·have:=hRr r' hr'; exact ⟨by omega,this.2⟩
   ·rw [hiff]
    constructor
    ·rintro (⟨h1,h2⟩ | ⟨h1,e,h2,h3⟩)
     ·exact ⟨by omega,h2⟩
     ·exact ⟨by omega,r,by rw [h1]; exact hr,e,h2,h3⟩
    ·rintro ⟨h1,h2⟩
     by_cases hs:s=i
     ·subst hs
      obtain ⟨r',h3,e,h4,h5⟩:=h2
      rw [hr] at h3
      exact .inr ⟨rfl,e,by rw [Option.some.inj h3]; exact h4,h5⟩
     ·exact .inl ⟨by omega,h2⟩
 ·rintro F H' hF f23 ⟨hk,R,hG,hRl,hRr,hiff⟩
  have f3:=hF 3 rfl
  have f22:=hF 22 rfl
  simp only [↓Sh.dn,sx,Nat.reduceBEq,reduceCtorEq,Nat.reduceEqDiff] at f3 f22
  simp only [↓Sh.dn,sx,Nat.reduceBEq,reduceCtorEq,Nat.reduceEqDiff,f3,f22,f23,A5a,Nat.lt_irrefl,decide_false,hres]
  refine ⟨hk,_,rfl,R,H.next,Nat.le_refl _,hG,hRl,fun r hr=>⟨by have:=(hRr r hr).1; omega,(hRr r hr).2⟩,fun p t s=>?_⟩
  rw [hiff]
  constructor
  ·exact fun h=>h.2
  ·rintro ⟨r,h1,h2⟩
   exact ⟨by rw [← h.le]; exact (List.getElem?_eq_some_iff.1 h1).1,r,h1,h2⟩
end Go.Proofs.YtnoengaghabmjaaGreat
/- (*graph.Graph).From, Lasting. -/
namespace Go.Proofs.YtnoengaghabmjaaGreat
open Go Go.Proofs Go.Proofs.Sh
def fitP (E:List (List (Nat×Int×Int×Int))) (p:Nat×Int×Int×Int→Bool) (s t:Nat):Prop:=∃ r,E[s]?=some r∧∃ e∈r,e.1=t∧p e=true
theorem B2o {H:AH} {g n rb:Nat} {E:List (List (Nat×Int×Int×Int))} {ends:List Int} {sv av ev cv u:Value} {vals:List Value} {sigma:List ByteArray} {costs:List Int} {L:List Nat} {fid:Nat} {caps:List Value} (p:Nat×Int×Int×Int→Bool)
  (h:PG H g n rb E ends sv av ev cv vals sigma costs) (hrb:rb≤4611686018427387904) (hL:Sl H u 1 (L.map natC)) (hlt:∀ t∈L,t < n) (hll:L.length≤3000) (hw:Wf H)
  (hp:∀ H',Kept H H'→∀ e,Sh.Call Tryz.prog (knows 10) fid (.agg (A9e e).toArray :: caps) H' (fun r H''=>Kept H' H''∧r=.bool (p e))):
  Sh.Call Tryz.prog (knows 10) 152 [.pointer (some ⟨g,0,some 0⟩),u,.func (.func fid) #[] caps.toArray] H (fun r H'=>Kept H H'∧∃ B:List Bool,∃ o,Buf H' 1 r (B.map A5r) o∧(∀ y,o=some y→H.next≤y)∧B.length=n∧∀ t:Nat,B[t]?=some true↔Clo (fitP E p) (fun s=>s∈L) t):=by
 refine A4a rfl Tryz.func152 rfl (Nat.le_of_ble_eq_true rfl) ?_
 have hres:Tryz.f152.results.toList=[.tmp 6]:=rfl
 have hn1:=h.n1
 have hn2:=h.n2
 have hc1:=h.gr.arr.cell 1
 have hlenA:∀ H',A6a Tryz.prog .len [123] [av] H'=some (.int .i64 (n:Int),H'):=fun H'=>by
  rw [h.gr.jag.sl.len Tryz.underlying123,List.length_map,h.gr.jag.len]; unfold A0d; rw [List.length_map,h.le]
 have hlenL:∀ H',A6a Tryz.prog .len [88] [u] H'=some (.int .i64 (L.length:Int),H'):=fun H'=>by
  rw [hL.len Tryz.underlying88,List.length_map]
 have hmk:=C31 (H:=H) (l:=n) (c:=n) (Nat.le_refl _) (by omega)
 have k1:=Kept.new hw 1 (List.replicate n (.bool false))
 have f1:=Buf.fill hw (.bool false) (c:=n) (by omega)
 obtain ⟨os,hos⟩:∃ os,(if n=0 then none else some H.next)=os:=⟨_,rfl⟩
 rw [hos] at f1
 have los:∀ y,os=some y→y=H.next:=by
  intro y hy
  rw [← hos,if_neg (by omega)] at hy
  exact (Option.some.inj hy).symm
 have hM1:MB (H.new 1 (List.replicate n (.bool false))).2 H.next n (.slice (some ⟨H.next,0,some 0⟩) n n) os (List.replicate n false) []:=
  ⟨Marks.empty n,by rw [List.map_replicate]; exact f1,fun y hy=>by rw [los y hy]; exact Nat.le_refl _⟩
 have hx1:H.next < (H.new 1 (List.replicate n (.bool false))).2.next:=Nat.lt_succ_self _
 simp only [↓Sh.dn,sx,Nat.reduceBEq,reduceCtorEq,Nat.reduceEqDiff,hc1,hlenA,hmk]
 generalize (Value.slice (some ⟨H.next,0,some 0⟩) n n)=mv at hM1 ⊢
 generalize (H.new 1 (List.replicate n (.bool false))).2=H1 at k1 hM1 hx1 ⊢
 obtain ⟨r1,H2,hd2,hk2,tb0,htb0,hft0⟩:=cloneInt (l:=L.map natC) (hL.grow (k1.grow hw)) (by rw [List.length_map]; omega) k1.wf
 refine ⟨_,_,hd2,?_⟩
 have hM2:=hM1.kept k1.wf hk2
 have hl2:LB H2 H.next os r1 L tb0:=⟨htb0,fun y hy=>by
  have:=hft0 y hy
  exact ⟨by omega,fun e=>by have:=los y e; omega⟩⟩
 simp only [↓Sh.dn,sx,Nat.reduceBEq,reduceCtorEq,Nat.reduceEqDiff,hlenL]
 refine A0f L.length 24 (List.range' 24 8++[10]) (fun i F H'=>Kept H H'∧∃ seen out,MB H' H.next n mv os seen out∧LB H' H.next os r1 L tb0∧∀ x,x∈out↔x∈L.take i) (by simp only [↓Sh.dn,sx,Nat.reduceBEq,reduceCtorEq,Nat.reduceEqDiff]) ⟨k1.trans hk2,_,_,hM2,hl2,fun x=>by simp⟩ ?_ ?_
 ·rintro i F H' hi hF f24 ⟨hk,seen,out,hM,hl,hiff⟩ k
  have f7:=hF 7 rfl
  have f22:=hF 22 rfl
  have f23:=hF 23 rfl
  simp only [↓Sh.dn,sx,Nat.reduceBEq,reduceCtorEq,Nat.reduceEqDiff] at f7 f22 f23
  obtain ⟨pa,hia,hc⟩:=B7k Tryz.underlying88 A6d (hL.grow (hk.grow hw)) hi
  have htn:L[i] < n:=hlt _ (List.getElem_mem hi)
  have htake:L.take (i+1)=L.take i++[L[i]]:=by rw [List.take_add_one,List.getElem?_eq_getElem hi]; rfl
  generalize L[i]=t at hc htn htake
  obtain ⟨p2,H3,seen',out',e1,e2,e3,e4,e5⟩:=hM.put Tryz.underlying66 A3n hk.wf htn
  have st:A4f Tryz.prog 4 H' (.bool true) (.pointer (some p2))=some H3:=by rw [A1d A3n rfl]; exact e2
  simp only [↓Sh.dn,sx,Nat.reduceBEq,reduceCtorEq,Nat.reduceEqDiff,f7,f22,f23,f24,A5a,hi,decide_true,hia,hc,e1,st,A7a hi (Nat.le_trans hll (by decide))]
  refine k _ _ (by repeat (first | refine Same.put ?_ rfl | exact Same.rfl' _)) (by simp only [↓Sh.dn,sx,Nat.reduceBEq,reduceCtorEq,Nat.reduceEqDiff]) ⟨hk.then (Nat.le_refl _) (e4.weak fun y hy=>hM.fr y hy),seen',out',e3,hl.chg hk.wf e4 fun y hy=>hy,fun x=>?_⟩
  rw [e5,hiff,htake,List.mem_append,List.mem_singleton]
 ·rintro F H' hF f24 ⟨hk,seen,out,hM,hl,hiff⟩
  have f0:=hF 0 rfl
  have f2:=hF 2 rfl
  have f7:=hF 7 rfl
  have f8:=hF 8 rfl
  have f23:=hF 23 rfl
  simp only [↓Sh.dn,sx,Nat.reduceBEq,reduceCtorEq,Nat.reduceEqDiff] at f0 f2 f7 f8 f23
  rw [List.take_length] at hiff
  simp only [↓Sh.dn,sx,Nat.reduceBEq,reduceCtorEq,Nat.reduceEqDiff,f23,f24,A5a,Nat.lt_irrefl,decide_false]
  have hout0:=hM.ms.le
  refine A1f (m:=(n - out.length) * 2+L.length) (fun m F H'=>F.get 0=some (.pointer (some ⟨g,0,some 0⟩))∧F.get 2=some (.func (.func fid) #[] caps.toArray)∧F.get 7=some mv∧Kept H H'∧∃ zt,F.get 8=some zt∧∃ seen out todo tb,m=(n - out.length) * 2+todo.length∧MB H' H.next n mv os seen out∧LB H' H.next os zt todo tb∧(∀ t∈todo,t∈out)∧todo.length≤L.length+out.length∧(∀ t∈L,t∈out)∧(∀ t∈out,Clo (fitP E p) (fun s=>s∈L) t)∧∀ s∈out,s∈todo∨∀ t,fitP E p s t→t∈out)
   ⟨by simp only [↓Sh.dn,sx,Nat.reduceBEq,reduceCtorEq,Nat.reduceEqDiff,f0],by simp only [↓Sh.dn,sx,Nat.reduceBEq,reduceCtorEq,Nat.reduceEqDiff,f2],by simp only [↓Sh.dn,sx,Nat.reduceBEq,reduceCtorEq,Nat.reduceEqDiff,f7],hk,r1,by simp only [↓Sh.dn,sx,Nat.reduceBEq,reduceCtorEq,Nat.reduceEqDiff,f8],seen,out,L,tb0,rfl,hM,hl,fun t ht=>(hiff t).2 ht,by omega,fun t ht=>(hiff t).2 ht,fun t ht=>.base ((hiff t).1 ht),fun s hs=>.inl ((hiff s).1 hs)⟩ ?_
  clear hk hM hl hiff f0 f2 f7 f8 f23 f24 hF hout0
  clear seen out
  clear F H'
  rintro m F H' ⟨f0,f2,f7,hk,zt,f8,seen,out,todo,tb,rfl,hM,hlt',hsub,htl,hLo,hco,hcl⟩ k
  have hout:=hM.ms.le
  have hlen:=hlt'.bf.toSl.len Tryz.underlying88 H'
  rw [List.length_map] at hlen
  rcases List.eq_nil_or_concat todo with h0 | ⟨td,s,h0⟩
  ·subst h0
   have h00:decide ((0:Int) < ((([]:List Nat).length:Nat):Int))=false:=rfl
   simp only [↓Sh.dn,sx,Nat.reduceBEq,reduceCtorEq,Nat.reduceEqDiff,f7,f8,hlen,h00,hres]
   refine ⟨hk,seen,os,hM.bf,hM.fr,hM.ms.len,fun t=>?_⟩
   rw [hM.ms.iff]
   exact Clo.iff hLo hco (fun s hs t ht=>((hcl s hs).resolve_left (by simp)) t ht) t
  ·rw [List.concat_eq_append] at h0
   subst h0
   have hpos:decide ((0:Int) < (((td++[s]).length:Nat):Int))=true:=by simp
   have wl:IntKind.wrap .i64 ((((td++[s]).length:Nat):Int) - 1)=(td.length:Int):=by
    rw [List.length_append,List.length_singleton] at htl ⊢
    rw [wrap64 (by omega) (by omega)]; omega
   obtain ⟨p1,hia1,hc1'⟩:=B7k Tryz.underlying88 A6d hlt'.bf.toSl (i:=td.length) (by simp)
   have hgs:(td++[s])[td.length]'(by simp)=s:=by simp
   rw [hgs] at hc1'
   have hbp:Buf H' 1 zt (td.map natC++[natC s]) tb:=by have:=hlt'.bf; rwa [List.map_append] at this
   obtain ⟨zt2,hsl,hb2⟩:=hbp.pop
   have hsl2:=hsl (P:=Tryz.prog) (H':=H') Tryz.underlying88 A6d
   rw [List.length_map] at hsl2
   have hlt2:LB H' H.next os zt2 td tb:=⟨hb2,hlt'.fr⟩
   have hso:s∈out:=hsub s (by simp)
   have hsn:s < n:=hM.ms.lt hso
   have hts:=hco s hso
   obtain ⟨r,hr⟩:∃ r,E[s]?=some r:=⟨E[s]'(by rw [h.le]; exact hsn),List.getElem?_eq_getElem _⟩
   obtain ⟨hrl,hrt⟩:=h.to s r hr
   obtain ⟨pr,wr,hiar,hcr,hsr,hlr⟩:=PG.row h hr
   have hpg:∀ {H'},Kept H H'→H'.cell ⟨g,1,some 0⟩=some av∧H'.cell pr=some wr∧Sl H' wr 4 (r.map A9e):=fun hk=>⟨A9d (hk.grow hw) hc1,A9d (hk.grow hw) hcr,hsr.grow (hk.grow hw)⟩
   obtain ⟨q1,q2,q3⟩:=hpg hk
   rw [List.length_append,List.length_singleton] at htl
   simp only [↓Sh.dn,sx,Nat.reduceBEq,reduceCtorEq,Nat.reduceEqDiff,f0,f7,f8,hlen,hpos,wl,hia1,hc1',hsl2,q1,hiar,q2,hlr]
   refine A0f r.length 54 (List.range' 54 25++[8,13]) (fun q F'' H''=>Kept H H''∧∃ zt',F''.get 8=some zt'∧∃ seen' out' td' tb',MB H'' H.next n mv os seen' out'∧LB H'' H.next os zt' td' tb'∧(∀ t∈td',t∈out')∧td'.length+out.length≤td.length+out'.length∧out.length≤out'.length∧(∀ t∈out,t∈out')∧(∀ t∈td,t∈td')∧(∀ t∈out',Clo (fitP E p) (fun s=>s∈L) t)∧(∀ x∈out',x∈out∨x∈td')∧∀ e∈r.take q,p e=true→e.1∈out') (by simp only [↓Sh.dn,sx,Nat.reduceBEq,reduceCtorEq,Nat.reduceEqDiff])
    ⟨hk,zt2,by simp only [↓Sh.dn,sx,Nat.reduceBEq,reduceCtorEq,Nat.reduceEqDiff],seen,out,td,tb,hM,hlt2,fun t ht=>hsub t (List.mem_append_left _ ht),Nat.le_refl _,Nat.le_refl _,fun t ht=>ht,fun t ht=>ht,hco,fun x hx=>.inl hx,fun e he=>by simp at he⟩ ?_ ?_
   ·rintro q F'' H'' hq hF'' f54 ⟨hk'',zt',f8',seen',out',td',tb',hM',hl',hsub',hle',hle2,hoo,htt,hco',hnew,hed⟩ k2
    have g2:=hF'' 2 rfl
    have g7:=hF'' 7 rfl
    have g52:=hF'' 52 rfl
    have g53:=hF'' 53 rfl
    simp only [↓Sh.dn,sx,Nat.reduceBEq,reduceCtorEq,Nat.reduceEqDiff,f2,f7] at g2 g7 g52 g53
    obtain ⟨q1,q2,q3⟩:=hpg hk''
    obtain ⟨pe,hiae,hce⟩:=PG.edge q3 hq
    have hrq:r[q]∈r:=List.getElem_mem hq
    have htake:r.take (q+1)=r.take q++[r[q]]:=by rw [List.take_add_one,List.getElem?_eq_getElem hq]; rfl
    generalize r[q]=e at hce hrq htake
    have kn:=Kept.new hk''.wf 4 (A9e e)
    have hk3:=hk''.trans kn
    obtain ⟨rp,H4,hd4,hk4,rfl⟩:=hp _ hk3 e
    have hk34:=hk3.trans hk4
    have hM4:=(hM'.kept hk''.wf kn).kept hk3.wf hk4
    have hl4:=(hl'.kept hk''.wf kn).kept hk3.wf hk4
    have ob:=(Sh.Obj.new (H:=H'') 4 (A9e e)).arr.keep (hk4.old _ (Nat.lt_succ_self _))
    have c0:H4.cell ⟨H''.next,0,some 0⟩=some (.int .i64 (e.1:Int)):=ob.cell 0
    have hgall:(H''.new 4 (A9e e)).2.cells ⟨H''.next,0,some 0⟩ 4=some (A9e e):=geAll
    have hout':=hM4.ms.le
    simp only [↓Sh.dn,sx,Nat.reduceBEq,reduceCtorEq,Nat.reduceEqDiff,f8',f54,g2,g7,g52,g53,hiae,hce,A5a,hq,decide_true,Option.map_some,B4q,A79,B3o,hgall]
    have hd4':Does Tryz.prog (knows 10) fid ([]++[.agg (A9e e).toArray]++caps) (H''.new 4 (A9e e)).2 (.bool (p e)) H4:=hd4
    refine ⟨_,_,by first | exact hd4 | exact hd4' | simpa using hd4,?_⟩
    have hnext : ∀ {seen2 : List Bool} {out2 td2 : List Nat} {tb2 : Option Nat} {z2 : Value} {F2 : Fr} {H2 : AH}, Same (List.range' 54 25 ++ [8, 13]) F'' F2 → F2.get 8 = some z2 → F2.get 54 = some (.int .i64 ((q + 1 : Nat) : Int)) → Kept H H2 → MB H2 H.next n mv os seen2 out2 → LB H2 H.next os z2 td2 tb2 → (out2 = out' ∧ td2 = td' ∨ out2 = out' ++ [e.1] ∧ td2 = td' ++ [e.1] ∧ p e = true) → (p e = true → e.1 ∈ out2) →
        wp Tryz.prog (knows 10) _ _ F2 H2 := fun {seen2 out2 td2 tb2 z2 F2 H2} a1 a2 a3 a4 a5 a6 a7 a8 => k2 F2 H2 a1 a3 ⟨a4, z2, a2, seen2, out2, td2, tb2, a5, a6, fun t ht => by
          rcases a7 with ⟨h1, h2⟩ | ⟨h1, h2, _⟩
          · rw [h1]; rw [h2] at ht; exact hsub' t ht
          · rw [h1]; rw [h2] at ht
            rcases List.mem_append.1 ht with h3 | h3
            · exact List.mem_append_left _ (hsub' t h3)
            · exact List.mem_append_right _ h3, by
          rcases a7 with ⟨h1, h2⟩ | ⟨h1, h2, _⟩
          · rw [h1, h2]; exact hle'
          · rw [h1, h2]; simp only [List.length_append, List.length_singleton]; omega, by
          rcases a7 with ⟨h1, h2⟩ | ⟨h1, h2, _⟩
          · rw [h1]; exact hle2
          · rw [h1]; simp only [List.length_append, List.length_singleton]; omega, fun t ht => by
          rcases a7 with ⟨h1, h2⟩ | ⟨h1, h2, _⟩
          · rw [h1]; exact hoo t ht
          · rw [h1]; exact List.mem_append_left _ (hoo t ht), fun t ht => by
          rcases a7 with ⟨h1, h2⟩ | ⟨h1, h2, _⟩
          · rw [h2]; exact htt t ht
          · rw [h2]; exact List.mem_append_left _ (htt t ht), fun t ht => by
          rcases a7 with ⟨h1, h2⟩ | ⟨h1, h2, h3⟩
          · rw [h1] at ht; exact hco' t ht
          · rw [h1] at ht
            rcases List.mem_append.1 ht with h4 | h4
            · exact hco' t h4
            · rw [List.mem_singleton.1 h4]; exact .step hts ⟨r, hr, e, hrq, rfl, h3⟩, fun x hx => by
          rcases a7 with ⟨h1, h2⟩ | ⟨h1, h2, h3⟩
          · rw [h1] at hx; rw [h2]; exact hnew x hx
          · rw [h1] at hx; rw [h2]
            rcases List.mem_append.1 hx with h4 | h4
            · exact (hnew x h4).imp id fun h5 => List.mem_append_left _ h5
            · exact .inr (List.mem_append_right _ h4), fun x hx hxp => by
          rw [htake] at hx
          rcases List.mem_append.1 hx with h2 | h2
          · have h5 := hed x h2 hxp
            rcases a7 with ⟨h1, _⟩ | ⟨h1, _, _⟩
            · rw [h1]; exact h5
            · rw [h1]; exact List.mem_append_left _ h5
          · rw [List.mem_singleton.1 h2] at hxp ⊢; exact a8 hxp⟩
    have hrl':r.length≤4611686018427387904:=Nat.le_trans hrl hrb
    cases hpe:p e with
    | false=>
     simp only [↓Sh.dn,sx,Nat.reduceBEq,reduceCtorEq,Nat.reduceEqDiff,f54,A7a hq hrl']
     exact hnext (by repeat (first | refine Same.put ?_ rfl | exact Same.rfl' _)) (by simp only [↓Sh.dn,sx,Nat.reduceBEq,reduceCtorEq,Nat.reduceEqDiff,f8']) (by simp only [↓Sh.dn,sx,Nat.reduceBEq,reduceCtorEq,Nat.reduceEqDiff]) hk34 hM4 hl4 (.inl ⟨rfl,rfl⟩) fun h=>by rw [hpe] at h; cases h
    | true=>
     by_cases hin:e.1∈out'
     ·obtain ⟨p5,hia5,hc5⟩:=hM4.see Tryz.underlying66 A3n (hrt e hrq)
      simp only [↓Sh.dn,sx,Nat.reduceBEq,reduceCtorEq,Nat.reduceEqDiff,c0,g7,hia5,hc5,hin,decide_true,f54,A7a hq hrl']
      exact hnext (by repeat (first | refine Same.put ?_ rfl | exact Same.rfl' _)) (by simp only [↓Sh.dn,sx,Nat.reduceBEq,reduceCtorEq,Nat.reduceEqDiff,f8']) (by simp only [↓Sh.dn,sx,Nat.reduceBEq,reduceCtorEq,Nat.reduceEqDiff]) hk34 hM4 hl4 (.inl ⟨rfl,rfl⟩) fun _=>hin
     ·obtain ⟨p3,H5,a,cap,w',H6,ob',e1,e2,e3,rfl,e5,e6,e7,e8,e9,e10,e11⟩:=B0t hk34 hM4 hl4 (hrt e hrq) hin (by omega)
      have c0':H5.cell ⟨H''.next,0,some 0⟩=some (.int .i64 (e.1:Int)):=(ob.keep (e11.old _ (Nat.lt_of_lt_of_le (Nat.lt_succ_self _) hk4.next) fun hy=>Nat.lt_irrefl _ (hM'.lt hk''.wf _ hy))).cell 0
      simp only [↓Sh.dn,sx,Nat.reduceBEq,reduceCtorEq,Nat.reduceEqDiff,c0,c0',g7,e1,e2,e3,f8',e6,e7,f54,A7a hq hrl']
      exact hnext (by repeat (first | refine Same.put ?_ rfl | exact Same.rfl' _)) (by simp only [↓Sh.dn,sx,Nat.reduceBEq,reduceCtorEq,Nat.reduceEqDiff]) (by simp only [↓Sh.dn,sx,Nat.reduceBEq,reduceCtorEq,Nat.reduceEqDiff]) e8 e9 e10 (.inr ⟨rfl,rfl,hpe⟩) fun _=>List.mem_append_right _ List.mem_cons_self
   ·rintro F'' H'' hF'' f54 ⟨hk'',zt',f8',seen',out',td',tb',hM',hl',hsub',hle',hle2,hoo,htt,hco',hnew,hed⟩
    have g0:=hF'' 0 rfl
    have g2:=hF'' 2 rfl
    have g7:=hF'' 7 rfl
    have g53:=hF'' 53 rfl
    simp only [↓Sh.dn,sx,Nat.reduceBEq,reduceCtorEq,Nat.reduceEqDiff,f0,f2,f7] at g0 g2 g7 g53
    rw [List.take_length] at hed
    have hout':=hM'.ms.le
    simp only [↓Sh.dn,sx,Nat.reduceBEq,reduceCtorEq,Nat.reduceEqDiff,f54,g53,A5a,Nat.lt_irrefl,decide_false]
    refine k ((n - out'.length) * 2+td'.length) _ _ (by rw [List.length_append,List.length_singleton]; omega) ⟨by simp only [↓Sh.dn,sx,Nat.reduceBEq,reduceCtorEq,Nat.reduceEqDiff,g0],by simp only [↓Sh.dn,sx,Nat.reduceBEq,reduceCtorEq,Nat.reduceEqDiff,g2],by simp only [↓Sh.dn,sx,Nat.reduceBEq,reduceCtorEq,Nat.reduceEqDiff,g7],hk'',zt',by simp only [↓Sh.dn,sx,Nat.reduceBEq,reduceCtorEq,Nat.reduceEqDiff,f8'],seen',out',td',tb',rfl,hM',hl',hsub',by omega,fun t ht=>hoo t (hLo t ht),hco',fun x hx=>?_⟩
    rcases hnew x hx with h1 | h1
    ·rcases hcl x h1 with h2 | h2
     ·rcases List.mem_append.1 h2 with h3 | h3
      ·exact .inl (htt x h3)
      ·right
       rw [List.mem_singleton.1 h3]
       rintro t ⟨r',hr2,e,he,he1,he2⟩
       rw [hr] at hr2
       rw [← Option.some.inj hr2] at he
       rw [← he1]
       exact hed e he he2
     ·exact .inr fun t ht=>hoo t (h2 t ht)
    ·exact .inl h1
theorem B7l {H:AH} {e:Nat×Int×Int×Int} (hw:Wf H):Sh.Call Tryz.prog (knows 10) 157 [.agg (A9e e).toArray] H (fun r H'=>Kept H H'∧r=.bool true):=by
 refine A4a rfl Tryz.func157 rfl (Nat.le_of_ble_eq_true rfl) ?_
 have hres:Tryz.f157.results.toList=[.tmp 2]:=rfl
 simp only [↓Sh.dn,sx,Nat.reduceBEq,reduceCtorEq,Nat.reduceEqDiff,geNew,hres,Kept.new hw 4 (A9e e)]
theorem B6u {H:AH} {g n:Nat} {E:List (List (Nat×Int×Int×Int))} {ends:List Int} {sv av ev cv:Value} {vals:List Value} {sigma:List ByteArray} {costs:List Int} (h:PG H g n 60000 E ends sv av ev cv vals sigma costs) (hsg:sigma.length≤1048576) (hw:Wf H):
  Sh.Call Tryz.prog (knows 10) 158 [.pointer (some ⟨g,0,some 0⟩)] H (fun r H'=>Kept H H'∧∃ B:List Bool,∃ o,Buf H' 1 r (B.map A5r) o∧(∀ y,o=some y→H.next≤y)∧B.length=n∧∀ t:Nat,B[t]?=some true↔Clo (fun s t=>A3t E (fun _=>True) t s) (fun s=>0 < ends.getD s 0) t):=by
 refine A4a rfl Tryz.func158 rfl (Nat.le_of_ble_eq_true rfl) ?_
 have hres:Tryz.f158.results.toList=[.tmp 2]:=rfl
 have hn2:=h.n2
 have hc2:=h.gr.arr.cell 2
 have hlenE:∀ H',A6a Tryz.prog .len [88] [ev] H'=some (.int .i64 (n:Int),H'):=fun H'=>by
  rw [h.gr.en.len Tryz.underlying88,List.length_map,h.ln]
 simp only [↓Sh.dn,sx,Nat.reduceBEq,reduceCtorEq,Nat.reduceEqDiff,hc2,hlenE]
 refine A0f n 11 (List.range' 11 12++[3,4,5]) (fun i F H'=>Kept H H'∧∃ z,F.get 3=some z∧∃ l ob,LB H' H.next none z l ob∧l.length≤i∧∀ t,t∈l↔t < i∧0 < ends.getD t 0) (by simp only [↓Sh.dn,sx,Nat.reduceBEq,reduceCtorEq,Nat.reduceEqDiff]) ⟨Kept.refl hw,_,by simp only [↓Sh.dn,sx,Nat.reduceBEq,reduceCtorEq,Nat.reduceEqDiff],[],none,⟨.void none,fun y hy=>by cases hy⟩,Nat.le_refl _,fun t=>by simp⟩ ?_ ?_
 ·rintro i F H' hi hF f11 ⟨hk,z,f3,l,ob,hl,hll,hiff⟩ k
  have f9:=hF 9 rfl
  have f10:=hF 10 rfl
  simp only [↓Sh.dn,sx,Nat.reduceBEq,reduceCtorEq,Nat.reduceEqDiff] at f9 f10
  have hil:i < ends.length:=by rw [h.ln]; exact hi
  obtain ⟨p,hia,hc⟩:=Sl.elem (s:=1) Tryz.underlying88 A6d (h.gr.en.grow (hk.grow hw)) (i:=i) (u:=.int .i64 ends[i]) (by rw [List.getElem?_map,List.getElem?_eq_getElem hil]; rfl)
  have hg:ends.getD i 0=ends[i]:=by simp [List.getD,List.getElem?_eq_getElem hil]
  simp only [↓Sh.dn,sx,Nat.reduceBEq,reduceCtorEq,Nat.reduceEqDiff,f9,f10,f11,A5a,hi,decide_true,hia,hc]
  by_cases hpos:0 < ends[i]
  ·obtain ⟨a,cap,w',H4,ob2,rfl,e1,e2,e3,e4,e5⟩:=B49 i hk (fun y hy=>by cases hy) hl (by omega)
   simp only [↓Sh.dn,sx,Nat.reduceBEq,reduceCtorEq,Nat.reduceEqDiff,hpos,decide_true,f3,f11,e1,e2,A7a hi (Nat.le_trans hn2 (by decide))]
   refine k _ _ (by repeat (first | refine Same.put ?_ rfl | exact Same.rfl' _)) (by simp only [↓Sh.dn,sx,Nat.reduceBEq,reduceCtorEq,Nat.reduceEqDiff]) ⟨e3,w',by simp only [↓Sh.dn,sx,Nat.reduceBEq,reduceCtorEq,Nat.reduceEqDiff],l++[i],ob2,e4,by simp; omega,fun t=>?_⟩
   rw [List.mem_append,List.mem_singleton,hiff]
   constructor
   ·rintro (⟨h1,h2⟩ | h1)
    ·exact ⟨by omega,h2⟩
    ·subst h1; exact ⟨by omega,by rw [hg]; exact hpos⟩
   ·rintro ⟨h1,h2⟩
    by_cases ht:t=i
    ·exact .inr ht
    ·exact .inl ⟨by omega,h2⟩
  ·simp only [↓Sh.dn,sx,Nat.reduceBEq,reduceCtorEq,Nat.reduceEqDiff,hpos,decide_false,f11,A7a hi (Nat.le_trans hn2 (by decide))]
   refine k _ _ (by repeat (first | refine Same.put ?_ rfl | exact Same.rfl' _)) (by simp only [↓Sh.dn,sx,Nat.reduceBEq,reduceCtorEq,Nat.reduceEqDiff]) ⟨hk,z,by simp only [↓Sh.dn,sx,Nat.reduceBEq,reduceCtorEq,Nat.reduceEqDiff,f3],l,ob,hl,by omega,fun t=>?_⟩
   rw [hiff]
   constructor
   ·rintro ⟨h1,h2⟩; exact ⟨by omega,h2⟩
   ·rintro ⟨h1,h2⟩
    by_cases ht:t=i
    ·subst ht; rw [hg] at h2; exact absurd h2 hpos
    ·exact ⟨by omega,h2⟩
 ·rintro F H' hF f11 ⟨hk,z,f3,l,ob,hl,hll,hiff⟩
  have f0:=hF 0 rfl
  have f10:=hF 10 rfl
  simp only [↓Sh.dn,sx,Nat.reduceBEq,reduceCtorEq,Nat.reduceEqDiff] at f0 f10
  obtain ⟨r4,H4,hd4,hk4,g',rfl,R,base,hbase,hG,hRl,hRr,hRg⟩:=C8v (h.kept hw hk) hsg hk.wf
  obtain ⟨sv',av',ev',cv',vals',hR⟩:=hG.read
  have hPG:PG H4 g' n 180000000 R (List.replicate n 0) sv' av' ev' cv' vals' sigma (List.replicate n 0):=⟨hR,hRl,by simp,h.n1,h.n2,fun s r hr=>hRr r (List.mem_of_getElem? hr)⟩
  obtain ⟨r5,H5,hd5,hk5,B,oB,hB,hBo,hBl,hBi⟩:=B2o (caps:=[]) (fid:=157) (fun _=>true) hPG (by decide) (hl.bf.toSl.grow (hk4.grow hk.wf)) (fun t ht=>((hiff t).1 ht).1) (by omega) hk4.wf (fun H' hk e=>B7l hk.wf)
  simp only [↓Sh.dn,sx,Nat.reduceBEq,reduceCtorEq,Nat.reduceEqDiff,f0,f3,f10,f11,A5a,Nat.lt_irrefl,decide_false]
  refine ⟨_,_,hd4,?_⟩
  refine ⟨_,_,hd5,?_⟩
  simp only [↓Sh.dn,sx,Nat.reduceBEq,reduceCtorEq,Nat.reduceEqDiff,hres]
  refine ⟨(hk.trans hk4).trans hk5,B,oB,hB,fun y hy=>Nat.le_trans (hk.trans hk4).next (hBo y hy),hBl,fun t=>?_⟩
  rw [hBi]
  have e1:fitP R (fun _=>true)=fun s t=>A3t E (fun _=>True) t s:=by
   funext s t
   apply propext
   rw [← hRg]
   unfold fitP A3t
   simp
  have e2:(fun s=>s∈l)=fun s=>0 < ends.getD s 0:=by
   funext s
   apply propext
   rw [hiff]
   constructor
   ·exact fun h=>h.2
   ·intro hs
    refine ⟨?_,hs⟩
    by_cases hn:s < n
    ·exact hn
    ·have:ends.getD s 0=0:=by rw [List.getD_eq_getElem?_getD,List.getElem?_eq_none (by rw [h.ln]; omega)]; rfl
     rw [this] at hs; omega
  rw [e1,e2]
end Go.Proofs.YtnoengaghabmjaaGreat
