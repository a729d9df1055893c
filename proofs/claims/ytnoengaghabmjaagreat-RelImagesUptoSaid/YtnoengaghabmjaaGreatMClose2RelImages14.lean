/- A part of the proof: RefPair, RelPairs, SymsSmall, IndexFuncStr, SymsValidate, GraphCheck, Priced, RelVal, GraphPut, GraphEither, Sides, SideFns, TurnRows, RelTurned, GraphImage, CloneInt, GraphBack, GraphFrom. -/
import Derived.Test.YtnoengaghabmjaaGreatMClose2RelImages12
import Derived.Test.YtnoengaghabmjaaGreatMClose2RelImages13
import Derived.Test.YtnoengaghabmjaaGreatMClose2RelImages8
import Derived.Test.YtnoengaghabmjaaGreatMClose2RelImages10
import Derived.Test.YtnoengaghabmjaaGreatMClose2RelImages11
import Derived.Test.YtnoengaghabmjaaGreatMClose2RelImages2
import Derived.Test.YtnoengaghabmjaaGreatMClose2RelImages6
set_option linter.unusedVariables false
set_option linter.unusedSimpArgs false
/- The reference's has and Pair: whether a net holds a pair. -/
set_option maxHeartbeats 4000000
set_option maxRecDepth 20000
set_option linter.unusedSimpArgs false
set_option linter.unusedVariables false
namespace Go.Proofs.YtnoengaghabmjaaGreat
open Go Go.Proofs Go.Proofs.Sh
theorem B2h {c:Bool} {a b:Nat×Nat}:abin Tryz.prog 83 c .eql (.agg (A8g a).toArray) (.agg (A8g b).toArray)=some (.bool (decide (a=b))):=by
 have h:=B3k a b
 unfold A8z at h
 unfold abin aeq B0d
 simp only [B79,Bool.not_false,cond_true,h,Option.map_some]
theorem refHas {H:AH} {ul:Value} {L:List (Nat×Nat)} {p:Nat×Nat} (hl:Sl H ul 2 (L.map A8g)) (hLl:L.length≤1073741823) (hw:Wf H):
  Sh.Call Tryz.prog (knows 10) 48 [ul,.agg (A8g p).toArray] H (fun r H'=>Kept H H'∧r=.bool (decide (p∈L))):=by
 refine A1b rfl Tryz.func48 rfl (Nat.le_of_ble_eq_true rfl) ?_
 have hres:Tryz.f48.results.toList=[.tmp 4]:=rfl
 simp only [↓Sh.dn,sx,Nat.reduceBEq,reduceCtorEq,Nat.reduceEqDiff,spNew]
 have kn:=Kept.new hw 2 (A8g p)
 have ca:(H.new 2 (A8g p)).2.cells ⟨H.next,0,some 0⟩ 2=some (A8g p):=(Sh.Obj.new (H:=H) 2 (A8g p)).cells (i:=0) (n:=2) (by simp [A8g])
 have hl1:=hl.grow (kn.grow hw)
 generalize H.next=g at ca ⊢
 generalize (H.new 2 (A8g p)).2=H1 at kn ca hl1 ⊢
 have hlen:=fun H'=>hl1.len Tryz.underlying80 H'
 simp only [List.length_map] at hlen
 refine A9f L.length 5 (List.range' 5 20) (fun i F H'=>H'=H1∧p∉L.take i) (by simp only [↓Sh.dn,sx,Nat.reduceBEq,reduceCtorEq,Nat.reduceEqDiff]) ⟨rfl,by simp⟩ ?_ ?_
 ·rintro i F H' hi hF f5 ⟨rfl,hn⟩ k
  have f0:=hF 0 rfl
  have f3:=hF 3 rfl
  simp only [↓Sh.dn,sx,Nat.reduceBEq,reduceCtorEq,Nat.reduceEqDiff] at f0 f3
  obtain ⟨g1,o1,q1,i1,c1,_⟩:=hl1.at Tryz.underlying80 A0t (i:=i) (x:=A8g L[i]) (by simp [hi]) .i64
  have htk:L.take (i+1)=L.take i++[L[i]]:=by rw [List.take_add_one,List.getElem?_eq_getElem hi]; rfl
  have hm:L[i]∈L:=List.getElem_mem hi
  generalize L[i]=e at c1 htk hm
  by_cases h:e=p
  ·subst h
   simp only [↓Sh.dn,sx,Nat.reduceBEq,reduceCtorEq,Nat.reduceEqDiff,f0,f3,f5,hlen,A4a,hi,decide_true,i1,c1,ca,Option.map_some,B2h,hres,hm]
   exact kn
  ·simp only [↓Sh.dn,sx,Nat.reduceBEq,reduceCtorEq,Nat.reduceEqDiff,f0,f3,f5,hlen,A4a,hi,decide_true,i1,c1,ca,Option.map_some,B2h,h,decide_false,A3b hi (by omega)]
   refine k _ _ (by repeat (first | refine Same.put ?_ rfl | exact Same.rfl' _)) (by simp only [↓Sh.dn,sx,Nat.reduceBEq,reduceCtorEq,Nat.reduceEqDiff]) ⟨rfl,fun hx=>?_⟩
   rw [htk] at hx
   rcases List.mem_append.1 hx with h2 | h2
   ·exact hn h2
   ·exact h (List.mem_singleton.1 h2).symm
 ·rintro F H' hF f5 ⟨rfl,hn⟩
  have f0:=hF 0 rfl
  simp only [↓Sh.dn,sx,Nat.reduceBEq,reduceCtorEq,Nat.reduceEqDiff] at f0
  rw [List.take_length] at hn
  simp only [↓Sh.dn,sx,Nat.reduceBEq,reduceCtorEq,Nat.reduceEqDiff,f0,f5,hlen,A4a,Nat.lt_irrefl,decide_false,hres,hn]
  exact kn
def A9p (N:NetD) (x y:List ByteArray):Prop:=RelP (A9x N) N.isEnd x y
theorem B1x {N:NetD} {x y:List ByteArray}:(∃ s,N.isEnd s∧Cl (A63 (A9x N) x y) (fun q=>q.1=0∧q.2∈[(0,0)]) (s,x.length,y.length))↔A9p N x y:=by
 unfold A9p RelP
 refine exists_congr fun s=>and_congr_right fun _=>?_
 rw [← places]
 have e:(fun q:Nat×Nat×Nat=>q.1=0∧q.2∈[(0,0)])=fun q=>q=(0,0,0):=funext fun q=>propext (by
  obtain ⟨a,b⟩:=q
  simp [Prod.ext_iff])
 rw [e]
theorem spotNew0:A5l Tryz.prog 83 [(0,.int .i64 0),(1,.int .i64 0)]=some (.agg (A8g (0,0)).toArray):=B5w (a:=0) (b:=0)
theorem B2y {L:List (Nat×Nat)} {a b:Nat} (hn:L.Nodup) (h:∀ p∈L,p.1≤a∧p.2≤b) (ha:a≤400) (hb:b≤400):L.length≤160801:=by
 have h1:(L.map fun p=>(0,p)).Nodup:=by
  rw [List.nodup_iff_pairwise_ne] at hn ⊢
  rw [List.pairwise_map]
  exact hn.imp fun h e=>h (Prod.mk.inj e).2
 have h2:=C1k (a:=1) (b:=a+1) (c:=b+1) h1 fun w hw=>by
  obtain ⟨p,hp,rfl⟩:=List.mem_map.1 hw
  have:=h p hp
  exact ⟨Nat.one_pos,by simp only; omega,by simp only; omega⟩
 rw [List.length_map] at h2
 have h3:(a+1) * (b+1)≤401 * 401:=Nat.mul_le_mul (by omega) (by omega)
 rw [Nat.one_mul] at h2
 omega
theorem reach_le {N:NetD} (hok:A6q N) {x y:List ByteArray} {L O:List (Nat×Nat)} (hL:∀ p∈L,p.1≤x.length∧p.2≤y.length) (hO:∀ p,p∈O↔∃ s,N.isEnd s∧Cl (A63 (A9x N) x y) (fun q=>q.1=0∧q.2∈L) (s,p)):∀ p∈O,p.1≤x.length∧p.2≤y.length:=fun p hp=>by
 obtain ⟨s,_,h2⟩:=(hO p).1 hp
 have:=A46 hok (fun p hp=>⟨hp.1,hL p.2 hp.2⟩) h2
 simp only at this
 exact ⟨by omega,by omega⟩
theorem C6e {H:AH} {v ux uy:Value} {N:NetD} {x y:List ByteArray} (h:A2p H v N) (hok:A6q N) (hsm:A0f N) (hx:Sl H ux 1 (x.map A9a)) (hy:Sl H uy 1 (y.map A9a)) (hxl:x.length≤400) (hyl:y.length≤400) (hw:Wf H):
  Sh.Call Tryz.prog (knows 10) 21 [v,ux,uy] H (fun r H'=>Kept H H'∧r=.bool (tB (A9p N x y))):=by
 refine A1b rfl Tryz.func21 rfl (Nat.le_of_ble_eq_true rfl) ?_
 have hres:Tryz.f21.results.toList=[.tmp 6]:=rfl
 obtain ⟨sg,ar,en,rfl,hsg,har,hen⟩:=h
 have hb1:=NetBox.of (N:=N) hw hsg har hen
 have hk1:Kept H (H.new 4 [sg,.int .i64 N.states,ar,en]).2:=Kept.new hw 4 _
 simp only [↓Sh.dn,sx,Nat.reduceBEq,reduceCtorEq,Nat.reduceEqDiff,A1p hsg.isCell har.isCell hen.isCell]
 generalize H.next=gg at hb1 ⊢
 generalize (H.new 4 [sg,.int .i64 N.states,ar,en]).2=H1 at hb1 hk1 ⊢
 have kn:=Kept.new hk1.wf 2 (A8g (0,0))
 have hl:Sl (H1.new 2 (A8g (0,0))).2 (.slice (some ⟨H1.next,0,some 0⟩) 1 1) 2 ([(0,0)].map A8g):=(Buf.fresh (H:=H1) (s:=2) (xs:=[A8g (0,0)]) hk1.wf (by intro x hx; rw [List.mem_singleton.1 hx]; rfl) (by simp) 1 rfl).toSl
 have hb2:=hb1.kept hk1.wf kn
 have hk2:=hk1.trans kn
 obtain ⟨r3,H3,hd3,hk3,O,oo,hO,hnd,hiff⟩:=refReach hb2.netAt hok hsm (hx.grow (hk2.grow hw)) (hy.grow (hk2.grow hw)) hxl hyl hl (by simp) (by simp) kn.wf
 have hbd:=reach_le hok (L:=[(0,0)]) (by simp) hiff
 have hOl:=B2y hnd hbd hxl hyl
 obtain ⟨r4,H4,hd4,hk4,rfl⟩:=refHas (p:=(x.length,y.length)) hO.toSl (by omega) hk3.wf
 have hlx:=fun H'=>hx.len Tryz.underlying22 H'
 have hly:=fun H'=>hy.len Tryz.underlying22 H'
 simp only [List.length_map] at hlx hly
 simp only [↓Sh.dn,sx,Nat.reduceBEq,reduceCtorEq,Nat.reduceEqDiff,hb1.c0,hb1.c1,hb1.c2,hb1.c3,hb1.ca,A3a hb1,A2a hb1,A1a hb1,Option.map_some,spotNew0,C9i]
 refine ⟨_,_,hd3,?_⟩
 simp only [↓Sh.dn,sx,Nat.reduceBEq,reduceCtorEq,Nat.reduceEqDiff,hlx,hly,B5w]
 refine ⟨_,_,hd4,?_⟩
 simp only [↓Sh.dn,sx,Nat.reduceBEq,reduceCtorEq,Nat.reduceEqDiff,hres]
 refine ⟨(hk2.trans hk3).trans hk4,?_⟩
 have:decide ((x.length,y.length)∈O)=tB (A9p N x y):=by
  rw [Bool.eq_iff_iff,decide_eq_true_iff,C7f,hiff,B1x]
 rw [this]
end Go.Proofs.YtnoengaghabmjaaGreat
/- Pairs of a net, by texts and by numbers. -/
namespace Go.Proofs.YtnoengaghabmjaaGreat
open Go Go.Proofs Go.Proofs.Sh
theorem B7f {N:NetD} (hok:A6q N) {x:ByteArray} (hx:x=⟨#[]⟩∨x∈N.sigma):labN (A8k N.sigma x)=(labT x).map (ixN N.sigma)∧∀ s,labT x=some s→s∈N.sigma:=by
 have e0:(⟨#[]⟩:ByteArray)=A0p:=rfl
 rw [e0] at hx
 by_cases h:x=A0p
 ·subst h
  have:=(B93 hok.asc).2 (C3c hok)
  unfold labN labT
  rw [if_pos this,if_pos rfl]
  exact ⟨rfl,fun s hs=>by cases hs⟩
 ·have hm:=hx.resolve_left h
  obtain ⟨k,_,h2,h3⟩:=B2p hok.asc hm
  unfold labN labT
  rw [if_neg (by omega),if_neg h,h2]
  exact ⟨by rw [Option.map_some,h3]; rfl,fun s hs=>by rw [← Option.some.inj hs]; exact hm⟩
theorem A94 {N:NetD} (hok:A6q N) {x:ByteArray} (hx:x=⟨#[]⟩∨x∈N.sigma):A8k N.sigma x < (N.sigma.length:Int):=by
 by_cases h:x∈N.sigma
 ·obtain ⟨k,h1,h2,_⟩:=B2p hok.asc h
  have:=(List.getElem?_eq_some_iff.1 h1).1
  omega
 ·have:=(B93 hok.asc).2 h
  omega
theorem B6c {N:NetD} (hok:A6q N) (s:Nat) (a b:Option Nat) (t:Nat):A0q (A3m N) s a b t↔∃ c d,A9x N s c d t∧a=c.map (ixN N.sigma)∧b=d.map (ixN N.sigma):=by
 unfold A0q A9x
 constructor
 ·rintro ⟨r,hr,e,he,h1,h2,h3⟩
  obtain ⟨c,hc,h4,rfl⟩:=(A3x hr e).1 he
  obtain ⟨_,_,h5,_,h6,h7⟩:=hok.arc c hc
  simp only at h1 h2 h3
  exact ⟨_,_,⟨c,hc,h4,rfl,rfl,by omega⟩,by rw [← h2,(B7f hok h6).1],by rw [← h3,(B7f hok h7).1]⟩
 ·rintro ⟨_,_,⟨c,hc,h1,rfl,rfl,h4⟩,rfl,rfl⟩
  obtain ⟨h7,h8,h5,_,h6,h9⟩:=hok.arc c hc
  have hs:s < N.states.toNat:=by omega
  unfold A3m
  exact ⟨_,A4i hs,(c.to.toNat,A8k N.sigma c.inn,A8k N.sigma c.out,c.cost),(A3x (A4i hs) _).2 ⟨c,hc,h1,rfl⟩,by simp only; omega,(B7f hok h6).1,(B7f hok h9).1⟩
theorem B8z {N:NetD} (hok:A6q N) {s t:Nat} {x y:List ByteArray} (h:Sh.Way (A9x N) s x y t):(∀ z∈x,z∈N.sigma)∧∀ z∈y,z∈N.sigma:=by
 induction h with
 | nil s=>exact ⟨fun z hz=>(by cases hz),fun z hz=>by cases hz⟩
 | @cons s t u a b x y h1 _ ih=>
  obtain ⟨c,hc,_,rfl,rfl,_⟩:=h1
  obtain ⟨_,_,_,_,h6,h7⟩:=hok.arc c hc
  have key:∀ {o:Option ByteArray} {w:List ByteArray},(∀ s,o=some s→s∈N.sigma)→(∀ z∈w,z∈N.sigma)→∀ z∈o.toList++w,z∈N.sigma:=fun {o w} ho hw z hz=>by
   rcases List.mem_append.1 hz with h | h
   ·exact ho z (by cases o with
      | none => cases h
      | some s => rw [List.mem_singleton.1 h])
   ·exact hw z h
  exact ⟨key (B7f hok h6).2 ih.1,key (B7f hok h7).2 ih.2⟩
theorem A4w {α β:Type} {f:α→β} {S:α→Prop} (hf:∀ x y,S x→S y→f x=f y→x=y):∀ {l m:List α},(∀ x∈l,S x)→(∀ x∈m,S x)→l.map f=m.map f→l=m
 | [],[],_,_,_=>rfl
 | [],_ :: _,_,_,h=>by simp at h
 | _ :: _,[],_,_,h=>by simp at h
 | a :: l,b :: m,hl,hm,h=>by
  simp only [List.map_cons,List.cons.injEq] at h
  rw [hf a b (hl a List.mem_cons_self) (hm b List.mem_cons_self) h.1,A4w hf (fun x hx=>hl x (List.mem_cons_of_mem _ hx)) (fun x hx=>hm x (List.mem_cons_of_mem _ hx)) h.2]
theorem way_rows {N:NetD} (hok:A6q N) {x y:List ByteArray} (hx:∀ z∈x,z∈N.sigma) (hy:∀ z∈y,z∈N.sigma) (s t:Nat):Sh.Way (A0q (A3m N)) s (x.map (ixN N.sigma)) (y.map (ixN N.sigma)) t↔Sh.Way (A9x N) s x y t:=by
 constructor
 ·intro h
  have key:∀ {s t:Nat} {u v:List Nat},Sh.Way (A0q (A3m N)) s u v t→∃ x y,Sh.Way (A9x N) s x y t∧u=x.map (ixN N.sigma)∧v=y.map (ixN N.sigma):=by
   intro s t u v k
   induction k with
   | nil s=>exact ⟨[],[],.nil s,rfl,rfl⟩
   | @cons s t w a b u v h1 _ ih=>
    obtain ⟨c,d,h2,rfl,rfl⟩:=(B6c hok _ _ _ _).1 h1
    obtain ⟨x,y,h3,rfl,rfl⟩:=ih
    have e:∀ o:Option ByteArray,(o.map (ixN N.sigma)).toList=o.toList.map (ixN N.sigma):=fun o=>by cases o <;> rfl
    exact ⟨c.toList++x,d.toList++y,.cons h2 h3,by rw [List.map_append,e],by rw [List.map_append,e]⟩
  obtain ⟨x',y',h1,h2,h3⟩:=key h
  obtain ⟨h4,h5⟩:=B8z hok h1
  rw [A4w (S:=fun z=>z∈N.sigma) (B0z hok.asc) hx h4 h2,A4w (S:=fun z=>z∈N.sigma) (B0z hok.asc) hy h5 h3]
  exact h1
 ·intro h
  exact h.map (f:=ixN N.sigma) fun s a b t hs=>(B6c hok _ _ _ _).2 ⟨a,b,hs,rfl,rfl⟩
theorem A68 {N:NetD} (hok:A6q N) {x y:List ByteArray} (hx:∀ z∈x,z∈N.sigma) (hy:∀ z∈y,z∈N.sigma):(∃ t,0 < (A7l N N.ends).getD t 0∧Sh.Way (A0q (A3m N)) 0 (x.map (ixN N.sigma)) (y.map (ixN N.sigma)) t)↔A9p N x y:=by
 unfold A9p RelP
 refine exists_congr fun t=>and_congr (C8f hok t) (way_rows hok hx hy 0 t)
theorem A58 {N:NetD} (hok:A6q N) {x y:List ByteArray} (h:A9p N x y):(∀ z∈x,z∈N.sigma)∧∀ z∈y,z∈N.sigma:=by
 obtain ⟨t,_,h2⟩:=h
 exact B8z hok h2
end Go.Proofs.YtnoengaghabmjaaGreat
/- syms.isLong and syms.isSymbol. -/
namespace Go.Proofs.YtnoengaghabmjaaGreat
open Go Go.Proofs Go.Proofs.Sh
theorem B1e {H:AH} {x:ByteArray}:Sh.Call Tryz.prog (knows 10) 91 [.string x] H (fun r H'=>H'=H∧r=.bool (decide (16 < x.size))):=by
 refine A1b rfl Tryz.func91 rfl (Nat.le_of_ble_eq_true rfl) ?_
 have hres:Tryz.f91.results.toList=[.tmp 2]:=rfl
 have e:decide ((16:Int) < (x.size:Int))=decide (16 < x.size):=decide_eq_decide.2 (by omega)
 simp only [↓Sh.dn,sx,Nat.reduceBEq,reduceCtorEq,Nat.reduceEqDiff,hres,e]
def chOk (s:ByteArray):Bool:=!s.data.toList.any badByte && decide (1≤s.size)
theorem B4h (s:ByteArray):A7q s=(chOk s && decide (s.size≤16)):=rfl
theorem C2c {x:ByteArray}:decide (x=⟨#[]⟩)=!decide (1≤x.size):=by
 by_cases h:x=⟨#[]⟩
 ·subst h; rfl
 ·have : 1 ≤ x.size := by
    refine Nat.one_le_iff_ne_zero.2 fun h0 => h (ByteArray.ext ?_)
    exact Array.eq_empty_of_size_eq_zero h0
  simp [h, this]
theorem A65 {H:AH} {x:ByteArray} (hl:x.size≤1048576):
  Sh.Call Tryz.prog (knows 10) 93 [.string x] H (fun r H'=>H'=H∧r=.bool (chOk x)):=by
 refine A1b rfl Tryz.func93 rfl (Nat.le_of_ble_eq_true rfl) ?_
 have hres:Tryz.f93.results.toList=[.tmp 2]:=rfl
 have hsz:x.data.toList.length=x.size:=by rw [Array.length_toList]; rfl
 simp only [↓Sh.dn,sx,Nat.reduceBEq,reduceCtorEq,Nat.reduceEqDiff]
 refine A9f x.size 6 (List.range' 6 26++[2,3]) (fun i F H'=>H'=H∧(x.data.toList.take i).any badByte=false) (by simp only [↓Sh.dn,sx,Nat.reduceBEq,reduceCtorEq,Nat.reduceEqDiff]) ⟨rfl,rfl⟩ ?_ ?_
 ·rintro i F H' hlt hF f6 ⟨rfl,hall⟩ k
  have f0:=hF 0 rfl
  have f5:=hF 5 rfl
  simp only [↓Sh.dn,sx,Nat.reduceBEq,reduceCtorEq,Nat.reduceEqDiff] at f0 f5
  obtain ⟨u,hu⟩:∃ u,x.data.toList[i]?=some u:=⟨x.data.toList[i]'(by omega),List.getElem?_eq_getElem (by omega)⟩
  have hix:=B8p (P:=Tryz.prog) (j:=.i64) Tryz.underlying9 hu
  have e33:decide ((u.toNat:Int) < 33)=decide (u.toNat < 33):=decide_eq_decide.2 (by omega)
  have e126:decide (126 < (u.toNat:Int))=decide (126 < u.toNat):=decide_eq_decide.2 (by omega)
  have e60:decide ((u.toNat:Int)=60)=decide (u.toNat=60):=decide_eq_decide.2 (by omega)
  have e62:decide ((u.toNat:Int)=62)=decide (u.toNat=62):=decide_eq_decide.2 (by omega)
  have hbad:badByte u=true→chOk x=false:=by
   intro h
   have:x.data.toList.any badByte=true:=List.any_eq_true.2 ⟨_,List.mem_of_getElem? hu,h⟩
   simp [chOk,this]
  simp only [↓Sh.dn,sx,Nat.reduceBEq,reduceCtorEq,Nat.reduceEqDiff,f0,f5,f6,hix,A4a,hlt,e33,decide_true]
  by_cases h1:u.toNat < 33
  ·simp only [↓Sh.dn,sx,Nat.reduceBEq,reduceCtorEq,Nat.reduceEqDiff,h1,decide_true,hres,hbad (by simp [badByte,h1])]
  simp only [↓Sh.dn,sx,Nat.reduceBEq,reduceCtorEq,Nat.reduceEqDiff,f0,hix,h1,e126,decide_false]
  by_cases h2:126 < u.toNat
  ·simp only [↓Sh.dn,sx,Nat.reduceBEq,reduceCtorEq,Nat.reduceEqDiff,h2,decide_true,hres,hbad (by simp [badByte,h2])]
  simp only [↓Sh.dn,sx,Nat.reduceBEq,reduceCtorEq,Nat.reduceEqDiff,f0,hix,h2,e60,decide_false]
  by_cases h3:u.toNat=60
  ·simp only [↓Sh.dn,sx,Nat.reduceBEq,reduceCtorEq,Nat.reduceEqDiff,h3,decide_true,hres,hbad (by simp [badByte,h3])]
  simp only [↓Sh.dn,sx,Nat.reduceBEq,reduceCtorEq,Nat.reduceEqDiff,f0,hix,h3,e62,decide_false]
  by_cases h4:u.toNat=62
  ·simp only [↓Sh.dn,sx,Nat.reduceBEq,reduceCtorEq,Nat.reduceEqDiff,h4,decide_true,hres,hbad (by simp [badByte,h4])]
  simp only [↓Sh.dn,sx,Nat.reduceBEq,reduceCtorEq,Nat.reduceEqDiff,f6,h4,decide_false,wrap_succ hlt hl]
  refine k _ _ (by repeat (first | refine Same.put ?_ rfl | exact Same.rfl' _)) (by simp only [↓Sh.dn,sx,Nat.reduceBEq,reduceCtorEq,Nat.reduceEqDiff]) ⟨rfl,?_⟩
  rw [List.take_add_one,hu]
  simp only [Option.toList,List.any_append,hall,Bool.false_or,List.any_cons,List.any_nil,Bool.or_false,badByte,h1,h2,h3,h4,decide_false]
 ·rintro F H' hF f6 ⟨rfl,hall⟩
  have f0:=hF 0 rfl
  have f5:=hF 5 rfl
  simp only [↓Sh.dn,sx,Nat.reduceBEq,reduceCtorEq,Nat.reduceEqDiff] at f0 f5
  rw [← hsz,List.take_length] at hall
  simp only [↓Sh.dn,sx,Nat.reduceBEq,reduceCtorEq,Nat.reduceEqDiff,f0,f5,f6,A4a,Nat.lt_irrefl,decide_false,hres,chOk,hall,C2c]
end Go.Proofs.YtnoengaghabmjaaGreat
/- slices.IndexFunc and ContainsFunc: whether some element is so. -/
namespace Go.Proofs.YtnoengaghabmjaaGreat
open Go Go.Proofs Go.Proofs.Sh
theorem B5n {H:AH} {v:Value} {l:List ByteArray} {fid:Nat} {caps:List Value} (p:ByteArray→Bool) (hs:Sl H v 1 (l.map A9a)) (hl:l.length≤1048576) (hw:Wf H)
  (hp:∀ H',Kept H H'→∀ x∈l,Sh.Call Tryz.prog (knows 10) fid ((fun s=>Value.string s) x :: caps) H' (fun r H''=>Kept H' H''∧r=.bool (p x))):
  Sh.Call Tryz.prog (knows 10) 133 [v,.func (.func fid) #[] caps.toArray] H (fun r H'=>Kept H H'∧∃ k:Int,r=.int .i64 k∧decide (0≤k)=l.any p):=by
 refine A1b rfl Tryz.func133 rfl (Nat.le_of_ble_eq_true rfl) ?_
 have hres:Tryz.f133.results.toList=[.tmp 4]:=rfl
 have hlen:=hs.len Tryz.underlying22 H
 simp only [↓Sh.dn,sx,Nat.reduceBEq,reduceCtorEq,Nat.reduceEqDiff,hlen,List.length_map]
 refine A9f l.length 8 [5,8,9,10,11,12,13,14,15,16,18] (fun i F H'=>Kept H H'∧(l.take i).any p=false) (by simp only [↓Sh.dn,sx,Nat.reduceBEq,reduceCtorEq,Nat.reduceEqDiff]) ⟨Kept.refl hw,rfl⟩ ?_ ?_
 ·rintro i F H' hlt hF f8 ⟨hk,hall⟩ k
  have hs1:=hs.grow (hk.grow hw)
  obtain ⟨g,o,kk,hia,hc,hcc⟩:=hs1.at Tryz.underlying22 A1l (i:=i) (x:=A9a l[i]) (by simp [hlt]) .i64
  have hld:=hcc 0 _ rfl; simp only [Nat.add_zero] at hld
  have f0:=hF 0 rfl
  have f1:=hF 1 rfl
  have f7:=hF 7 rfl
  simp only [↓Sh.dn,sx,Nat.reduceBEq,reduceCtorEq,Nat.reduceEqDiff] at f0 f1 f7
  obtain ⟨r,H2,hd,hk2,rfl⟩:=hp H' hk l[i] (List.getElem_mem hlt)
  simp only [↓Sh.dn,sx,Nat.reduceBEq,reduceCtorEq,Nat.reduceEqDiff,f0,f1,f7,f8,A4a,hlt,decide_true,hia,hld,Option.map_some,forall_const,reduceCtorEq,false_implies,and_true,true_and]
  refine ⟨_,_,hd,?_⟩
  cases hpv:p l[i] with
  | true=>
   simp only [↓Sh.dn,sx,Nat.reduceBEq,reduceCtorEq,Nat.reduceEqDiff,hres,forall_const,reduceCtorEq,false_implies,and_true,true_and]
   refine ⟨hk.trans hk2,_,rfl,?_⟩
   rw [List.any_eq_true.2 ⟨_,List.getElem_mem hlt,hpv⟩]
   simp
  | false=>
   simp only [↓Sh.dn,sx,Nat.reduceBEq,reduceCtorEq,Nat.reduceEqDiff,hres,f8,wrap_succ hlt hl,forall_const,reduceCtorEq,false_implies,and_true,true_and]
   refine k _ _ (by repeat (first | refine Same.put ?_ rfl | exact Same.rfl' _)) (by simp only [↓Sh.dn,sx,Nat.reduceBEq,reduceCtorEq,Nat.reduceEqDiff]) ⟨hk.trans hk2,?_⟩
   rw [List.take_add_one,List.getElem?_eq_getElem hlt]
   simp only [Option.toList,List.any_append,hall,List.any_cons,List.any_nil,hpv,Bool.or_false]
 ·rintro F H' hF f8 ⟨hk,hall⟩
  have f7:=hF 7 rfl
  simp only [↓Sh.dn,sx,Nat.reduceBEq,reduceCtorEq,Nat.reduceEqDiff] at f7
  rw [List.take_length] at hall
  simp only [↓Sh.dn,sx,Nat.reduceBEq,reduceCtorEq,Nat.reduceEqDiff,f7,f8,A4a,Nat.lt_irrefl,decide_false,hres,forall_const,reduceCtorEq,false_implies,and_true,true_and]
  exact ⟨hk,_,rfl,by rw [hall]; rfl⟩
theorem A2q {H:AH} {v:Value} {l:List ByteArray} {fid:Nat} {caps:List Value} (p:ByteArray→Bool) (hs:Sl H v 1 (l.map A9a)) (hl:l.length≤1048576) (hw:Wf H)
  (hp:∀ H',Kept H H'→∀ x∈l,Sh.Call Tryz.prog (knows 10) fid ((fun s=>Value.string s) x :: caps) H' (fun r H''=>Kept H' H''∧r=.bool (p x))):
  Sh.Call Tryz.prog (knows 10) 90 [v,.func (.func fid) #[] caps.toArray] H (fun r H'=>Kept H H'∧r=.bool (l.any p)):=by
 refine A1b rfl Tryz.func90 rfl (Nat.le_of_ble_eq_true rfl) ?_
 have hres:Tryz.f90.results.toList=[.tmp 4]:=rfl
 obtain ⟨r,H2,hd,hk,k,rfl,hk0⟩:=B5n p hs hl hw hp
 simp only [↓Sh.dn,sx,Nat.reduceBEq,reduceCtorEq,Nat.reduceEqDiff]
 refine ⟨_,_,hd,?_⟩
 simp only [↓Sh.dn,sx,Nat.reduceBEq,reduceCtorEq,Nat.reduceEqDiff,hres,hk0,and_true]
 exact hk
end Go.Proofs.YtnoengaghabmjaaGreat
/- What is wrong with an alphabet, by the program. -/
namespace Go.Proofs.YtnoengaghabmjaaGreat
open Go Go.Proofs Go.Proofs.Sh
theorem B4v {H:AH} {v:Value} {l:List ByteArray} (hs:Sl H v 1 (l.map A9a)) (hl:l.length≤1048576) (hlx:∀ x∈l,x.size≤1048576) (hw:Wf H):
  Sh.Call Tryz.prog (knows 10) 113 [v] H (fun r H'=>Kept H H'∧r=.int .i64 (A3i l)):=by
 refine A1b rfl Tryz.func113 rfl (Nat.le_of_ble_eq_true rfl) ?_
 have hres:Tryz.f113.results.toList=[.tmp 2]:=rfl
 have hlen:=hs.len Tryz.underlying22 H
 have e40:decide ((40:Int) < ((l.length:Nat):Int))=decide (40 < l.length):=decide_eq_decide.2 (by omega)
 simp only [↓Sh.dn,sx,Nat.reduceBEq,reduceCtorEq,Nat.reduceEqDiff,hlen,List.length_map,e40]
 by_cases h40:40 < l.length
 ·simp only [↓Sh.dn,sx,Nat.reduceBEq,reduceCtorEq,Nat.reduceEqDiff,h40,decide_true,hres,A3i,Bool.true_or,Kept.refl hw]
 simp only [↓Sh.dn,sx,Nat.reduceBEq,reduceCtorEq,Nat.reduceEqDiff,h40,decide_false]
 obtain ⟨r1,H1,hd1,hk1,rfl⟩:=A2q (caps:=[]) (fid:=91) (fun s=>decide (16 < s.size)) hs hl hw (fun H' hk x hx=>(B1e (H:=H') (x:=x)).mono fun r H'' h=>by rcases h with ⟨rfl,h⟩; exact ⟨Kept.refl hk.wf,h⟩)
 refine ⟨_,_,hd1,?_⟩
 cases hL:(l.any fun s=>decide (16 < s.size)) with
 | true=>simp only [↓Sh.dn,sx,Nat.reduceBEq,reduceCtorEq,Nat.reduceEqDiff,hres,hL,A3i,A5j,h40,decide_false,Bool.false_or,hk1]
 | false=>
  have hs1:=hs.grow (hk1.grow hw)
  have hlen1:=hs1.len Tryz.underlying22 H1
  simp only [↓Sh.dn,sx,Nat.reduceBEq,reduceCtorEq,Nat.reduceEqDiff,hlen1,List.length_map]
  have h16:∀ x∈l,decide (x.size≤16)=true:=by
   intro x hx
   have:=List.any_eq_false.1 hL x hx
   simp only [decide_eq_true_eq,Nat.not_lt] at this
   simpa using this
  have e1:(l.all A7q && ascB l)=false→A3i l=1:=by intro h; simp [A3i,A5j,h40,hL]; simpa using h
  have e0:(l.all A7q && ascB l)=true→A3i l=0:=by intro h; simp [A3i,A5j,h40,hL]; simpa using h
  have hsy:∀ x∈l,A7q x=chOk x:=by intro x hx; rw [B4h,h16 x hx,Bool.and_true]
  refine A9f l.length 14 (List.range' 14 22++[2,3,4]) (fun i F H'=>H'=H1∧(∀ (j:Nat) x,j < i→l[j]?=some x→chOk x=true)∧(∀ (j:Nat) x y,j+1 < i→l[j]?=some x→l[j+1]?=some y→A2l x y=true)) (by simp only [↓Sh.dn,sx,Nat.reduceBEq,reduceCtorEq,Nat.reduceEqDiff]) ⟨rfl,fun j x h=>by omega,fun j x y h=>by omega⟩ ?_ ?_
  ·rintro i F H' hlt hF f14 ⟨rfl,hall,hasc⟩ k
   have f0:=hF 0 rfl
   have f12:=hF 12 rfl
   have f13:=hF 13 rfl
   simp only [↓Sh.dn,sx,Nat.reduceBEq,reduceCtorEq,Nat.reduceEqDiff] at f0 f12 f13
   obtain ⟨g,o,kk,hia,hc,hcc⟩:=hs1.at Tryz.underlying22 A1l (i:=i) (x:=A9a l[i]) (by simp [hlt]) .i64
   have hy:=hcc 0 _ rfl
   simp only [Nat.add_zero] at hy
   have hget:l[i]?=some l[i]:=List.getElem?_eq_getElem hlt
   obtain ⟨r,H2,hd2,rfl,rfl⟩:=A65 (H:=H') (x:=l[i]) (hlx _ (List.getElem_mem hlt))
   simp only [↓Sh.dn,sx,Nat.reduceBEq,reduceCtorEq,Nat.reduceEqDiff,f0,f12,f13,f14,A4a,hlt,decide_true,hia,hy]
   refine ⟨_,_,hd2,?_⟩
   cases hch:chOk l[i] with
   | false=>
    have hbad:A3i l=1:=e1 (by
     rw [Bool.and_eq_false_iff]; left
     exact List.all_eq_false.2 ⟨_,List.getElem_mem hlt,by rw [hsy _ (List.getElem_mem hlt),hch]; simp⟩)
    simp only [↓Sh.dn,sx,Nat.reduceBEq,reduceCtorEq,Nat.reduceEqDiff,hres,hbad,hk1]
   | true=>
    have hall':∀ (j:Nat) x,j < i+1→l[j]?=some x→chOk x=true:=by
     intro j x hj hx
     by_cases he:j=i
     ·subst he; rw [hget] at hx; rw [← Option.some.inj hx]; exact hch
     ·exact hall j x (by omega) hx
    by_cases hi0:0 < i
    ·have hlt1:i - 1 < l.length:=by omega
     obtain ⟨g',o',kk',hia',hc',hcc'⟩:=hs1.at Tryz.underlying22 A1l (i:=i - 1) (x:=A9a l[i - 1]) (by simp [hlt1]) .i64
     have hy':=hcc' 0 _ rfl
     simp only [Nat.add_zero] at hy'
     have hw1:IntKind.wrap .i64 ((i:Int) - 1)=((i - 1:Nat):Int):=by rw [wrap64 (by omega) (by omega)]; omega
     have ei:decide ((0:Int) < (i:Int))=true:=by simpa using hi0
     have hget':l[i - 1]?=some l[i - 1]:=List.getElem?_eq_getElem hlt1
     simp only [↓Sh.dn,sx,Nat.reduceBEq,reduceCtorEq,Nat.reduceEqDiff,f0,ei,hw1,hia',hy']
     cases hq:A2l l[i - 1] l[i] with
     | false=>
      have hbad:A3i l=1:=e1 (by
       rw [Bool.and_eq_false_iff]; right
       cases hb:ascB l with
       | false=>rfl
       | true=>
        have:=A9v.1 hb (i - 1) _ _ hget' (by rw [show i - 1+1=i by omega]; exact hget)
        rw [this] at hq; cases hq)
      simp only [↓Sh.dn,sx,Nat.reduceBEq,reduceCtorEq,Nat.reduceEqDiff,hres,hbad,hk1]
     | true=>
      simp only [↓Sh.dn,sx,Nat.reduceBEq,reduceCtorEq,Nat.reduceEqDiff,f14,wrap_succ hlt hl]
      refine k _ _ (by repeat (first | refine Same.put ?_ rfl | exact Same.rfl' _)) (by simp only [↓Sh.dn,sx,Nat.reduceBEq,reduceCtorEq,Nat.reduceEqDiff]) ⟨rfl,hall',fun j x y hj hx hy=>?_⟩
      by_cases he:j+1=i
      ·have:j=i - 1:=by omega
       subst this
       rw [he,hget] at hy
       rw [hget'] at hx
       rw [← Option.some.inj hx,← Option.some.inj hy]; exact hq
      ·exact hasc j x y (by omega) hx hy
    ·have ei:decide ((0:Int) < (i:Int))=false:=by simpa using hi0
     simp only [↓Sh.dn,sx,Nat.reduceBEq,reduceCtorEq,Nat.reduceEqDiff,f14,ei,wrap_succ hlt hl]
     exact k _ _ (by repeat (first | refine Same.put ?_ rfl | exact Same.rfl' _)) (by simp only [↓Sh.dn,sx,Nat.reduceBEq,reduceCtorEq,Nat.reduceEqDiff]) ⟨rfl,hall',fun j x y hj hx hy=>by omega⟩
  ·rintro F H' hF f14 ⟨rfl,hall,hasc⟩
   have f13:=hF 13 rfl
   simp only [↓Sh.dn,sx,Nat.reduceBEq,reduceCtorEq,Nat.reduceEqDiff] at f13
   have hgood:A3i l=0:=e0 (by
    rw [Bool.and_eq_true]
    refine ⟨List.all_eq_true.2 fun x hx=>?_,A9v.2 fun j x y hx hy=>hasc j x y (List.getElem?_eq_some_iff.1 hy).1 hx hy⟩
    obtain ⟨j,hj⟩:=List.mem_iff_getElem?.1 hx
    rw [hsy x hx]
    exact hall j x (List.getElem?_eq_some_iff.1 hj).1 hj)
   simp only [↓Sh.dn,sx,Nat.reduceBEq,reduceCtorEq,Nat.reduceEqDiff,f13,f14,A4a,Nat.lt_irrefl,decide_false,hres,hgood,hk1]
end Go.Proofs.YtnoengaghabmjaaGreat
/- What is wrong with a net of any kind, by the program. -/
namespace Go.Proofs.YtnoengaghabmjaaGreat
open Go Go.Proofs Go.Proofs.Sh
theorem C0o {H:AH} {gg:Nat} {sg ar en:Value} {N:NetD} {s:ByteArray} (hb:NetBox H gg sg ar en N) (ha:Asc N.sigma) (hl:N.sigma.length≤1048576):
  Sh.Call Tryz.prog (knows 10) 114 [.string s,.pointer (some ⟨gg,0,some 0⟩)] H (fun r H'=>H'=H∧r=.bool (!A5i N s)):=by
 refine A1b rfl Tryz.func114 rfl (Nat.le_of_ble_eq_true rfl) ?_
 have hres:Tryz.f114.results.toList=[.tmp 3]:=rfl
 obtain ⟨r,H1,hd,rfl,k,rfl,_,_⟩:=A55 (x:=s) hb.hsg ha hl
 simp only [↓Sh.dn,sx,Nat.reduceBEq,reduceCtorEq,Nat.reduceEqDiff,hb.c0,hb.c1,hb.c2,hb.c3,hb.ca,A3a hb,A2a hb,A1a hb]
 refine ⟨_,_,hd,?_⟩
 simp only [↓Sh.dn,sx,Nat.reduceBEq,reduceCtorEq,Nat.reduceEqDiff,A59]
 by_cases h:s=⟨#[]⟩
 ·simp only [↓Sh.dn,sx,Nat.reduceBEq,reduceCtorEq,Nat.reduceEqDiff,h,decide_true,hres,A5i]
 ·simp only [↓Sh.dn,sx,Nat.reduceBEq,reduceCtorEq,Nat.reduceEqDiff,h,decide_false,hres,A5i]
theorem C7b {H:AH} {v:Value} {N:NetD} (h:A2p H v N) (hsm:A0f N) (hw:Wf H):
  Sh.Call Tryz.prog (knows 10) 66 [v] H (fun r H'=>Kept H H'∧r=.int .i64 (A2f N)):=by
 refine A1b rfl Tryz.func66 rfl (Nat.le_of_ble_eq_true rfl) ?_
 have hres:Tryz.f66.results.toList=[.tmp 2]:=rfl
 obtain ⟨sg,ar,en,rfl,hsg,har,hen⟩:=h
 have hb1:=NetBox.of (N:=N) hw hsg har hen
 have hk1:Kept H (H.new 4 [sg,.int .i64 N.states,ar,en]).2:=Kept.new hw 4 _
 have eA:decide ((60000:Int) < (N.arcs.length:Int))=decide (60000 < N.arcs.length):=decide_eq_decide.2 (by omega)
 have eE:decide ((60000:Int) < (N.ends.length:Int))=decide (60000 < N.ends.length):=decide_eq_decide.2 (by omega)
 simp only [↓Sh.dn,sx,Nat.reduceBEq,reduceCtorEq,Nat.reduceEqDiff,A1p hsg.isCell har.isCell hen.isCell]
 generalize H.next=gg at hb1 ⊢
 generalize (H.new 4 [sg,.int .i64 N.states,ar,en]).2=H1 at hb1 hk1 ⊢
 simp only [↓Sh.dn,sx,Nat.reduceBEq,reduceCtorEq,Nat.reduceEqDiff,hb1.c0,hb1.c1,hb1.c2,hb1.c3,hb1.ca,A3a hb1,A2a hb1,A1a hb1]
 by_cases hA:3000 < N.states
 ·simp only [↓Sh.dn,sx,Nat.reduceBEq,reduceCtorEq,Nat.reduceEqDiff,hA,decide_true,hres,A2f,A0l,Bool.true_or,hk1]
 by_cases hB:60000 < N.arcs.length
 ·simp only [↓Sh.dn,sx,Nat.reduceBEq,reduceCtorEq,Nat.reduceEqDiff,hb1.c0,hb1.c1,hb1.c2,hb1.c3,hb1.ca,A3a hb1,A2a hb1,A1a hb1,hA,eA,hB,decide_true,decide_false,hres,A2f,A0l,Bool.true_or,Bool.or_true,hk1]
 by_cases hC:60000 < N.ends.length
 ·simp only [↓Sh.dn,sx,Nat.reduceBEq,reduceCtorEq,Nat.reduceEqDiff,hb1.c0,hb1.c1,hb1.c2,hb1.c3,hb1.ca,A3a hb1,A2a hb1,A1a hb1,hA,eA,eE,hB,hC,decide_true,decide_false,hres,A2f,A0l,Bool.true_or,Bool.or_true,hk1]
 have hT:A0l N=false:=by simp [A0l,hA,hB,hC]
 simp only [↓Sh.dn,sx,Nat.reduceBEq,reduceCtorEq,Nat.reduceEqDiff,hb1.c0,hb1.c1,hb1.c2,hb1.c3,hb1.ca,A3a hb1,A2a hb1,A1a hb1,hA,eA,eE,hB,hC,decide_true,decide_false,hres]
 obtain ⟨r,H2,hd,hk2,rfl⟩:=B4v hb1.hsg hsm.sg hsm.sx hk1.wf
 refine ⟨_,_,hd,?_⟩
 have hb2:=hb1.kept hk1.wf hk2
 have hk12:=hk1.trans hk2
 by_cases hS:A3i N.sigma=0
 case neg=>simp only [↓Sh.dn,sx,Nat.reduceBEq,reduceCtorEq,Nat.reduceEqDiff,hS,decide_false,hres,A2f,hT,Bool.false_eq_true,if_false,ne_eq,not_false_eq_true,if_true,hk12]
 have hasc:=A0w hS
 simp only [↓Sh.dn,sx,Nat.reduceBEq,reduceCtorEq,Nat.reduceEqDiff,hS,decide_true,hb2.c0,hb2.c1,hb2.c2,hb2.c3,hb2.ca,A3a hb2,A2a hb2,A1a hb2]
 by_cases hst:N.states < 1
 ·simp only [↓Sh.dn,sx,Nat.reduceBEq,reduceCtorEq,Nat.reduceEqDiff,hst,decide_true,hres,A2f,hT,hS,ne_eq,not_true_eq_false,if_false,if_true,hk12,Bool.false_eq_true]
 simp only [↓Sh.dn,sx,Nat.reduceBEq,reduceCtorEq,Nat.reduceEqDiff,hst,decide_false,hb2.c0,hb2.c1,hb2.c2,hb2.c3,hb2.ca,A3a hb2,A2a hb2,A1a hb2]
 have e1:N.arcs.any (A2h N)=true→A2f N=1:=by intro h; simp [A2f,hT,hS,hst,h]
 have e2:N.ends.any (A5n N)=true→A2f N=1:=by intro h; simp [A2f,hT,hS,hst,h]
 have e3:N.arcs.any (A2h N)=false→N.ends.any (A5n N)=false→A2f N=0:=by intro h h'; simp [A2f,hT,hS,hst,h,h']
 refine A9f N.arcs.length 37 (List.range' 37 41++[2,6]) (fun i F H'=>Kept H2 H'∧(N.arcs.take i).any (A2h N)=false) (by simp only [↓Sh.dn,sx,Nat.reduceBEq,reduceCtorEq,Nat.reduceEqDiff]) ⟨Kept.refl hk12.wf,rfl⟩ ?_ ?_
 ·rintro i F H' hlt hF f37 ⟨hk,hall⟩ k
  have f1:=hF 1 rfl
  have f4:=hF 4 rfl
  have f35:=hF 35 rfl
  have f36:=hF 36 rfl
  simp only [↓Sh.dn,sx,Nat.reduceBEq,reduceCtorEq,Nat.reduceEqDiff] at f1 f4 f35 f36
  have hb':=hb2.kept hk12.wf hk
  have hb3:=hb'.new hk.wf 5 (N.arcs[i].cells)
  have hk3:=hk.news 5 (N.arcs[i].cells)
  obtain ⟨g,o,kk,hia,hc,hcc⟩:=hb'.har.at Tryz.underlying23 A3l (i:=i) (x:=N.arcs[i].cells) (by simp [hlt]) .i64
  clear hcc
  have hin:N.arcs[i]∈N.arcs:=List.getElem_mem hlt
  have hnext:A2h N N.arcs[i]=false→(N.arcs.take (i+1)).any (A2h N)=false:=by
   intro h
   rw [List.take_add_one,List.getElem?_eq_getElem hlt]
   simp only [Option.toList,List.any_append,hall,List.any_cons,List.any_nil,h,Bool.or_false]
  have hbad:A2h N N.arcs[i]=true→A2f N=1:=fun h=>e1 (List.any_eq_true.2 ⟨_,hin,h⟩)
  generalize N.arcs[i]=a at hb3 hk3 hc hnext hbad
  simp only [↓Sh.dn,sx,Nat.reduceBEq,reduceCtorEq,Nat.reduceEqDiff,hb'.c0,hb'.c1,hb'.c2,hb'.c3,hb'.ca,A3a hb',A2a hb',A1a hb',A4c,A3d,A4d,A0g,A1g,A0c,A9b,A2d,A5d,A0d,arc0,arc1,arc2,arc3,arc4,end0,end1,f1,f35,f36,f37,Option.map_some,A4a,hlt,decide_true,hia,hc,hres]
  by_cases h1:a.fr < 0
  ·simp only [↓Sh.dn,sx,Nat.reduceBEq,reduceCtorEq,Nat.reduceEqDiff,hb3.c0,hb3.c1,hb3.c2,hb3.c3,hb3.ca,A3a hb3,A2a hb3,A1a hb3,A4c,A3d,A4d,A0g,A1g,A0c,A9b,A2d,A5d,A0d,arc0,arc1,arc2,arc3,arc4,end0,end1,h1,decide_true,hres,hbad (by simp [A2h,h1]),hk12.trans hk3]
  simp only [↓Sh.dn,sx,Nat.reduceBEq,reduceCtorEq,Nat.reduceEqDiff,hb3.c0,hb3.c1,hb3.c2,hb3.c3,hb3.ca,A3a hb3,A2a hb3,A1a hb3,A4c,A3d,A4d,A0g,A1g,A0c,A9b,A2d,A5d,A0d,arc0,arc1,arc2,arc3,arc4,end0,end1,f1,h1,decide_false]
  by_cases h2:N.states≤a.fr
  ·simp only [↓Sh.dn,sx,Nat.reduceBEq,reduceCtorEq,Nat.reduceEqDiff,hb3.c0,hb3.c1,hb3.c2,hb3.c3,hb3.ca,A3a hb3,A2a hb3,A1a hb3,A4c,A3d,A4d,A0g,A1g,A0c,A9b,A2d,A5d,A0d,arc0,arc1,arc2,arc3,arc4,end0,end1,h2,decide_true,hres,hbad (by simp [A2h,h2]),hk12.trans hk3]
  simp only [↓Sh.dn,sx,Nat.reduceBEq,reduceCtorEq,Nat.reduceEqDiff,hb3.c0,hb3.c1,hb3.c2,hb3.c3,hb3.ca,A3a hb3,A2a hb3,A1a hb3,A4c,A3d,A4d,A0g,A1g,A0c,A9b,A2d,A5d,A0d,arc0,arc1,arc2,arc3,arc4,end0,end1,f1,h2,decide_false]
  by_cases h3:a.to < 0
  ·simp only [↓Sh.dn,sx,Nat.reduceBEq,reduceCtorEq,Nat.reduceEqDiff,hb3.c0,hb3.c1,hb3.c2,hb3.c3,hb3.ca,A3a hb3,A2a hb3,A1a hb3,A4c,A3d,A4d,A0g,A1g,A0c,A9b,A2d,A5d,A0d,arc0,arc1,arc2,arc3,arc4,end0,end1,h3,decide_true,hres,hbad (by simp [A2h,h3]),hk12.trans hk3]
  simp only [↓Sh.dn,sx,Nat.reduceBEq,reduceCtorEq,Nat.reduceEqDiff,hb3.c0,hb3.c1,hb3.c2,hb3.c3,hb3.ca,A3a hb3,A2a hb3,A1a hb3,A4c,A3d,A4d,A0g,A1g,A0c,A9b,A2d,A5d,A0d,arc0,arc1,arc2,arc3,arc4,end0,end1,f1,h3,decide_false]
  by_cases h4:N.states≤a.to
  ·simp only [↓Sh.dn,sx,Nat.reduceBEq,reduceCtorEq,Nat.reduceEqDiff,hb3.c0,hb3.c1,hb3.c2,hb3.c3,hb3.ca,A3a hb3,A2a hb3,A1a hb3,A4c,A3d,A4d,A0g,A1g,A0c,A9b,A2d,A5d,A0d,arc0,arc1,arc2,arc3,arc4,end0,end1,h4,decide_true,hres,hbad (by simp [A2h,h4]),hk12.trans hk3]
  obtain ⟨r,H4,hd4,rfl,rfl⟩:=C0o (s:=a.inn) hb3 hasc hsm.sg
  simp only [↓Sh.dn,sx,Nat.reduceBEq,reduceCtorEq,Nat.reduceEqDiff,hb3.c0,hb3.c1,hb3.c2,hb3.c3,hb3.ca,A3a hb3,A2a hb3,A1a hb3,A4c,A3d,A4d,A0g,A1g,A0c,A9b,A2d,A5d,A0d,arc0,arc1,arc2,arc3,arc4,end0,end1,f1,f4,h4,decide_false]
  refine ⟨_,_,hd4,?_⟩
  have hb4:=hb3
  cases hI:A5i N a.inn with
  | true=>simp only [↓Sh.dn,sx,Nat.reduceBEq,reduceCtorEq,Nat.reduceEqDiff,hres,hbad (by simp [A2h,hI]),hk12.trans hk3]
  | false=>
   obtain ⟨r,H5,hd5,rfl,rfl⟩:=C0o (s:=a.out) hb3 hasc hsm.sg
   simp only [↓Sh.dn,sx,Nat.reduceBEq,reduceCtorEq,Nat.reduceEqDiff,hb3.c0,hb3.c1,hb3.c2,hb3.c3,hb3.ca,A3a hb3,A2a hb3,A1a hb3,A4c,A3d,A4d,A0g,A1g,A0c,A9b,A2d,A5d,A0d,arc0,arc1,arc2,arc3,arc4,end0,end1,f1,f4]
   refine ⟨_,_,hd5,?_⟩
   cases hO:A5i N a.out with
   | true=>simp only [↓Sh.dn,sx,Nat.reduceBEq,reduceCtorEq,Nat.reduceEqDiff,hres,hbad (by simp [A2h,hO]),hk12.trans hk3]
   | false=>
    simp only [↓Sh.dn,sx,Nat.reduceBEq,reduceCtorEq,Nat.reduceEqDiff,f37,wrap_succ hlt hsm.ar]
    exact k _ _ (by repeat (first | refine Same.put ?_ rfl | exact Same.rfl' _)) (by simp only [↓Sh.dn,sx,Nat.reduceBEq,reduceCtorEq,Nat.reduceEqDiff]) ⟨hk3,hnext (by simp [A2h,h1,h2,h3,h4,hI,hO])⟩
 ·rintro F H' hF f37 ⟨hk,hall⟩
  have f1:=hF 1 rfl
  have f36:=hF 36 rfl
  simp only [↓Sh.dn,sx,Nat.reduceBEq,reduceCtorEq,Nat.reduceEqDiff] at f1 f36
  rw [List.take_length] at hall
  have hb':=hb2.kept hk12.wf hk
  simp only [↓Sh.dn,sx,Nat.reduceBEq,reduceCtorEq,Nat.reduceEqDiff,hb'.c0,hb'.c1,hb'.c2,hb'.c3,hb'.ca,A3a hb',A2a hb',A1a hb',f1,f36,f37,A4a,Nat.lt_irrefl,decide_false]
  refine A9f N.ends.length 81 (List.range' 81 15++[2,8]) (fun i F H''=>Kept H' H''∧(N.ends.take i).any (A5n N)=false) (by simp only [↓Sh.dn,sx,Nat.reduceBEq,reduceCtorEq,Nat.reduceEqDiff]) ⟨Kept.refl hk.wf,rfl⟩ ?_ ?_
  ·rintro i F2 H'' hlt hF2 f81 ⟨hk2',hall2⟩ k
   have g1:=hF2 1 rfl
   have g79:=hF2 79 rfl
   have g80:=hF2 80 rfl
   simp only [↓Sh.dn,sx,Nat.reduceBEq,reduceCtorEq,Nat.reduceEqDiff,f1] at g1 g79 g80
   have hbx:=hb'.kept hk.wf hk2'
   have hb3:=hbx.new hk2'.wf 2 (N.ends[i].cells)
   have hk3:=hk2'.news 2 (N.ends[i].cells)
   have hkk:=(hk12.trans hk).trans hk3
   obtain ⟨g,o,kk,hia,hc,hcc⟩:=hbx.hen.at Tryz.underlying24 A8o (i:=i) (x:=N.ends[i].cells) (by simp [hlt]) .i64
   clear hcc
   have hbad:A5n N N.ends[i]=true→A2f N=1:=fun h=>e2 (List.any_eq_true.2 ⟨_,List.getElem_mem hlt,h⟩)
   simp only [↓Sh.dn,sx,Nat.reduceBEq,reduceCtorEq,Nat.reduceEqDiff,hbx.c0,hbx.c1,hbx.c2,hbx.c3,hbx.ca,A3a hbx,A2a hbx,A1a hbx,A4c,A3d,A4d,A0g,A1g,A0c,A9b,A2d,A5d,A0d,arc0,arc1,arc2,arc3,arc4,end0,end1,g1,g79,g80,f81,A4a,hlt,decide_true,hia,hc,Option.map_some]
   by_cases h1:N.ends[i].state < 0
   ·simp only [↓Sh.dn,sx,Nat.reduceBEq,reduceCtorEq,Nat.reduceEqDiff,hb3.c0,hb3.c1,hb3.c2,hb3.c3,hb3.ca,A3a hb3,A2a hb3,A1a hb3,A4c,A3d,A4d,A0g,A1g,A0c,A9b,A2d,A5d,A0d,arc0,arc1,arc2,arc3,arc4,end0,end1,h1,decide_true,hres,hbad (by simp [A5n,h1]),hkk]
   simp only [↓Sh.dn,sx,Nat.reduceBEq,reduceCtorEq,Nat.reduceEqDiff,hb3.c0,hb3.c1,hb3.c2,hb3.c3,hb3.ca,A3a hb3,A2a hb3,A1a hb3,A4c,A3d,A4d,A0g,A1g,A0c,A9b,A2d,A5d,A0d,arc0,arc1,arc2,arc3,arc4,end0,end1,g1,f81,h1,decide_false]
   by_cases h2:N.states≤N.ends[i].state
   ·simp only [↓Sh.dn,sx,Nat.reduceBEq,reduceCtorEq,Nat.reduceEqDiff,h2,decide_true,hres,hbad (by simp [A5n,h2]),hkk]
   simp only [↓Sh.dn,sx,Nat.reduceBEq,reduceCtorEq,Nat.reduceEqDiff,f81,h2,decide_false,wrap_succ hlt hsm.en]
   refine k _ _ (by repeat (first | refine Same.put ?_ rfl | exact Same.rfl' _)) (by simp only [↓Sh.dn,sx,Nat.reduceBEq,reduceCtorEq,Nat.reduceEqDiff]) ⟨hk3,?_⟩
   rw [List.take_add_one,List.getElem?_eq_getElem hlt]
   simp only [Option.toList,List.any_append,hall2,List.any_cons,List.any_nil,Bool.or_false,A5n,h1,h2,decide_false]
  ·rintro F2 H'' hF2 f81 ⟨hk2',hall2⟩
   have g80:=hF2 80 rfl
   simp only [↓Sh.dn,sx,Nat.reduceBEq,reduceCtorEq,Nat.reduceEqDiff] at g80
   rw [List.take_length] at hall2
   simp only [↓Sh.dn,sx,Nat.reduceBEq,reduceCtorEq,Nat.reduceEqDiff,g80,f81,A4a,Nat.lt_irrefl,decide_false,hres,e3 hall hall2,(hk12.trans hk).trans hk2']
end Go.Proofs.YtnoengaghabmjaaGreat
/- Whether a net has a cost out of bounds. -/
namespace Go.Proofs.YtnoengaghabmjaaGreat
open Go Go.Proofs Go.Proofs.Sh
def A5v (N:NetD) (m:Int):Bool:=N.arcs.any (fun a=>decide (a.cost < 0) || decide (m < a.cost)) || N.ends.any (fun a=>decide (a.cost < 0) || decide (m < a.cost))
theorem priced {H:AH} {v:Value} {N:NetD} {m:Int} (h:A2p H v N) (hsm:A0f N) (hw:Wf H):
  Sh.Call Tryz.prog (knows 10) 67 [v,.int .i64 m] H (fun r H'=>Kept H H'∧r=.bool (A5v N m)):=by
 refine A1b rfl Tryz.func67 rfl (Nat.le_of_ble_eq_true rfl) ?_
 have hres:Tryz.f67.results.toList=[.tmp 4]:=rfl
 obtain ⟨sg,ar,en,rfl,hsg,har,hen⟩:=h
 have hb1:=NetBox.of (N:=N) hw hsg har hen
 have hk1:Kept H (H.new 4 [sg,.int .i64 N.states,ar,en]).2:=Kept.new hw 4 _
 simp only [↓Sh.dn,sx,Nat.reduceBEq,reduceCtorEq,Nat.reduceEqDiff,A1p hsg.isCell har.isCell hen.isCell]
 generalize H.next=gg at hb1 ⊢
 generalize (H.new 4 [sg,.int .i64 N.states,ar,en]).2=H1 at hb1 hk1 ⊢
 simp only [↓Sh.dn,sx,Nat.reduceBEq,reduceCtorEq,Nat.reduceEqDiff,hb1.c0,hb1.c1,hb1.c2,hb1.c3,hb1.ca,A3a hb1,A2a hb1,A1a hb1]
 refine A9f N.arcs.length 12 (List.range' 12 14++[4,6]) (fun i F H'=>Kept H1 H'∧(N.arcs.take i).any (fun a=>decide (a.cost < 0) || decide (m < a.cost))=false) (by simp only [↓Sh.dn,sx,Nat.reduceBEq,reduceCtorEq,Nat.reduceEqDiff]) ⟨Kept.refl hk1.wf,rfl⟩ ?_ ?_
 ·rintro i F H' hlt hF f12 ⟨hk,hall⟩ k
  have f1:=hF 1 rfl
  have f10:=hF 10 rfl
  have f11:=hF 11 rfl
  simp only [↓Sh.dn,sx,Nat.reduceBEq,reduceCtorEq,Nat.reduceEqDiff] at f1 f10 f11
  have hb':=hb1.kept hk1.wf hk
  have hb3:=hb'.new hk.wf 5 (N.arcs[i].cells)
  have hk3:=hk.news 5 (N.arcs[i].cells)
  obtain ⟨g,o,kk,hia,hc,hcc⟩:=hb'.har.at Tryz.underlying23 A3l (i:=i) (x:=N.arcs[i].cells) (by simp [hlt]) .i64
  clear hcc
  have hbad:(decide (N.arcs[i].cost < 0) || decide (m < N.arcs[i].cost))=true→A5v N m=true:=fun h=>by
   rw [A5v,List.any_eq_true.2 ⟨_,List.getElem_mem hlt,h⟩]; rfl
  simp only [↓Sh.dn,sx,Nat.reduceBEq,reduceCtorEq,Nat.reduceEqDiff,hb'.c0,hb'.c1,hb'.c2,hb'.c3,hb'.ca,A3a hb',A2a hb',A1a hb',A4c,A3d,A4d,A0g,A1g,A0c,A9b,A2d,A5d,A0d,arc0,arc1,arc2,arc3,arc4,end0,end1,f1,f10,f11,f12,Option.map_some,A4a,hlt,decide_true,hia,hc,hres]
  by_cases h1:N.arcs[i].cost < 0
  ·simp only [↓Sh.dn,sx,Nat.reduceBEq,reduceCtorEq,Nat.reduceEqDiff,h1,decide_true,hres,hbad (by simp [h1]),hk1.trans hk3]
  simp only [↓Sh.dn,sx,Nat.reduceBEq,reduceCtorEq,Nat.reduceEqDiff,A4c,A3d,A4d,A0g,A1g,A0c,A9b,A2d,A5d,A0d,arc0,arc1,arc2,arc3,arc4,end0,end1,f1,h1,decide_false]
  by_cases h2:m < N.arcs[i].cost
  ·simp only [↓Sh.dn,sx,Nat.reduceBEq,reduceCtorEq,Nat.reduceEqDiff,h2,decide_true,hres,hbad (by simp [h2]),hk1.trans hk3]
  simp only [↓Sh.dn,sx,Nat.reduceBEq,reduceCtorEq,Nat.reduceEqDiff,f12,h2,decide_false,wrap_succ hlt hsm.ar]
  refine k _ _ (by repeat (first | refine Same.put ?_ rfl | exact Same.rfl' _)) (by simp only [↓Sh.dn,sx,Nat.reduceBEq,reduceCtorEq,Nat.reduceEqDiff]) ⟨hk3,?_⟩
  rw [List.take_add_one,List.getElem?_eq_getElem hlt]
  simp only [Option.toList,List.any_append,hall,List.any_cons,List.any_nil,Bool.or_false,h1,h2,decide_false]
 ·rintro F H' hF f12 ⟨hk,hall⟩
  have f2:=hF 2 rfl
  have f11:=hF 11 rfl
  simp only [↓Sh.dn,sx,Nat.reduceBEq,reduceCtorEq,Nat.reduceEqDiff] at f2 f11
  rw [List.take_length] at hall
  have hb':=hb1.kept hk1.wf hk
  simp only [↓Sh.dn,sx,Nat.reduceBEq,reduceCtorEq,Nat.reduceEqDiff,hb'.c0,hb'.c1,hb'.c2,hb'.c3,hb'.ca,A3a hb',A2a hb',A1a hb',f2,f11,f12,A4a,Nat.lt_irrefl,decide_false]
  refine A9f N.ends.length 29 (List.range' 29 14++[4,8]) (fun i F H''=>Kept H' H''∧(N.ends.take i).any (fun a=>decide (a.cost < 0) || decide (m < a.cost))=false) (by simp only [↓Sh.dn,sx,Nat.reduceBEq,reduceCtorEq,Nat.reduceEqDiff]) ⟨Kept.refl hk.wf,rfl⟩ ?_ ?_
  ·rintro i F2 H'' hlt hF2 f29 ⟨hk2',hall2⟩ k
   have g1:=hF2 1 rfl
   have h1':=hF 1 rfl
   have g27:=hF2 27 rfl
   have g28:=hF2 28 rfl
   simp only [↓Sh.dn,sx,Nat.reduceBEq,reduceCtorEq,Nat.reduceEqDiff] at g1 g27 g28 h1'
   have hbx:=hb'.kept hk.wf hk2'
   have hb3:=hbx.new hk2'.wf 2 (N.ends[i].cells)
   have hk3:=hk2'.news 2 (N.ends[i].cells)
   have hkk:=(hk1.trans hk).trans hk3
   obtain ⟨g,o,kk,hia,hc,hcc⟩:=hbx.hen.at Tryz.underlying24 A8o (i:=i) (x:=N.ends[i].cells) (by simp [hlt]) .i64
   clear hcc
   have hbad:(decide (N.ends[i].cost < 0) || decide (m < N.ends[i].cost))=true→A5v N m=true:=fun h=>by
    rw [A5v,List.any_eq_true.2 ⟨_,List.getElem_mem hlt,h⟩,Bool.or_true]
   simp only [↓Sh.dn,sx,Nat.reduceBEq,reduceCtorEq,Nat.reduceEqDiff,hbx.c0,hbx.c1,hbx.c2,hbx.c3,hbx.ca,A3a hbx,A2a hbx,A1a hbx,A4c,A3d,A4d,A0g,A1g,A0c,A9b,A2d,A5d,A0d,arc0,arc1,arc2,arc3,arc4,end0,end1,g1,h1',g27,g28,f29,A4a,hlt,decide_true,hia,hc,Option.map_some]
   by_cases h1:N.ends[i].cost < 0
   ·simp only [↓Sh.dn,sx,Nat.reduceBEq,reduceCtorEq,Nat.reduceEqDiff,h1,decide_true,hres,hbad (by simp [h1]),hkk]
   simp only [↓Sh.dn,sx,Nat.reduceBEq,reduceCtorEq,Nat.reduceEqDiff,A4c,A3d,A4d,A0g,A1g,A0c,A9b,A2d,A5d,A0d,arc0,arc1,arc2,arc3,arc4,end0,end1,g1,h1',f29,h1,decide_false]
   by_cases h2:m < N.ends[i].cost
   ·simp only [↓Sh.dn,sx,Nat.reduceBEq,reduceCtorEq,Nat.reduceEqDiff,h2,decide_true,hres,hbad (by simp [h2]),hkk]
   simp only [↓Sh.dn,sx,Nat.reduceBEq,reduceCtorEq,Nat.reduceEqDiff,f29,h2,decide_false,wrap_succ hlt hsm.en]
   refine k _ _ (by repeat (first | refine Same.put ?_ rfl | exact Same.rfl' _)) (by simp only [↓Sh.dn,sx,Nat.reduceBEq,reduceCtorEq,Nat.reduceEqDiff]) ⟨hk3,?_⟩
   rw [List.take_add_one,List.getElem?_eq_getElem hlt]
   simp only [Option.toList,List.any_append,hall2,List.any_cons,List.any_nil,Bool.or_false,h1,h2,decide_false]
  ·rintro F2 H'' hF2 f29 ⟨hk2',hall2⟩
   have g28:=hF2 28 rfl
   simp only [↓Sh.dn,sx,Nat.reduceBEq,reduceCtorEq,Nat.reduceEqDiff] at g28
   rw [List.take_length] at hall2
   simp only [↓Sh.dn,sx,Nat.reduceBEq,reduceCtorEq,Nat.reduceEqDiff,g28,f29,A4a,Nat.lt_irrefl,decide_false,hres,A5v,hall,hall2,(hk1.trans hk).trans hk2']
end Go.Proofs.YtnoengaghabmjaaGreat
/- What is wrong with a relation, by both. -/
namespace Go.Proofs.YtnoengaghabmjaaGreat
open Go Go.Proofs Go.Proofs.Sh
def A0j (N:NetD):Int:=if A2f N≠0 then A2f N else if NetD.free N=true then 0 else 6
theorem A4k {N:NetD} (h:A0j N=0):A6q N∧A2f N=0∧NetD.free N=true:=by
 unfold A0j at h
 split at h
 ·rename_i h1; exact absurd h h1
 ·rename_i h1
  split at h
  ·rename_i h2
   exact ⟨netOk (by simpa using h1),by simpa using h1,h2⟩
  ·cases h
theorem B5c (N:NetD):A5v N 0=!NetD.free N:=by
 unfold A5v NetD.free
 rw [Bool.not_and,List.not_all_eq_any_not,List.not_all_eq_any_not]
 have e:∀ c:Int,(decide (c < 0) || decide (0 < c))=!decide (c=0):=fun c=>by
  by_cases h:c=0
  ·subst h; rfl
  ·rw [decide_eq_false h,Bool.not_false,Bool.or_eq_true,decide_eq_true_eq,decide_eq_true_eq]; omega
 simp only [e]
theorem B9v {H:AH} {v:Value} {N:NetD} (h:A2p H v N) (hsm:A0f N) (hw:Wf H):
  Sh.Call Tryz.prog (knows 10) 28 [v] H (fun r H'=>Kept H H'∧r=.int .i64 (A0j N)):=by
 refine A1b rfl Tryz.func28 rfl (Nat.le_of_ble_eq_true rfl) ?_
 have hres:Tryz.f28.results.toList=[.tmp 2]:=rfl
 obtain ⟨sg,ar,en,rfl,hsg,har,hen⟩:=h
 have hb1:=NetBox.of (N:=N) hw hsg har hen
 have hk1:Kept H (H.new 4 [sg,.int .i64 N.states,ar,en]).2:=Kept.new hw 4 _
 simp only [↓Sh.dn,sx,Nat.reduceBEq,reduceCtorEq,Nat.reduceEqDiff,A1p hsg.isCell har.isCell hen.isCell]
 generalize H.next=gg at hb1 ⊢
 generalize (H.new 4 [sg,.int .i64 N.states,ar,en]).2=H1 at hb1 hk1 ⊢
 simp only [↓Sh.dn,sx,Nat.reduceBEq,reduceCtorEq,Nat.reduceEqDiff,hb1.c0,hb1.c1,hb1.c2,hb1.c3,hb1.ca,A3a hb1,A2a hb1,A1a hb1,Option.map_some]
 obtain ⟨r,H2,hd,hk2,rfl⟩:=C7b hb1.netAt hsm hk1.wf
 refine ⟨_,_,hd,?_⟩
 have hb2:=hb1.kept hk1.wf hk2
 have hk12:=hk1.trans hk2
 by_cases hE:A2f N=0
 case neg=>simp only [↓Sh.dn,sx,Nat.reduceBEq,reduceCtorEq,Nat.reduceEqDiff,hE,decide_false,hres,A0j,hk12]
 simp only [↓Sh.dn,sx,Nat.reduceBEq,reduceCtorEq,Nat.reduceEqDiff,hE,decide_true,hb2.c0,hb2.c1,hb2.c2,hb2.c3,hb2.ca,A3a hb2,A2a hb2,A1a hb2,Option.map_some]
 obtain ⟨r,H4,hd4,hk4,rfl⟩:=priced (m:=0) hb2.netAt hsm hk12.wf
 refine ⟨_,_,hd4,?_⟩
 cases hp:NetD.free N with
 | true=>simp only [↓Sh.dn,sx,Nat.reduceBEq,reduceCtorEq,Nat.reduceEqDiff,hres,A0j,hE,hp,B5c,hk12.trans hk4]
 | false=>simp only [↓Sh.dn,sx,Nat.reduceBEq,reduceCtorEq,Nat.reduceEqDiff,hres,A0j,hE,hp,B5c,hk12.trans hk4]
theorem B4o {H:AH} {v:Value} {N:NetD} (h:A2p H v N) (hsm:A0f N) (hw:Wf H):
  Sh.Call Tryz.prog (knows 10) 29 [v] H (fun r H'=>Kept H H'∧r=.int .i64 (A0j N)):=by
 refine A1b rfl Tryz.func29 rfl (Nat.le_of_ble_eq_true rfl) ?_
 have hres:Tryz.f29.results.toList=[.tmp 2]:=rfl
 obtain ⟨sg,ar,en,rfl,hsg,har,hen⟩:=h
 have hb1:=NetBox.of (N:=N) hw hsg har hen
 have hk1:Kept H (H.new 4 [sg,.int .i64 N.states,ar,en]).2:=Kept.new hw 4 _
 simp only [↓Sh.dn,sx,Nat.reduceBEq,reduceCtorEq,Nat.reduceEqDiff,A1p hsg.isCell har.isCell hen.isCell]
 generalize H.next=gg at hb1 ⊢
 generalize (H.new 4 [sg,.int .i64 N.states,ar,en]).2=H1 at hb1 hk1 ⊢
 simp only [↓Sh.dn,sx,Nat.reduceBEq,reduceCtorEq,Nat.reduceEqDiff,hb1.c0,hb1.c1,hb1.c2,hb1.c3,hb1.ca,A3a hb1,A2a hb1,A1a hb1,Option.map_some]
 obtain ⟨r,H2,hd,hk2,rfl⟩:=B4c hb1.netAt hsm hk1.wf
 refine ⟨_,_,hd,?_⟩
 have hb2:=hb1.kept hk1.wf hk2
 have hk12:=hk1.trans hk2
 by_cases hE:A2f N=0
 case neg=>simp only [↓Sh.dn,sx,Nat.reduceBEq,reduceCtorEq,Nat.reduceEqDiff,hE,decide_false,hres,A0j,hk12]
 simp only [↓Sh.dn,sx,Nat.reduceBEq,reduceCtorEq,Nat.reduceEqDiff,hE,decide_true,hb2.c0,hb2.c1,hb2.c2,hb2.c3,hb2.ca,A3a hb2,A2a hb2,A1a hb2,Option.map_some]
 obtain ⟨r,H4,hd4,rfl,hk4⟩:=isFree hb2.netAt hk12.wf hsm.ar hsm.en
 refine ⟨_,_,hd4,?_⟩
 cases hp:NetD.free N with
 | true=>simp only [↓Sh.dn,sx,Nat.reduceBEq,reduceCtorEq,Nat.reduceEqDiff,hres,A0j,hE,hp,hk12.trans hk4]
 | false=>simp only [↓Sh.dn,sx,Nat.reduceBEq,reduceCtorEq,Nat.reduceEqDiff,hres,A0j,hE,hp,hk12.trans hk4]
end Go.Proofs.YtnoengaghabmjaaGreat
/- What the net of a graph is as a relation. -/
namespace Go.Proofs.YtnoengaghabmjaaGreat
open Go Go.Proofs Go.Proofs.Sh
theorem grNow {H:AH} {X:Nat→Prop} {g:Nat} {sigma:List ByteArray} {rows:List (List (List Value))} {ends costs:List Int} (h:GrX H X g sigma rows ends costs) (hw:Wf H):GrX H (fun y=>X y∧y < H.next) g sigma rows ends costs:=by
 obtain ⟨sv,av,ev,cv,os,ot,oe,oc,vals,obs,h,ho⟩:=h
 refine ⟨sv,av,ev,cv,os,ot,oe,oc,vals,obs,h,fun y hy=>⟨ho y hy,?_⟩⟩
 rcases hy with rfl | hy | hy | hy | hy
 ·exact h.arr.lt hw
 ·exact h.sg.lt hw y hy
 ·exact h.jag.lt hw y hy
 ·exact h.en.lt hw y hy
 ·exact h.co.lt hw y hy
structure B3y (sigma:List ByteArray) (E:List (List GE)) (ends costs:List Int) (n:Nat) (M:NetD):Prop where
 sg:M.sigma=sigma
 st:M.states=(n:Int)
 al:M.arcs.length≤(E.map List.length).sum
 arc:∀ a,a∈M.arcs↔∃ (s:Nat) (r:List GE),E[s]?=some r∧∃ e∈r,a=A95 sigma s e
 el:M.ends.length≤n
 fin:∀ x,x∈M.ends↔∃ s:Nat,s < n∧0 < ends.getD s 0∧x=⟨(s:Int),costs.getD s 0⟩
structure B0j (sigma:List ByteArray) (E:List (List GE)) (ends costs:List Int) (n:Nat):Prop where
 le:E.length=n
 ln:ends.length=n
 lc:costs.length=n
 n1:1≤n
 n2:n≤3000
 to:∀ r∈E,∀ e∈r,e.1 < n∧e.2.1 < (sigma.length:Int)∧e.2.2.1 < (sigma.length:Int)∧e.2.2.2=0
 sum:(E.map List.length).sum≤60000
 zero:∀ s,costs.getD s 0=0
theorem A41 {sigma:List ByteArray} (hs:A3i sigma=0) {k:Int} (hk:k < (sigma.length:Int)):(A2s sigma k=⟨#[]⟩∨A2s sigma k∈sigma)∧(labT (A2s sigma k)).map (ixN sigma)=labN k:=by
 have hno:=C0b hs
 have hasc:=A0w hs
 have e0:(⟨#[]⟩:ByteArray)=A0p:=rfl
 unfold A2s labN
 by_cases h:k < 0
 ·rw [if_pos h,if_pos h]
  refine ⟨.inl rfl,?_⟩
  unfold labT
  rw [e0,if_pos rfl]; rfl
 ·rw [if_neg h,if_neg h]
  have hl:k.toNat < sigma.length:=by omega
  have hg:sigma[k.toNat]?=some sigma[k.toNat]:=List.getElem?_eq_getElem hl
  have e:sigma.getD k.toNat ⟨#[]⟩=sigma[k.toNat]:=by simp [List.getD,hl]
  rw [e]
  have hm:sigma[k.toNat]∈sigma:=List.getElem_mem hl
  refine ⟨.inr hm,?_⟩
  unfold labT
  rw [if_neg fun h=>hno (by rw [← h]; exact hm),Option.map_some]
  unfold ixN
  rw [A3w hasc hg]
  rfl
section
variable {sigma:List ByteArray} {E:List (List GE)} {ends costs:List Int} {n:Nat} {M:NetD}
theorem A76 (hM:B3y sigma E ends costs n M) (hR:B0j sigma E ends costs n) (hs:A3i sigma=0):A0j M=0:=by
 have h1:=hR.n1
 have h2:=hR.n2
 have h3:=hM.st
 have h4:=hM.al
 have h5:=hM.el
 have h6:=hR.sum
 have hsy:∀ k:Int,k < (sigma.length:Int)→A5i M (A2s sigma k)=false:=fun k hk=>by
  unfold A5i
  rw [hM.sg]
  rcases (A41 hs hk).1 with h | h
  ·rw [h]; simp
  ·simp [A8h.2 h]
 have hn:A2f M=0:=by
  unfold A2f
  rw [if_neg,if_neg,if_neg,if_neg,if_neg]
  ·intro h
   obtain ⟨e,he,hb⟩:=List.any_eq_true.1 h
   obtain ⟨s,h7,_,rfl⟩:=(hM.fin e).1 he
   simp only [A5n,Bool.or_eq_true,decide_eq_true_eq] at hb
   omega
  ·intro h
   obtain ⟨a,ha,hb⟩:=List.any_eq_true.1 h
   obtain ⟨s,r,hr,e,he,rfl⟩:=(hM.arc a).1 ha
   obtain ⟨k1,k2,k3,k4⟩:=hR.to r (List.mem_of_getElem? hr) e he
   have hsl:=(List.getElem?_eq_some_iff.1 hr).1
   have hle:=hR.le
   simp only [A2h,A95,hsy _ k2,hsy _ k3,Bool.or_eq_true,decide_eq_true_eq,Bool.false_eq_true,or_false] at hb
   rcases hb with ((hb | hb) | hb) | hb <;> have hb2:=of_decide_eq_true hb <;> omega
  ·omega
  ·rw [hM.sg]; simp [hs]
  ·simp only [A0l,Bool.or_eq_true,decide_eq_true_eq]; omega
 unfold A0j
 rw [if_neg (by simp [hn]),if_pos]
 simp only [NetD.free,Bool.and_eq_true,List.all_eq_true,decide_eq_true_eq]
 refine ⟨fun a ha=>?_,fun e he=>?_⟩
 ·obtain ⟨s,r,hr,e,he,rfl⟩:=(hM.arc a).1 ha
  exact (hR.to r (List.mem_of_getElem? hr) e he).2.2.2
 ·obtain ⟨s,_,_,rfl⟩:=(hM.fin e).1 he
  exact hR.zero s
theorem B5b (hM:B3y sigma E ends costs n M) (hR:B0j sigma E ends costs n) (hsl:sigma.length≤1048576) (hsx:∀ x∈sigma,x.size≤1048576):A0f M:=by
 have h1:=hR.n2
 have h4:=hM.al
 have h5:=hM.el
 have h6:=hR.sum
 exact ⟨by rw [hM.sg]; exact hsl,by omega,by omega,by rw [hM.sg]; exact hsx⟩
theorem C4a (hM:B3y sigma E ends costs n M) (hR:B0j sigma E ends costs n) (hs:A3i sigma=0):A0q (A3m M)=A0q E:=by
 obtain ⟨hok,_,_⟩:=A4k (A76 hM hR hs)
 funext s a b t
 apply propext
 rw [B6c hok]
 have hsg:=hM.sg
 rw [hsg]
 constructor
 ·rintro ⟨_,_,⟨c,hc,h1,rfl,rfl,h2⟩,rfl,rfl⟩
  obtain ⟨s',r,hr,e,he,rfl⟩:=(hM.arc c).1 hc
  obtain ⟨k1,k2,k3,k4⟩:=hR.to r (List.mem_of_getElem? hr) e he
  have hss:s'=s:=by
   have:((s':Nat):Int)=(s:Int):=h1
   omega
  subst hss
  have htt:e.1=t:=by
   have:((e.1:Nat):Int)=(t:Int):=h2
   omega
  exact ⟨r,hr,e,he,htt,(A41 hs k2).2.symm,(A41 hs k3).2.symm⟩
 ·rintro ⟨r,hr,e,he,rfl,rfl,rfl⟩
  obtain ⟨k1,k2,k3,k4⟩:=hR.to r (List.mem_of_getElem? hr) e he
  exact ⟨_,_,⟨A95 sigma s e,(hM.arc _).2 ⟨s,r,hr,e,he,rfl⟩,rfl,rfl,rfl,rfl⟩,(A41 hs k2).2.symm,(A41 hs k3).2.symm⟩
def endP (ends:List Int) (t:Nat):Prop:=0 < ends.getD t 0
theorem B9f (hM:B3y sigma E ends costs n M) (hR:B0j sigma E ends costs n) (hs:A3i sigma=0) (x y:List ByteArray):
  A9p M x y↔((∀ z∈x,z∈sigma)∧∀ z∈y,z∈sigma)∧RelP (A0q E) (endP ends) (x.map (ixN sigma)) (y.map (ixN sigma)):=by
 obtain ⟨hok,_,_⟩:=A4k (A76 hM hR hs)
 have key:∀ (hx:∀ z∈x,z∈sigma) (hy:∀ z∈y,z∈sigma),A9p M x y↔RelP (A0q E) (endP ends) (x.map (ixN sigma)) (y.map (ixN sigma)):=fun hx hy=>by
  rw [← A68 hok (by rw [hM.sg]; exact hx) (by rw [hM.sg]; exact hy),C4a hM hR hs,hM.sg]
  unfold RelP
  refine exists_congr fun t=>and_congr_left fun _=>?_
  rw [C8f hok]
  unfold NetD.isEnd endP
  constructor
  ·rintro ⟨e,he,h1⟩
   obtain ⟨s,h2,h3,rfl⟩:=(hM.fin e).1 he
   have:((s:Nat):Int)=(t:Int):=h1
   have:s=t:=by omega
   rw [← this]; exact h3
  ·intro h1
   refine ⟨_,(hM.fin _).2 ⟨t,?_,h1,rfl⟩,rfl⟩
   have hln:=hR.ln
   rcases Nat.lt_or_ge t ends.length with h2 | h2
   ·omega
   ·rw [List.getD_eq_getElem?_getD,List.getElem?_eq_none h2] at h1
    exact absurd h1 (Int.lt_irrefl 0)
 constructor
 ·intro h
  have hsy:=A58 hok h
  rw [hM.sg] at hsy
  exact ⟨hsy,(key hsy.1 hsy.2).1 h⟩
 ·rintro ⟨h1,h2⟩
  exact (key h1.1 h1.2).2 h2
end
theorem B0h {N:NetD} (hok:A6q N) (x y:List ByteArray):A9p N x y↔((∀ z∈x,z∈N.sigma)∧∀ z∈y,z∈N.sigma)∧RelP (A0q (A3m N)) (endP (A7l N N.ends)) (x.map (ixN N.sigma)) (y.map (ixN N.sigma)):=by
 constructor
 ·intro h
  have hsy:=A58 hok h
  exact ⟨hsy,(A68 hok hsy.1 hsy.2).2 h⟩
 ·rintro ⟨h1,h2⟩
  exact (A68 hok h1.1 h1.2).1 h2
end Go.Proofs.YtnoengaghabmjaaGreat
/- graph.Either: the graph of the words of two. -/
namespace Go.Proofs.YtnoengaghabmjaaGreat
open Go Go.Proofs Go.Proofs.Sh
end Go.Proofs.YtnoengaghabmjaaGreat
/- The sides of a net's edges: the first symbol alone, the second alone. -/
namespace Go.Proofs.YtnoengaghabmjaaGreat
open Go Go.Proofs Go.Proofs.Sh
end Go.Proofs.YtnoengaghabmjaaGreat
/- rel.first and rel.second: a struct with a function. -/
namespace Go.Proofs.YtnoengaghabmjaaGreat
open Go Go.Proofs Go.Proofs.Sh
theorem B7x {H:AH} {v:Value} (hv:isCell v=true):anew Tryz.prog 61 H (.agg #[v])=some (.pointer (some ⟨H.next,0,some 0⟩),(H.new 1 [v]).2):=A1o (vs:=[v]) B7w rfl (by simp [hv])
theorem C8k {H:AH} {v:Value} {p:Addr} (hv:isCell v=true):A9g Tryz.prog 61 H (.agg #[v]) (.pointer (some p))=H.write p [v]:=A7p (vs:=[v]) B7w rfl (by simp [hv])
theorem sideOver {H:AH} {a b:Value}:(H.new 1 [a]).2.write ⟨H.next,0,some 0⟩ [b]=some (H.new 1 [b]).2:=A8r rfl
theorem C3f {v:Value} (hv:isCell v=true):A5l Tryz.prog 61 [(0,v)]=some (.agg #[v]):=bld_61 hv
end Go.Proofs.YtnoengaghabmjaaGreat
/- A graph's edges with other sides. -/
namespace Go.Proofs.YtnoengaghabmjaaGreat
open Go Go.Proofs Go.Proofs.Sh
def B1d (f:GE→Int×Int) (e:GE):GE:=(e.1,(f e).1,(f e).2,e.2.2.2)
def A4r (f:GE→Int×Int) (E:List (List GE)):List (List GE):=E.map fun r=>r.map (B1d f)
theorem C5h (f:GE→Int×Int) (E:List (List GE)):(A4r f E).length=E.length:=by unfold A4r; rw [List.length_map]
theorem C3g {f:GE→Int×Int} {E:List (List GE)} {n:Nat} (h:∀ r∈E,∀ e∈r,e.1 < n):∀ r∈A4r f E,∀ e∈r,e.1 < n:=by
 intro r hr e he
 obtain ⟨r0,h1,rfl⟩:=List.mem_map.1 hr
 obtain ⟨e0,h2,rfl⟩:=List.mem_map.1 he
 exact h r0 h1 e0 h2
theorem turn_ok {f:GE→Int×Int} {E:List (List GE)} {n:Nat} {m:Int} (hf:∀ e:GE,e.2.1 < m→e.2.2.1 < m→(f e).1 < m∧(f e).2 < m) (h:∀ r∈E,∀ e∈r,e.1 < n∧e.2.1 < m∧e.2.2.1 < m∧e.2.2.2=0):∀ r∈A4r f E,∀ e∈r,e.1 < n∧e.2.1 < m∧e.2.2.1 < m∧e.2.2.2=0:=by
 intro r hr e he
 obtain ⟨r0,h1,rfl⟩:=List.mem_map.1 hr
 obtain ⟨e0,h2,rfl⟩:=List.mem_map.1 he
 obtain ⟨q1,q2,q3,q4⟩:=h r0 h1 e0 h2
 obtain ⟨p1,p2⟩:=hf e0 q2 q3
 exact ⟨q1,p1,p2,q4⟩
theorem turn_sum (f:GE→Int×Int) (E:List (List GE)):((A4r f E).map List.length).sum=(E.map List.length).sum:=by
 unfold A4r
 rw [List.map_map]
 congr 1
 exact List.map_congr_left fun r _=>by simp
theorem turn_row {f:GE→Int×Int} {E:List (List GE)} {n k:Nat} (h:∀ r∈E,r.length≤k∧∀ e∈r,e.1 < n):∀ r∈A4r f E,r.length≤k∧∀ e∈r,e.1 < n:=by
 intro r hr
 refine ⟨?_,C3g (fun r hr=>(h r hr).2) r hr⟩
 obtain ⟨r0,h1,rfl⟩:=List.mem_map.1 hr
 rw [List.length_map]
 exact (h r0 h1).1
end Go.Proofs.YtnoengaghabmjaaGreat
/- (rel.side).turned: a graph whose edges have other sides. -/
namespace Go.Proofs.YtnoengaghabmjaaGreat
open Go Go.Proofs Go.Proofs.Sh
theorem set_mid {α:Type} (A C:List α) (x y:α):(A++x :: C).set A.length y=A++y :: C:=by
 rw [List.set_append_right _ _ (Nat.le_refl _),Nat.sub_self]; rfl
theorem C6l {α:Type} (A C:List α) (x:α):(A++x :: C)[A.length]?=some x:=by
 rw [List.getElem?_append_right (Nat.le_refl _),Nat.sub_self]; rfl
theorem A66 {α:Type} {n i:Nat} (h:i < n) (x:α):List.replicate (n - i) x=x :: List.replicate (n - (i+1)) x:=by
 rw [show n - i=(n - (i+1))+1 by omega]; rfl
theorem C7m {H:AH} {Y:Nat→Prop} {g2 n fid:Nat} {sigma:List ByteArray} {E:List (List GE)} {ends costs:List Int} (f:GE→Int×Int) (h2:GrX H Y g2 sigma (A7c E) ends costs)
  (hp:∀ {H:AH} (e:GE),Wf H→Sh.Call Tryz.prog (knows 10) fid [.agg (A8c e).toArray] H (fun r H'=>Kept H H'∧r=.tuple #[.int .i64 (f e).1,.int .i64 (f e).2]))
  (hE:E.length=n) (he2:ends.length=n) (hc2:costs.length=n) (hn1:1≤n) (hn:n≤3000) (hsl:sigma.length≤1048576) (hto:∀ r∈E,r.length≤60000∧∀ e∈r,e.1 < n) (hw:Wf H):
  Sh.Call Tryz.prog (knows 10) 75 [.agg #[.func (.func fid) #[] #[]],.pointer (some ⟨g2,0,some 0⟩)] H (fun r H'=>Kept H H'∧∃ g,∃ X:Nat→Prop,r=.pointer (some ⟨g,0,some 0⟩)∧GrX H' X g sigma (A7c (A4r f E)) ends costs):=by
 refine A1b rfl Tryz.func75 rfl (Nat.le_of_ble_eq_true rfl) ?_
 have hres:Tryz.f75.results.toList=[.tmp 4]:=rfl
 have hc:isCell (Value.func (.func fid) #[] #[])=true:=rfl
 have k1:=Kept.new hw 1 [Value.func (.func fid) #[] #[]]
 have cs:(H.new 1 [Value.func (.func fid) #[] #[]]).2.cells ⟨H.next,0,some 0⟩ 1=some [Value.func (.func fid) #[] #[]]:=(Sh.Obj.new (H:=H) 1 _).cells (i:=0) (n:=1) (by simp)
 have cs1:(H.new 1 [Value.func (.func fid) #[] #[]]).2.cell ⟨H.next,0,some 0⟩=some (Value.func (.func fid) #[] #[]):=A2k _ _ _
 have h4:=(grNow h2 hw).kept hw k1
 have hy1:∀ y,Y y∧y < H.next→y < (H.new 1 [Value.func (.func fid) #[] #[]]).2.next:=fun y hy=>Nat.lt_of_lt_of_le hy.2 k1.next
 simp only [↓Sh.dn,sx,Nat.reduceBEq,reduceCtorEq,Nat.reduceEqDiff,B7x hc]
 generalize H.next=gs at cs cs1 h4 hy1 ⊢
 generalize (H.new 1 [Value.func (.func fid) #[] #[]]).2=H1 at cs cs1 k1 h4 hy1 ⊢
 obtain ⟨Z,hZ⟩:∃ Z:Nat→Prop,(fun y=>H1.next≤y)=Z:=⟨_,rfl⟩
 have hZi:∀ {y},Z y↔H1.next≤y:=fun {y}=>by rw [← hZ]
 obtain ⟨sv,av,ev,cv,vals,hst⟩:=GrX.steady (X:=Z) h4 k1.wf fun y hy h=>by
  have:=hy1 y hy
  rw [hZi] at h
  omega
 have hR0:=hst H1 (Chg.refl k1.wf)
 have c0:=hR0.arr.cell 0
 have c1:=hR0.arr.cell 1
 have hlen:∀ {H'},Chg Z H1 H'→∀ H'',A6a Tryz.prog .len [123] [av] H''=some (.int .i64 (n:Int),H''):=fun hc H''=>by
  rw [(hst _ hc).jag.sl.len Tryz.underlying123,List.length_map,(hst _ hc).jag.len]; unfold A7c; rw [List.length_map,hE]
 have hlen1:=hlen (Chg.refl k1.wf) H1
 have qv0:=hR0.sg.veq
 obtain ⟨r3,H3,hd3,hk3,g,rfl,hG3⟩:=A6w (n:=n) hR0.sg hsl (by omega) k1.wf
 have hc3:Chg Z H1 H3:=hk3.chg (X:=Z)
 have c13:=(hst H3 hc3).arr.cell 1
 have hlen3:=hlen hc3 H3
 have hX3:GrX H3 Z g sigma (List.replicate n []) (List.replicate n 0) (List.replicate n 0):=(hG3.own hk3.wf).mono fun y hy=>hZi.2 hy.1
 have hNZ:∀ {H'},Chg Z H1 H'→∀ y,Z y∨H'.next≤y→Z y:=fun hc y hy=>by
  rcases hy with hy | hy
  ·exact hy
  ·exact hZi.2 (Nat.le_trans hc.next hy)
 have hpg:∀ {H'},Chg Z H1 H'→PG H' g2 n 60000 E ends sv av ev cv vals sigma costs:=fun hc=>⟨hst _ hc,hE,he2,hn1,hn,fun s r hr=>hto r (List.mem_of_getElem? hr)⟩
 have hcs:∀ {H'},Chg Z H1 H'→H'.cells ⟨gs,0,some 0⟩ 1=some [Value.func (.func fid) #[] #[]]∧H'.cell ⟨gs,0,some 0⟩=some (Value.func (.func fid) #[] #[]):=fun {H'} hc=>by
  have hk:Kept H1 H':=(Kept.refl k1.wf).then (Nat.le_refl _) (hc.weak fun y hy=>hZi.1 hy)
  exact ⟨A1m (hk.grow k1.wf) cs,A1e (hk.grow k1.wf) cs1⟩
 refine (B9k (by kernel_rfl)).2 ?_
 simp only [↓Sh.dn,sx,Nat.reduceBEq,reduceCtorEq,Nat.reduceEqDiff,c0,c1,hlen1]
 refine ⟨_,_,hd3,?_⟩
 simp only [↓Sh.dn,sx,Nat.reduceBEq,reduceCtorEq,Nat.reduceEqDiff,c13,hlen3]
 refine A9f n 27 (List.range' 27 60++[6,7,9,10,11]) (fun i F H'=>Chg Z H1 H'∧GrX H' Z g sigma (A7c (A4r f (E.take i))++List.replicate (n - i) []) (ends.take i++List.replicate (n - i) 0) (costs.take i++List.replicate (n - i) 0)) (by simp only [↓Sh.dn,sx,Nat.reduceBEq,reduceCtorEq,Nat.reduceEqDiff]) ⟨hc3,by simpa [A7c,A4r] using hX3⟩ ?_ ?_
 ·rintro i F H' hi hF f27 ⟨hc,hG⟩ k
  have f1:=hF 1 rfl
  have f2:=hF 2 rfl
  have f5:=hF 5 rfl
  have f25:=hF 25 rfl
  have f26:=hF 26 rfl
  simp only [↓Sh.dn,sx,Nat.reduceBEq,reduceCtorEq,Nat.reduceEqDiff] at f1 f2 f5 f25 f26
  have hiE:i < E.length:=by omega
  have hr:E[i]?=some E[i]:=List.getElem?_eq_getElem hiE
  obtain ⟨hrl',hrt⟩:=hto E[i] (List.getElem_mem hiE)
  have htE:E.take (i+1)=E.take i++[E[i]]:=by rw [List.take_add_one,hr]; rfl
  generalize E[i]=r at hr hrl' hrt htE
  obtain ⟨D,hD⟩:∃ D,A7c (A4r f (E.take i))=D:=⟨_,rfl⟩
  have hDl:D.length=i:=by rw [← hD]; simp [A7c,A4r]; omega
  rw [hD,A66 hi,A66 hi] at hG
  have hel':(ends.take i).length=i:=by rw [List.length_take]; omega
  have hcl':(costs.take i).length=i:=by rw [List.length_take]; omega
  obtain ⟨pr,wr,hiar,hcr,hsr,hlr⟩:=PG.row (hpg hc) hr
  have hvl:i < vals.length:=by rw [hR0.jag.len]; unfold A7c; rw [List.length_map]; omega
  have key:∀ {Hx wx},Chg Z H1 Hx→Hx.cell pr=some wx→wx=vals[i]:=by
   intro Hx wx hcx hx
   obtain ⟨p',h1,h2⟩:=Sl.elem (s:=1) Tryz.underlying123 A8q (hst Hx hcx).jag.sl (i:=i) (u:=vals[i]) (by rw [List.getElem?_map,List.getElem?_eq_getElem hvl]; rfl)
   rw [hiar] at h1
   have e1:=Option.some.inj h1
   injection e1 with e1; injection e1 with e1
   subst e1
   rw [hx] at h2
   exact Option.some.inj h2
  simp only [↓Sh.dn,sx,Nat.reduceBEq,reduceCtorEq,Nat.reduceEqDiff,f25,f26,f27,A4a,hi,decide_true,hiar,hcr,hlr]
  refine A9f r.length 34 (List.range' 34 21++[9,10,11]) (fun q F'' H''=>Chg Z H1 H''∧GrX H'' Z g sigma (D++(((r.take q).map (B1d f)).map A8c) :: List.replicate (n - (i+1)) []) (ends.take i++0 :: List.replicate (n - (i+1)) 0) (costs.take i++0 :: List.replicate (n - (i+1)) 0)) (by simp only [↓Sh.dn,sx,Nat.reduceBEq,reduceCtorEq,Nat.reduceEqDiff]) ⟨hc,by simpa using hG⟩ ?_ ?_
  ·rintro q F'' H'' hq hF'' f34 ⟨hc2,hG2⟩ k2
   have g2':=hF'' 2 rfl
   have g5:=hF'' 5 rfl
   have g6:=hF'' 6 rfl
   have g32:=hF'' 32 rfl
   have g33:=hF'' 33 rfl
   simp only [↓Sh.dn,sx,Nat.reduceBEq,reduceCtorEq,Nat.reduceEqDiff,f2,f5] at g2' g5 g6 g32 g33
   obtain ⟨pr2,wr2,hia2,hcr2,hsr2,hlr2⟩:=PG.row (hpg hc2) hr
   rw [hiar] at hia2
   have e1:=Option.some.inj hia2
   injection e1 with e1; injection e1 with e1
   subst e1
   have hwr:wr2=wr:=(key hc2 hcr2).trans (key hc hcr).symm
   subst hwr
   obtain ⟨pe,hiae,hce⟩:=PG.edge hsr2 hq
   have hrq:r[q]∈r:=List.getElem_mem hq
   have htk:r.take (q+1)=r.take q++[r[q]]:=by rw [List.take_add_one,List.getElem?_eq_getElem hq]; rfl
   generalize r[q]=e at hce hrq htk
   have kn:=Kept.new hc2.wf 4 (A8c e)
   have hc3:=hc2.trans (kn.chg (X:=Z))
   have hG3:=hG2.kept hc2.wf kn
   have hga:Sh.Obj (H''.new 4 (A8c e)).2 H''.next 4 (A8c e) true:=Sh.Obj.new (H:=H'') 4 (A8c e)
   obtain ⟨rr,H5,hd5,hk5,rfl⟩:=hp e hc3.wf
   have hc5:=hc3.trans (hk5.chg (X:=Z))
   have hG5:=hG3.kept hc3.wf hk5
   have hga5:H5.cell ⟨H''.next,0,some 0⟩=some (.int .i64 (e.1:Int))∧H5.cell ⟨H''.next,3,some 0⟩=some (.int .i64 e.2.2.2):=⟨A1e (hk5.grow hc3.wf) ge0,A1e (hk5.grow hc3.wf) ge3⟩
   have hrow:(D++(((r.take q).map (B1d f)).map A8c) :: List.replicate (n - (i+1)) [])[i]?=some (((r.take q).map (B1d f)).map A8c):=by
    have:=C6l D (List.replicate (n - (i+1)) []) (((r.take q).map (B1d f)).map A8c)
    rwa [hDl] at this
   obtain ⟨rr,H6,hd6,hc6,hG6⟩:=C8l (x0:=(e.1:Int)) (x1:=(f e).1) (x2:=(f e).2) (x3:=e.2.2.2) hG5 hrow (by rw [List.length_map,List.length_map,List.length_take]; omega) hc5.wf
   have hcs3:=hcs hc3
   simp only [↓Sh.dn,sx,Nat.reduceBEq,reduceCtorEq,Nat.reduceEqDiff,f34,g2',g5,g6,g32,g33,hiae,hce,A4a,hq,decide_true,Option.map_some,B6d,A53,B6h,geAll,hcs3.1,hcs3.2]
   refine ⟨_,_,hd5,?_⟩
   simp only [↓Sh.dn,sx,Nat.reduceBEq,reduceCtorEq,Nat.reduceEqDiff,hga5.1,hga5.2,g5,g6]
   refine ⟨_,_,hd6,?_⟩
   simp only [↓Sh.dn,sx,Nat.reduceBEq,reduceCtorEq,Nat.reduceEqDiff,f34,A3b hq (Nat.le_trans hrl' (by decide))]
   refine k2 _ _ (by repeat (first | refine Same.put ?_ rfl | exact Same.rfl' _)) (by simp only [↓Sh.dn,sx,Nat.reduceBEq,reduceCtorEq,Nat.reduceEqDiff]) ⟨hc5.trans hc6,?_⟩
   have:=hG6.mono (hNZ hc5)
   have hs:=set_mid D (List.replicate (n - (i+1)) []) (((r.take q).map (B1d f)).map A8c) ((((r.take q).map (B1d f)).map A8c)++[[.int .i64 (e.1:Int),.int .i64 (f e).1,.int .i64 (f e).2,.int .i64 e.2.2.2]])
   rw [hDl] at hs
   rw [hs] at this
   rw [htk]
   simpa [A8c,B1d] using this
  ·rintro F'' H'' hF'' f34 ⟨hc2,hG2⟩
   rw [List.take_length] at hG2
   have g1:=hF'' 1 rfl
   have g5:=hF'' 5 rfl
   have g6:=hF'' 6 rfl
   have g27:=hF'' 27 rfl
   have g33:=hF'' 33 rfl
   simp only [↓Sh.dn,sx,Nat.reduceBEq,reduceCtorEq,Nat.reduceEqDiff,f1,f5,f27] at g1 g5 g6 g27 g33
   have hi2:i < ends.length:=by omega
   have hi3:i < costs.length:=by omega
   have hR2:=hst H'' hc2
   obtain ⟨evg,cvg,p1,p2,H6,H7,z1,z2,z3,zq,i1,i2,s1,s2,ch1,ch2,hG3⟩:=GrX.setEC (s:=i) hG2 hc2.wf (by simp [hel']) (by simp [hcl']) ends[i] costs[i]
   have hR3:=hst H6 (hc2.trans ch1)
   have y1:=hR2.arr.cell 2
   have y2:=hR2.arr.cell 3
   have y3:=hR3.arr.cell 3
   obtain ⟨pa,ia,ca⟩:=Sl.elem (s:=1) Tryz.underlying88 A0e hR2.en (i:=i) (u:=.int .i64 ends[i]) (by rw [List.getElem?_map,List.getElem?_eq_getElem hi2]; rfl)
   obtain ⟨pb,ib,cb⟩:=Sl.elem (s:=1) Tryz.underlying88 A0e hR2.co (i:=i) (u:=.int .i64 costs[i]) (by rw [List.getElem?_map,List.getElem?_eq_getElem hi3]; rfl)
   obtain ⟨pb',ib',cb'⟩:=Sl.elem (s:=1) Tryz.underlying88 A0e hR3.co (i:=i) (u:=.int .i64 costs[i]) (by rw [List.getElem?_map,List.getElem?_eq_getElem hi3]; rfl)
   rw [ib] at ib'
   have e1:=Option.some.inj ib'
   injection e1 with e1; injection e1 with e1
   subst e1
   have qv:=hR2.co.veq
   simp only [↓Sh.dn,sx,Nat.reduceBEq,reduceCtorEq,Nat.reduceEqDiff,f34,g33,A4a,Nat.lt_irrefl,decide_false]
   refine A6v (fl:=[(0,[]),(1,[]),(2,[]),(3,[]),(4,[]),(5,[]),(6,[]),(7,[]),(8,[]),(9,[]),(10,[]),(11,[]),(12,[]),(13,[]),(14,[]),(15,[]),(16,[]),(17,[]),(18,[]),(19,[]),(20,[]),(21,[]),(22,[]),(23,[]),(24,[]),(25,[]),(26,[]),(27,[])]) (by kernel_rfl) (by kernel_rfl) (by kernel_rfl) ?_
   simp only [↓Sh.dn,sx,Nat.reduceBEq,reduceCtorEq,Nat.reduceEqDiff,wpr,again,A2c,A3g,A6d,A2g,A8d,A6c,A5f,forall_eq,forall_eq',g1,g5,g6,g27,z1,z2,z3,zq,i1,i2,s1,s2,y1,y2,y3,qv,ia,ca,ib,cb,cb',A3b hi (Nat.le_trans hn (by decide))]
   refine k _ _ ?_ (by simp only [↓Sh.dn,sx,Nat.reduceBEq,reduceCtorEq,Nat.reduceEqDiff]) ⟨hc2.trans ch2,?_⟩
   ·repeat refine Same.put ?_ rfl
    exact Same.trans (by repeat (first | refine Same.put ?_ rfl | exact Same.rfl' _)) (hF''.sub rfl)
   ·have t1:ends.take (i+1)=ends.take i++[ends[i]]:=by rw [List.take_add_one,List.getElem?_eq_getElem hi2]; rfl
    have t2:costs.take (i+1)=costs.take i++[costs[i]]:=by rw [List.take_add_one,List.getElem?_eq_getElem hi3]; rfl
    have s3:=set_mid (ends.take i) (List.replicate (n - (i+1)) 0) 0 ends[i]
    rw [hel'] at s3
    have s4:=set_mid (costs.take i) (List.replicate (n - (i+1)) 0) 0 costs[i]
    rw [hcl'] at s4
    rw [s3,s4] at hG3
    rw [t1,t2,htE]
    have e2:A7c (A4r f (E.take i++[r]))=D++[(r.map (B1d f)).map A8c]:=by rw [← hD]; simp [A7c,A4r]
    rw [e2,List.append_assoc,List.append_assoc,List.append_assoc]
    exact hG3
 ·rintro F H' hF f27 ⟨hc,hG⟩
  have f5:=hF 5 rfl
  have f26:=hF 26 rfl
  simp only [↓Sh.dn,sx,Nat.reduceBEq,reduceCtorEq,Nat.reduceEqDiff] at f5 f26
  rw [Nat.sub_self,List.take_of_length_le (by omega),List.take_of_length_le (by omega),List.take_of_length_le (by omega)] at hG
  simp only [List.replicate_zero,List.append_nil] at hG
  simp only [↓Sh.dn,sx,Nat.reduceBEq,reduceCtorEq,Nat.reduceEqDiff,f5,f26,f27,A4a,Nat.lt_irrefl,decide_false,hres]
  exact ⟨k1.then k1.next (hc.weak fun y hy=>hZi.1 hy),g,rfl,Z,hG⟩
end Go.Proofs.YtnoengaghabmjaaGreat
/- (*graph.Graph).Image: the graph of the words below a word. -/
namespace Go.Proofs.YtnoengaghabmjaaGreat
open Go Go.Proofs Go.Proofs.Sh
def A0o (n:Nat) (w:List Nat) (i:Nat) (e:GE):List GE:=
 if e.2.1 < 0 then [(i * n+e.1,e.2.2.1,e.2.2.1,e.2.2.2)] else if (w[i]?).map (fun k:Nat=>(k:Int))=some e.2.1 then [((i+1) * n+e.1,e.2.2.1,e.2.2.1,e.2.2.2)] else []
def A2m (n:Nat) (w:List Nat) (i:Nat) (r:List GE):List GE:=r.flatMap (A0o n w i)
def B4x (n:Nat) (w:List Nat) (E:List (List GE)) (k:Nat):List GE:=A2m n w (k / n) (E.getD (k % n) [])
def imgP (n:Nat) (w:List Nat) (E:List (List GE)) (k:Nat):List (List GE):=(List.range k).map (B4x n w E)
def imgE (n:Nat) (w:List Nat) (E:List (List GE)):List (List GE):=imgP n w E ((w.length+1) * n)
theorem B70 (n:Nat) (w:List Nat) (E:List (List GE)) (k:Nat):(imgP n w E k).length=k:=by simp [imgP]
theorem B4t (n:Nat) (w:List Nat) (E:List (List GE)) (k:Nat):imgP n w E (k+1)=imgP n w E k++[B4x n w E k]:=by unfold imgP; rw [List.range_succ,List.map_append]; rfl
theorem A77 (n:Nat) (w:List Nat) (i:Nat) (r:List GE) (e:GE):A2m n w i (r++[e])=A2m n w i r++A0o n w i e:=by simp [A2m]
theorem A79 (n:Nat) (w:List Nat) (i:Nat) (r:List GE):(A2m n w i r).length≤r.length:=by
 have h1:∀ e,(A0o n w i e).length≤1:=fun e=>by
  unfold A0o
  split
  ·simp
  ·split <;> simp
 unfold A2m
 induction r with
 | nil=>simp
 | cons e r ih=>
  have:=h1 e
  rw [List.flatMap_cons,List.length_append,List.length_cons]
  omega
theorem C0c {H:AH} {Y:Nat→Prop} {g2 n:Nat} {sigma:List ByteArray} {E:List (List GE)} {ends costs:List Int} {wv:Value} {w:List Nat} (h2:GrX H Y g2 sigma (A7c E) ends costs) (hwv:Sl H wv 1 (w.map natC))
  (hE:E.length=n) (he2:ends.length=n) (hc2:costs.length=n) (hn1:1≤n) (hn:n≤3000) (hN:(w.length+1) * n≤100000) (hsl:sigma.length≤1048576) (hto:∀ r∈E,r.length≤60000∧∀ e∈r,e.1 < n) (hw:Wf H):
  Sh.Call Tryz.prog (knows 10) 94 [.pointer (some ⟨g2,0,some 0⟩),wv] H (fun r H'=>Kept H H'∧∃ g,r=.pointer (some ⟨g,0,some 0⟩)∧∃ X:Nat→Prop,GrX H' X g sigma (A7c (imgE n w E)) (List.replicate (w.length * n) 0++ends) (List.replicate (w.length * n) 0++costs)):=by
 refine A1b rfl Tryz.func94 rfl (Nat.le_of_ble_eq_true rfl) ?_
 have hres:Tryz.f94.results.toList=[.tmp 4]:=rfl
 have h4:=grNow h2 hw
 obtain ⟨Z,hZ⟩:∃ Z:Nat→Prop,(fun y=>H.next≤y)=Z:=⟨_,rfl⟩
 have hZi:∀ {y},Z y↔H.next≤y:=fun {y}=>by rw [← hZ]
 obtain ⟨sv,av,ev,cv,vals,hst⟩:=GrX.steady (X:=Z) h4 hw fun y hy h=>by
  have:=hy.2
  rw [hZi] at h
  omega
 have hkz:∀ {H'},Chg Z H H'→Kept H H':=fun hc=>(Kept.refl hw).then (Nat.le_refl _) (hc.weak fun y hy=>hZi.1 hy)
 have hR0:=hst H (Chg.refl hw)
 have c0:=hR0.arr.cell 0
 have c1:=hR0.arr.cell 1
 have hlen:∀ H'',A6a Tryz.prog .len [123] [av] H''=some (.int .i64 (n:Int),H''):=fun H''=>by
  rw [hR0.jag.sl.len Tryz.underlying123,List.length_map,hR0.jag.len]; unfold A7c; rw [List.length_map,hE]
 have hlenw:∀ H'',A6a Tryz.prog .len [88] [wv] H''=some (.int .i64 (w.length:Int),H''):=fun H''=>by
  rw [hwv.len Tryz.underlying88,List.length_map]
 obtain ⟨N,hNe⟩:∃ N,(w.length+1) * n=N:=⟨_,rfl⟩
 rw [hNe] at hN
 have hwl:w.length≤100000:=by
  have:(w.length+1) * 1≤(w.length+1) * n:=Nat.mul_le_mul_left _ hn1
  omega
 have hin:∀ {i:Nat},i≤w.length→i * n+n≤N:=fun {i} hi=>by
  rw [← hNe,← Nat.succ_mul]
  exact Nat.mul_le_mul_right n (by omega)
 obtain ⟨r3,H3,hd3,hk3,g,rfl,hG3⟩:=A6w (n:=N) hR0.sg hsl (by omega) hw
 have hc3:Chg Z H H3:=hk3.chg (X:=Z)
 have c13:=(hst H3 hc3).arr.cell 1
 have hX3:GrX H3 Z g sigma (List.replicate N []) (List.replicate N 0) (List.replicate N 0):=(hG3.own hk3.wf).mono fun y hy=>hZi.2 hy.1
 have hNZ:∀ {H'},Chg Z H H'→∀ y,Z y∨H'.next≤y→Z y:=fun hc y hy=>by
  rcases hy with hy | hy
  ·exact hy
  ·exact hZi.2 (Nat.le_trans hc.next hy)
 have hpg:∀ {H'},Chg Z H H'→PG H' g2 n 60000 E ends sv av ev cv vals sigma costs:=fun hc=>⟨hst _ hc,hE,he2,hn1,hn,fun s r hr=>hto r (List.mem_of_getElem? hr)⟩
 have wa:IntKind.wrap .i64 ((w.length:Int)+1)=((w.length+1:Nat):Int):=by rw [wrap64 (by omega) (by omega)]; omega
 have wm:IntKind.wrap .i64 (((w.length+1:Nat):Int) * (n:Int))=(N:Int):=by rw [← Int.natCast_mul,hNe,wrap64 (by omega) (by omega)]
 simp only [↓Sh.dn,sx,Nat.reduceBEq,reduceCtorEq,Nat.reduceEqDiff,c0,c1,hlen,hlenw,wa,wm]
 refine ⟨_,_,hd3,?_⟩
 refine A9f (w.length+1) 31 (List.range' 31 79++[7,8,9,11]) (fun i F H'=>Chg Z H H'∧GrX H' Z g sigma (A7c (imgP n w E (i * n))++List.replicate (N - i * n) []) (List.replicate N 0) (List.replicate N 0)) (by simp only [↓Sh.dn,sx,Nat.reduceBEq,reduceCtorEq,Nat.reduceEqDiff]) ⟨hc3,by simpa [A7c,imgP] using hX3⟩ ?_ ?_
 ·rintro i F H' hi hF f31 ⟨hc,hG⟩ k
  have f0:=hF 0 rfl
  have f1:=hF 1 rfl
  have f5:=hF 5 rfl
  have f6:=hF 6 rfl
  have f30:=hF 30 rfl
  simp only [↓Sh.dn,sx,Nat.reduceBEq,reduceCtorEq,Nat.reduceEqDiff] at f0 f1 f5 f6 f30
  have hi':i≤w.length:=by omega
  have hiN:=hin hi'
  have c1':=(hst H' hc).arr.cell 1
  simp only [↓Sh.dn,sx,Nat.reduceBEq,reduceCtorEq,Nat.reduceEqDiff,f0,f30,f31,A4a,hi,decide_true,c1',hlen]
  refine A9f n 39 (List.range' 39 70++[8,9,11]) (fun s F H'=>Chg Z H H'∧GrX H' Z g sigma (A7c (imgP n w E (i * n+s))++List.replicate (N - (i * n+s)) []) (List.replicate N 0) (List.replicate N 0)) (by simp only [↓Sh.dn,sx,Nat.reduceBEq,reduceCtorEq,Nat.reduceEqDiff]) ⟨hc,by simpa using hG⟩ ?_ ?_
  ·rintro s F2 H2 hs hF2 g39 ⟨hc2,hG2⟩ k2
   have g0:=hF2 0 rfl
   have g1:=hF2 1 rfl
   have g5:=hF2 5 rfl
   have g6:=hF2 6 rfl
   have g7:=hF2 7 rfl
   have g31:=hF2 31 rfl
   have g37:=hF2 37 rfl
   have g38:=hF2 38 rfl
   simp only [↓Sh.dn,sx,Nat.reduceBEq,reduceCtorEq,Nat.reduceEqDiff,f0,f1,f5,f6,f31] at g0 g1 g5 g6 g7 g31 g37 g38
   have hsE:s < E.length:=by omega
   have hr:E[s]?=some E[s]:=List.getElem?_eq_getElem hsE
   obtain ⟨hrl',hrt⟩:=hto E[s] (List.getElem_mem hsE)
   have hat:B4x n w E (i * n+s)=A2m n w i E[s]:=by
    unfold B4x
    have e1:(i * n+s) / n=i:=by rw [Nat.mul_comm,Nat.mul_add_div (by omega),Nat.div_eq_of_lt hs]; omega
    have e2:(i * n+s) % n=s:=by rw [Nat.mul_comm,Nat.mul_add_mod,Nat.mod_eq_of_lt hs]
    rw [e1,e2,List.getD_eq_getElem?_getD,hr]; rfl
   generalize E[s]=r at hr hrl' hrt hat
   obtain ⟨D,hD⟩:∃ D,A7c (imgP n w E (i * n+s))=D:=⟨_,rfl⟩
   have hDl:D.length=i * n+s:=by rw [← hD]; unfold A7c; rw [List.length_map,B70]
   rw [hD,A66 (by omega)] at hG2
   obtain ⟨pr,wr,hiar,hcr,hsr,hlr⟩:=PG.row (hpg hc2) hr
   have hvl:s < vals.length:=by rw [hR0.jag.len]; unfold A7c; rw [List.length_map]; omega
   have key:∀ {Hx wx},Chg Z H Hx→Hx.cell pr=some wx→wx=vals[s]:=by
    intro Hx wx hcx hx
    obtain ⟨p',h1,h2⟩:=Sl.elem (s:=1) Tryz.underlying123 A8q (hst Hx hcx).jag.sl (i:=s) (u:=vals[s]) (by rw [List.getElem?_map,List.getElem?_eq_getElem hvl]; rfl)
    rw [hiar] at h1
    have e1:=Option.some.inj h1
    injection e1 with e1; injection e1 with e1
    subst e1
    rw [hx] at h2
    exact Option.some.inj h2
   simp only [↓Sh.dn,sx,Nat.reduceBEq,reduceCtorEq,Nat.reduceEqDiff,g37,g38,g39,A4a,hs,decide_true,hiar,hcr,hlr]
   refine A9f r.length 46 (List.range' 46 62++[11]) (fun q F H'=>Chg Z H H'∧GrX H' Z g sigma (D++((A2m n w i (r.take q)).map A8c) :: List.replicate (N - (i * n+s+1)) []) (List.replicate N 0) (List.replicate N 0)) (by simp only [↓Sh.dn,sx,Nat.reduceBEq,reduceCtorEq,Nat.reduceEqDiff]) ⟨hc2,by simpa [A2m] using hG2⟩ ?_ ?_
   ·rintro q F3 H3 hq hF3 v46 ⟨hc3,hG3⟩ k3
    have v0:=hF3 0 rfl
    have v1:=hF3 1 rfl
    have v5:=hF3 5 rfl
    have v6:=hF3 6 rfl
    have v7:=hF3 7 rfl
    have v8:=hF3 8 rfl
    have v44:=hF3 44 rfl
    have v45:=hF3 45 rfl
    simp only [↓Sh.dn,sx,Nat.reduceBEq,reduceCtorEq,Nat.reduceEqDiff,g0,g1,g5,g6,g7] at v0 v1 v5 v6 v7 v8 v44 v45
    obtain ⟨pr2,wr2,hia2,hcr2,hsr2,hlr2⟩:=PG.row (hpg hc3) hr
    rw [hiar] at hia2
    have e1:=Option.some.inj hia2
    injection e1 with e1; injection e1 with e1
    subst e1
    have hwr:wr2=wr:=(key hc3 hcr2).trans (key hc2 hcr).symm
    subst hwr
    obtain ⟨pe,hiae,hce⟩:=PG.edge hsr2 hq
    have hrq:r[q]∈r:=List.getElem_mem hq
    have htk:r.take (q+1)=r.take q++[r[q]]:=by rw [List.take_add_one,List.getElem?_eq_getElem hq]; rfl
    generalize r[q]=e at hce hrq htk
    have kn:=Kept.new hc3.wf 4 (A8c e)
    have hc4:=hc3.trans (kn.chg (X:=Z))
    have hG4:=hG3.kept hc3.wf kn
    have het:=hrt e hrq
    have hrow:(D++((A2m n w i (r.take q)).map A8c) :: List.replicate (N - (i * n+s+1)) [])[i * n+s]?=some ((A2m n w i (r.take q)).map A8c):=by
     have:=C6l D (List.replicate (N - (i * n+s+1)) []) ((A2m n w i (r.take q)).map A8c)
     rwa [hDl] at this
    have hrll:((A2m n w i (r.take q)).map A8c).length≤1073741823:=by
     rw [List.length_map]
     have:=A79 n w i (r.take q)
     rw [List.length_take] at this
     omega
    have w1:IntKind.wrap .i64 ((i:Int) * (n:Int))=((i * n:Nat):Int):=by rw [← Int.natCast_mul,wrap64 (by omega) (by omega)]
    have w2:IntKind.wrap .i64 (((i * n:Nat):Int)+(s:Int))=((i * n+s:Nat):Int):=by rw [← Int.natCast_add,wrap64 (by omega) (by omega)]
    have w3:IntKind.wrap .i64 (((i * n:Nat):Int)+(e.1:Int))=((i * n+e.1:Nat):Int):=by rw [← Int.natCast_add,wrap64 (by omega) (by omega)]
    have put:∀ x0:Nat,∃ rr H5,Does Tryz.prog (knows 10) 119 [.pointer (some ⟨g,0,some 0⟩),.int .i64 ((i * n+s:Nat):Int),.int .i64 (x0:Int),.int .i64 e.2.2.1,.int .i64 e.2.2.1,.int .i64 e.2.2.2] (H3.new 4 (A8c e)).2 rr H5∧(A0o n w i e=[(x0,e.2.2.1,e.2.2.1,e.2.2.2)]→Chg Z H H5∧GrX H5 Z g sigma (D++((A2m n w i (r.take (q+1))).map A8c) :: List.replicate (N - (i * n+s+1)) []) (List.replicate N 0) (List.replicate N 0)):=fun x0=>by
     obtain ⟨rr,H5,hd5,hc5,hG5⟩:=C8l (x0:=(x0:Int)) (x1:=e.2.2.1) (x2:=e.2.2.1) (x3:=e.2.2.2) hG4 hrow hrll hc4.wf
     refine ⟨rr,H5,hd5,fun he=>⟨hc4.trans hc5,?_⟩⟩
     have:=hG5.mono (hNZ hc4)
     have hs':=set_mid D (List.replicate (N - (i * n+s+1)) []) ((A2m n w i (r.take q)).map A8c) ((A2m n w i (r.take q)).map A8c++[[.int .i64 (x0:Int),.int .i64 e.2.2.1,.int .i64 e.2.2.1,.int .i64 e.2.2.2]])
     rw [hDl] at hs'
     rw [hs'] at this
     rw [htk,A77,he]
     simpa [A8c] using this
    have skip:A0o n w i e=[]→Chg Z H (H3.new 4 (A8c e)).2∧GrX (H3.new 4 (A8c e)).2 Z g sigma (D++((A2m n w i (r.take (q+1))).map A8c) :: List.replicate (N - (i * n+s+1)) []) (List.replicate N 0) (List.replicate N 0):=fun he=>⟨hc4,by rw [htk,A77,he,List.append_nil]; exact hG4⟩
    simp only [↓Sh.dn,sx,Nat.reduceBEq,reduceCtorEq,Nat.reduceEqDiff,v46,v44,v45,hiae,hce,A4a,hq,decide_true,Option.map_some,B6d,A53,B6h,ge1]
    by_cases hneg:e.2.1 < 0
    ·obtain ⟨rr,H5,hd5,h5⟩:=put (i * n+e.1)
     obtain ⟨hc5,hG5⟩:=h5 (by unfold A0o; rw [if_pos hneg])
     simp only [↓Sh.dn,sx,Nat.reduceBEq,reduceCtorEq,Nat.reduceEqDiff,hneg,decide_true,v5,v6,v7,v8,ge0,ge2,ge3,w1,w2,w3]
     refine ⟨_,_,hd5,?_⟩
     simp only [↓Sh.dn,sx,Nat.reduceBEq,reduceCtorEq,Nat.reduceEqDiff,v46,A3b hq (Nat.le_trans hrl' (by decide))]
     exact k3 _ _ (by repeat (first | refine Same.put ?_ rfl | exact Same.rfl' _)) (by simp only [↓Sh.dn,sx,Nat.reduceBEq,reduceCtorEq,Nat.reduceEqDiff]) ⟨hc5,hG5⟩
    ·simp only [↓Sh.dn,sx,Nat.reduceBEq,reduceCtorEq,Nat.reduceEqDiff,hneg,decide_false]
     by_cases hiw:i < w.length
     ·obtain ⟨pw,iw,cw⟩:=natSl (P:=Tryz.prog) Tryz.underlying88 A0e (hwv.grow ((hkz hc4).grow hw)) hiw
      have hget:(w[i]?).map (fun k:Nat=>(k:Int))=some (w[i]:Int):=by rw [List.getElem?_eq_getElem hiw]; rfl
      by_cases heq:e.2.1=(w[i]:Int)
      ·obtain ⟨rr,H5,hd5,h5⟩:=put ((i+1) * n+e.1)
       obtain ⟨hc5,hG5⟩:=h5 (by unfold A0o; rw [if_neg hneg,hget,heq,if_pos rfl])
       have hiN2:=hin (i:=i+1) (by omega)
       have w4:IntKind.wrap .i64 ((i:Int)+1)=((i+1:Nat):Int):=by rw [wrap64 (by omega) (by omega)]; omega
       have w5:IntKind.wrap .i64 (((i+1:Nat):Int) * (n:Int))=(((i+1) * n:Nat):Int):=by rw [← Int.natCast_mul,wrap64 (by omega) (by omega)]
       have w6:IntKind.wrap .i64 ((((i+1) * n:Nat):Int)+(e.1:Int))=(((i+1) * n+e.1:Nat):Int):=by rw [← Int.natCast_add,wrap64 (by omega) (by omega)]
       simp only [↓Sh.dn,sx,Nat.reduceBEq,reduceCtorEq,Nat.reduceEqDiff,v1,v5,v6,v7,v8,hlenw,A4a,hiw,decide_true,ge0,ge1,ge2,ge3,iw,cw,heq,w1,w2,w4,w5,w6]
       refine ⟨_,_,hd5,?_⟩
       simp only [↓Sh.dn,sx,Nat.reduceBEq,reduceCtorEq,Nat.reduceEqDiff,v46,A3b hq (Nat.le_trans hrl' (by decide))]
       exact k3 _ _ (by repeat (first | refine Same.put ?_ rfl | exact Same.rfl' _)) (by simp only [↓Sh.dn,sx,Nat.reduceBEq,reduceCtorEq,Nat.reduceEqDiff]) ⟨hc5,hG5⟩
      ·obtain ⟨hc5,hG5⟩:=skip (by unfold A0o; rw [if_neg hneg,hget,if_neg (fun h=>heq (Option.some.inj h).symm)])
       simp only [↓Sh.dn,sx,Nat.reduceBEq,reduceCtorEq,Nat.reduceEqDiff,v1,v5,v6,v7,v8,hlenw,A4a,hiw,decide_true,ge1,iw,cw,heq,decide_false,v46,A3b hq (Nat.le_trans hrl' (by decide))]
       exact k3 _ _ (by repeat (first | refine Same.put ?_ rfl | exact Same.rfl' _)) (by simp only [↓Sh.dn,sx,Nat.reduceBEq,reduceCtorEq,Nat.reduceEqDiff]) ⟨hc5,hG5⟩
     ·obtain ⟨hc5,hG5⟩:=skip (by unfold A0o; rw [if_neg hneg,List.getElem?_eq_none (by omega)]; rfl)
      simp only [↓Sh.dn,sx,Nat.reduceBEq,reduceCtorEq,Nat.reduceEqDiff,v1,v5,v6,v7,v8,hlenw,A4a,hiw,decide_false,v46,A3b hq (Nat.le_trans hrl' (by decide))]
      exact k3 _ _ (by repeat (first | refine Same.put ?_ rfl | exact Same.rfl' _)) (by simp only [↓Sh.dn,sx,Nat.reduceBEq,reduceCtorEq,Nat.reduceEqDiff]) ⟨hc5,hG5⟩
   ·rintro F3 H3 hF3 v46 ⟨hc3,hG3⟩
    have v39:=hF3 39 rfl
    have v45:=hF3 45 rfl
    simp only [↓Sh.dn,sx,Nat.reduceBEq,reduceCtorEq,Nat.reduceEqDiff,g39] at v39 v45
    simp only [↓Sh.dn,sx,Nat.reduceBEq,reduceCtorEq,Nat.reduceEqDiff,v39,v45,v46,A4a,Nat.lt_irrefl,decide_false,A3b hs (Nat.le_trans hn (by decide))]
    refine k2 _ _ ?_ (by simp only [↓Sh.dn,sx,Nat.reduceBEq,reduceCtorEq,Nat.reduceEqDiff]) ⟨hc3,?_⟩
    ·repeat refine Same.put ?_ rfl
     exact Same.trans (by repeat (first | refine Same.put ?_ rfl | exact Same.rfl' _)) (hF3.sub rfl)
    ·rw [List.take_length] at hG3
     rw [← Nat.add_assoc,B4t,hat]
     have:A7c (imgP n w E (i * n+s)++[A2m n w i r])=D++[(A2m n w i r).map A8c]:=by rw [← hD]; simp [A7c]
     rw [this,List.append_assoc]
     exact hG3
  ·rintro F2 H2 hF2 g39 ⟨hc2,hG2⟩
   have g31:=hF2 31 rfl
   have g38:=hF2 38 rfl
   simp only [↓Sh.dn,sx,Nat.reduceBEq,reduceCtorEq,Nat.reduceEqDiff,f31] at g31 g38
   have wi:IntKind.wrap .i64 ((i:Int)+1)=((i+1:Nat):Int):=by rw [wrap64 (by omega) (by omega)]; omega
   simp only [↓Sh.dn,sx,Nat.reduceBEq,reduceCtorEq,Nat.reduceEqDiff,g31,g38,g39,A4a,Nat.lt_irrefl,decide_false,wi]
   refine k _ _ ?_ (by simp only [↓Sh.dn,sx,Nat.reduceBEq,reduceCtorEq,Nat.reduceEqDiff]) ⟨hc2,?_⟩
   ·repeat refine Same.put ?_ rfl
    exact Same.trans (by repeat (first | refine Same.put ?_ rfl | exact Same.rfl' _)) (hF2.sub rfl)
   ·rw [Nat.succ_mul]; exact hG2
 ·rintro F H' hF f31 ⟨hc,hG⟩
  have f0:=hF 0 rfl
  have f1:=hF 1 rfl
  have f5:=hF 5 rfl
  have f6:=hF 6 rfl
  have f30:=hF 30 rfl
  simp only [↓Sh.dn,sx,Nat.reduceBEq,reduceCtorEq,Nat.reduceEqDiff] at f0 f1 f5 f6 f30
  obtain ⟨B,hB⟩:∃ B,w.length * n=B:=⟨_,rfl⟩
  have hBN:B+n=N:=by rw [← hB,← hNe,Nat.succ_mul]
  rw [hNe,Nat.sub_self,List.replicate_zero,List.append_nil] at hG
  have hGE:A7c (imgP n w E N)=A7c (imgE n w E):=by unfold imgE; rw [hNe]
  rw [hGE] at hG
  rw [hB]
  simp only [↓Sh.dn,sx,Nat.reduceBEq,reduceCtorEq,Nat.reduceEqDiff,f5,f30,f31,A4a,Nat.lt_irrefl,decide_false]
  refine A9f n 111 (List.range' 111 40++[12]) (fun s F H'=>Chg Z H H'∧GrX H' Z g sigma (A7c (imgE n w E)) (List.replicate B 0++(ends.take s++List.replicate (n - s) 0)) (List.replicate B 0++(costs.take s++List.replicate (n - s) 0))) (by simp only [↓Sh.dn,sx,Nat.reduceBEq,reduceCtorEq,Nat.reduceEqDiff]) ⟨hc,by simpa [hBN] using hG⟩ ?_ ?_
  ·rintro s F2 H2 hs hF2 g111 ⟨hc2,hG2⟩ k2
   have g0:=hF2 0 rfl
   have g1:=hF2 1 rfl
   have g5:=hF2 5 rfl
   have g6:=hF2 6 rfl
   have g110:=hF2 110 rfl
   simp only [↓Sh.dn,sx,Nat.reduceBEq,reduceCtorEq,Nat.reduceEqDiff,f0,f1,f5,f6] at g0 g1 g5 g6 g110
   rw [A66 hs] at hG2
   have hi2:s < ends.length:=by omega
   have hi3:s < costs.length:=by omega
   have hel':(ends.take s).length=s:=by rw [List.length_take]; omega
   have hcl':(costs.take s).length=s:=by rw [List.length_take]; omega
   have hR2:=hst H2 hc2
   obtain ⟨evg,cvg,p1,p2,H6,H7,z1,z2,z3,zq,i1,i2,s1,s2,ch1,ch2,hG3⟩:=GrX.setEC (s:=B+s) hG2 hc2.wf (by simp [hel']) (by simp [hcl']) ends[s] costs[s]
   have hR3:=hst H6 (hc2.trans ch1)
   have y1:=hR2.arr.cell 2
   have y2:=hR2.arr.cell 3
   obtain ⟨pa,ia,ca⟩:=Sl.elem (s:=1) Tryz.underlying88 A0e hR2.en (i:=s) (u:=.int .i64 ends[s]) (by rw [List.getElem?_map,List.getElem?_eq_getElem hi2]; rfl)
   obtain ⟨pb,ib,cb⟩:=Sl.elem (s:=1) Tryz.underlying88 A0e hR2.co (i:=s) (u:=.int .i64 costs[s]) (by rw [List.getElem?_map,List.getElem?_eq_getElem hi3]; rfl)
   have y3:=hR3.arr.cell 3
   obtain ⟨pb',ib',cb'⟩:=Sl.elem (s:=1) Tryz.underlying88 A0e hR3.co (i:=s) (u:=.int .i64 costs[s]) (by rw [List.getElem?_map,List.getElem?_eq_getElem hi3]; rfl)
   rw [ib] at ib'
   have e1:=Option.some.inj ib'
   injection e1 with e1; injection e1 with e1
   subst e1
   have qv:=hR2.co.veq
   have w1:IntKind.wrap .i64 ((w.length:Int) * (n:Int))=(B:Int):=by rw [← Int.natCast_mul,hB,wrap64 (by omega) (by omega)]
   have w2:IntKind.wrap .i64 ((B:Int)+(s:Int))=((B+s:Nat):Int):=by rw [← Int.natCast_add,wrap64 (by omega) (by omega)]
   simp only [↓Sh.dn,sx,Nat.reduceBEq,reduceCtorEq,Nat.reduceEqDiff,g110,g111,A4a,hs,decide_true]
   refine A6v (fl:=[(0,[]),(1,[]),(2,[]),(3,[]),(4,[]),(5,[]),(6,[]),(7,[]),(8,[]),(9,[]),(10,[]),(11,[]),(12,[]),(13,[]),(14,[]),(15,[]),(16,[]),(17,[]),(18,[]),(19,[]),(20,[]),(21,[]),(22,[]),(23,[]),(24,[]),(25,[]),(26,[]),(27,[]),(28,[]),(29,[]),(30,[]),(31,[]),(32,[]),(33,[]),(34,[]),(35,[15]),(36,[]),(37,[])]) (by kernel_rfl) (by kernel_rfl) (by kernel_rfl) ?_
   simp only [↓Sh.dn,sx,Nat.reduceBEq,reduceCtorEq,Nat.reduceEqDiff,wpr,again,A2c,A3g,A6d,A2g,A8d,A6c,A5f,forall_eq,forall_eq',g0,g1,g5,g6,hlenw,w1,w2,g111,z1,z2,z3,zq,i1,i2,s1,s2,y1,y2,y3,qv,ia,ca,ib,cb,cb',A3b hs (Nat.le_trans hn (by decide))]
   refine k2 _ _ (by repeat (first | refine Same.put ?_ rfl | exact Same.rfl' _)) (by simp only [↓Sh.dn,sx,Nat.reduceBEq,reduceCtorEq,Nat.reduceEqDiff]) ⟨hc2.trans ch2,?_⟩
   have t1:ends.take (s+1)=ends.take s++[ends[s]]:=by rw [List.take_add_one,List.getElem?_eq_getElem hi2]; rfl
   have t2:costs.take (s+1)=costs.take s++[costs[s]]:=by rw [List.take_add_one,List.getElem?_eq_getElem hi3]; rfl
   have s3:=set_mid (List.replicate B 0++ends.take s) (List.replicate (n - (s+1)) 0) 0 ends[s]
   rw [List.length_append,List.length_replicate,hel',List.append_assoc,List.append_assoc] at s3
   have s4:=set_mid (List.replicate B 0++costs.take s) (List.replicate (n - (s+1)) 0) 0 costs[s]
   rw [List.length_append,List.length_replicate,hcl',List.append_assoc,List.append_assoc] at s4
   rw [s3,s4] at hG3
   rw [t1,t2,List.append_assoc,List.append_assoc]
   exact hG3
  ·rintro F2 H2 hF2 g111 ⟨hc2,hG2⟩
   have g6:=hF2 6 rfl
   have g110:=hF2 110 rfl
   simp only [↓Sh.dn,sx,Nat.reduceBEq,reduceCtorEq,Nat.reduceEqDiff,f6] at g6 g110
   rw [Nat.sub_self,List.take_of_length_le (by omega),List.take_of_length_le (by omega)] at hG2
   simp only [List.replicate_zero,List.append_nil] at hG2
   simp only [↓Sh.dn,sx,Nat.reduceBEq,reduceCtorEq,Nat.reduceEqDiff,g6,g110,g111,A4a,Nat.lt_irrefl,decide_false,hres]
   exact ⟨hkz hc2,g,rfl,Z,hG2⟩
end Go.Proofs.YtnoengaghabmjaaGreat
/- slices.Clone. -/
namespace Go.Proofs.YtnoengaghabmjaaGreat
open Go Go.Proofs Go.Proofs.Sh
theorem B1y {H:AH} {v:Value} {l:List (List Value)} (hs:Sl H v 1 l) (hl:l.length≤1073741823) (hw:Wf H):
  Sh.Call Tryz.prog (knows 10) 147 [v] H (fun r H'=>Kept H H'∧∃ b,Buf H' 1 r l b∧∀ g,b=some g→H.next≤g):=by
 refine A1b rfl Tryz.func147 rfl (Nat.le_of_ble_eq_true rfl) ?_
 have hres:Tryz.f147.results.toList=[.tmp 2]:=rfl
 obtain ⟨a,cap,rfl,h2,h3,h4⟩:=id hs
 cases a with
 | none=>
  obtain ⟨rfl,rfl⟩:=h3 rfl
  simp only [↓Sh.dn,sx,Nat.reduceBEq,reduceCtorEq,Nat.reduceEqDiff,List.length_nil,Option.isNone_none,hres]
  exact ⟨Kept.refl hw,none,.void none,fun g h=>by cases h⟩
 | some a=>
  have hs1:=hs.grow (HGrow.new hw 1 [])
  have hk1:Kept H (H.new 1 []).2:=Kept.new hw 1 []
  obtain ⟨v',H',b',e1,e2,e3,e4⟩:=(Buf.void (H:=(H.new 1 []).2) (s:=1) (some ⟨H.next,0,some 0⟩)).append hk1.wf h2
  have happ:=app_88 (base:=some ⟨H.next,0,some 0⟩) (len:=0) (cap:=0) (hs1.srcKind Tryz.underlying88) hs1.newCells (by omega)
  have hk2:Kept (H.new 1 []).2 H':=e3.kept fun g hg h=>by cases h
  simp only [↓Sh.dn,sx,Nat.reduceBEq,reduceCtorEq,Nat.reduceEqDiff,Option.isNone_some,happ,e1,hres]
  refine ⟨hk1.trans hk2,b',by simpa using e2,fun g hg=>?_⟩
  rcases e4 with rfl | ⟨rfl,_⟩
  ·cases hg
  ·cases hg; exact Nat.le_succ _
theorem cloneInt {H:AH} {v:Value} {l:List (List Value)} (hs:Sl H v 1 l) (hl:l.length≤1048576) (hw:Wf H):
  Sh.Call Tryz.prog (knows 10) 147 [v] H (fun r H'=>Kept H H'∧∃ b,Buf H' 1 r l b∧∀ g,b=some g→H.next≤g):=B1y hs (Nat.le_trans hl (by decide)) hw
end Go.Proofs.YtnoengaghabmjaaGreat
/- (*graph.Graph).Back: the graph with its arcs the other way round. -/
namespace Go.Proofs.YtnoengaghabmjaaGreat
open Go Go.Proofs Go.Proofs.Sh
theorem C6d {H:AH} {g n:Nat} {E:List (List (Nat×Int×Int×Int))} {ends:List Int} {sv av ev cv:Value} {vals:List Value} {sigma:List ByteArray} {costs:List Int} (h:PG H g n 60000 E ends sv av ev cv vals sigma costs) (hsg:sigma.length≤1048576) (hw:Wf H):
  Sh.Call Tryz.prog (knows 10) 150 [.pointer (some ⟨g,0,some 0⟩)] H (fun r H'=>Kept H H'∧∃ g',r=.pointer (some ⟨g',0,some 0⟩)∧∃ R base,H.next≤base∧Gr H' base g' sigma (A7c R) (List.replicate n 0) (List.replicate n 0)∧R.length=n∧(∀ r∈R,r.length≤180000000∧∀ e∈r,e.1 < n)∧∀ p t s,A3p R p t s↔A3p E p s t):=by
 refine A1b rfl Tryz.func150 rfl (Nat.le_of_ble_eq_true rfl) ?_
 have hres:Tryz.f150.results.toList=[.tmp 2]:=rfl
 have hn2:=h.n2
 have hc0:=h.gr.arr.cell 0
 have hc1:=h.gr.arr.cell 1
 have hlenA:∀ H',A6a Tryz.prog .len [123] [av] H'=some (.int .i64 (n:Int),H'):=fun H'=>by
  rw [h.gr.jag.sl.len Tryz.underlying123,List.length_map,h.gr.jag.len]; unfold A7c; rw [List.length_map,h.le]
 obtain ⟨r1,H1,hd1,hk1,g1,rfl,hG1⟩:=A6w (n:=n) h.gr.sg hsg (by omega) hw
 simp only [↓Sh.dn,sx,Nat.reduceBEq,reduceCtorEq,Nat.reduceEqDiff]
 refine A6v (fl:=[(0,[]),(1,[]),(2,[]),(3,[]),(4,[]),(5,[]),(6,[]),(7,[]),(8,[]),(9,[]),(10,[])]) (by kernel_rfl) (by kernel_rfl) (by kernel_rfl) ?_
 simp only [↓Sh.dn,sx,Nat.reduceBEq,reduceCtorEq,Nat.reduceEqDiff,wpr,again,A2c,A3g,A6d,A2g,A8d,A6c,A5f,forall_eq,forall_eq',hc0,hc1,hlenA]
 refine ⟨_,_,hd1,?_⟩
 have hc1':=A1e (hk1.grow hw) hc1
 simp only [↓Sh.dn,sx,Nat.reduceBEq,reduceCtorEq,Nat.reduceEqDiff,wpr,again,A2c,A3g,A6d,A2g,A8d,A6c,A5f,forall_eq,forall_eq',hc1',hlenA]
 have hg0:A7c (List.replicate n ([]:List (Nat×Int×Int×Int)))=List.replicate n []:=by simp [A7c]
 rw [← hg0] at hG1
 refine A9f n 23 (List.range' 23 24++[4,5,7]) (fun i F H'=>Kept H H'∧∃ R,Gr H' H.next g1 sigma (A7c R) (List.replicate n 0) (List.replicate n 0)∧R.length=n∧(∀ r∈R,r.length≤i * 60000∧∀ e∈r,e.1 < n)∧∀ p t s,A3p R p t s↔s < i∧A3p E p s t) (by simp only [↓Sh.dn,sx,Nat.reduceBEq,reduceCtorEq,Nat.reduceEqDiff]) ⟨hk1,_,hG1,by simp,fun r hr=>by rw [List.eq_of_mem_replicate hr]; simp,fun p t s=>by
  constructor
  ·rintro ⟨r,h1,e,h2,_⟩
   rw [List.getElem?_replicate] at h1
   split at h1
   ·rw [← Option.some.inj h1] at h2; cases h2
   ·cases h1
  ·rintro ⟨h1,_⟩; exact absurd h1 (Nat.not_lt_zero _)⟩ ?_ ?_
 ·rintro i F H' hi hF f23 ⟨hk,R,hG,hRl,hRr,hiff⟩ k
  have f3:=hF 3 rfl
  have f21:=hF 21 rfl
  have f22:=hF 22 rfl
  simp only [↓Sh.dn,sx,Nat.reduceBEq,reduceCtorEq,Nat.reduceEqDiff] at f3 f21 f22
  obtain ⟨r,hr⟩:∃ r,E[i]?=some r:=⟨E[i]'(by rw [h.le]; exact hi),List.getElem?_eq_getElem _⟩
  obtain ⟨hrl,hrt⟩:=h.to i r hr
  obtain ⟨pr,wr,hiar,hcr,hsr,hlr⟩:=PG.row h hr
  have q2:=A1e (hk.grow hw) hcr
  simp only [↓Sh.dn,sx,Nat.reduceBEq,reduceCtorEq,Nat.reduceEqDiff,f21,f22,f23,A4a,hi,decide_true,hiar,q2,hlr]
  refine A9f r.length 30 (List.range' 30 16++[7]) (fun q F'' H''=>Kept H H''∧∃ R,Gr H'' H.next g1 sigma (A7c R) (List.replicate n 0) (List.replicate n 0)∧R.length=n∧(∀ r∈R,r.length≤i * 60000+q∧∀ e∈r,e.1 < n)∧∀ p t s,A3p R p t s↔s < i∧A3p E p s t∨s=i∧∃ e∈r.take q,e.1=t∧p e.2.1) (by simp only [↓Sh.dn,sx,Nat.reduceBEq,reduceCtorEq,Nat.reduceEqDiff]) ⟨hk,R,hG,hRl,fun r hr=>⟨Nat.le_trans (hRr r hr).1 (Nat.le_add_right _ _),(hRr r hr).2⟩,fun p t s=>by rw [hiff]; simp⟩ ?_ ?_
  ·rintro q F'' H'' hq hF'' f30 ⟨hk'',R,hG,hRl,hRr,hiff⟩ k2
   have g3:=hF'' 3 rfl
   have g4:=hF'' 4 rfl
   have g28:=hF'' 28 rfl
   have g29:=hF'' 29 rfl
   simp only [↓Sh.dn,sx,Nat.reduceBEq,reduceCtorEq,Nat.reduceEqDiff,f3] at g3 g4 g28 g29
   obtain ⟨pe,hiae,hce⟩:=PG.edge (hsr.grow (hk''.grow hw)) hq
   have hrq:r[q]∈r:=List.getElem_mem hq
   have htk:r.take (q+1)=r.take q++[r[q]]:=by rw [List.take_add_one,List.getElem?_eq_getElem hq]; rfl
   generalize r[q]=e at hce hrq htk
   have kn:=Kept.new hk''.wf 4 (A8c e)
   have hk3:=hk''.trans kn
   have hG3:=hG.kept hk''.wf kn
   obtain ⟨ro,hro2⟩:∃ ro,R[e.1]?=some ro:=⟨R[e.1]'(by rw [hRl]; exact hrt e hrq),List.getElem?_eq_getElem _⟩
   have hrow:(A7c R)[e.1]?=some (ro.map A8c):=by unfold A7c; rw [List.getElem?_map,hro2]; rfl
   obtain ⟨hrol,hrot⟩:=hRr ro (List.mem_of_getElem? hro2)
   obtain ⟨rr,H5,hd5,hc5,hG5⟩:=grArc (x0:=(i:Int)) (x1:=e.2.1) (x2:=e.2.2.1) (x3:=e.2.2.2) hG3 hrow (by rw [List.length_map]; omega) hk3.wf
   simp only [↓Sh.dn,sx,Nat.reduceBEq,reduceCtorEq,Nat.reduceEqDiff,f30,g3,g4,g28,g29,hiae,hce,A4a,hq,decide_true,Option.map_some,B6d,A53,B6h,ge0,ge1,ge2,ge3]
   refine ⟨_,_,hd5,?_⟩
   simp only [↓Sh.dn,sx,Nat.reduceBEq,reduceCtorEq,Nat.reduceEqDiff,f30,A3b hq (Nat.le_trans hrl (by decide))]
   have hrs:A7c (R.set e.1 (ro++[(i,e.2)]))=(A7c R).set e.1 (ro.map A8c++[[.int .i64 (i:Int),.int .i64 e.2.1,.int .i64 e.2.2.1,.int .i64 e.2.2.2]]):=by unfold A7c; rw [List.map_set]; simp [A8c]
   refine k2 _ _ (by repeat (first | refine Same.put ?_ rfl | exact Same.rfl' _)) (by simp only [↓Sh.dn,sx,Nat.reduceBEq,reduceCtorEq,Nat.reduceEqDiff]) ⟨hk3.then (Nat.le_refl _) hc5,R.set e.1 (ro++[(i,e.2)]),by rw [hrs]; exact hG5,by rw [List.length_set]; exact hRl,fun r' hr'=>?_,fun p t s=>?_⟩
   ·rcases List.mem_or_eq_of_mem_set hr' with h1 | h1
    ·have:=hRr r' h1; exact ⟨by omega,this.2⟩
    ·rw [h1]
     refine ⟨by rw [List.length_append]; simp; omega,fun e' he'=>?_⟩
     rcases List.mem_append.1 he' with h2 | h2
     ·exact hrot e' h2
     ·rw [List.mem_singleton.1 h2]; exact hi
   ·rw [C1a hro2,hiff,htk]
    simp only [List.mem_append,List.mem_singleton]
    constructor
    ·rintro ((h1 | ⟨h1,e',h2,h3⟩) | ⟨h1,h2,h3⟩)
     ·exact .inl h1
     ·exact .inr ⟨h1,e',.inl h2,h3⟩
     ·exact .inr ⟨h3,e,.inr rfl,h1.symm,h2⟩
    ·rintro (h1 | ⟨h1,e',h2 | h2,h3,h4⟩)
     ·exact .inl (.inl h1)
     ·exact .inl (.inr ⟨h1,e',h2,h3,h4⟩)
     ·subst h2; exact .inr ⟨h3.symm,h4,h1⟩
  ·rintro F'' H'' hF'' f30 ⟨hk'',R,hG,hRl,hRr,hiff⟩
   have g23:=hF'' 23 rfl
   have g29:=hF'' 29 rfl
   simp only [↓Sh.dn,sx,Nat.reduceBEq,reduceCtorEq,Nat.reduceEqDiff,f23] at g23 g29
   rw [List.take_length] at hiff
   simp only [↓Sh.dn,sx,Nat.reduceBEq,reduceCtorEq,Nat.reduceEqDiff,f30,g23,g29,A4a,Nat.lt_irrefl,decide_false,A3b hi (Nat.le_trans hn2 (by decide))]
   refine k _ _ ?_ (by simp only [↓Sh.dn,sx,Nat.reduceBEq,reduceCtorEq,Nat.reduceEqDiff]) ⟨hk'',R,hG,hRl,fun r' hr'=>?_,fun p t s=>?_⟩
   ·repeat refine Same.put ?_ rfl
    exact Same.trans (by repeat (first | refine Same.put ?_ rfl | exact Same.rfl' _)) (hF''.sub rfl)
   ·have:=hRr r' hr'; exact ⟨by omega,this.2⟩
   ·rw [hiff]
    constructor
    ·rintro (⟨h1,h2⟩ | ⟨h1,e,h2,h3⟩)
     ·exact ⟨by omega,h2⟩
     ·exact ⟨by omega,r,by rw [h1]; exact hr,e,h2,h3⟩
    ·rintro ⟨h1,h2⟩
     by_cases hs:s=i
     ·subst hs
      obtain ⟨r',h3,e,h4,h5⟩:=h2
      rw [hr] at h3
      exact .inr ⟨rfl,e,by rw [Option.some.inj h3]; exact h4,h5⟩
     ·exact .inl ⟨by omega,h2⟩
 ·rintro F H' hF f23 ⟨hk,R,hG,hRl,hRr,hiff⟩
  have f3:=hF 3 rfl
  have f22:=hF 22 rfl
  simp only [↓Sh.dn,sx,Nat.reduceBEq,reduceCtorEq,Nat.reduceEqDiff] at f3 f22
  simp only [↓Sh.dn,sx,Nat.reduceBEq,reduceCtorEq,Nat.reduceEqDiff,f3,f22,f23,A4a,Nat.lt_irrefl,decide_false,hres]
  refine ⟨hk,_,rfl,R,H.next,Nat.le_refl _,hG,hRl,fun r hr=>⟨by have:=(hRr r hr).1; omega,(hRr r hr).2⟩,fun p t s=>?_⟩
  rw [hiff]
  constructor
  ·exact fun h=>h.2
  ·rintro ⟨r,h1,h2⟩
   exact ⟨by rw [← h.le]; exact (List.getElem?_eq_some_iff.1 h1).1,r,h1,h2⟩
end Go.Proofs.YtnoengaghabmjaaGreat
/- (*graph.Graph).From, Lasting. -/
namespace Go.Proofs.YtnoengaghabmjaaGreat
open Go Go.Proofs Go.Proofs.Sh
def fitP (E:List (List (Nat×Int×Int×Int))) (p:Nat×Int×Int×Int→Bool) (s t:Nat):Prop:=∃ r,E[s]?=some r∧∃ e∈r,e.1=t∧p e=true
theorem B2f {H:AH} {g n rb:Nat} {E:List (List (Nat×Int×Int×Int))} {ends:List Int} {sv av ev cv u:Value} {vals:List Value} {sigma:List ByteArray} {costs:List Int} {L:List Nat} {fid:Nat} {caps:List Value} (p:Nat×Int×Int×Int→Bool)
  (h:PG H g n rb E ends sv av ev cv vals sigma costs) (hrb:rb≤4611686018427387904) (hL:Sl H u 1 (L.map natC)) (hlt:∀ t∈L,t < n) (hll:L.length≤3000) (hw:Wf H)
  (hp:∀ H',Kept H H'→∀ e,Sh.Call Tryz.prog (knows 10) fid (.agg (A8c e).toArray :: caps) H' (fun r H''=>Kept H' H''∧r=.bool (p e))):
  Sh.Call Tryz.prog (knows 10) 152 [.pointer (some ⟨g,0,some 0⟩),u,.func (.func fid) #[] caps.toArray] H (fun r H'=>Kept H H'∧∃ B:List Bool,∃ o,Buf H' 1 r (B.map A7x) o∧(∀ y,o=some y→H.next≤y)∧B.length=n∧∀ t:Nat,B[t]?=some true↔Clo (fitP E p) (fun s=>s∈L) t):=by
 refine A1b rfl Tryz.func152 rfl (Nat.le_of_ble_eq_true rfl) ?_
 have hres:Tryz.f152.results.toList=[.tmp 6]:=rfl
 have hn1:=h.n1
 have hn2:=h.n2
 have hc1:=h.gr.arr.cell 1
 have hlenA:∀ H',A6a Tryz.prog .len [123] [av] H'=some (.int .i64 (n:Int),H'):=fun H'=>by
  rw [h.gr.jag.sl.len Tryz.underlying123,List.length_map,h.gr.jag.len]; unfold A7c; rw [List.length_map,h.le]
 have hlenL:∀ H',A6a Tryz.prog .len [88] [u] H'=some (.int .i64 (L.length:Int),H'):=fun H'=>by
  rw [hL.len Tryz.underlying88,List.length_map]
 have hmk:=mk_66 (H:=H) (l:=n) (c:=n) (Nat.le_refl _) (by omega)
 have k1:=Kept.new hw 1 (List.replicate n (.bool false))
 have f1:=Buf.fill hw (.bool false) (c:=n) (by omega)
 obtain ⟨os,hos⟩:∃ os,(if n=0 then none else some H.next)=os:=⟨_,rfl⟩
 rw [hos] at f1
 have los:∀ y,os=some y→y=H.next:=by
  intro y hy
  rw [← hos,if_neg (by omega)] at hy
  exact (Option.some.inj hy).symm
 have hM1:MB (H.new 1 (List.replicate n (.bool false))).2 H.next n (.slice (some ⟨H.next,0,some 0⟩) n n) os (List.replicate n false) []:=
  ⟨Marks.empty n,by rw [List.map_replicate]; exact f1,fun y hy=>by rw [los y hy]; exact Nat.le_refl _⟩
 have hx1:H.next < (H.new 1 (List.replicate n (.bool false))).2.next:=Nat.lt_succ_self _
 simp only [↓Sh.dn,sx,Nat.reduceBEq,reduceCtorEq,Nat.reduceEqDiff,hc1,hlenA,hmk]
 generalize (Value.slice (some ⟨H.next,0,some 0⟩) n n)=mv at hM1 ⊢
 generalize (H.new 1 (List.replicate n (.bool false))).2=H1 at k1 hM1 hx1 ⊢
 obtain ⟨r1,H2,hd2,hk2,tb0,htb0,hft0⟩:=cloneInt (l:=L.map natC) (hL.grow (k1.grow hw)) (by rw [List.length_map]; omega) k1.wf
 refine ⟨_,_,hd2,?_⟩
 have hM2:=hM1.kept k1.wf hk2
 have hl2:LB H2 H.next os r1 L tb0:=⟨htb0,fun y hy=>by
  have:=hft0 y hy
  exact ⟨by omega,fun e=>by have:=los y e; omega⟩⟩
 simp only [↓Sh.dn,sx,Nat.reduceBEq,reduceCtorEq,Nat.reduceEqDiff,hlenL]
 refine A9f L.length 24 (List.range' 24 8++[10]) (fun i F H'=>Kept H H'∧∃ seen out,MB H' H.next n mv os seen out∧LB H' H.next os r1 L tb0∧∀ x,x∈out↔x∈L.take i) (by simp only [↓Sh.dn,sx,Nat.reduceBEq,reduceCtorEq,Nat.reduceEqDiff]) ⟨k1.trans hk2,_,_,hM2,hl2,fun x=>by simp⟩ ?_ ?_
 ·rintro i F H' hi hF f24 ⟨hk,seen,out,hM,hl,hiff⟩ k
  have f7:=hF 7 rfl
  have f22:=hF 22 rfl
  have f23:=hF 23 rfl
  simp only [↓Sh.dn,sx,Nat.reduceBEq,reduceCtorEq,Nat.reduceEqDiff] at f7 f22 f23
  obtain ⟨pa,hia,hc⟩:=natSl Tryz.underlying88 A0e (hL.grow (hk.grow hw)) hi
  have htn:L[i] < n:=hlt _ (List.getElem_mem hi)
  have htake:L.take (i+1)=L.take i++[L[i]]:=by rw [List.take_add_one,List.getElem?_eq_getElem hi]; rfl
  generalize L[i]=t at hc htn htake
  obtain ⟨p2,H3,seen',out',e1,e2,e3,e4,e5⟩:=hM.put Tryz.underlying66 A8p hk.wf htn
  have st:A9g Tryz.prog 4 H' (.bool true) (.pointer (some p2))=some H3:=by rw [A5h A8p rfl]; exact e2
  simp only [↓Sh.dn,sx,Nat.reduceBEq,reduceCtorEq,Nat.reduceEqDiff,f7,f22,f23,f24,A4a,hi,decide_true,hia,hc,e1,st,A3b hi (Nat.le_trans hll (by decide))]
  refine k _ _ (by repeat (first | refine Same.put ?_ rfl | exact Same.rfl' _)) (by simp only [↓Sh.dn,sx,Nat.reduceBEq,reduceCtorEq,Nat.reduceEqDiff]) ⟨hk.then (Nat.le_refl _) (e4.weak fun y hy=>hM.fr y hy),seen',out',e3,hl.chg hk.wf e4 fun y hy=>hy,fun x=>?_⟩
  rw [e5,hiff,htake,List.mem_append,List.mem_singleton]
 ·rintro F H' hF f24 ⟨hk,seen,out,hM,hl,hiff⟩
  have f0:=hF 0 rfl
  have f2:=hF 2 rfl
  have f7:=hF 7 rfl
  have f8:=hF 8 rfl
  have f23:=hF 23 rfl
  simp only [↓Sh.dn,sx,Nat.reduceBEq,reduceCtorEq,Nat.reduceEqDiff] at f0 f2 f7 f8 f23
  rw [List.take_length] at hiff
  simp only [↓Sh.dn,sx,Nat.reduceBEq,reduceCtorEq,Nat.reduceEqDiff,f23,f24,A4a,Nat.lt_irrefl,decide_false]
  have hout0:=hM.ms.le
  refine A2u (m:=(n - out.length) * 2+L.length) (fun m F H'=>F.get 0=some (.pointer (some ⟨g,0,some 0⟩))∧F.get 2=some (.func (.func fid) #[] caps.toArray)∧F.get 7=some mv∧Kept H H'∧∃ zt,F.get 8=some zt∧∃ seen out todo tb,m=(n - out.length) * 2+todo.length∧MB H' H.next n mv os seen out∧LB H' H.next os zt todo tb∧(∀ t∈todo,t∈out)∧todo.length≤L.length+out.length∧(∀ t∈L,t∈out)∧(∀ t∈out,Clo (fitP E p) (fun s=>s∈L) t)∧∀ s∈out,s∈todo∨∀ t,fitP E p s t→t∈out)
   ⟨by simp only [↓Sh.dn,sx,Nat.reduceBEq,reduceCtorEq,Nat.reduceEqDiff,f0],by simp only [↓Sh.dn,sx,Nat.reduceBEq,reduceCtorEq,Nat.reduceEqDiff,f2],by simp only [↓Sh.dn,sx,Nat.reduceBEq,reduceCtorEq,Nat.reduceEqDiff,f7],hk,r1,by simp only [↓Sh.dn,sx,Nat.reduceBEq,reduceCtorEq,Nat.reduceEqDiff,f8],seen,out,L,tb0,rfl,hM,hl,fun t ht=>(hiff t).2 ht,by omega,fun t ht=>(hiff t).2 ht,fun t ht=>.base ((hiff t).1 ht),fun s hs=>.inl ((hiff s).1 hs)⟩ ?_
  clear hk hM hl hiff f0 f2 f7 f8 f23 f24 hF hout0
  clear seen out
  clear F H'
  rintro m F H' ⟨f0,f2,f7,hk,zt,f8,seen,out,todo,tb,rfl,hM,hlt',hsub,htl,hLo,hco,hcl⟩ k
  have hout:=hM.ms.le
  have hlen:=hlt'.bf.toSl.len Tryz.underlying88 H'
  rw [List.length_map] at hlen
  rcases List.eq_nil_or_concat todo with h0 | ⟨td,s,h0⟩
  ·subst h0
   have h00:decide ((0:Int) < ((([]:List Nat).length:Nat):Int))=false:=rfl
   simp only [↓Sh.dn,sx,Nat.reduceBEq,reduceCtorEq,Nat.reduceEqDiff,f7,f8,hlen,h00,hres]
   refine ⟨hk,seen,os,hM.bf,hM.fr,hM.ms.len,fun t=>?_⟩
   rw [hM.ms.iff]
   exact Clo.iff hLo hco (fun s hs t ht=>((hcl s hs).resolve_left (by simp)) t ht) t
  ·rw [List.concat_eq_append] at h0
   subst h0
   have hpos:decide ((0:Int) < (((td++[s]).length:Nat):Int))=true:=by simp
   have wl:IntKind.wrap .i64 ((((td++[s]).length:Nat):Int) - 1)=(td.length:Int):=by
    rw [List.length_append,List.length_singleton] at htl ⊢
    rw [wrap64 (by omega) (by omega)]; omega
   obtain ⟨p1,hia1,hc1'⟩:=natSl Tryz.underlying88 A0e hlt'.bf.toSl (i:=td.length) (by simp)
   have hgs:(td++[s])[td.length]'(by simp)=s:=by simp
   rw [hgs] at hc1'
   have hbp:Buf H' 1 zt (td.map natC++[natC s]) tb:=by have:=hlt'.bf; rwa [List.map_append] at this
   obtain ⟨zt2,hsl,hb2⟩:=hbp.pop
   have hsl2:=hsl (P:=Tryz.prog) (H':=H') Tryz.underlying88 A0e
   rw [List.length_map] at hsl2
   have hlt2:LB H' H.next os zt2 td tb:=⟨hb2,hlt'.fr⟩
   have hso:s∈out:=hsub s (by simp)
   have hsn:s < n:=hM.ms.lt hso
   have hts:=hco s hso
   obtain ⟨r,hr⟩:∃ r,E[s]?=some r:=⟨E[s]'(by rw [h.le]; exact hsn),List.getElem?_eq_getElem _⟩
   obtain ⟨hrl,hrt⟩:=h.to s r hr
   obtain ⟨pr,wr,hiar,hcr,hsr,hlr⟩:=PG.row h hr
   have hpg:∀ {H'},Kept H H'→H'.cell ⟨g,1,some 0⟩=some av∧H'.cell pr=some wr∧Sl H' wr 4 (r.map A8c):=fun hk=>⟨A1e (hk.grow hw) hc1,A1e (hk.grow hw) hcr,hsr.grow (hk.grow hw)⟩
   obtain ⟨q1,q2,q3⟩:=hpg hk
   rw [List.length_append,List.length_singleton] at htl
   simp only [↓Sh.dn,sx,Nat.reduceBEq,reduceCtorEq,Nat.reduceEqDiff,f0,f7,f8,hlen,hpos,wl,hia1,hc1',hsl2,q1,hiar,q2,hlr]
   refine A9f r.length 54 (List.range' 54 25++[8,13]) (fun q F'' H''=>Kept H H''∧∃ zt',F''.get 8=some zt'∧∃ seen' out' td' tb',MB H'' H.next n mv os seen' out'∧LB H'' H.next os zt' td' tb'∧(∀ t∈td',t∈out')∧td'.length+out.length≤td.length+out'.length∧out.length≤out'.length∧(∀ t∈out,t∈out')∧(∀ t∈td,t∈td')∧(∀ t∈out',Clo (fitP E p) (fun s=>s∈L) t)∧(∀ x∈out',x∈out∨x∈td')∧∀ e∈r.take q,p e=true→e.1∈out') (by simp only [↓Sh.dn,sx,Nat.reduceBEq,reduceCtorEq,Nat.reduceEqDiff])
    ⟨hk,zt2,by simp only [↓Sh.dn,sx,Nat.reduceBEq,reduceCtorEq,Nat.reduceEqDiff],seen,out,td,tb,hM,hlt2,fun t ht=>hsub t (List.mem_append_left _ ht),Nat.le_refl _,Nat.le_refl _,fun t ht=>ht,fun t ht=>ht,hco,fun x hx=>.inl hx,fun e he=>by simp at he⟩ ?_ ?_
   ·rintro q F'' H'' hq hF'' f54 ⟨hk'',zt',f8',seen',out',td',tb',hM',hl',hsub',hle',hle2,hoo,htt,hco',hnew,hed⟩ k2
    have g2:=hF'' 2 rfl
    have g7:=hF'' 7 rfl
    have g52:=hF'' 52 rfl
    have g53:=hF'' 53 rfl
    simp only [↓Sh.dn,sx,Nat.reduceBEq,reduceCtorEq,Nat.reduceEqDiff,f2,f7] at g2 g7 g52 g53
    obtain ⟨q1,q2,q3⟩:=hpg hk''
    obtain ⟨pe,hiae,hce⟩:=PG.edge q3 hq
    have hrq:r[q]∈r:=List.getElem_mem hq
    have htake:r.take (q+1)=r.take q++[r[q]]:=by rw [List.take_add_one,List.getElem?_eq_getElem hq]; rfl
    generalize r[q]=e at hce hrq htake
    have kn:=Kept.new hk''.wf 4 (A8c e)
    have hk3:=hk''.trans kn
    obtain ⟨rp,H4,hd4,hk4,rfl⟩:=hp _ hk3 e
    have hk34:=hk3.trans hk4
    have hM4:=(hM'.kept hk''.wf kn).kept hk3.wf hk4
    have hl4:=(hl'.kept hk''.wf kn).kept hk3.wf hk4
    have ob:=(Sh.Obj.new (H:=H'') 4 (A8c e)).arr.keep (hk4.old _ (Nat.lt_succ_self _))
    have c0:H4.cell ⟨H''.next,0,some 0⟩=some (.int .i64 (e.1:Int)):=ob.cell 0
    have hgall:(H''.new 4 (A8c e)).2.cells ⟨H''.next,0,some 0⟩ 4=some (A8c e):=geAll
    have hout':=hM4.ms.le
    simp only [↓Sh.dn,sx,Nat.reduceBEq,reduceCtorEq,Nat.reduceEqDiff,f8',f54,g2,g7,g52,g53,hiae,hce,A4a,hq,decide_true,Option.map_some,B6d,A53,B6h,hgall]
    have hd4':Does Tryz.prog (knows 10) fid ([]++[.agg (A8c e).toArray]++caps) (H''.new 4 (A8c e)).2 (.bool (p e)) H4:=hd4
    refine ⟨_,_,by first | exact hd4 | exact hd4' | simpa using hd4,?_⟩
    have hnext : ∀ {seen2 : List Bool} {out2 td2 : List Nat} {tb2 : Option Nat} {z2 : Value} {F2 : Fr} {H2 : AH}, Same (List.range' 54 25 ++ [8, 13]) F'' F2 → F2.get 8 = some z2 → F2.get 54 = some (.int .i64 ((q + 1 : Nat) : Int)) → Kept H H2 → MB H2 H.next n mv os seen2 out2 → LB H2 H.next os z2 td2 tb2 → (out2 = out' ∧ td2 = td' ∨ out2 = out' ++ [e.1] ∧ td2 = td' ++ [e.1] ∧ p e = true) → (p e = true → e.1 ∈ out2) →
        wp Tryz.prog (knows 10) _ _ F2 H2 := fun {seen2 out2 td2 tb2 z2 F2 H2} a1 a2 a3 a4 a5 a6 a7 a8 => k2 F2 H2 a1 a3 ⟨a4, z2, a2, seen2, out2, td2, tb2, a5, a6, fun t ht => by
          rcases a7 with ⟨h1, h2⟩ | ⟨h1, h2, _⟩
          · rw [h1]; rw [h2] at ht; exact hsub' t ht
          · rw [h1]; rw [h2] at ht
            rcases List.mem_append.1 ht with h3 | h3
            · exact List.mem_append_left _ (hsub' t h3)
            · exact List.mem_append_right _ h3, by
          rcases a7 with ⟨h1, h2⟩ | ⟨h1, h2, _⟩
          · rw [h1, h2]; exact hle'
          · rw [h1, h2]; simp only [List.length_append, List.length_singleton]; omega, by
          rcases a7 with ⟨h1, h2⟩ | ⟨h1, h2, _⟩
          · rw [h1]; exact hle2
          · rw [h1]; simp only [List.length_append, List.length_singleton]; omega, fun t ht => by
          rcases a7 with ⟨h1, h2⟩ | ⟨h1, h2, _⟩
          · rw [h1]; exact hoo t ht
          · rw [h1]; exact List.mem_append_left _ (hoo t ht), fun t ht => by
          rcases a7 with ⟨h1, h2⟩ | ⟨h1, h2, _⟩
          · rw [h2]; exact htt t ht
          · rw [h2]; exact List.mem_append_left _ (htt t ht), fun t ht => by
          rcases a7 with ⟨h1, h2⟩ | ⟨h1, h2, h3⟩
          · rw [h1] at ht; exact hco' t ht
          · rw [h1] at ht
            rcases List.mem_append.1 ht with h4 | h4
            · exact hco' t h4
            · rw [List.mem_singleton.1 h4]; exact .step hts ⟨r, hr, e, hrq, rfl, h3⟩, fun x hx => by
          rcases a7 with ⟨h1, h2⟩ | ⟨h1, h2, h3⟩
          · rw [h1] at hx; rw [h2]; exact hnew x hx
          · rw [h1] at hx; rw [h2]
            rcases List.mem_append.1 hx with h4 | h4
            · exact (hnew x h4).imp id fun h5 => List.mem_append_left _ h5
            · exact .inr (List.mem_append_right _ h4), fun x hx hxp => by
          rw [htake] at hx
          rcases List.mem_append.1 hx with h2 | h2
          · have h5 := hed x h2 hxp
            rcases a7 with ⟨h1, _⟩ | ⟨h1, _, _⟩
            · rw [h1]; exact h5
            · rw [h1]; exact List.mem_append_left _ h5
          · rw [List.mem_singleton.1 h2] at hxp ⊢; exact a8 hxp⟩
    have hrl':r.length≤4611686018427387904:=Nat.le_trans hrl hrb
    cases hpe:p e with
    | false=>
     simp only [↓Sh.dn,sx,Nat.reduceBEq,reduceCtorEq,Nat.reduceEqDiff,f54,A3b hq hrl']
     exact hnext (by repeat (first | refine Same.put ?_ rfl | exact Same.rfl' _)) (by simp only [↓Sh.dn,sx,Nat.reduceBEq,reduceCtorEq,Nat.reduceEqDiff,f8']) (by simp only [↓Sh.dn,sx,Nat.reduceBEq,reduceCtorEq,Nat.reduceEqDiff]) hk34 hM4 hl4 (.inl ⟨rfl,rfl⟩) fun h=>by rw [hpe] at h; cases h
    | true=>
     by_cases hin:e.1∈out'
     ·obtain ⟨p5,hia5,hc5⟩:=hM4.see Tryz.underlying66 A8p (hrt e hrq)
      simp only [↓Sh.dn,sx,Nat.reduceBEq,reduceCtorEq,Nat.reduceEqDiff,c0,g7,hia5,hc5,hin,decide_true,f54,A3b hq hrl']
      exact hnext (by repeat (first | refine Same.put ?_ rfl | exact Same.rfl' _)) (by simp only [↓Sh.dn,sx,Nat.reduceBEq,reduceCtorEq,Nat.reduceEqDiff,f8']) (by simp only [↓Sh.dn,sx,Nat.reduceBEq,reduceCtorEq,Nat.reduceEqDiff]) hk34 hM4 hl4 (.inl ⟨rfl,rfl⟩) fun _=>hin
     ·obtain ⟨p3,H5,a,cap,w',H6,ob',e1,e2,e3,rfl,e5,e6,e7,e8,e9,e10,e11⟩:=markPush hk34 hM4 hl4 (hrt e hrq) hin (by omega)
      have c0':H5.cell ⟨H''.next,0,some 0⟩=some (.int .i64 (e.1:Int)):=(ob.keep (e11.old _ (Nat.lt_of_lt_of_le (Nat.lt_succ_self _) hk4.next) fun hy=>Nat.lt_irrefl _ (hM'.lt hk''.wf _ hy))).cell 0
      simp only [↓Sh.dn,sx,Nat.reduceBEq,reduceCtorEq,Nat.reduceEqDiff,c0,c0',g7,e1,e2,e3,f8',e6,e7,f54,A3b hq hrl']
      exact hnext (by repeat (first | refine Same.put ?_ rfl | exact Same.rfl' _)) (by simp only [↓Sh.dn,sx,Nat.reduceBEq,reduceCtorEq,Nat.reduceEqDiff]) (by simp only [↓Sh.dn,sx,Nat.reduceBEq,reduceCtorEq,Nat.reduceEqDiff]) e8 e9 e10 (.inr ⟨rfl,rfl,hpe⟩) fun _=>List.mem_append_right _ List.mem_cons_self
   ·rintro F'' H'' hF'' f54 ⟨hk'',zt',f8',seen',out',td',tb',hM',hl',hsub',hle',hle2,hoo,htt,hco',hnew,hed⟩
    have g0:=hF'' 0 rfl
    have g2:=hF'' 2 rfl
    have g7:=hF'' 7 rfl
    have g53:=hF'' 53 rfl
    simp only [↓Sh.dn,sx,Nat.reduceBEq,reduceCtorEq,Nat.reduceEqDiff,f0,f2,f7] at g0 g2 g7 g53
    rw [List.take_length] at hed
    have hout':=hM'.ms.le
    simp only [↓Sh.dn,sx,Nat.reduceBEq,reduceCtorEq,Nat.reduceEqDiff,f54,g53,A4a,Nat.lt_irrefl,decide_false]
    refine k ((n - out'.length) * 2+td'.length) _ _ (by rw [List.length_append,List.length_singleton]; omega) ⟨by simp only [↓Sh.dn,sx,Nat.reduceBEq,reduceCtorEq,Nat.reduceEqDiff,g0],by simp only [↓Sh.dn,sx,Nat.reduceBEq,reduceCtorEq,Nat.reduceEqDiff,g2],by simp only [↓Sh.dn,sx,Nat.reduceBEq,reduceCtorEq,Nat.reduceEqDiff,g7],hk'',zt',by simp only [↓Sh.dn,sx,Nat.reduceBEq,reduceCtorEq,Nat.reduceEqDiff,f8'],seen',out',td',tb',rfl,hM',hl',hsub',by omega,fun t ht=>hoo t (hLo t ht),hco',fun x hx=>?_⟩
    rcases hnew x hx with h1 | h1
    ·rcases hcl x h1 with h2 | h2
     ·rcases List.mem_append.1 h2 with h3 | h3
      ·exact .inl (htt x h3)
      ·right
       rw [List.mem_singleton.1 h3]
       rintro t ⟨r',hr2,e,he,he1,he2⟩
       rw [hr] at hr2
       rw [← Option.some.inj hr2] at he
       rw [← he1]
       exact hed e he he2
     ·exact .inr fun t ht=>hoo t (h2 t ht)
    ·exact .inl h1
theorem B8e {H:AH} {e:Nat×Int×Int×Int} (hw:Wf H):Sh.Call Tryz.prog (knows 10) 157 [.agg (A8c e).toArray] H (fun r H'=>Kept H H'∧r=.bool true):=by
 refine A1b rfl Tryz.func157 rfl (Nat.le_of_ble_eq_true rfl) ?_
 have hres:Tryz.f157.results.toList=[.tmp 2]:=rfl
 simp only [↓Sh.dn,sx,Nat.reduceBEq,reduceCtorEq,Nat.reduceEqDiff,geNew,hres,Kept.new hw 4 (A8c e)]
theorem B8j {H:AH} {g n:Nat} {E:List (List (Nat×Int×Int×Int))} {ends:List Int} {sv av ev cv:Value} {vals:List Value} {sigma:List ByteArray} {costs:List Int} (h:PG H g n 60000 E ends sv av ev cv vals sigma costs) (hsg:sigma.length≤1048576) (hw:Wf H):
  Sh.Call Tryz.prog (knows 10) 158 [.pointer (some ⟨g,0,some 0⟩)] H (fun r H'=>Kept H H'∧∃ B:List Bool,∃ o,Buf H' 1 r (B.map A7x) o∧(∀ y,o=some y→H.next≤y)∧B.length=n∧∀ t:Nat,B[t]?=some true↔Clo (fun s t=>A3p E (fun _=>True) t s) (fun s=>0 < ends.getD s 0) t):=by
 refine A1b rfl Tryz.func158 rfl (Nat.le_of_ble_eq_true rfl) ?_
 have hres:Tryz.f158.results.toList=[.tmp 2]:=rfl
 have hn2:=h.n2
 have hc2:=h.gr.arr.cell 2
 have hlenE:∀ H',A6a Tryz.prog .len [88] [ev] H'=some (.int .i64 (n:Int),H'):=fun H'=>by
  rw [h.gr.en.len Tryz.underlying88,List.length_map,h.ln]
 simp only [↓Sh.dn,sx,Nat.reduceBEq,reduceCtorEq,Nat.reduceEqDiff,hc2,hlenE]
 refine A9f n 11 (List.range' 11 12++[3,4,5]) (fun i F H'=>Kept H H'∧∃ z,F.get 3=some z∧∃ l ob,LB H' H.next none z l ob∧l.length≤i∧∀ t,t∈l↔t < i∧0 < ends.getD t 0) (by simp only [↓Sh.dn,sx,Nat.reduceBEq,reduceCtorEq,Nat.reduceEqDiff]) ⟨Kept.refl hw,_,by simp only [↓Sh.dn,sx,Nat.reduceBEq,reduceCtorEq,Nat.reduceEqDiff],[],none,⟨.void none,fun y hy=>by cases hy⟩,Nat.le_refl _,fun t=>by simp⟩ ?_ ?_
 ·rintro i F H' hi hF f11 ⟨hk,z,f3,l,ob,hl,hll,hiff⟩ k
  have f9:=hF 9 rfl
  have f10:=hF 10 rfl
  simp only [↓Sh.dn,sx,Nat.reduceBEq,reduceCtorEq,Nat.reduceEqDiff] at f9 f10
  have hil:i < ends.length:=by rw [h.ln]; exact hi
  obtain ⟨p,hia,hc⟩:=Sl.elem (s:=1) Tryz.underlying88 A0e (h.gr.en.grow (hk.grow hw)) (i:=i) (u:=.int .i64 ends[i]) (by rw [List.getElem?_map,List.getElem?_eq_getElem hil]; rfl)
  have hg:ends.getD i 0=ends[i]:=by simp [List.getD,List.getElem?_eq_getElem hil]
  simp only [↓Sh.dn,sx,Nat.reduceBEq,reduceCtorEq,Nat.reduceEqDiff,f9,f10,f11,A4a,hi,decide_true,hia,hc]
  by_cases hpos:0 < ends[i]
  ·obtain ⟨a,cap,w',H4,ob2,rfl,e1,e2,e3,e4,e5⟩:=C0m i hk (fun y hy=>by cases hy) hl (by omega)
   simp only [↓Sh.dn,sx,Nat.reduceBEq,reduceCtorEq,Nat.reduceEqDiff,hpos,decide_true,f3,f11,e1,e2,A3b hi (Nat.le_trans hn2 (by decide))]
   refine k _ _ (by repeat (first | refine Same.put ?_ rfl | exact Same.rfl' _)) (by simp only [↓Sh.dn,sx,Nat.reduceBEq,reduceCtorEq,Nat.reduceEqDiff]) ⟨e3,w',by simp only [↓Sh.dn,sx,Nat.reduceBEq,reduceCtorEq,Nat.reduceEqDiff],l++[i],ob2,e4,by simp; omega,fun t=>?_⟩
   rw [List.mem_append,List.mem_singleton,hiff]
   constructor
   ·rintro (⟨h1,h2⟩ | h1)
    ·exact ⟨by omega,h2⟩
    ·subst h1; exact ⟨by omega,by rw [hg]; exact hpos⟩
   ·rintro ⟨h1,h2⟩
    by_cases ht:t=i
    ·exact .inr ht
    ·exact .inl ⟨by omega,h2⟩
  ·simp only [↓Sh.dn,sx,Nat.reduceBEq,reduceCtorEq,Nat.reduceEqDiff,hpos,decide_false,f11,A3b hi (Nat.le_trans hn2 (by decide))]
   refine k _ _ (by repeat (first | refine Same.put ?_ rfl | exact Same.rfl' _)) (by simp only [↓Sh.dn,sx,Nat.reduceBEq,reduceCtorEq,Nat.reduceEqDiff]) ⟨hk,z,by simp only [↓Sh.dn,sx,Nat.reduceBEq,reduceCtorEq,Nat.reduceEqDiff,f3],l,ob,hl,by omega,fun t=>?_⟩
   rw [hiff]
   constructor
   ·rintro ⟨h1,h2⟩; exact ⟨by omega,h2⟩
   ·rintro ⟨h1,h2⟩
    by_cases ht:t=i
    ·subst ht; rw [hg] at h2; exact absurd h2 hpos
    ·exact ⟨by omega,h2⟩
 ·rintro F H' hF f11 ⟨hk,z,f3,l,ob,hl,hll,hiff⟩
  have f0:=hF 0 rfl
  have f10:=hF 10 rfl
  simp only [↓Sh.dn,sx,Nat.reduceBEq,reduceCtorEq,Nat.reduceEqDiff] at f0 f10
  obtain ⟨r4,H4,hd4,hk4,g',rfl,R,base,hbase,hG,hRl,hRr,hRg⟩:=C6d (h.kept hw hk) hsg hk.wf
  obtain ⟨sv',av',ev',cv',vals',hR⟩:=hG.read
  have hPG:PG H4 g' n 180000000 R (List.replicate n 0) sv' av' ev' cv' vals' sigma (List.replicate n 0):=⟨hR,hRl,by simp,h.n1,h.n2,fun s r hr=>hRr r (List.mem_of_getElem? hr)⟩
  obtain ⟨r5,H5,hd5,hk5,B,oB,hB,hBo,hBl,hBi⟩:=B2f (caps:=[]) (fid:=157) (fun _=>true) hPG (by decide) (hl.bf.toSl.grow (hk4.grow hk.wf)) (fun t ht=>((hiff t).1 ht).1) (by omega) hk4.wf (fun H' hk e=>B8e hk.wf)
  simp only [↓Sh.dn,sx,Nat.reduceBEq,reduceCtorEq,Nat.reduceEqDiff,f0,f3,f10,f11,A4a,Nat.lt_irrefl,decide_false]
  refine ⟨_,_,hd4,?_⟩
  refine ⟨_,_,hd5,?_⟩
  simp only [↓Sh.dn,sx,Nat.reduceBEq,reduceCtorEq,Nat.reduceEqDiff,hres]
  refine ⟨(hk.trans hk4).trans hk5,B,oB,hB,fun y hy=>Nat.le_trans (hk.trans hk4).next (hBo y hy),hBl,fun t=>?_⟩
  rw [hBi]
  have e1:fitP R (fun _=>true)=fun s t=>A3p E (fun _=>True) t s:=by
   funext s t
   apply propext
   rw [← hRg]
   unfold fitP A3p
   simp
  have e2:(fun s=>s∈l)=fun s=>0 < ends.getD s 0:=by
   funext s
   apply propext
   rw [hiff]
   constructor
   ·exact fun h=>h.2
   ·intro hs
    refine ⟨?_,hs⟩
    by_cases hn:s < n
    ·exact hn
    ·have:ends.getD s 0=0:=by rw [List.getD_eq_getElem?_getD,List.getElem?_eq_none (by rw [h.ln]; omega)]; rfl
     rw [this] at hs; omega
  rw [e1,e2]
end Go.Proofs.YtnoengaghabmjaaGreat
