/- A part of the proof: RefPair, RelPairs, GraphHolds, WordVal, RelHolds, LawRelKit, IsOver, DataIn. -/
import Derived.Test.YtnoengaghabmjaaGreatMClose2RelHolds10
import Derived.Test.YtnoengaghabmjaaGreatMClose2RelHolds11
import Derived.Test.YtnoengaghabmjaaGreatMClose2RelHolds6
import Derived.Test.YtnoengaghabmjaaGreatMClose2RelHolds8
import Derived.Test.YtnoengaghabmjaaGreatMClose2RelHolds9
import Derived.Test.YtnoengaghabmjaaGreatMClose2RelHolds2
import Derived.Test.YtnoengaghabmjaaGreatMClose2RelHolds1
import Derived.Test.YtnoengaghabmjaaGreatMClose2RelHolds7
import Derived.Test.YtnoengaghabmjaaGreatRows
set_option linter.unusedVariables false
set_option linter.unusedSimpArgs false
/- The reference's has and Pair: whether a net holds a pair. -/
set_option maxHeartbeats 4000000
set_option maxRecDepth 20000
set_option linter.unusedSimpArgs false
set_option linter.unusedVariables false
namespace Go.Proofs.YtnoengaghabmjaaGreat
open Go Go.Proofs Go.Proofs.Sh
theorem B4c {c:Bool} {a b:Nat×Nat}:abin Tryz.prog 83 c .eql (.agg (A8f a).toArray) (.agg (A8f b).toArray)=some (.bool (decide (a=b))):=by
 have h:=B3i a b
 unfold A40 at h
 unfold abin aeq A89
 simp only [B62,Bool.not_false,cond_true,h,Option.map_some]
theorem refHas {H:AH} {ul:Value} {L:List (Nat×Nat)} {p:Nat×Nat} (hl:Sl H ul 2 (L.map A8f)) (hLl:L.length≤1073741823) (hw:Wf H):
  Sh.Call Tryz.prog (knows 10) 48 [ul,.agg (A8f p).toArray] H (fun r H'=>Kept H H'∧r=.bool (decide (p∈L))):=by
 refine A3b rfl Tryz.func48 rfl (Nat.le_of_ble_eq_true rfl) ?_
 have hres:Tryz.f48.results.toList=[.tmp 4]:=rfl
 simp only [↓Sh.dn,sx,Nat.reduceBEq,reduceCtorEq,Nat.reduceEqDiff,spNew]
 have kn:=Kept.new hw 2 (A8f p)
 have ca:(H.new 2 (A8f p)).2.cells ⟨H.next,0,some 0⟩ 2=some (A8f p):=(Sh.Obj.new (H:=H) 2 (A8f p)).cells (i:=0) (n:=2) (by simp [A8f])
 have hl1:=hl.grow (kn.grow hw)
 generalize H.next=g at ca ⊢
 generalize (H.new 2 (A8f p)).2=H1 at kn ca hl1 ⊢
 have hlen:=fun H'=>hl1.len Tryz.underlying80 H'
 simp only [List.length_map] at hlen
 refine A8h L.length 5 (List.range' 5 20) (fun i F H'=>H'=H1∧p∉L.take i) (by simp only [↓Sh.dn,sx,Nat.reduceBEq,reduceCtorEq,Nat.reduceEqDiff]) ⟨rfl,by simp⟩ ?_ ?_
 ·rintro i F H' hi hF f5 ⟨rfl,hn⟩ k
  have f0:=hF 0 rfl
  have f3:=hF 3 rfl
  simp only [↓Sh.dn,sx,Nat.reduceBEq,reduceCtorEq,Nat.reduceEqDiff] at f0 f3
  obtain ⟨g1,o1,q1,i1,c1,_⟩:=hl1.at Tryz.underlying80 A1s (i:=i) (x:=A8f L[i]) (by simp [hi]) .i64
  have htk:L.take (i+1)=L.take i++[L[i]]:=by rw [List.take_add_one,List.getElem?_eq_getElem hi]; rfl
  have hm:L[i]∈L:=List.getElem_mem hi
  generalize L[i]=e at c1 htk hm
  by_cases h:e=p
  ·subst h
   simp only [↓Sh.dn,sx,Nat.reduceBEq,reduceCtorEq,Nat.reduceEqDiff,f0,f3,f5,hlen,A6a,hi,decide_true,i1,c1,ca,Option.map_some,B4c,hres,hm]
   exact kn
  ·simp only [↓Sh.dn,sx,Nat.reduceBEq,reduceCtorEq,Nat.reduceEqDiff,f0,f3,f5,hlen,A6a,hi,decide_true,i1,c1,ca,Option.map_some,B4c,h,decide_false,A9d hi (by omega)]
   refine k _ _ (by repeat (first | refine Same.put ?_ rfl | exact Same.rfl' _)) (by simp only [↓Sh.dn,sx,Nat.reduceBEq,reduceCtorEq,Nat.reduceEqDiff]) ⟨rfl,fun hx=>?_⟩
   rw [htk] at hx
   rcases List.mem_append.1 hx with h2 | h2
   ·exact hn h2
   ·exact h (List.mem_singleton.1 h2).symm
 ·rintro F H' hF f5 ⟨rfl,hn⟩
  have f0:=hF 0 rfl
  simp only [↓Sh.dn,sx,Nat.reduceBEq,reduceCtorEq,Nat.reduceEqDiff] at f0
  rw [List.take_length] at hn
  simp only [↓Sh.dn,sx,Nat.reduceBEq,reduceCtorEq,Nat.reduceEqDiff,f0,f5,hlen,A6a,Nat.lt_irrefl,decide_false,hres,hn]
  exact kn
def B3a (N:NetD) (x y:List ByteArray):Prop:=RelP (A8w N) N.isEnd x y
theorem B8s {N:NetD} {x y:List ByteArray}:(∃ s,N.isEnd s∧Cl (A4x (A8w N) x y) (fun q=>q.1=0∧q.2∈[(0,0)]) (s,x.length,y.length))↔B3a N x y:=by
 unfold B3a RelP
 refine exists_congr fun s=>and_congr_right fun _=>?_
 rw [← places]
 have e:(fun q:Nat×Nat×Nat=>q.1=0∧q.2∈[(0,0)])=fun q=>q=(0,0,0):=funext fun q=>propext (by
  obtain ⟨a,b⟩:=q
  simp [Prod.ext_iff])
 rw [e]
theorem spotNew0:A2q Tryz.prog 83 [(0,.int .i64 0),(1,.int .i64 0)]=some (.agg (A8f (0,0)).toArray):=B3r (a:=0) (b:=0)
theorem B7t {L:List (Nat×Nat)} {a b:Nat} (hn:L.Nodup) (h:∀ p∈L,p.1≤a∧p.2≤b) (ha:a≤400) (hb:b≤400):L.length≤160801:=by
 have h1:(L.map fun p=>(0,p)).Nodup:=by
  rw [List.nodup_iff_pairwise_ne] at hn ⊢
  rw [List.pairwise_map]
  exact hn.imp fun h e=>h (Prod.mk.inj e).2
 have h2:=B57 (a:=1) (b:=a+1) (c:=b+1) h1 fun w hw=>by
  obtain ⟨p,hp,rfl⟩:=List.mem_map.1 hw
  have:=h p hp
  exact ⟨Nat.one_pos,by simp only; omega,by simp only; omega⟩
 rw [List.length_map] at h2
 have h3:(a+1) * (b+1)≤401 * 401:=Nat.mul_le_mul (by omega) (by omega)
 rw [Nat.one_mul] at h2
 omega
theorem reach_le {N:NetD} (hok:A2r N) {x y:List ByteArray} {L O:List (Nat×Nat)} (hL:∀ p∈L,p.1≤x.length∧p.2≤y.length) (hO:∀ p,p∈O↔∃ s,N.isEnd s∧Cl (A4x (A8w N) x y) (fun q=>q.1=0∧q.2∈L) (s,p)):∀ p∈O,p.1≤x.length∧p.2≤y.length:=fun p hp=>by
 obtain ⟨s,_,h2⟩:=(hO p).1 hp
 have:=A04 hok (fun p hp=>⟨hp.1,hL p.2 hp.2⟩) h2
 simp only at this
 exact ⟨by omega,by omega⟩
theorem refPair {H:AH} {v ux uy:Value} {N:NetD} {x y:List ByteArray} (h:A8v H v N) (hok:A2r N) (hsm:A5h N) (hx:Sl H ux 1 (x.map A9a)) (hy:Sl H uy 1 (y.map A9a)) (hxl:x.length≤400) (hyl:y.length≤400) (hw:Wf H):
  Sh.Call Tryz.prog (knows 10) 21 [v,ux,uy] H (fun r H'=>Kept H H'∧r=.bool (tB (B3a N x y))):=by
 refine A3b rfl Tryz.func21 rfl (Nat.le_of_ble_eq_true rfl) ?_
 have hres:Tryz.f21.results.toList=[.tmp 6]:=rfl
 obtain ⟨sg,ar,en,rfl,hsg,har,hen⟩:=h
 have hb1:=NetBox.of (N:=N) hw hsg har hen
 have hk1:Kept H (H.new 4 [sg,.int .i64 N.states,ar,en]).2:=Kept.new hw 4 _
 simp only [↓Sh.dn,sx,Nat.reduceBEq,reduceCtorEq,Nat.reduceEqDiff,A5q hsg.isCell har.isCell hen.isCell]
 generalize H.next=gg at hb1 ⊢
 generalize (H.new 4 [sg,.int .i64 N.states,ar,en]).2=H1 at hb1 hk1 ⊢
 have kn:=Kept.new hk1.wf 2 (A8f (0,0))
 have hl:Sl (H1.new 2 (A8f (0,0))).2 (.slice (some ⟨H1.next,0,some 0⟩) 1 1) 2 ([(0,0)].map A8f):=(Buf.fresh (H:=H1) (s:=2) (xs:=[A8f (0,0)]) hk1.wf (by intro x hx; rw [List.mem_singleton.1 hx]; rfl) (by simp) 1 rfl).toSl
 have hb2:=hb1.kept hk1.wf kn
 have hk2:=hk1.trans kn
 obtain ⟨r3,H3,hd3,hk3,O,oo,hO,hnd,hiff⟩:=refReach hb2.netAt hok hsm (hx.grow (hk2.grow hw)) (hy.grow (hk2.grow hw)) hxl hyl hl (by simp) (by simp) kn.wf
 have hbd:=reach_le hok (L:=[(0,0)]) (by simp) hiff
 have hOl:=B7t hnd hbd hxl hyl
 obtain ⟨r4,H4,hd4,hk4,rfl⟩:=refHas (p:=(x.length,y.length)) hO.toSl (by omega) hk3.wf
 have hlx:=fun H'=>hx.len Tryz.underlying22 H'
 have hly:=fun H'=>hy.len Tryz.underlying22 H'
 simp only [List.length_map] at hlx hly
 simp only [↓Sh.dn,sx,Nat.reduceBEq,reduceCtorEq,Nat.reduceEqDiff,hb1.c0,hb1.c1,hb1.c2,hb1.c3,hb1.ca,A2a hb1,A1a hb1,A3a hb1,Option.map_some,spotNew0,B38]
 refine ⟨_,_,hd3,?_⟩
 simp only [↓Sh.dn,sx,Nat.reduceBEq,reduceCtorEq,Nat.reduceEqDiff,hlx,hly,B3r]
 refine ⟨_,_,hd4,?_⟩
 simp only [↓Sh.dn,sx,Nat.reduceBEq,reduceCtorEq,Nat.reduceEqDiff,hres]
 refine ⟨(hk2.trans hk3).trans hk4,?_⟩
 have:decide ((x.length,y.length)∈O)=tB (B3a N x y):=by
  rw [Bool.eq_iff_iff,decide_eq_true_iff,B1x,hiff,B8s]
 rw [this]
end Go.Proofs.YtnoengaghabmjaaGreat
/- Pairs of a net, by texts and by numbers. -/
namespace Go.Proofs.YtnoengaghabmjaaGreat
open Go Go.Proofs Go.Proofs.Sh
theorem B0c {N:NetD} (hok:A2r N) {x:ByteArray} (hx:x=⟨#[]⟩∨x∈N.sigma):labN (A6k N.sigma x)=(labT x).map (ixN N.sigma)∧∀ s,labT x=some s→s∈N.sigma:=by
 have e0:(⟨#[]⟩:ByteArray)=A5p:=rfl
 rw [e0] at hx
 by_cases h:x=A5p
 ·subst h
  have:=(B5w hok.asc).2 (B33 hok)
  unfold labN labT
  rw [if_pos this,if_pos rfl]
  exact ⟨rfl,fun s hs=>by cases hs⟩
 ·have hm:=hx.resolve_left h
  obtain ⟨k,_,h2,h3⟩:=B8b hok.asc hm
  unfold labN labT
  rw [if_neg (by omega),if_neg h,h2]
  exact ⟨by rw [Option.map_some,h3]; rfl,fun s hs=>by rw [← Option.some.inj hs]; exact hm⟩
theorem B2m {N:NetD} (hok:A2r N) {x:ByteArray} (hx:x=⟨#[]⟩∨x∈N.sigma):A6k N.sigma x < (N.sigma.length:Int):=by
 by_cases h:x∈N.sigma
 ·obtain ⟨k,h1,h2,_⟩:=B8b hok.asc h
  have:=(List.getElem?_eq_some_iff.1 h1).1
  omega
 ·have:=(B5w hok.asc).2 h
  omega
theorem B8i {N:NetD} (hok:A2r N) (s:Nat) (a b:Option Nat) (t:Nat):A6o (A9v N) s a b t↔∃ c d,A8w N s c d t∧a=c.map (ixN N.sigma)∧b=d.map (ixN N.sigma):=by
 unfold A6o A8w
 constructor
 ·rintro ⟨r,hr,e,he,h1,h2,h3⟩
  obtain ⟨c,hc,h4,rfl⟩:=(A0v hr e).1 he
  obtain ⟨_,_,h5,_,h6,h7⟩:=hok.arc c hc
  simp only at h1 h2 h3
  exact ⟨_,_,⟨c,hc,h4,rfl,rfl,by omega⟩,by rw [← h2,(B0c hok h6).1],by rw [← h3,(B0c hok h7).1]⟩
 ·rintro ⟨_,_,⟨c,hc,h1,rfl,rfl,h4⟩,rfl,rfl⟩
  obtain ⟨h7,h8,h5,_,h6,h9⟩:=hok.arc c hc
  have hs:s < N.states.toNat:=by omega
  unfold A9v
  exact ⟨_,A7g hs,(c.to.toNat,A6k N.sigma c.inn,A6k N.sigma c.out,c.cost),(A0v (A7g hs) _).2 ⟨c,hc,h1,rfl⟩,by simp only; omega,(B0c hok h6).1,(B0c hok h9).1⟩
theorem B22 {N:NetD} (hok:A2r N) {s t:Nat} {x y:List ByteArray} (h:Sh.Way (A8w N) s x y t):(∀ z∈x,z∈N.sigma)∧∀ z∈y,z∈N.sigma:=by
 induction h with
 | nil s=>exact ⟨fun z hz=>(by cases hz),fun z hz=>by cases hz⟩
 | @cons s t u a b x y h1 _ ih=>
  obtain ⟨c,hc,_,rfl,rfl,_⟩:=h1
  obtain ⟨_,_,_,_,h6,h7⟩:=hok.arc c hc
  have key:∀ {o:Option ByteArray} {w:List ByteArray},(∀ s,o=some s→s∈N.sigma)→(∀ z∈w,z∈N.sigma)→∀ z∈o.toList++w,z∈N.sigma:=fun {o w} ho hw z hz=>by
   rcases List.mem_append.1 hz with h | h
   ·exact ho z (by cases o with
      | none => cases h
      | some s => rw [List.mem_singleton.1 h])
   ·exact hw z h
  exact ⟨key (B0c hok h6).2 ih.1,key (B0c hok h7).2 ih.2⟩
theorem A41 {α β:Type} {f:α→β} {S:α→Prop} (hf:∀ x y,S x→S y→f x=f y→x=y):∀ {l m:List α},(∀ x∈l,S x)→(∀ x∈m,S x)→l.map f=m.map f→l=m
 | [],[],_,_,_=>rfl
 | [],_ :: _,_,_,h=>by simp at h
 | _ :: _,[],_,_,h=>by simp at h
 | a :: l,b :: m,hl,hm,h=>by
  simp only [List.map_cons,List.cons.injEq] at h
  rw [hf a b (hl a List.mem_cons_self) (hm b List.mem_cons_self) h.1,A41 hf (fun x hx=>hl x (List.mem_cons_of_mem _ hx)) (fun x hx=>hm x (List.mem_cons_of_mem _ hx)) h.2]
theorem way_rows {N:NetD} (hok:A2r N) {x y:List ByteArray} (hx:∀ z∈x,z∈N.sigma) (hy:∀ z∈y,z∈N.sigma) (s t:Nat):Sh.Way (A6o (A9v N)) s (x.map (ixN N.sigma)) (y.map (ixN N.sigma)) t↔Sh.Way (A8w N) s x y t:=by
 constructor
 ·intro h
  have key:∀ {s t:Nat} {u v:List Nat},Sh.Way (A6o (A9v N)) s u v t→∃ x y,Sh.Way (A8w N) s x y t∧u=x.map (ixN N.sigma)∧v=y.map (ixN N.sigma):=by
   intro s t u v k
   induction k with
   | nil s=>exact ⟨[],[],.nil s,rfl,rfl⟩
   | @cons s t w a b u v h1 _ ih=>
    obtain ⟨c,d,h2,rfl,rfl⟩:=(B8i hok _ _ _ _).1 h1
    obtain ⟨x,y,h3,rfl,rfl⟩:=ih
    have e:∀ o:Option ByteArray,(o.map (ixN N.sigma)).toList=o.toList.map (ixN N.sigma):=fun o=>by cases o <;> rfl
    exact ⟨c.toList++x,d.toList++y,.cons h2 h3,by rw [List.map_append,e],by rw [List.map_append,e]⟩
  obtain ⟨x',y',h1,h2,h3⟩:=key h
  obtain ⟨h4,h5⟩:=B22 hok h1
  rw [A41 (S:=fun z=>z∈N.sigma) (C8a hok.asc) hx h4 h2,A41 (S:=fun z=>z∈N.sigma) (C8a hok.asc) hy h5 h3]
  exact h1
 ·intro h
  exact h.map (f:=ixN N.sigma) fun s a b t hs=>(B8i hok _ _ _ _).2 ⟨a,b,hs,rfl,rfl⟩
theorem C6e {N:NetD} (hok:A2r N) {x y:List ByteArray} (hx:∀ z∈x,z∈N.sigma) (hy:∀ z∈y,z∈N.sigma):(∃ t,0 < (A2m N N.ends).getD t 0∧Sh.Way (A6o (A9v N)) 0 (x.map (ixN N.sigma)) (y.map (ixN N.sigma)) t)↔B3a N x y:=by
 unfold B3a RelP
 refine exists_congr fun t=>and_congr (ends_gr hok t) (way_rows hok hx hy 0 t)
theorem B9m {N:NetD} (hok:A2r N) {x y:List ByteArray} (h:B3a N x y):(∀ z∈x,z∈N.sigma)∧∀ z∈y,z∈N.sigma:=by
 obtain ⟨t,_,h2⟩:=h
 exact B22 hok h2
end Go.Proofs.YtnoengaghabmjaaGreat
/- (*graph.Graph).Holds: whether a graph holds a pair of words. -/
namespace Go.Proofs.YtnoengaghabmjaaGreat
open Go Go.Proofs Go.Proofs.Sh
theorem fillU {H:AH} (hw:Wf H) {c:Nat} (hc:c≤1073741824):Buf (H.new 1 (List.replicate c (.int .u64 0))).2 1 (.slice (some ⟨H.next,0,some 0⟩) c c) ((List.replicate c 0).map u64C) (if c=0 then none else some H.next):=by
 have:=Buf.fill hw (.int .u64 0) hc
 rw [List.map_replicate]
 exact this
theorem ifNext {c:Nat} {h:Nat}:∀ y,(if c=0 then none else some h)=some y→y=h:=by
 intro y hy
 by_cases h0:c=0
 ·rw [if_pos h0] at hy; cases hy
 ·rw [if_neg h0] at hy; exact (Option.some.inj hy).symm
def preL (A:Arcs Nat Nat) (x y:List Nat):Nat→Nat×Nat→Prop
 | 0=>fun p=>p=(0,0)
 | i+1=>fun b=>∃ a,A79 (laE A y) (laA A x y) (fun p=>p=(0,0)) i a∧laA A x y i a b
theorem B52 {A:Arcs Nat Nat} {x y:List Nat} (i:Nat) (p:Nat×Nat):A79 (laE A y) (laA A x y) (fun p=>p=(0,0)) i p↔Cl (laE A y) (preL A x y i) p:=by
 cases i <;> exact Iff.rfl
theorem A75 {n:Nat} {p:Nat×Nat}:¬A7f (List.replicate n 0) p:=by
 rintro ⟨m,h1,h2⟩
 rw [List.getElem?_replicate] at h1
 split at h1
 ·rw [← Option.some.inj h1] at h2; simp at h2
 ·cases h1
theorem B6a {l:List Nat} {s m:Nat} (hs:s < l.length) {p:Nat×Nat}:A7f (l.set s m) p↔(p.1=s∧m.testBit p.2=true)∨(p.1≠s∧A7f l p):=by
 unfold A7f
 rw [List.getElem?_set]
 by_cases h:s=p.1
 ·rw [if_pos h,if_pos hs]
  simp [h]
 ·rw [if_neg h]
  simp [Ne.symm h]
theorem B93 {H:AH} {g n:Nat} {E:List (List (Nat×Int×Int×Int))} {ends:List Int} {sv av ev cv u v:Value} {vals:List Value} {sigma:List ByteArray} {costs:List Int} {x y:List Nat} (h:PG H g n 60000 E ends sv av ev cv vals sigma costs) (hu:Sl H u 1 (x.map natC)) (hv:Sl H v 1 (y.map natC)) (hx:x.length≤60) (hy:y.length≤60)
  (hys:∀ k∈y,k < sigma.length) (hsl:sigma.length≤1048576) (hout:∀ (s:Nat) r,E[s]?=some r→∀ e∈r,e.2.2.1 < (sigma.length:Int)) (hw:Wf H):
  Sh.Call Tryz.prog (knows 10) 65 [.pointer (some ⟨g,0,some 0⟩),u,v] H (fun r H'=>Kept H H'∧r=.bool (tB (∃ t,0 < ends.getD t 0∧Sh.Way (A6o E) 0 x y t))):=by
 refine A3b rfl Tryz.func65 rfl (Nat.le_of_ble_eq_true rfl) ?_
 have hres:Tryz.f65.results.toList=[.tmp 6]:=rfl
 have hn1:=h.n1
 have hn2:=h.n2
 have c0:=h.gr.arr.cell 0
 have hls:=fun H'=>h.gr.sg.len Tryz.underlying22 H'
 simp only [List.length_map] at hls
 have mk0:=B46 (H:=H) (l:=sigma.length) (c:=sigma.length) (Nat.le_refl _) (by omega)
 have k1:=Kept.new hw 1 (List.replicate sigma.length (.int .u64 0))
 have b1:=fillU hw (c:=sigma.length) (by omega)
 have hc0:H.cell ⟨g,0,some 0⟩=some sv:=c0
 simp only [↓Sh.dn,sx,Nat.reduceBEq,reduceCtorEq,Nat.reduceEqDiff,hc0,hls,mk0]
 obtain ⟨ow,how⟩:∃ o,(if sigma.length=0 then none else some H.next)=o:=⟨_,rfl⟩
 have hown:∀ y,ow=some y→y=H.next:=fun y hy=>ifNext (c:=sigma.length) y (by rw [how]; exact hy)
 rw [how] at b1
 have k1n:H.next < (H.new 1 (List.replicate sigma.length (.int .u64 0))).2.next:=Nat.lt_succ_self _
 generalize (Value.slice (some ⟨H.next,0,some 0⟩) sigma.length sigma.length)=wv at b1 ⊢
 generalize (H.new 1 (List.replicate sigma.length (.int .u64 0))).2=H1 at k1 b1 k1n ⊢
 have nz:anew Tryz.prog 144 H1 (.slice none 0 0)=some (.pointer (some ⟨H1.next,0,some 0⟩),(H1.new 1 [.slice none 0 0]).2):=B3h B2x rfl
 have st1:A5j Tryz.prog 144 (H1.new 1 [.slice none 0 0]).2 wv (.pointer (some ⟨H1.next,0,some 0⟩))=some (H1.new 1 [wv]).2:=by rw [A8j B2x b1.isCell]; exact A1q rfl
 have k2:=Kept.new k1.wf 1 [wv]
 have a2:Arr (H1.new 1 [wv]).2 H1.next 0 1 [wv]:=(Sh.Obj.new (H:=H1) 1 [wv]).arr
 have b2:=b1.kept k1.wf k2
 have k12:=k1.trans k2
 have k2n:H1.next < (H1.new 1 [wv]).2.next:=Nat.lt_succ_self _
 have hlv:=fun H'=>hv.len Tryz.underlying88 H'
 simp only [List.length_map] at hlv
 simp only [↓Sh.dn,sx,Nat.reduceBEq,reduceCtorEq,Nat.reduceEqDiff,nz,st1,hlv]
 obtain ⟨gw,hgw⟩:∃ y,H1.next=y:=⟨_,rfl⟩
 rw [hgw] at a2 k2n
 simp only [hgw]
 have hgw1:H.next < gw:=by rw [← hgw]; exact k1n
 generalize (H1.new 1 [wv]).2=H2 at k12 a2 b2 k2n ⊢
 clear k2 st1 nz b1 mk0
 refine A8h y.length 28 (List.range' 28 14++[8,9]) (fun i F H'=>Kept H H'∧Arr H' gw 0 1 [wv]∧∃ W:List Nat,Buf H' 1 wv (W.map u64C) ow∧W.length=sigma.length∧∀ (k m:Nat),W[k]?=some m→∀ j,m.testBit j=true↔j < i∧y[j]?=some k) (by simp only [↓Sh.dn,sx,Nat.reduceBEq,reduceCtorEq,Nat.reduceEqDiff])
  ⟨k12,a2,List.replicate sigma.length 0,b2,by simp,fun k m hm j=>?_⟩ ?_ ?_
 ·rw [List.getElem?_replicate] at hm
  split at hm
  ·rw [← Option.some.inj hm]; simp
  ·cases hm
 ·rintro i F H' hi hF f28 ⟨hk,ha,W,hb,hWl,hW⟩ k
  have f7:=hF 7 rfl
  have f26:=hF 26 rfl
  have f27:=hF 27 rfl
  simp only [↓Sh.dn,sx,Nat.reduceBEq,reduceCtorEq,Nat.reduceEqDiff] at f7 f26 f27
  have hv':=hv.grow (hk.grow hw)
  obtain ⟨p1,i1,c1⟩:=natSl Tryz.underlying88 A3i hv' hi
  have hgi:y[i]?=some y[i]:=List.getElem?_eq_getElem hi
  have hks:=hys _ (List.getElem_mem hi)
  generalize y[i]=s at c1 hgi hks
  have hgs:W[s]?=some W[s]:=List.getElem?_eq_getElem (by omega)
  obtain ⟨p2,i2,c2⟩:=Sl.elem (s:=1) Tryz.underlying144 A6h hb.toSl (i:=s) (u:=.int .u64 (W[s]:Int)) (by rw [List.getElem?_map,hgs]; rfl)
  have hwm:=hW s _ hgs
  generalize W[s]=m at hgs c2 hwm
  have hwi:within 60 m:=fun j hj=>by have:=((hwm j).1 hj).1; omega
  have hp:(2:Nat) ^ i < m64:=by
   have:(2:Nat) ^ i≤2 ^ 60:=Nat.pow_le_pow_right (by decide) (by omega)
   have e:(2:Nat) ^ 60=1152921504606846976:=rfl
   unfold m64; omega
  have hor:=or64 (P:=Tryz.prog) (t:=145) (c:=false) (hwi.lt64 (Nat.le_refl _)) hp
  have hsh:=pow64 (P:=Tryz.prog) (t:=145) (c:=true) (j:=i) (by omega) (k:=.i64)
  obtain ⟨p6,H6,ia6,w6,z6,c6,n6⟩:=Buf.set (P:=Tryz.prog) hb hk.wf (i:=s) (x:=u64C (m ||| 2 ^ i)) (by simp; omega) rfl
  have ia6':=ia6 Tryz.underlying144 A6h (j:=.i64)
  have st6:A5j Tryz.prog 145 H' (.int .u64 ((m ||| 2 ^ i:Nat):Int)) (.pointer (some p6))=some H6:=by rw [A8j A6h rfl]; exact w6
  have hca:H'.cell ⟨gw,0,some 0⟩=some wv:=ha.cell 0
  rw [i2] at ia6'
  injection ia6' with e6; injection e6 with e6; injection e6 with e6
  rw [← e6] at st6
  simp only [↓Sh.dn,sx,Nat.reduceBEq,reduceCtorEq,Nat.reduceEqDiff,f26,f27,f28,A6a,hi,decide_true,i1,c1,f7]
  refine (wp_free (by kernel_rfl)).2 ?_
  simp only [↓Sh.dn,sx,Nat.reduceBEq,reduceCtorEq,Nat.reduceEqDiff,f7,f28,hca,i2,c2,hsh,hor,st6,A9d hi (by omega)]
  refine k _ _ (by repeat (first | refine Same.put ?_ rfl | exact Same.rfl' _)) (by simp only [↓Sh.dn,sx,Nat.reduceBEq,reduceCtorEq,Nat.reduceEqDiff]) ⟨hk.then (Nat.le_refl _) (c6.weak fun v hv=>by rw [hown v hv]; exact Nat.le_refl _),ha.keep (c6.old gw (ha.lt hk.wf) fun hv=>by have:=hown gw hv; omega),W.set s (m ||| 2 ^ i),by rw [List.map_set]; exact z6,by rw [List.length_set,hWl],fun k' m' hm' j=>?_⟩
  rw [List.getElem?_set] at hm'
  by_cases hsk:s=k'
  ·subst hsk
   rw [if_pos rfl,if_pos (by omega)] at hm'
   rw [← Option.some.inj hm',Nat.testBit_or,Bool.or_eq_true,hwm,bit_pow]
   constructor
   ·rintro (⟨h1,h2⟩ | h1)
    ·exact ⟨by omega,h2⟩
    ·rw [h1]; exact ⟨by omega,hgi⟩
   ·rintro ⟨h1,h2⟩
    by_cases hji:j=i
    ·exact .inr hji
    ·exact .inl ⟨by omega,h2⟩
  ·rw [if_neg hsk] at hm'
   rw [hW k' m' hm' j]
   constructor
   ·rintro ⟨h1,h2⟩; exact ⟨by omega,h2⟩
   ·rintro ⟨h1,h2⟩
    refine ⟨?_,h2⟩
    by_cases hji:j=i
    ·subst hji; rw [hgi] at h2; exact absurd (Option.some.inj h2) hsk
    ·omega
 ·rintro F H3 hF f28 ⟨hk3,ha,W,hb,hWl,hW⟩
  have f0:=hF 0 rfl
  have f1:=hF 1 rfl
  have f2:=hF 2 rfl
  have f7:=hF 7 rfl
  have f27:=hF 27 rfl
  simp only [↓Sh.dn,sx,Nat.reduceBEq,reduceCtorEq,Nat.reduceEqDiff] at f0 f1 f2 f7 f27
  have hpl:A8u W y:=fun k m hm j=>by
   rw [hW k m hm]
   exact ⟨fun h=>h.2,fun h=>⟨(List.getElem?_eq_some_iff.1 h).1,h⟩⟩
  have hp3:=h.kept hw hk3
  have hca:H3.cell ⟨gw,0,some 0⟩=some wv:=ha.cell 0
  have cA:=hp3.gr.arr.cell 1
  have hcA:H3.cell ⟨g,1,some 0⟩=some av:=cA
  have hlA:∀ H',A7a Tryz.prog .len [123] [av] H'=some (.int .i64 (n:Int),H'):=fun H'=>by
   rw [h.gr.jag.sl.len Tryz.underlying123,List.length_map,h.gr.jag.len]; unfold B6j; rw [List.length_map,h.le]
  have mk1:=B46 (H:=H3) (l:=n) (c:=n) (Nat.le_refl _) (by omega)
  have k4:=Kept.new hk3.wf 1 (List.replicate n (.int .u64 0))
  have b4:=fillU hk3.wf (c:=n) (by omega)
  rw [if_neg (by omega)] at b4
  generalize (Value.slice (some ⟨H3.next,0,some 0⟩) n n)=z0 at mk1 b4
  generalize (H3.new 1 (List.replicate n (.int .u64 0))).2=H4 at mk1 k4 b4
  obtain ⟨p5,H5,ia5,w5,z5,c5,n5⟩:=Buf.set (P:=Tryz.prog) b4 k4.wf (i:=0) (x:=u64C 1) (by simp; omega) rfl
  have ia5':A2c Tryz.prog 144 z0 (.int .i64 0)=some (.pointer (some p5)):=ia5 Tryz.underlying144 A6h (j:=.i64)
  have st5:A5j Tryz.prog 145 H4 (.int .u64 1) (.pointer (some p5))=some H5:=by rw [A8j A6h rfl]; exact w5
  rw [← List.map_set] at z5
  have hk5:Kept H3 H5:=k4.then (Nat.le_refl _) (c5.weak fun v hv=>by rw [← Option.some.inj hv]; exact Nat.le_refl _)
  simp only [↓Sh.dn,sx,Nat.reduceBEq,reduceCtorEq,Nat.reduceEqDiff,f0,f7,f27,f28,A6a,Nat.lt_irrefl,decide_false,hcA,hlA,mk1,ia5',st5]
  have hlx:=fun H'=>hu.len Tryz.underlying88 H'
  simp only [List.length_map] at hlx
  have hlv2:=fun H'=>hv.len Tryz.underlying88 H'
  simp only [List.length_map] at hlv2
  have hoW:∀ (s:Nat) r,E[s]?=some r→∀ e∈r,e.2.2.1 < (W.length:Int):=fun s r hr e he=>by rw [hWl]; exact hout s r hr e he
  refine A9o (m:=x.length) (fun m F H'=>∃ i,m+i=x.length∧F.get 12=some (.int .i64 (i:Int))∧F.get 0=some (.pointer (some ⟨g,0,some 0⟩))∧F.get 1=some u∧F.get 2=some v∧F.get 10=some (.func (.func 111) #[] #[.pointer (some ⟨gw,0,some 0⟩)])∧Kept H3 H'∧∃ z now ob,F.get 11=some z∧Buf H' 1 z (now.map u64C) ob∧(∀ v,ob=some v→H3.next≤v)∧now.length=n∧(∀ m∈now,within y.length m)∧∀ p,A7f now p↔preL (A6o E) x y i p)
   ⟨0,rfl,by simp only [↓Sh.dn,sx,Nat.reduceBEq,reduceCtorEq,Nat.reduceEqDiff]; rfl,by simp only [↓Sh.dn,sx,Nat.reduceBEq,reduceCtorEq,Nat.reduceEqDiff,f0],by simp only [↓Sh.dn,sx,Nat.reduceBEq,reduceCtorEq,Nat.reduceEqDiff,f1],by simp only [↓Sh.dn,sx,Nat.reduceBEq,reduceCtorEq,Nat.reduceEqDiff,f2],by simp only [↓Sh.dn,sx,Nat.reduceBEq,reduceCtorEq,Nat.reduceEqDiff],hk5,z0,(List.replicate n 0).set 0 1,_,by simp only [↓Sh.dn,sx,Nat.reduceBEq,reduceCtorEq,Nat.reduceEqDiff],z5,fun v hv=>by rw [← Option.some.inj hv]; exact Nat.le_refl _,by simp,fun m hm=>?_,fun p=>?_⟩ ?_
  ·rcases List.mem_or_eq_of_mem_set hm with h1 | h1
   ·rw [List.eq_of_mem_replicate h1]; intro j hj; simp at hj
   ·rw [h1]; intro j hj; rw [B89.1 hj]; exact Nat.zero_le _
  ·rw [B6a (by simp; omega),B89]
   show _↔p=(0,0)
   constructor
   ·rintro (⟨h1,h2⟩ | ⟨_,h2⟩)
    ·exact Prod.ext h1 h2
    ·exact absurd h2 A75
   ·rintro rfl; exact .inl ⟨rfl,rfl⟩
  clear z5 hk5 st5 ia5' ia5 w5 c5 n5 b4 k4 mk1 f0 f1 f2 f7 f27 f28 hF hcA cA
  clear F H5 H4 z0
  rintro m F H' ⟨i,hmi,f12,f0,f1,f2,f10,hk,z,now,ob,f11,hz,hob,hnl,hwi,hbits⟩ k
  obtain ⟨r6,H6,hd6,hk6,now',hz6,hnl6,hwi6,hcl6⟩:=B1r hp3 hk3.wf hca hb.toSl hpl hy hoW hk hz hob hnl hwi
  have hlay:∀ p,A7f now' p↔A79 (laE (A6o E) y) (laA (A6o E) x y) (fun p=>p=(0,0)) i p:=fun p=>by
   rw [hcl6,B52]
   have e:A7f now=preL (A6o E) x y i:=funext fun p=>propext (hbits p)
   rw [e]
  have hlenz:∀ H',A7a Tryz.prog .len [144] [z] H'=some (.int .i64 (n:Int),H'):=fun H'=>by
   rw [hz6.toSl.len Tryz.underlying144,List.length_map,hnl6]
  have hcb:Kept H H6:=hk3.trans hk6
  simp only [↓Sh.dn,sx,Nat.reduceBEq,reduceCtorEq,Nat.reduceEqDiff,f0,f10,f11]
  refine ⟨_,_,hd6,?_⟩
  clear hd6 hcl6 hz hbits hwi hnl
  by_cases hix:i=x.length
  ·subst hix
   have hend:∀ t,Sh.Way (A6o E) 0 x y t↔A7f now' (t,y.length):=fun t=>by rw [hlay,C8e]
   simp only [↓Sh.dn,sx,Nat.reduceBEq,reduceCtorEq,Nat.reduceEqDiff,f1,f11,f12,hlx,nat_eq,decide_true,hlenz]
   refine A8h n 110 (List.range' 110 22++[18,19]) (fun s F2 H2=>H2=H6∧∀ t,t < s→¬(0 < ends.getD t 0∧A7f now' (t,y.length))) (by simp only [↓Sh.dn,sx,Nat.reduceBEq,reduceCtorEq,Nat.reduceEqDiff]) ⟨rfl,fun t ht=>absurd ht (Nat.not_lt_zero t)⟩ ?_ ?_
   ·rintro s F2 H2 hs hF2 f110 ⟨rfl,hno⟩ k2
    have g0:=hF2 0 rfl
    have g2:=hF2 2 rfl
    have g108:=hF2 108 rfl
    have g109:=hF2 109 rfl
    simp only [↓Sh.dn,sx,Nat.reduceBEq,reduceCtorEq,Nat.reduceEqDiff,f0,f2] at g0 g2 g108 g109
    have hgs:now'[s]?=some now'[s]:=List.getElem?_eq_getElem (by omega)
    have hwm:=hwi6 _ (List.getElem_mem (show s < now'.length by omega))
    generalize now'[s]=m at hgs hwm
    obtain ⟨p1,i1,c1⟩:=Sl.elem (s:=1) Tryz.underlying144 A6h hz6.toSl (i:=s) (u:=.int .u64 (m:Int)) (by rw [List.getElem?_map,hgs]; rfl)
    have hp:=h.kept hw hcb
    have hn:H2.cell ⟨g,2,some 0⟩=some ev:=hp.gr.arr.cell 2
    have htl:s < ends.length:=by rw [h.ln]; exact hs
    obtain ⟨p2,i2,c2⟩:=Sl.elem (s:=1) Tryz.underlying88 A3i hp.gr.en (i:=s) (u:=.int .i64 ends[s]) (by rw [List.getElem?_map,List.getElem?_eq_getElem htl]; rfl)
    have hg:ends.getD s 0=ends[s]:=by simp [List.getD,htl]
    generalize ends[s]=en at c2 hg
    have hbit:A7f now' (s,y.length)↔m.testBit y.length=true:=⟨fun ⟨m',h1,h2⟩=>by rw [hgs] at h1; rw [Option.some.inj h1]; exact h2,fun h=>⟨m,hgs,h⟩⟩
    have hmd:m / 2 ^ y.length < m64:=Nat.lt_of_le_of_lt (Nat.div_le_self _ _) (hwm.lt64 hy)
    have hnext:¬(0 < en∧m.testBit y.length=true)→∀ t,t < s+1→¬(0 < ends.getD t 0∧A7f now' (t,y.length)):=fun hh t ht=>by
     by_cases hts:t=s
     ·subst hts; rw [hg,hbit]; exact hh
     ·exact hno t (by omega)
    by_cases he:0 < en
    ·by_cases hb2:m.testBit y.length=true
     ·have hbd:(m / 2 ^ y.length &&& 1=1):=(C4e _ _).2 hb2
      simp only [↓Sh.dn,sx,Nat.reduceBEq,reduceCtorEq,Nat.reduceEqDiff,g0,g2,g108,g109,f110,A6a,hs,decide_true,i1,c1,hn,i2,c2,he,hlv2,shr64 (show y.length < 64 by omega),C0c hmd,C8d,hbd,hres]
      refine ⟨hcb,?_⟩
      rw [B1x.2 ⟨s,by rw [hg]; exact he,(hend s).2 (hbit.2 hb2)⟩]
     ·have hbd:¬(m / 2 ^ y.length &&& 1=1):=fun h=>hb2 ((C4e _ _).1 h)
      simp only [↓Sh.dn,sx,Nat.reduceBEq,reduceCtorEq,Nat.reduceEqDiff,g0,g2,g108,g109,f110,A6a,hs,decide_true,i1,c1,hn,i2,c2,he,hlv2,shr64 (show y.length < 64 by omega),C0c hmd,C8d,hbd,decide_false,A9d hs (by omega)]
      exact k2 _ _ (by repeat (first | refine Same.put ?_ rfl | exact Same.rfl' _)) (by simp only [↓Sh.dn,sx,Nat.reduceBEq,reduceCtorEq,Nat.reduceEqDiff]) ⟨rfl,hnext fun h=>hb2 h.2⟩
    ·simp only [↓Sh.dn,sx,Nat.reduceBEq,reduceCtorEq,Nat.reduceEqDiff,g0,g2,g108,g109,f110,A6a,hs,decide_true,i1,c1,hn,i2,c2,he,decide_false,A9d hs (by omega)]
     exact k2 _ _ (by repeat (first | refine Same.put ?_ rfl | exact Same.rfl' _)) (by simp only [↓Sh.dn,sx,Nat.reduceBEq,reduceCtorEq,Nat.reduceEqDiff]) ⟨rfl,hnext fun h=>he h.1⟩
   ·rintro F2 H2 hF2 f110 ⟨rfl,hno⟩
    have g109:=hF2 109 rfl
    simp only [↓Sh.dn,sx,Nat.reduceBEq,reduceCtorEq,Nat.reduceEqDiff] at g109
    simp only [↓Sh.dn,sx,Nat.reduceBEq,reduceCtorEq,Nat.reduceEqDiff,g109,f110,A6a,Nat.lt_irrefl,decide_false,hres]
    refine ⟨hcb,?_⟩
    have:¬tB (∃ t,0 < ends.getD t 0∧Sh.Way (A6o E) 0 x y t)=true:=fun hh=>by
     obtain ⟨t,h1,h2⟩:=B1x.1 hh
     have h3:=(hend t).1 h2
     obtain ⟨m,h4,_⟩:=h3
     have:=(List.getElem?_eq_some_iff.1 h4).1
     exact hno t (by simp only at this; omega) ⟨h1,(hend t).1 h2⟩
    rw [Bool.eq_false_iff.2 this]
  ·have hil:i < x.length:=by omega
   have hgx:x[i]?=some x[i]:=List.getElem?_eq_getElem hil
   generalize hxi:x[i]=c at hgx
   have mk2:=B46 (H:=H6) (l:=n) (c:=n) (Nat.le_refl _) (by omega)
   have k7:=Kept.new hk6.wf 1 (List.replicate n (.int .u64 0))
   have b7:=fillU hk6.wf (c:=n) (by omega)
   rw [if_neg (by omega)] at b7
   have hzlt:=hz6.lt hk6.wf
   have hz7:=hz6.kept hk6.wf k7
   have hk7:=hk6.trans k7
   have h36:=hk6.next
   simp only [↓Sh.dn,sx,Nat.reduceBEq,reduceCtorEq,Nat.reduceEqDiff,f1,f11,f12,hlx,nat_eq,hix,decide_false,hlenz,mk2]
   obtain ⟨zn,hzn⟩:∃ w,Value.slice (some ⟨H6.next,0,some 0⟩) n n=w:=⟨_,rfl⟩
   obtain ⟨on,hon⟩:∃ w,H6.next=w:=⟨_,rfl⟩
   rw [hzn,hon] at b7
   simp only [hzn]
   rw [hon] at hzlt h36
   have hsep:∀ v,ob=some v→¬(some on=some v):=fun v hv h=>by have:=hzlt v hv; have:=Option.some.inj h; omega
   generalize (H6.new 1 (List.replicate n (.int .u64 0))).2=H7 at k7 b7 hz7 hk7 ⊢
   refine A8h n 66 (List.range' 66 41++[14,15,17]) (fun s F2 H2=>Kept H3 H2∧Buf H2 1 z (now'.map u64C) ob∧∃ nx,Buf H2 1 zn (nx.map u64C) (some on)∧nx.length=n∧(∀ m∈nx,within y.length m)∧∀ p,A7f nx p↔∃ a,a.1 < s∧A7f now' a∧laA (A6o E) x y i a p) (by simp only [↓Sh.dn,sx,Nat.reduceBEq,reduceCtorEq,Nat.reduceEqDiff])
    ⟨hk7,hz7,List.replicate n 0,b7,by simp,fun m hm=>by rw [List.eq_of_mem_replicate hm]; intro j hj; simp at hj,fun p=>⟨fun h=>absurd h A75,fun ⟨a,h1,_⟩=>absurd h1 (Nat.not_lt_zero _)⟩⟩ ?_ ?_
   ·rintro s F2 H8 hs hF2 f66 ⟨hk8,hz8,nx,hb8,hnx,hwx,hbx⟩ k2
    have g0:=hF2 0 rfl
    have g1:=hF2 1 rfl
    have g10:=hF2 10 rfl
    have g12:=hF2 12 rfl
    have g13:=hF2 13 rfl
    have g64:=hF2 64 rfl
    have g65:=hF2 65 rfl
    simp only [↓Sh.dn,sx,Nat.reduceBEq,reduceCtorEq,Nat.reduceEqDiff,f0,f1,f10,f12] at g0 g1 g10 g12 g13 g64 g65
    have hgs:now'[s]?=some now'[s]:=List.getElem?_eq_getElem (by omega)
    have hwm:=hwi6 _ (List.getElem_mem (show s < now'.length by omega))
    generalize now'[s]=m at hgs hwm
    obtain ⟨p1,i1,c1⟩:=Sl.elem (s:=1) Tryz.underlying144 A6h hz8.toSl (i:=s) (u:=.int .u64 (m:Int)) (by rw [List.getElem?_map,hgs]; rfl)
    obtain ⟨r,hr⟩:∃ r,E[s]?=some r:=⟨E[s]'(by rw [h.le]; exact hs),List.getElem?_eq_getElem _⟩
    obtain ⟨hrl,hrt⟩:=h.to s r hr
    obtain ⟨pr,wr,hiar,hcr,hsr,hlr⟩:=PG.row hp3 hr
    have hcA:H3.cell ⟨g,1,some 0⟩=some av:=hp3.gr.arr.cell 1
    have hpg:∀ {H'},Kept H3 H'→H'.cell ⟨g,1,some 0⟩=some av∧H'.cell pr=some wr∧Sl H' wr 4 (r.map A4h)∧H'.cell ⟨gw,0,some 0⟩=some wv∧Sl H' wv 1 (W.map u64C)∧Sl H' u 1 (x.map natC):=fun hk=>⟨A5f (hk.grow hk3.wf) hcA,A5f (hk.grow hk3.wf) hcr,hsr.grow (hk.grow hk3.wf),A5f (hk.grow hk3.wf) hca,hb.toSl.grow (hk.grow hk3.wf),hu.grow ((hk3.trans hk).grow hw)⟩
    obtain ⟨q1,q2,q3,q4,q5,q6⟩:=hpg hk8
    have hbs:∀ j,A7f now' (s,j)↔m.testBit j=true:=fun j=>⟨fun ⟨m',h1,h2⟩=>by rw [hgs] at h1; rw [Option.some.inj h1]; exact h2,fun h=>⟨m,hgs,h⟩⟩
    simp only [↓Sh.dn,sx,Nat.reduceBEq,reduceCtorEq,Nat.reduceEqDiff,g0,g64,g65,f66,A6a,hs,decide_true,i1,c1,q1,hiar,q2,hlr]
    refine A8h r.length 79 (List.range' 79 27++[17]) (fun q F4 H9=>Kept H3 H9∧Buf H9 1 z (now'.map u64C) ob∧∃ nx,Buf H9 1 zn (nx.map u64C) (some on)∧nx.length=n∧(∀ m∈nx,within y.length m)∧∀ p,A7f nx p↔(∃ a,a.1 < s∧A7f now' a∧laA (A6o E) x y i a p)∨∃ j,m.testBit j=true∧∃ e∈r.take q,labN e.2.1=some c∧e.1=p.1∧A9w y j (labN e.2.2.1) p.2) (by simp only [↓Sh.dn,sx,Nat.reduceBEq,reduceCtorEq,Nat.reduceEqDiff])
     ⟨hk8,hz8,nx,hb8,hnx,hwx,fun p=>by rw [hbx]; exact ⟨.inl,fun h=>h.resolve_right fun ⟨_,_,e,he,_⟩=>by simp at he⟩⟩ ?_ ?_
    ·clear hb8 hbx hwx hnx hk8 hz8 q1 q2 q3 q4 q5 q6 b7 hz7 hk7
     rintro q F4 H9 hq hF4 f79 ⟨hk9,hz9,nx9,hb9,hnx9,hwx9,hbx9⟩ k5
     have e1:=hF4 1 rfl
     have e10:=hF4 10 rfl
     have e12:=hF4 12 rfl
     have e13:=hF4 13 rfl
     have e15:=hF4 15 rfl
     have e77:=hF4 77 rfl
     have e78:=hF4 78 rfl
     simp only [↓Sh.dn,sx,Nat.reduceBEq,reduceCtorEq,Nat.reduceEqDiff,g1,g10,g12,g13] at e1 e10 e12 e13 e15 e77 e78
     obtain ⟨q1,q2,q3,q4,q5,q6⟩:=hpg hk9
     obtain ⟨pe,hiae,hce⟩:=PG.edge q3 hq
     have hrq:r[q]∈r:=List.getElem_mem hq
     have htake:r.take (q+1)=r.take q++[r[q]]:=by rw [List.take_add_one,List.getElem?_eq_getElem hq]; rfl
     generalize r[q]=e at hce hrq htake
     have kn:=Kept.new hk9.wf 4 (A4h e)
     have hk10:=hk9.trans kn
     have hz10:=hz9.kept hk9.wf kn
     have hb10:=hb9.kept hk9.wf kn
     have wq:=A9d hq (by omega)
     have ho:=hout s r hr e hrq
     have het:=hrt e hrq
     obtain ⟨q1',q2',q3',q4',q5',q6'⟩:=hpg hk10
     obtain ⟨px,ix,cx⟩:=natSl Tryz.underlying88 A3i q6' hil
     rw [hxi] at cx
     have skip:(¬∃ j,m.testBit j=true∧labN e.2.1=some c)→∀ p,A7f nx9 p↔(∃ a,a.1 < s∧A7f now' a∧laA (A6o E) x y i a p)∨∃ j,m.testBit j=true∧∃ e∈r.take (q+1),labN e.2.1=some c∧e.1=p.1∧A9w y j (labN e.2.2.1) p.2:=fun hno p=>by
      rw [hbx9,htake]
      refine or_congr_right ⟨fun ⟨j,h1,e',h2,h3⟩=>⟨j,h1,e',List.mem_append_left _ h2,h3⟩,fun ⟨j,h1,e',h2,h3⟩=>?_⟩
      rcases List.mem_append.1 h2 with h4 | h4
      ·exact ⟨j,h1,e',h4,h3⟩
      ·rw [List.mem_singleton.1 h4] at h3; exact absurd ⟨j,h1,h3.1⟩ hno
     by_cases hm0:m=0
     ·simp only [↓Sh.dn,sx,Nat.reduceBEq,reduceCtorEq,Nat.reduceEqDiff,e15,e77,e78,f79,hiae,hce,A6a,hq,decide_true,Option.map_some,B4p,A35,B8n,A76,hm0,wq]
      exact k5 _ _ (by repeat (first | refine Same.put ?_ rfl | exact Same.rfl' _)) (by simp only [↓Sh.dn,sx,Nat.reduceBEq,reduceCtorEq,Nat.reduceEqDiff]) ⟨hk10,hz10,nx9,hb10,hnx9,hwx9,skip fun ⟨j,h1,_⟩=>by rw [hm0] at h1; simp at h1⟩
     by_cases hec:e.2.1=(c:Int)
     case neg=>
      simp only [↓Sh.dn,sx,Nat.reduceBEq,reduceCtorEq,Nat.reduceEqDiff,e1,e12,e15,e77,e78,f79,hiae,hce,A6a,hq,decide_true,Option.map_some,B4p,A35,B8n,A76,hm0,decide_false,ge1,ix,cx,hec,wq]
      exact k5 _ _ (by repeat (first | refine Same.put ?_ rfl | exact Same.rfl' _)) (by simp only [↓Sh.dn,sx,Nat.reduceBEq,reduceCtorEq,Nat.reduceEqDiff]) ⟨hk10,hz10,nx9,hb10,hnx9,hwx9,skip fun ⟨j,_,h2⟩=>by
       unfold labN at h2
       split at h2
       ·cases h2
       ·have:=Option.some.inj h2; omega⟩
     have hlab:labN e.2.1=some c:=by
      unfold labN
      rw [hec,if_neg (by omega)]; rfl
     have hg2:nx9[e.1]?=some nx9[e.1]:=List.getElem?_eq_getElem (by omega)
     have hm2:=hwx9 _ (List.getElem_mem (show e.1 < nx9.length by omega))
     generalize nx9[e.1]=m2 at hg2 hm2
     obtain ⟨x2,a2,c2⟩:=Sl.elem (s:=1) Tryz.underlying144 A6h hb10.toSl (i:=e.1) (u:=.int .u64 (m2:Int)) (by rw [List.getElem?_map,hg2]; rfl)
     obtain ⟨r5,H11,hd5,hk5,rfl⟩:=B7k (e:=e) (m:=m) q4' q5' hpl hy (by rw [hWl]; exact ho) (hwm.lt64 hy) kn.wf
     have hb11:=hb10.kept kn.wf hk5
     have hz11:=hz10.kept kn.wf hk5
     have hk11:=hk10.trans hk5
     obtain ⟨x3,a3,c3⟩:=Sl.elem (s:=1) Tryz.underlying144 A6h hb11.toSl (i:=e.1) (u:=.int .u64 (m2:Int)) (by rw [List.getElem?_map,hg2]; rfl)
     rw [a2] at a3
     injection a3 with a3; injection a3 with a3; injection a3 with a3
     rw [← a3] at c3
     have hst:=A72 (o:=e.2.2.1) hpl (by omega) hwm
     have hbit:=A2z (m:=m) (o:=e.2.2.1) hpl (by omega)
     obtain ⟨st,hst0⟩:∃ st,stepM W m e.2.2.1=st:=⟨_,rfl⟩
     rw [hst0] at hst hbit hd5
     have hor:=or64 (P:=Tryz.prog) (t:=145) (c:=false) (hm2.lt64 hy) (hst.lt64 hy)
     obtain ⟨p6,H12,ia6,w6,z6,c6,n6⟩:=Buf.set (P:=Tryz.prog) hb11 hk5.wf (i:=e.1) (x:=u64C (m2 ||| st)) (by simp; omega) rfl
     have ia6':=ia6 Tryz.underlying144 A6h (j:=.i64)
     rw [a2] at ia6'
     injection ia6' with e6; injection e6 with e6; injection e6 with e6
     have st6:A5j Tryz.prog 145 H11 (.int .u64 ((m2 ||| st:Nat):Int)) (.pointer (some x2))=some H12:=by rw [A8j A6h rfl,e6]; exact w6
     have ab:Arr (H9.new 4 (A4h e)).2 H9.next 0 4 (A4h e):=(Sh.Obj.new (H:=H9) 4 (A4h e)).arr
     have ab5:=ab.keep (hk5.old _ (ab.lt kn.wf))
     have b0:H11.cell ⟨H9.next,0,some 0⟩=some (.int .i64 (e.1:Int)):=ab5.cell 0
     have ball:H11.cells ⟨H9.next,0,some 0⟩ 4=some (A4h e):=ab5.cells (i:=0) (n:=4) (by simp [A4h])
     have hvq:veq (.agg (A4h e).toArray) (.agg (A4h e).toArray)=true:=B5f (by simp [A4h,A0z,A24,A2i])
     simp only [↓Sh.dn,sx,Nat.reduceBEq,reduceCtorEq,Nat.reduceEqDiff,e1,e12,e15,e77,e78,f79,hiae,hce,A6a,hq,decide_true,Option.map_some,B4p,A35,B8n,A76,hm0,decide_false,ge1,ix,cx,hec]
     refine B6r (fl:=[(0,[]),(1,[]),(2,[]),(3,[]),(4,[]),(5,[]),(6,[]),(7,[]),(8,[4,2]),(9,[]),(10,[]),(11,[])]) (by kernel_rfl) (by kernel_rfl) (by kernel_rfl) ?_
     simp only [↓Sh.dn,sx,Nat.reduceBEq,reduceCtorEq,Nat.reduceEqDiff,wpr,again,A0d,A3l,A2i,A8l,A1j,A0h,A4j,forall_eq,forall_eq',e10,e13,e15,ge0,geAll,Option.map_some,a2,c2]
     refine ⟨_,_,hd5,?_⟩
     simp only [↓Sh.dn,sx,Nat.reduceBEq,reduceCtorEq,Nat.reduceEqDiff,wpr,again,A0d,A3l,A2i,A8l,A1j,A0h,A4j,forall_eq,forall_eq',c3,b0,exists_eq_left',true_and,hor,st6,f79,wq]
     have hsame:∀ {t m':Nat},t≠e.1→((nx9.set e.1 (m2 ||| st))[t]?=some m'↔nx9[t]?=some m'):=fun {t m'} ht=>by rw [List.getElem?_set,if_neg (Ne.symm ht)]
     refine k5 _ _ (by repeat (first | refine Same.put ?_ rfl | exact Same.rfl' _)) (by simp only [↓Sh.dn,sx,Nat.reduceBEq,reduceCtorEq,Nat.reduceEqDiff]) ⟨hk11.then (Nat.le_refl _) (c6.weak fun v hv=>by have:=Option.some.inj hv; omega),hz11.chg hk5.wf c6 (fun v hv h2=>hsep v hv h2),nx9.set e.1 (m2 ||| st),by rw [List.map_set]; exact z6,by rw [List.length_set,hnx9],fun m' hm'=>?_,fun p=>?_⟩
     ·rcases List.mem_or_eq_of_mem_set hm' with h1 | h1
      ·exact hwx9 m' h1
      ·rw [h1]; exact B9n hm2 hst
     ·rw [B6a (by omega),Nat.testBit_or,Bool.or_eq_true,hbit,htake]
      have hp9:=hbx9 p
      constructor
      ·rintro (⟨h1,h2 | ⟨j,h3,h4⟩⟩ | ⟨h1,h2⟩)
       ·rcases hp9.1 ⟨m2,by rw [h1]; exact hg2,h2⟩ with h5 | ⟨j,h5,e',h6,h7⟩
        ·exact .inl h5
        ·exact .inr ⟨j,h5,e',List.mem_append_left _ h6,h7⟩
       ·exact .inr ⟨j,h3,e,List.mem_append_right _ List.mem_cons_self,hlab,h1.symm,h4⟩
       ·rcases hp9.1 h2 with h5 | ⟨j,h5,e',h6,h7⟩
        ·exact .inl h5
        ·exact .inr ⟨j,h5,e',List.mem_append_left _ h6,h7⟩
      ·have old : A7f nx9 p → (p.1 = e.1 ∧ (m2.testBit p.2 = true ∨ ∃ j, m.testBit j = true ∧ A9w y j (labN e.2.2.1) p.2)) ∨ (p.1 ≠ e.1 ∧ A7f nx9 p) := fun hb => by
         by_cases ht : p.1 = e.1
         · obtain ⟨m', h1, h2⟩ := hb
           rw [ht, hg2] at h1
           exact .inl ⟨ht, .inl (by rw [Option.some.inj h1]; exact h2)⟩
         · exact .inr ⟨ht, hb⟩
       rintro (h1 | ⟨j, h1, e', h2, h3, h4, h5⟩)
       · exact old (hp9.2 (.inl h1))
       · rcases List.mem_append.1 h2 with h6 | h6
         · exact old (hp9.2 (.inr ⟨j, h1, e', h6, h3, h4, h5⟩))
         · rw [List.mem_singleton.1 h6] at h4 h5
           exact .inl ⟨h4.symm, .inr ⟨j, h1, h5⟩⟩
    ·rintro F4 H9 hF4 f79 ⟨hk9,hz9,nx9,hb9,hnx9,hwx9,hbx9⟩
     have e65:=hF4 65 rfl
     have e66:=hF4 66 rfl
     have e78:=hF4 78 rfl
     simp only [↓Sh.dn,sx,Nat.reduceBEq,reduceCtorEq,Nat.reduceEqDiff,g65,f66] at e65 e66 e78
     rw [List.take_length] at hbx9
     simp only [↓Sh.dn,sx,Nat.reduceBEq,reduceCtorEq,Nat.reduceEqDiff,e66,e78,f79,A6a,Nat.lt_irrefl,decide_false,A9d hs (by omega)]
     refine k2 _ _ ?_ (by simp only [↓Sh.dn,sx,Nat.reduceBEq,reduceCtorEq,Nat.reduceEqDiff]) ⟨hk9,hz9,nx9,hb9,hnx9,hwx9,fun p=>?_⟩
     ·repeat refine Same.put ?_ rfl
      exact Same.trans (by repeat (first | refine Same.put ?_ rfl | exact Same.rfl' _)) (hF4.sub rfl)
     ·rw [hbx9]
      constructor
      ·rintro (⟨a,h1,h2⟩ | ⟨j,h1,e,h2,h3,h4,h5⟩)
       ·exact ⟨a,by omega,h2⟩
       ·exact ⟨(s,j),Nat.lt_succ_self s,(hbs j).2 h1,labN e.2.2.1,c,hgx,⟨r,hr,e,h2,h4,h3,rfl⟩,h5⟩
      ·rintro ⟨⟨a,j⟩,h1,h2,h3⟩
       by_cases has:a=s
       ·subst has
        obtain ⟨b,c',h4,⟨r',h5,e,h6,h7,h8,h9⟩,h10⟩:=h3
        simp only at h4 h5 h7 h10
        rw [hgx] at h4
        rw [hr] at h5
        rw [← Option.some.inj h5] at h6
        rw [← Option.some.inj h4] at h8
        exact .inr ⟨j,(hbs j).1 h2,e,h6,h8,h7,by rw [h9]; exact h10⟩
       ·exact .inl ⟨(a,j),by simp only at h1 ⊢; omega,h2,h3⟩
   ·rintro F2 H8 hF2 f66 ⟨hk8,hz8,nx,hb8,hnx,hwx,hbx⟩
    have g0:=hF2 0 rfl
    have g1:=hF2 1 rfl
    have g2:=hF2 2 rfl
    have g10:=hF2 10 rfl
    have g12:=hF2 12 rfl
    have g13:=hF2 13 rfl
    have g65:=hF2 65 rfl
    simp only [↓Sh.dn,sx,Nat.reduceBEq,reduceCtorEq,Nat.reduceEqDiff,f0,f1,f2,f10,f12] at g0 g1 g2 g10 g12 g13 g65
    have wi:=A9d hil (by omega)
    simp only [↓Sh.dn,sx,Nat.reduceBEq,reduceCtorEq,Nat.reduceEqDiff,g12,g13,g65,f66,A6a,Nat.lt_irrefl,decide_false,wi]
    refine k (x.length - (i+1)) _ _ (by omega) ⟨i+1,by omega,by simp only [↓Sh.dn,sx,Nat.reduceBEq,reduceCtorEq,Nat.reduceEqDiff],by simp only [↓Sh.dn,sx,Nat.reduceBEq,reduceCtorEq,Nat.reduceEqDiff,g0],by simp only [↓Sh.dn,sx,Nat.reduceBEq,reduceCtorEq,Nat.reduceEqDiff,g1],by simp only [↓Sh.dn,sx,Nat.reduceBEq,reduceCtorEq,Nat.reduceEqDiff,g2],by simp only [↓Sh.dn,sx,Nat.reduceBEq,reduceCtorEq,Nat.reduceEqDiff,g10],hk8,zn,nx,some on,by simp only [↓Sh.dn,sx,Nat.reduceBEq,reduceCtorEq,Nat.reduceEqDiff],hb8,fun v hv=>by have:=Option.some.inj hv; omega,hnx,hwx,fun p=>?_⟩
    rw [hbx]
    show _↔∃ a,A79 (laE (A6o E) y) (laA (A6o E) x y) (fun p=>p=(0,0)) i a∧laA (A6o E) x y i a p
    constructor
    ·rintro ⟨a,_,h2,h3⟩; exact ⟨a,(hlay a).1 h2,h3⟩
    ·rintro ⟨a,h2,h3⟩
     have h4:=(hlay a).2 h2
     obtain ⟨m',h5,_⟩:=h4
     have:=(List.getElem?_eq_some_iff.1 h5).1
     exact ⟨a,by omega,(hlay a).2 h2,h3⟩
end Go.Proofs.YtnoengaghabmjaaGreat
/- What is wrong with a word: by the reference, by the program. -/
namespace Go.Proofs.YtnoengaghabmjaaGreat
open Go Go.Proofs Go.Proofs.Sh
def A9f (l:List ByteArray):Int:=if (decide (60 < l.length) || A6i l)=true then 3 else if l.all A8o=true then 0 else 1
theorem B99 {H:AH} {v:Value} {l:List ByteArray} (hs:Sl H v 1 (l.map A9a)) (hl:l.length≤1048576) (hlx:∀ x∈l,x.size≤1048576) (hw:Wf H):
  Sh.Call Tryz.prog (knows 10) 35 [v] H (fun r H'=>Kept H H'∧r=.int .i64 (A9f l)):=by
 refine A3b rfl Tryz.func35 rfl (Nat.le_of_ble_eq_true rfl) ?_
 have hres:Tryz.f35.results.toList=[.tmp 2]:=rfl
 have hlen:=hs.len Tryz.underlying22 H
 have e60:decide ((60:Int) < ((l.length:Nat):Int))=decide (60 < l.length):=by by_cases h:60 < l.length <;> simp [h] <;> omega
 simp only [↓Sh.dn,sx,Nat.reduceBEq,reduceCtorEq,Nat.reduceEqDiff,hlen,List.length_map,e60]
 by_cases h60:60 < l.length
 ·simp only [↓Sh.dn,sx,Nat.reduceBEq,reduceCtorEq,Nat.reduceEqDiff,h60,decide_true,hres,A9f,Bool.true_or,Kept.refl hw]
 ·simp only [↓Sh.dn,sx,Nat.reduceBEq,reduceCtorEq,Nat.reduceEqDiff,h60,decide_false]
  obtain ⟨r1,H1,hd1,hk1,rfl⟩:=C4c hs hl hw
  refine ⟨_,_,hd1,?_⟩
  cases hL:(l.any fun s=>decide (16 < s.size)) with
  | true=>simp only [↓Sh.dn,sx,Nat.reduceBEq,reduceCtorEq,Nat.reduceEqDiff,hres,hL,A9f,A6i,h60,decide_false,Bool.false_or,hk1]
  | false=>
   simp only [↓Sh.dn,sx,Nat.reduceBEq,reduceCtorEq,Nat.reduceEqDiff]
   obtain ⟨r2,H2,hd2,rfl,rfl⟩:=B6d (hs.grow (hk1.grow hw)) hl hlx hk1.wf
   refine ⟨_,_,hd2,?_⟩
   cases hA:l.all A8o with
   | false=>simp only [↓Sh.dn,sx,Nat.reduceBEq,reduceCtorEq,Nat.reduceEqDiff,hres,hL,hA,A9f,A6i,h60,decide_false,Bool.false_or,hk1]
   | true=>simp only [↓Sh.dn,sx,Nat.reduceBEq,reduceCtorEq,Nat.reduceEqDiff,hres,hL,hA,A9f,A6i,h60,decide_false,Bool.false_or,hk1]
theorem symsWord {H:AH} {v:Value} {l:List ByteArray} (hs:Sl H v 1 (l.map A9a)) (hl:l.length≤1048576) (hlx:∀ x∈l,x.size≤1048576) (hw:Wf H):
  Sh.Call Tryz.prog (knows 10) 41 [v] H (fun r H'=>Kept H H'∧r=.int .i64 (A9f l)):=by
 refine A3b rfl Tryz.func41 rfl (Nat.le_of_ble_eq_true rfl) ?_
 have hres:Tryz.f41.results.toList=[.tmp 2]:=rfl
 have hlen:=hs.len Tryz.underlying22 H
 have e60:decide ((60:Int) < ((l.length:Nat):Int))=decide (60 < l.length):=by by_cases h:60 < l.length <;> simp [h] <;> omega
 simp only [↓Sh.dn,sx,Nat.reduceBEq,reduceCtorEq,Nat.reduceEqDiff,hlen,List.length_map,e60]
 by_cases h60:60 < l.length
 ·simp only [↓Sh.dn,sx,Nat.reduceBEq,reduceCtorEq,Nat.reduceEqDiff,h60,decide_true,hres,A9f,Bool.true_or,Kept.refl hw]
 simp only [↓Sh.dn,sx,Nat.reduceBEq,reduceCtorEq,Nat.reduceEqDiff,h60,decide_false]
 obtain ⟨r1,H1,hd1,hk1,rfl⟩:=A3o (caps:=[]) (fid:=91) (fun s=>decide (16 < s.size)) hs hl hw (fun H' hk x hx=>(B8a (H:=H') (x:=x)).mono fun r H'' h=>by rcases h with ⟨rfl,h⟩; exact ⟨Kept.refl hk.wf,h⟩)
 refine ⟨_,_,hd1,?_⟩
 cases hL:(l.any fun s=>decide (16 < s.size)) with
 | true=>simp only [↓Sh.dn,sx,Nat.reduceBEq,reduceCtorEq,Nat.reduceEqDiff,hres,hL,A9f,A6i,h60,decide_false,Bool.false_or,hk1]
 | false=>
  have hs1:=hs.grow (hk1.grow hw)
  have h16:∀ x∈l,decide (x.size≤16)=true:=by
   intro x hx
   have:=List.any_eq_false.1 hL x hx
   simp only [decide_eq_true_eq,Nat.not_lt] at this
   simpa using this
  have hsy:∀ x∈l,A8o x=chOk x:=by intro x hx; rw [B2c,h16 x hx,Bool.and_true]
  obtain ⟨r2,H2,hd2,hk2,rfl⟩:=A3o (caps:=[]) (fid:=92) (fun s=>!chOk s) hs1 hl hk1.wf (fun H' hk x hx=>by
   refine A3b rfl Tryz.func92 rfl (Nat.le_of_ble_eq_true rfl) ?_
   have hres:Tryz.f92.results.toList=[.tmp 2]:=rfl
   obtain ⟨r3,H3,hd3,rfl,rfl⟩:=A03 (H:=H') (x:=x) (hlx x hx)
   simp only [↓Sh.dn,sx,Nat.reduceBEq,reduceCtorEq,Nat.reduceEqDiff]
   refine ⟨_,_,hd3,?_⟩
   simp only [↓Sh.dn,sx,Nat.reduceBEq,reduceCtorEq,Nat.reduceEqDiff,hres,Kept.refl hk.wf])
  simp only [↓Sh.dn,sx,Nat.reduceBEq,reduceCtorEq,Nat.reduceEqDiff]
  refine ⟨_,_,hd2,?_⟩
  have hall:(l.any fun s=>!chOk s)=!l.all A8o:=by
   rw [List.all_eq_not_any_not,Bool.not_not]
   apply Bool.eq_iff_iff.2
   simp only [List.any_eq_true]
   exact ⟨fun ⟨x,h1,h2⟩=>⟨x,h1,by rw [hsy x h1]; exact h2⟩,fun ⟨x,h1,h2⟩=>⟨x,h1,by rw [← hsy x h1]; exact h2⟩⟩
  cases hA:l.all A8o with
  | false=>
   rw [hA] at hall
   simp only [↓Sh.dn,sx,Nat.reduceBEq,reduceCtorEq,Nat.reduceEqDiff,hres,hL,hA,hall,Bool.not_false,A9f,A6i,h60,decide_false,Bool.false_or,hk1.trans hk2]
  | true=>
   rw [hA] at hall
   simp only [↓Sh.dn,sx,Nat.reduceBEq,reduceCtorEq,Nat.reduceEqDiff,hres,hL,hA,hall,Bool.not_true,A9f,A6i,h60,decide_false,Bool.false_or,hk1.trans hk2]
end Go.Proofs.YtnoengaghabmjaaGreat
/- rel.Holds and the reference's Holds. -/
namespace Go.Proofs.YtnoengaghabmjaaGreat
open Go Go.Proofs Go.Proofs.Sh
def A4i (N:NetD) (x y:List ByteArray):Int:=if A9n N≠0 then A9n N else if A9f x≠0 then A9f x else A9f y
noncomputable def holdsB (N:NetD) (x y:List ByteArray):Bool:=tB (A4i N x y=0∧B3a N x y)
theorem B5g {w:List ByteArray} (h:A9f w=0):w.length≤60:=by
 unfold A9f at h
 split at h
 ·cases h
 ·rename_i h1
  simp only [Bool.or_eq_true,decide_eq_true_eq,not_or] at h1
  omega
theorem A2s {p:Prop} (h:¬p):tB p=false:=Bool.eq_false_iff.2 fun h2=>h (B1x.1 h2)
theorem B06 {H:AH} {u v:Value} {x y:List ByteArray} (hu:Sl H u 1 (x.map A9a)) (hv:Sl H v 1 (y.map A9a)) (hw:Wf H):JagR (H.new 1 [u,v]).2 (.slice (some ⟨H.next,0,some 0⟩) 2 2) 1 ([x,y].map fun w=>w.map A9a) [u,v]:=by
 have k:=Kept.new hw 1 [u,v]
 refine ⟨(Buf.fresh (H:=H) (s:=1) (xs:=[[u],[v]]) hw (by
  intro x hx
  simp only [List.mem_cons,List.not_mem_nil,or_false] at hx
  rcases hx with rfl | rfl <;> rfl) (by simp) 2 rfl).toSl,rfl,fun i w' r h1 h2=>?_⟩
 match i with
 | 0=>
  simp only [List.map_cons,List.map_nil,List.getElem?_cons_zero,Option.some.injEq] at h1 h2
  subst h1 h2
  exact hu.grow (k.grow hw)
 | 1=>
  simp only [List.map_cons,List.map_nil,List.getElem?_cons_succ,List.getElem?_cons_zero,Option.some.injEq] at h1 h2
  subst h1 h2
  exact hv.grow (k.grow hw)
 | i+2=>simp at h1
theorem refHolds {H:AH} {v ux uy:Value} {N:NetD} {x y:List ByteArray} (h:A8v H v N) (hsm:A5h N) (hx:Sl H ux 1 (x.map A9a)) (hy:Sl H uy 1 (y.map A9a)) (hxl:x.length≤1048576) (hyl:y.length≤1048576) (hxx:∀ z∈x,z.size≤1048576) (hyy:∀ z∈y,z.size≤1048576) (hw:Wf H):
  Sh.Call Tryz.prog (knows 10) 27 [v,ux,uy] H (fun r H'=>Kept H H'∧r=.tuple #[.bool (holdsB N x y),.int .i64 (A4i N x y)]):=by
 refine A3b rfl Tryz.func27 rfl (Nat.le_of_ble_eq_true rfl) ?_
 have hres:Tryz.f27.results.toList=[.tmp 6,.tmp 7]:=rfl
 obtain ⟨sg,ar,en,rfl,hsg,har,hen⟩:=h
 have hb1:=NetBox.of (N:=N) hw hsg har hen
 have hk1:Kept H (H.new 4 [sg,.int .i64 N.states,ar,en]).2:=Kept.new hw 4 _
 simp only [↓Sh.dn,sx,Nat.reduceBEq,reduceCtorEq,Nat.reduceEqDiff,A5q hsg.isCell har.isCell hen.isCell]
 generalize H.next=gg at hb1 ⊢
 generalize (H.new 4 [sg,.int .i64 N.states,ar,en]).2=H1 at hb1 hk1 ⊢
 simp only [↓Sh.dn,sx,Nat.reduceBEq,reduceCtorEq,Nat.reduceEqDiff,hb1.c0,hb1.c1,hb1.c2,hb1.c3,hb1.ca,A2a hb1,A1a hb1,A3a hb1,Option.map_some]
 obtain ⟨r,H2,hd,hk2,rfl⟩:=B7j hb1.netAt hsm hk1.wf
 refine ⟨_,_,hd,?_⟩
 have hb2:=hb1.kept hk1.wf hk2
 have hk12:=hk1.trans hk2
 by_cases hE:A9n N=0
 case neg=>
  have e1:A4i N x y=A9n N:=by unfold A4i; rw [if_pos hE]
  have e2:holdsB N x y=false:=A2s fun h=>hE (by rw [← e1]; exact h.1)
  simp only [↓Sh.dn,sx,Nat.reduceBEq,reduceCtorEq,Nat.reduceEqDiff,hE,decide_false,hres,e1,e2,hk12]
 obtain ⟨r,H3,hd3,hk3,rfl⟩:=B99 (hx.grow (hk12.grow hw)) hxl hxx hk12.wf
 have hk13:=hk12.trans hk3
 simp only [↓Sh.dn,sx,Nat.reduceBEq,reduceCtorEq,Nat.reduceEqDiff,hE,decide_true]
 refine ⟨_,_,hd3,?_⟩
 by_cases hX:A9f x=0
 case neg=>
  have e1:A4i N x y=A9f x:=by unfold A4i; rw [if_neg (by simpa using hE),if_pos hX]
  have e2:holdsB N x y=false:=A2s fun h=>hX (by rw [← e1]; exact h.1)
  simp only [↓Sh.dn,sx,Nat.reduceBEq,reduceCtorEq,Nat.reduceEqDiff,hX,decide_false,hres,e1,e2,hk13]
 obtain ⟨r,H4,hd4,hk4,rfl⟩:=B99 (hy.grow (hk13.grow hw)) hyl hyy hk13.wf
 have hk14:=hk13.trans hk4
 have e1:A4i N x y=A9f y:=by unfold A4i; rw [if_neg (by simpa using hE),if_neg (by simpa using hX)]
 simp only [↓Sh.dn,sx,Nat.reduceBEq,reduceCtorEq,Nat.reduceEqDiff,hX,decide_true]
 refine ⟨_,_,hd4,?_⟩
 by_cases hY:A9f y=0
 case neg=>
  have e2:holdsB N x y=false:=A2s fun h=>hY (by rw [← e1]; exact h.1)
  simp only [↓Sh.dn,sx,Nat.reduceBEq,reduceCtorEq,Nat.reduceEqDiff,hY,decide_false,hres,e1,e2,hk14]
 have hb4:=(hb2.kept hk12.wf hk3).kept hk13.wf hk4
 obtain ⟨hok,_,_⟩:=B5p hE
 have hxs:=B5g hX
 have hys:=B5g hY
 obtain ⟨r,H5,hd5,hk5,rfl⟩:=refPair hb4.netAt hok hsm (hx.grow (hk14.grow hw)) (hy.grow (hk14.grow hw)) (by omega) (by omega) hk14.wf
 have e2:holdsB N x y=tB (B3a N x y):=by
  unfold holdsB
  rw [e1,hY]
  congr 1
  simp
 simp only [↓Sh.dn,sx,Nat.reduceBEq,reduceCtorEq,Nat.reduceEqDiff,hY,decide_true,hb4.c0,hb4.c1,hb4.c2,hb4.c3,hb4.ca,A2a hb4,A1a hb4,A3a hb4,Option.map_some]
 refine ⟨_,_,hd5,?_⟩
 simp only [↓Sh.dn,sx,Nat.reduceBEq,reduceCtorEq,Nat.reduceEqDiff,hres,e1,hY,e2,hk14.trans hk5]
theorem relHolds {H:AH} {v ux uy:Value} {N:NetD} {x y:List ByteArray} (h:A8v H v N) (hsm:A5h N) (hx:Sl H ux 1 (x.map A9a)) (hy:Sl H uy 1 (y.map A9a)) (hxl:x.length≤1048576) (hyl:y.length≤1048576) (hxx:∀ z∈x,z.size≤1048576) (hyy:∀ z∈y,z.size≤1048576) (hw:Wf H):
  Sh.Call Tryz.prog (knows 10) 26 [v,ux,uy] H (fun r H'=>Kept H H'∧r=.tuple #[.bool (holdsB N x y),.int .i64 (A4i N x y)]):=by
 refine A3b rfl Tryz.func26 rfl (Nat.le_of_ble_eq_true rfl) ?_
 have hres:Tryz.f26.results.toList=[.tmp 6,.tmp 7]:=rfl
 obtain ⟨sg,ar,en,rfl,hsg,har,hen⟩:=h
 have hb1:=NetBox.of (N:=N) hw hsg har hen
 have hk1:Kept H (H.new 4 [sg,.int .i64 N.states,ar,en]).2:=Kept.new hw 4 _
 simp only [↓Sh.dn,sx,Nat.reduceBEq,reduceCtorEq,Nat.reduceEqDiff,A5q hsg.isCell har.isCell hen.isCell]
 generalize H.next=gg at hb1 ⊢
 generalize (H.new 4 [sg,.int .i64 N.states,ar,en]).2=H1 at hb1 hk1 ⊢
 simp only [↓Sh.dn,sx,Nat.reduceBEq,reduceCtorEq,Nat.reduceEqDiff,hb1.c0,hb1.c1,hb1.c2,hb1.c3,hb1.ca,A2a hb1,A1a hb1,A3a hb1,Option.map_some]
 obtain ⟨r,H2,hd,hk2,rfl⟩:=A95 hb1.netAt hsm hk1.wf
 refine ⟨_,_,hd,?_⟩
 have hb2:=hb1.kept hk1.wf hk2
 have hk12:=hk1.trans hk2
 by_cases hE:A9n N=0
 case neg=>
  have e1:A4i N x y=A9n N:=by unfold A4i; rw [if_pos hE]
  have e2:holdsB N x y=false:=A2s fun h=>hE (by rw [← e1]; exact h.1)
  simp only [↓Sh.dn,sx,Nat.reduceBEq,reduceCtorEq,Nat.reduceEqDiff,hE,decide_false,hres,e1,e2,hk12]
 have hx2:=hx.grow (hk12.grow hw)
 have hy2:=hy.grow (hk12.grow hw)
 have hbs:=B9e (P:=Tryz.prog) (H:=H2) Tryz.underlying30 A3t A88 rfl hx2.isCell hy2.isCell
 have hJ:=B06 hx2 hy2 hk12.wf
 have kn:=Kept.new hk12.wf 1 [ux,uy]
 simp only [↓Sh.dn,sx,Nat.reduceBEq,reduceCtorEq,Nat.reduceEqDiff,hE,decide_true,hbs]
 generalize (Value.slice (some ⟨H2.next,0,some 0⟩) 2 2)=lv at hJ ⊢
 have hll:∀ H',A7a Tryz.prog .len [30] [lv] H'=some (.int .i64 ((2:Nat):Int),H'):=fun H'=>by
  rw [hJ.sl.len Tryz.underlying30]; rfl
 have hkn:=hk12.trans kn
 generalize (H2.new 1 [ux,uy]).2=H3 at kn hJ hkn ⊢
 have hgx:∀ (i:Nat) w,[x,y][i]?=some w→(w=x∧i=0)∨(w=y∧i=1):=fun i w h=>by
  match i with
  | 0=>exact .inl ⟨(Option.some.inj h).symm,rfl⟩
  | 1=>exact .inr ⟨(Option.some.inj h).symm,rfl⟩
  | i+2=>simp at h
 refine A8h 2 25 (List.range' 25 10++[10,11]) (fun i F H'=>Kept H3 H'∧∀ (j:Nat) w,j < i→[x,y][j]?=some w→A9f w=0) (by simp only [↓Sh.dn,sx,Nat.reduceBEq,reduceCtorEq,Nat.reduceEqDiff]) ⟨Kept.refl hkn.wf,fun j w hj=>absurd hj (Nat.not_lt_zero j)⟩ ?_ ?_
 ·rintro i F H' hi hF f25 ⟨hk,hall⟩ k
  have f23:=hF 23 rfl
  have f24:=hF 24 rfl
  simp only [↓Sh.dn,sx,Nat.reduceBEq,reduceCtorEq,Nat.reduceEqDiff] at f23 f24
  obtain ⟨w,hgw⟩:∃ w,[x,y][i]?=some w:=⟨_,List.getElem?_eq_getElem (by simpa using hi)⟩
  obtain ⟨g1,o1,q1,w1,i1,c1,s1⟩:=(hJ.grow (hk.grow hkn.wf)).at Tryz.underlying30 A3t (i:=i) (r:=w.map A9a) (by rw [List.getElem?_map,hgw]; rfl)
  have hwb:w.length≤1048576∧∀ z∈w,z.size≤1048576:=by
   rcases hgx i w hgw with ⟨rfl,_⟩ | ⟨rfl,_⟩
   ·exact ⟨hxl,hxx⟩
   ·exact ⟨hyl,hyy⟩
  obtain ⟨r,H4,hd4,hk4,rfl⟩:=symsWord s1 hwb.1 hwb.2 hk.wf
  simp only [↓Sh.dn,sx,Nat.reduceBEq,reduceCtorEq,Nat.reduceEqDiff,f23,f24,f25,A6a,hi,decide_true,i1,c1]
  refine ⟨_,_,hd4,?_⟩
  by_cases hE2:A9f w=0
  ·simp only [↓Sh.dn,sx,Nat.reduceBEq,reduceCtorEq,Nat.reduceEqDiff,hE2,decide_true,f25,A9d hi (by decide)]
   refine k _ _ (by repeat (first | refine Same.put ?_ rfl | exact Same.rfl' _)) (by simp only [↓Sh.dn,sx,Nat.reduceBEq,reduceCtorEq,Nat.reduceEqDiff]) ⟨hk.trans hk4,fun j u hj hu=>?_⟩
   by_cases hji:j=i
   ·subst hji; rw [hgw] at hu; rw [← Option.some.inj hu]; exact hE2
   ·exact hall j u (by omega) hu
  ·have e1 : A4i N x y = A9f w := by
     unfold A4i
     rw [if_neg (by simpa using hE)]
     rcases hgx i w hgw with ⟨rfl, _⟩ | ⟨rfl, rfl⟩
     · rw [if_pos hE2]
     · rw [if_neg (by simpa using hall 0 x (by omega) rfl)]
   have e2 : holdsB N x y = false := A2s fun h => hE2 (by rw [← e1]; exact h.1)
   simp only [↓Sh.dn, sx, Nat.reduceBEq, reduceCtorEq, Nat.reduceEqDiff, hE2, decide_false, hres, e1, e2]
   exact (hkn.trans hk).trans hk4
 ·rintro F H' hF f25 ⟨hk,hall⟩
  have f1:=hF 1 rfl
  have f2:=hF 2 rfl
  have f3:=hF 3 rfl
  have f24:=hF 24 rfl
  simp only [↓Sh.dn,sx,Nat.reduceBEq,reduceCtorEq,Nat.reduceEqDiff] at f1 f2 f3 f24
  have hX:A9f x=0:=hall 0 x (by omega) rfl
  have hY:A9f y=0:=hall 1 y (by omega) rfl
  have e1:A4i N x y=0:=by unfold A4i; rw [if_neg (by simpa using hE),if_neg (by simpa using hX),hY]
  have hxs:=B5g hX
  have hys:=B5g hY
  obtain ⟨hok,_,_⟩:=B5p hE
  have hk5:=hkn.trans hk
  have hb5:=(hb2.kept hk12.wf kn).kept hkn.wf hk
  have hx5:=hx.grow (hk5.grow hw)
  have hy5:=hy.grow (hk5.grow hw)
  obtain ⟨r,H6,hd6,hk6,z1,rfl,hz1⟩:=B5q hb5.hsg hok.asc hsm.sg hx5 hxl hk.wf
  have hb6:=hb5.kept hk.wf hk6
  have hy6:=hy5.grow (hk6.grow hk.wf)
  obtain ⟨r,H7,hd7,hk7,z2,rfl,hz2⟩:=B5q hb6.hsg hok.asc hsm.sg hy6 hyl hk6.wf
  have hb7:=hb6.kept hk6.wf hk7
  have hk57:=(hk5.trans hk6).trans hk7
  simp only [↓Sh.dn,sx,Nat.reduceBEq,reduceCtorEq,Nat.reduceEqDiff,f1,f2,f3,f24,f25,A6a,Nat.lt_irrefl,decide_false,hb5.c0,hb5.c1,hb5.c2,hb5.c3,hb5.ca,A2a hb5,A1a hb5,A3a hb5]
  refine ⟨_,_,hd6,?_⟩
  simp only [↓Sh.dn,sx,Nat.reduceBEq,reduceCtorEq,Nat.reduceEqDiff,f2,f3,hb6.c0,hb6.c1,hb6.c2,hb6.c3,hb6.ca,A2a hb6,A1a hb6,A3a hb6]
  refine ⟨_,_,hd7,?_⟩
  have e2:holdsB N x y=tB (B3a N x y):=by
   unfold holdsB
   rw [e1]
   congr 1
   simp
  cases hax:x.all (A8m N.sigma) with
  | false=>
   have:holdsB N x y=false:=by
    rw [e2]
    refine A2s fun h=>?_
    have:=List.all_eq_true.2 fun z hz=>A4g.2 ((B9m hok h).1 z hz)
    rw [hax] at this; cases this
   simp only [↓Sh.dn,sx,Nat.reduceBEq,reduceCtorEq,Nat.reduceEqDiff,hres,e1,this,hk57]
  | true=>
  cases hay:y.all (A8m N.sigma) with
  | false=>
   have:holdsB N x y=false:=by
    rw [e2]
    refine A2s fun h=>?_
    have:=List.all_eq_true.2 fun z hz=>A4g.2 ((B9m hok h).2 z hz)
    rw [hay] at this; cases this
   simp only [↓Sh.dn,sx,Nat.reduceBEq,reduceCtorEq,Nat.reduceEqDiff,hres,e1,this,hk57]
  | true=>
  have hxm:∀ z∈x,z∈N.sigma:=fun z hz=>A4g.1 (List.all_eq_true.1 hax z hz)
  have hym:∀ z∈y,z∈N.sigma:=fun z hz=>A4g.1 (List.all_eq_true.1 hay z hz)
  obtain ⟨o1,hb1',_⟩:=hz1 hax
  obtain ⟨o2,hb2',_⟩:=hz2 hay
  rw [B50 hok.asc hxm] at hb1'
  rw [B50 hok.asc hym] at hb2'
  obtain ⟨r,H8,hd8,hk8,g,rfl,base,hbase,hG⟩:=graphOf hb7.netAt hok hsm hk7.wf
  obtain ⟨sv,av,ev,cv,vals,hP⟩:=Gr.pg hok hG
  have hk78:=hk7.trans hk8
  obtain ⟨r,H9,hd9,hk9,rfl⟩:=B93 hP (hb1'.toSl.grow (hk78.grow hk6.wf)) (hb2'.toSl.grow (hk8.grow hk7.wf)) (by rw [List.length_map]; exact hxs) (by rw [List.length_map]; exact hys) (fun k hk=>by
   obtain ⟨z,hz,rfl⟩:=List.mem_map.1 hk
   obtain ⟨k,h1,_,h3⟩:=B8b hok.asc (hym z hz)
   rw [h3]; exact (List.getElem?_eq_some_iff.1 h1).1) hsm.sg (fun s r hr e he=>by
   obtain ⟨a,ha,_,rfl⟩:=(A0v hr e).1 he
   exact B2m hok (hok.arc a ha).2.2.2.2.2) hk8.wf
  have e3:tB (∃ t,0 < (A2m N N.ends).getD t 0∧Sh.Way (A6o (A9v N)) 0 (x.map (ixN N.sigma)) (y.map (ixN N.sigma)) t)=holdsB N x y:=by
   rw [e2,propext (C6e hok hxm hym)]
  simp only [↓Sh.dn,sx,Nat.reduceBEq,reduceCtorEq,Nat.reduceEqDiff,f3,hb7.c0,hb7.c1,hb7.c2,hb7.c3,hb7.ca,A2a hb7,A1a hb7,A3a hb7,Option.map_some]
  refine ⟨_,_,hd8,?_⟩
  refine ⟨_,_,hd9,?_⟩
  simp only [↓Sh.dn,sx,Nat.reduceBEq,reduceCtorEq,Nat.reduceEqDiff,hres,e1,e3,(hk57.trans hk8).trans hk9]
end Go.Proofs.YtnoengaghabmjaaGreat
/- What laws of relations have alike: whether nets and words are far too large. -/
namespace Go.Proofs.YtnoengaghabmjaaGreat
open Go Go.Proofs Go.Proofs.Sh
theorem lawLong {H:AH} {v:Value} {ws:List (List ByteArray)} {vs:List Value} (h:JagR H v 1 (ws.map fun w=>w.map A9a) vs) (hl:ws.length≤1048576):
  Sh.Call Tryz.prog (knows 10) 9 [v] H (fun r H'=>H'=H∧r=.bool (ws.any fun w=>decide (240 < w.length))):=by
 refine A3b rfl Tryz.func9 rfl (Nat.le_of_ble_eq_true rfl) ?_
 have hres:Tryz.f9.results.toList=[.tmp 2]:=rfl
 have hlen:∀ H',A7a Tryz.prog .len [30] [v] H'=some (.int .i64 (ws.length:Int),H'):=fun H'=>by
  rw [h.sl.len Tryz.underlying30,List.length_map,h.len,List.length_map]
 simp only [↓Sh.dn,sx,Nat.reduceBEq,reduceCtorEq,Nat.reduceEqDiff]
 refine A8h ws.length 3 (List.range' 3 14) (fun i F H'=>H'=H∧∀ w∈ws.take i,¬240 < w.length) (by simp only [↓Sh.dn,sx,Nat.reduceBEq,reduceCtorEq,Nat.reduceEqDiff]) ⟨rfl,by simp⟩ ?_ ?_
 ·rintro i F H' hi hF f3 ⟨rfl,hall⟩ k
  have f0:=hF 0 rfl
  simp only [↓Sh.dn,sx,Nat.reduceBEq,reduceCtorEq,Nat.reduceEqDiff] at f0
  obtain ⟨g1,o1,q1,w1,i1,c1,s1⟩:=h.at Tryz.underlying30 A3t (i:=i) (r:=ws[i].map A9a) (by rw [List.getElem?_map,List.getElem?_eq_getElem hi]; rfl)
  have htk:ws.take (i+1)=ws.take i++[ws[i]]:=by rw [List.take_add_one,List.getElem?_eq_getElem hi]; rfl
  have hm:ws[i]∈ws:=List.getElem_mem hi
  generalize ws[i]=w at s1 htk hm
  have hlw:=s1.len Tryz.underlying22 H'
  simp only [List.length_map] at hlw
  have d:decide ((240:Int) < (w.length:Int))=decide (240 < w.length):=decide_eq_decide.2 (by omega)
  by_cases hd:240 < w.length
  ·have:(ws.any fun w=>decide (240 < w.length))=true:=List.any_eq_true.2 ⟨w,hm,decide_eq_true hd⟩
   simp only [↓Sh.dn,sx,Nat.reduceBEq,reduceCtorEq,Nat.reduceEqDiff,f0,f3,hlen,A6a,hi,decide_true,i1,c1,hlw,d,hd,hres,this]
  ·simp only [↓Sh.dn,sx,Nat.reduceBEq,reduceCtorEq,Nat.reduceEqDiff,f0,f3,hlen,A6a,hi,decide_true,i1,c1,hlw,d,hd,decide_false,A9d hi (by omega)]
   refine k _ _ (by repeat (first | refine Same.put ?_ rfl | exact Same.rfl' _)) (by simp only [↓Sh.dn,sx,Nat.reduceBEq,reduceCtorEq,Nat.reduceEqDiff]) ⟨rfl,fun u hu=>?_⟩
   rw [htk] at hu
   rcases List.mem_append.1 hu with h2 | h2
   ·exact hall u h2
   ·rw [List.mem_singleton.1 h2]; exact hd
 ·rintro F H' hF f3 ⟨rfl,hall⟩
  have f0:=hF 0 rfl
  simp only [↓Sh.dn,sx,Nat.reduceBEq,reduceCtorEq,Nat.reduceEqDiff] at f0
  rw [List.take_length] at hall
  have:(ws.any fun w=>decide (240 < w.length))=false:=by
   rw [List.any_eq_false]
   intro w hw
   rw [decide_eq_true_eq]; exact hall w hw
  simp only [↓Sh.dn,sx,Nat.reduceBEq,reduceCtorEq,Nat.reduceEqDiff,f0,f3,hlen,A6a,Nat.lt_irrefl,decide_false,hres,this]
def NetRow (H:AH) (r:List Value):Prop:=∃ (N:NetD) (sg ar en:Value),r=[sg,.int .i64 N.states,ar,en]∧Sl H sg 1 (N.sigma.map A9a)∧Sl H ar 5 (N.arcs.map ArcD.cells)∧Sl H en 2 (N.ends.map EndD.cells)∧A5h N
theorem lawOver {H:AH} {v:Value} {rows:List (List Value)} (h:Sl H v 4 rows) (hl:rows.length≤1048576) (hr:∀ r∈rows,NetRow H r):
  Sh.Call Tryz.prog (knows 10) 8 [v] H (fun r H'=>H'=H∧∃ b,r=.bool b):=by
 refine A3b rfl Tryz.func8 rfl (Nat.le_of_ble_eq_true rfl) ?_
 have hres:Tryz.f8.results.toList=[.tmp 2]:=rfl
 have hlen:∀ H',A7a Tryz.prog .len [52] [v] H'=some (.int .i64 (rows.length:Int),H'):=fun H'=>h.len Tryz.underlying52 H'
 simp only [↓Sh.dn,sx,Nat.reduceBEq,reduceCtorEq,Nat.reduceEqDiff]
 refine A8h rows.length 4 (List.range' 3 100) (fun i F H'=>H'=H∧∃ n,F.get 3=some (.int .i64 n)) (by simp only [↓Sh.dn,sx,Nat.reduceBEq,reduceCtorEq,Nat.reduceEqDiff]) ⟨rfl,0,by simp only [↓Sh.dn,sx,Nat.reduceBEq,reduceCtorEq,Nat.reduceEqDiff]⟩ ?_ ?_
 ·rintro i F H' hi hF f4 ⟨rfl,n,f3⟩ k
  have f0:=hF 0 rfl
  simp only [↓Sh.dn,sx,Nat.reduceBEq,reduceCtorEq,Nat.reduceEqDiff] at f0
  obtain ⟨g1,o1,q1,i1,_,c1⟩:=h.at Tryz.underlying52 A5x (i:=i) (List.getElem?_eq_getElem hi) .i64
  obtain ⟨N,sg,ar,en,hrow,hsg,har,hen,hsm⟩:=hr _ (List.getElem_mem hi)
  have d0:=c1 0 sg (by rw [hrow]; rfl)
  have d2:=c1 2 ar (by rw [hrow]; rfl)
  have d3:=c1 3 en (by rw [hrow]; rfl)
  simp only [Nat.add_zero] at d0
  have l0:=fun H'=>hsg.len Tryz.underlying22 H'
  have l2:=fun H'=>har.len Tryz.underlying23 H'
  have l3:=fun H'=>hen.len Tryz.underlying24 H'
  simp only [List.length_map] at l0 l2 l3
  have hs0:=hsm.sg
  have hs2:=hsm.ar
  simp only [↓Sh.dn,sx,Nat.reduceBEq,reduceCtorEq,Nat.reduceEqDiff,f0,f4,hlen,A6a,hi,decide_true,i1,d0,l0]
  have e0:decide ((400:Int) < (N.sigma.length:Int))=decide (400 < N.sigma.length):=decide_eq_decide.2 (by omega)
  have e2:decide ((120000:Int) < (N.arcs.length:Int))=decide (120000 < N.arcs.length):=decide_eq_decide.2 (by omega)
  have e3:decide ((120000:Int) < (N.ends.length:Int))=decide (120000 < N.ends.length):=decide_eq_decide.2 (by omega)
  cases h0:decide (400 < N.sigma.length) with
  | true=>simp only [↓Sh.dn,sx,Nat.reduceBEq,reduceCtorEq,Nat.reduceEqDiff,e0,h0,hres]
  | false=>
  cases h2:decide (120000 < N.arcs.length) with
  | true=>simp only [↓Sh.dn,sx,Nat.reduceBEq,reduceCtorEq,Nat.reduceEqDiff,e0,h0,f0,f4,i1,d2,l2,e2,h2,hres]
  | false=>
  cases h3:decide (120000 < N.ends.length) with
  | true=>simp only [↓Sh.dn,sx,Nat.reduceBEq,reduceCtorEq,Nat.reduceEqDiff,e0,h0,f0,f4,i1,d2,l2,e2,h2,d3,l3,e3,h3,hres]
  | false=>
  simp only [↓Sh.dn,sx,Nat.reduceBEq,reduceCtorEq,Nat.reduceEqDiff,e0,h0,f0,f4,i1,d2,l2,e2,h2,d3,l3,e3,h3]
  refine A8h N.sigma.length 5 (List.range' 38 21++[3,5]) (fun q F2 H2=>H2=H'∧∃ n,F2.get 3=some (.int .i64 n)) (by simp only [↓Sh.dn,sx,Nat.reduceBEq,reduceCtorEq,Nat.reduceEqDiff]) ⟨rfl,n,by simp only [↓Sh.dn,sx,Nat.reduceBEq,reduceCtorEq,Nat.reduceEqDiff,f3]⟩ ?_ ?_
  ·rintro q F2 H2 hq hF2 f5 ⟨rfl,n2,g3⟩ k2
   have g0:=hF2 0 rfl
   have g4:=hF2 4 rfl
   simp only [↓Sh.dn,sx,Nat.reduceBEq,reduceCtorEq,Nat.reduceEqDiff,f0,f4] at g0 g4
   obtain ⟨p2,j2,e2'⟩:=Sl.elem (s:=1) Tryz.underlying22 A0m hsg (i:=q) (u:=.string N.sigma[q]) (by rw [List.getElem?_map,List.getElem?_eq_getElem hq]; rfl)
   simp only [↓Sh.dn,sx,Nat.reduceBEq,reduceCtorEq,Nat.reduceEqDiff,g0,g3,g4,f5,i1,d0,l0,A6a,hq,decide_true,j2,e2',A9d hq (by omega)]
   exact k2 _ _ (by repeat (first | refine Same.put ?_ rfl | exact Same.rfl' _)) (by simp only [↓Sh.dn,sx,Nat.reduceBEq,reduceCtorEq,Nat.reduceEqDiff]) ⟨rfl,_,by simp only [↓Sh.dn,sx,Nat.reduceBEq,reduceCtorEq,Nat.reduceEqDiff]; rfl⟩
  ·rintro F2 H2 hF2 f5 ⟨rfl,n2,g3⟩
   have g0:=hF2 0 rfl
   have g4:=hF2 4 rfl
   simp only [↓Sh.dn,sx,Nat.reduceBEq,reduceCtorEq,Nat.reduceEqDiff,f0,f4] at g0 g4
   simp only [↓Sh.dn,sx,Nat.reduceBEq,reduceCtorEq,Nat.reduceEqDiff,g0,g4,f5,i1,d0,l0,A6a,Nat.lt_irrefl,decide_false]
   refine A9o (m:=N.arcs.length) (fun m F3 H3=>H3=H2∧Same (List.range' 38 61++[3,6]) F2 F3∧∃ q n,m+q=N.arcs.length∧F3.get 6=some (.int .i64 ((q:Nat):Int))∧F3.get 3=some (.int .i64 n)) ⟨rfl,(by repeat (first | refine Same.put ?_ rfl | exact Same.rfl' _)),0,n2,by omega,by simp only [↓Sh.dn,sx,Nat.reduceBEq,reduceCtorEq,Nat.reduceEqDiff]; rfl,by simp only [↓Sh.dn,sx,Nat.reduceBEq,reduceCtorEq,Nat.reduceEqDiff,g3]⟩ ?_
   rintro m F3 H3 ⟨rfl,hS,q,n3,hmq,e6,e3'⟩ k3
   have u0:=hS 0 rfl
   have u4:=hS 4 rfl
   simp only [↓Sh.dn,sx,Nat.reduceBEq,reduceCtorEq,Nat.reduceEqDiff,g0,g4] at u0 u4
   have wi:=A9d hi (by omega)
   have fin:Same (List.range' 3 100) F F3:=by
    refine Same.trans ?_ (hS.sub rfl)
    refine Same.trans ?_ (hF2.sub rfl)
    exact (by repeat (first | refine Same.put ?_ rfl | exact Same.rfl' _))
   by_cases hq:q < N.arcs.length
   ·cases hn:decide (n3≤240000) with
    | false=>
     simp only [↓Sh.dn,sx,Nat.reduceBEq,reduceCtorEq,Nat.reduceEqDiff,u0,u4,e6,e3',i1,d2,l2,A6a,hq,decide_true,hn,wi]
     refine k _ _ ?_ (by simp only [↓Sh.dn,sx,Nat.reduceBEq,reduceCtorEq,Nat.reduceEqDiff]) ⟨rfl,n3,by simp only [↓Sh.dn,sx,Nat.reduceBEq,reduceCtorEq,Nat.reduceEqDiff,e3']⟩
     repeat refine Same.put ?_ rfl
     exact fin
    | true=>
     obtain ⟨ga,oa,ka,ja,_,ca⟩:=har.at Tryz.underlying23 A8k (i:=q) (x:=N.arcs[q].cells) (by simp [hq]) .i64
     have x1:=ca 1 (.string N.arcs[q].inn) rfl
     have x2:=ca 2 (.string N.arcs[q].out) rfl
     simp only [↓Sh.dn,sx,Nat.reduceBEq,reduceCtorEq,Nat.reduceEqDiff,u0,u4,e6,e3',i1,d2,l2,A6a,hq,decide_true,hn,ja,x1,x2,A9d hq (by omega)]
     refine k3 (N.arcs.length - (q+1)) _ _ (by omega) ⟨rfl,?_,q+1,_,by omega,by simp only [↓Sh.dn,sx,Nat.reduceBEq,reduceCtorEq,Nat.reduceEqDiff],by simp only [↓Sh.dn,sx,Nat.reduceBEq,reduceCtorEq,Nat.reduceEqDiff]; rfl⟩
     repeat refine Same.put ?_ rfl
     exact hS
   ·have hd:decide (q < N.arcs.length)=false:=decide_eq_false hq
    simp only [↓Sh.dn,sx,Nat.reduceBEq,reduceCtorEq,Nat.reduceEqDiff,u0,u4,e6,i1,d2,l2,A6a,hd,wi]
    refine k _ _ ?_ (by simp only [↓Sh.dn,sx,Nat.reduceBEq,reduceCtorEq,Nat.reduceEqDiff]) ⟨rfl,n3,by simp only [↓Sh.dn,sx,Nat.reduceBEq,reduceCtorEq,Nat.reduceEqDiff,e3']⟩
    repeat refine Same.put ?_ rfl
    exact fin
 ·rintro F H' hF f4 ⟨rfl,n,f3⟩
  have f0:=hF 0 rfl
  simp only [↓Sh.dn,sx,Nat.reduceBEq,reduceCtorEq,Nat.reduceEqDiff] at f0
  simp only [↓Sh.dn,sx,Nat.reduceBEq,reduceCtorEq,Nat.reduceEqDiff,f0,f3,f4,hlen,A6a,Nat.lt_irrefl,decide_false,hres]
end Go.Proofs.YtnoengaghabmjaaGreat
/- Whether there is far more in a net than may be. -/
namespace Go.Proofs.YtnoengaghabmjaaGreat
open Go Go.Proofs Go.Proofs.Sh
def B4g (l:List ByteArray):Nat:=(l.map fun s=>s.size).sum
end Go.Proofs.YtnoengaghabmjaaGreat
/- What comes in: lists of texts, nets. -/
namespace Go.Proofs.YtnoengaghabmjaaGreat
open Go Go.Proofs Go.Proofs.Sh
section
variable {K:Type}
theorem bulk_pos:∀ (d:DataW K),1≤Rows.uptoBulk d
 | .lit l=>by cases l <;> simp [Rows.uptoBulk]
 | .nil=>by simp [Rows.uptoBulk]
 | .ptr d=>by simp [Rows.uptoBulk]
 | .slice a b=>by simp [Rows.uptoBulk]
 | .agg a=>by simp [Rows.uptoBulk]
 | .iface n d=>by simp [Rows.uptoBulk]
 | .map es=>by simp [Rows.uptoBulk]
 | .held h=>by simp [Rows.uptoBulk]
theorem B5i:∀ (ds:List (DataW K)),ds.length≤Rows.uptoBulkAll ds
 | []=>Nat.zero_le _
 | d :: ds=>by
  have:=bulk_pos d
  have:=B5i ds
  simp only [Rows.uptoBulkAll,List.length_cons]; omega
theorem A14:∀ {ds:List (DataW K)} {d:DataW K},d∈ds→Rows.uptoBulk d≤Rows.uptoBulkAll ds
 | d :: ds,x,h=>by
  simp only [Rows.uptoBulkAll]
  rcases List.mem_cons.1 h with rfl | h
  ·omega
  ·have:=A14 h; omega
theorem B5e {α β:Type} {f:α→β}:∀ {l:List β},(∀ x∈l,∃ a,x=f a)→∃ L:List α,l=L.map f
 | [],_=>⟨[],rfl⟩
 | x :: l,h=>by
  obtain ⟨a,rfl⟩:=h x List.mem_cons_self
  obtain ⟨L,rfl⟩:=B5e (l:=l) fun y hy=>h y (List.mem_cons_of_mem _ hy)
  exact ⟨a :: L,rfl⟩
theorem B1u {α:Type} {enc:α→List Value} {H:AH} {f t e s:Nat} {cs:List Value} {d:DataW K} (R:α→DataW K→Prop) (hu:Tryz.prog.underlying t=some (.slice e)) (hs:Tryz.prog.cellsOf e=s)
  (hR:∀ f x y,RD Tryz.prog H f e x y→∃ a,x=enc a∧R a y) (h:RD Tryz.prog H f t cs d):
  ∃ u,∃ L:List α,∃ ds,cs=[u]∧Sl H u s (L.map enc)∧L.length=ds.length∧(∀ (i:Nat) a y,L[i]?=some a→ds[i]?=some y→enc a=enc a→∃ a',enc a'=enc a∧R a' y)∧Rows.uptoBulkAll ds < Rows.uptoBulk d:=by
 obtain ⟨l,ds,⟨u,rfl,hsl⟩,hlen,hel,hd⟩:=RD.slice hu hs h
 have hget:∀ (i:Nat) x,l[i]?=some x→∃ y a,ds[i]?=some y∧x=enc a∧R a y:=by
  intro i x hx
  have hi:=(List.getElem?_eq_some_iff.1 hx).1
  have hy:ds[i]?=some (ds[i]'(by omega)):=List.getElem?_eq_getElem (by omega)
  obtain ⟨f',hf⟩:=hel i x _ hx hy
  obtain ⟨a,h1,h2⟩:=hR f' x _ hf
  exact ⟨_,a,hy,h1,h2⟩
 obtain ⟨L,rfl⟩:=B5e (f:=enc) (l:=l) fun x hx=>by
  obtain ⟨i,hi⟩:=List.mem_iff_getElem?.1 hx
  obtain ⟨y,a,_,h2,_⟩:=hget i x hi
  exact ⟨a,h2⟩
 refine ⟨u,L,ds,rfl,hsl,by simpa using hlen,fun i a y ha hy _=>?_,?_⟩
 ·obtain ⟨y',a',h1,h2,h3⟩:=hget i (enc a) (by simp [ha])
  rw [hy] at h1
  injection h1 with h1
  subst h1
  exact ⟨a',h2.symm,h3⟩
 ·rcases hd with ⟨rfl,rfl⟩ | ⟨sp,rfl⟩
  ·simp [Rows.uptoBulk,Rows.uptoBulkAll]
  ·simp only [Rows.uptoBulk]; omega
theorem C9e {H:AH} {f:Nat} {x:List Value} {y:DataW K} (h:RD Tryz.prog H f 9 x y):∃ s,x=A9a s∧y=.lit (.string s.data.toList):=RD.str Tryz.underlying9 h
theorem B2f {H:AH} {f:Nat} {x:List Value} {y:DataW K} (h:RD Tryz.prog H f 3 x y):∃ n,x=[.int .i64 n]∧-9223372036854775808≤n∧n < 9223372036854775808:=RD.int Tryz.underlying3 h
theorem B6o:∀ {L:List ByteArray} {ds:List (DataW K)},L.length=ds.length→(∀ (i:Nat) a y,L[i]?=some a→ds[i]?=some y→y=.lit (.string a.data.toList))→Rows.uptoBulkAll ds=B4g L+L.length
 | [],[],_,_=>rfl
 | [],_ :: _,h,_=>by simp at h
 | _ :: _,[],h,_=>by simp at h
 | a :: L,d :: ds,h,hr=>by
  have h0:=hr 0 a d rfl rfl
  have ih:=B6o (L:=L) (ds:=ds) (by simpa using h) fun i a y h1 h2=>hr (i+1) a y (by simpa using h1) (by simpa using h2)
  subst h0
  have e:a.data.toList.length=a.size:=by rw [Array.length_toList]; rfl
  simp only [Rows.uptoBulkAll,Rows.uptoBulk,ih,B4g,List.map_cons,List.sum_cons,List.length_cons,e]
  omega
theorem B7r {a b:ByteArray} (h:A9a a=A9a b):a=b:=by
 simp only [A9a,List.cons.injEq,Value.string.injEq,and_true] at h; exact h
theorem C4d {H:AH} {f:Nat} {cs:List Value} {d:DataW K} (h:RD Tryz.prog H f 22 cs d):∃ u,∃ L:List ByteArray,cs=[u]∧Sl H u 1 (L.map A9a)∧B4g L+L.length < Rows.uptoBulk d:=by
 obtain ⟨u,L,ds,h1,h2,h3,h4,h5⟩:=B1u (enc:=A9a) (fun s y=>y=.lit (.string s.data.toList)) Tryz.underlying22 C1d (fun f x y hf=>C9e hf) h
 refine ⟨u,L,h1,h2,?_⟩
 rw [← B6o h3 fun i a y ha hy=>by
  obtain ⟨a',e,hr⟩:=h4 i a y ha hy rfl
  rw [← B7r e]; exact hr]
 exact h5
theorem B7m {L:List ByteArray} {x:ByteArray} (h:x∈L):x.size≤B4g L:=by
 induction L with
 | nil=>cases h
 | cons a L ih=>
  simp only [B4g,List.map_cons,List.sum_cons] at ih ⊢
  rcases List.mem_cons.1 h with rfl | h
  ·omega
  ·have:=ih h; omega
theorem four {c:List Value} (h:c.length=4):∃ a b x y,c=[a,b,x,y]:=by
 match c,h with
 | [a,b,x,y],_=>exact ⟨a,b,x,y,rfl⟩
theorem five {c:List Value} (h:c.length=5):∃ a b x y z,c=[a,b,x,y,z]:=by
 match c,h with
 | [a,b,x,y,z],_=>exact ⟨a,b,x,y,z,rfl⟩
theorem two {c:List Value} (h:c.length=2):∃ a b,c=[a,b]:=by
 match c,h with
 | [a,b],_=>exact ⟨a,b,rfl⟩
theorem A6l {ds:List (DataW K)} {n i:Nat} (h:ds.length=n) (hi:i < n):∃ x,ds[i]?=some x:=⟨ds[i]'(by omega),List.getElem?_eq_getElem (by omega)⟩
theorem arc_in {H:AH} {f:Nat} {x:List Value} {y:DataW K} (h:RD Tryz.prog H f 54 x y):∃ a:ArcD,x=a.cells∧True:=by
 ·obtain ⟨f',ds,rfl,h1,h2,h3⟩:=RD.struct Tryz.underlying54 h
  rw [B80] at h1
  obtain ⟨a,b,c,d,e,rfl⟩:=five h1
  have h2':ds.length=5:=h2
  obtain ⟨d0,e0⟩:=A6l h2' (i:=0) (by omega)
  obtain ⟨d1,e1⟩:=A6l h2' (i:=1) (by omega)
  obtain ⟨d2,e2⟩:=A6l h2' (i:=2) (by omega)
  obtain ⟨d3,e3⟩:=A6l h2' (i:=3) (by omega)
  obtain ⟨d4,e4⟩:=A6l h2' (i:=4) (by omega)
  have g0:=h3 0 _ _ rfl e0
  have g1:=h3 1 _ _ rfl e1
  have g2:=h3 2 _ _ rfl e2
  have g3:=h3 3 _ _ rfl e3
  have g4:=h3 4 _ _ rfl e4
  simp only [B0u,C1d,List.drop_zero,List.drop_succ_cons,List.take_succ_cons,List.take_zero,List.getElem_toArray,List.getElem_cons_zero,List.getElem_cons_succ] at g0 g1 g2 g3 g4
  obtain ⟨n0,q0,_⟩:=B2f g0
  obtain ⟨s1,q1,_⟩:=C9e g1
  obtain ⟨s2,q2,_⟩:=C9e g2
  obtain ⟨n3,q3,_⟩:=B2f g3
  obtain ⟨n4,q4,_⟩:=B2f g4
  simp only [A9a,List.cons.injEq,and_true] at q0 q1 q2 q3 q4
  subst q0 q1 q2 q3 q4
  exact ⟨⟨n0,s1,s2,n3,n4⟩,rfl,trivial⟩
theorem end_in {H:AH} {f:Nat} {x:List Value} {y:DataW K} (h:RD Tryz.prog H f 56 x y):∃ a:EndD,x=a.cells∧True:=by
 ·obtain ⟨f',ds,rfl,h1,h2,h3⟩:=RD.struct Tryz.underlying56 h
  rw [B2y] at h1
  obtain ⟨a,b,rfl⟩:=two h1
  have h2':ds.length=2:=h2
  obtain ⟨d0,e0⟩:=A6l h2' (i:=0) (by omega)
  obtain ⟨d1,e1⟩:=A6l h2' (i:=1) (by omega)
  have g0:=h3 0 _ _ rfl e0
  have g1:=h3 1 _ _ rfl e1
  simp only [B0u,List.drop_zero,List.drop_succ_cons,List.take_succ_cons,List.take_zero,List.getElem_toArray,List.getElem_cons_zero,List.getElem_cons_succ] at g0 g1
  obtain ⟨n0,q0,_⟩:=B2f g0
  obtain ⟨n1,q1,_⟩:=B2f g1
  simp only [List.cons.injEq,and_true] at q0 q1
  subst q0 q1
  exact ⟨⟨n0,n1⟩,rfl,trivial⟩
theorem agg_of {v:Value} {a b:Value} {l:List Value} (h:A8a v=a :: b :: l):v=.agg (a :: b :: l).toArray:=by
 cases v <;> simp only [A8a] at h <;> try (cases h; done)
 rw [← h]
theorem net_in {H:AH} {f:Nat} {v:Value} {d:DataW K} (h:RD Tryz.prog H f 26 (A8a v) d) (hb:Rows.uptoBulk d≤1048576):∃ N:NetD,Nonempty (A8v H v N)∧A5h N∧B4g N.sigma≤1048576:=by
 ·obtain ⟨f',ds,rfl,h1,h2,h3⟩:=RD.struct Tryz.underlying26 h
  rw [cells_26] at h1
  obtain ⟨a,b,c,e,hv⟩:=four h1
  rw [hv] at h3
  have h2':ds.length=4:=h2
  obtain ⟨d0,e0⟩:=A6l h2' (i:=0) (by omega)
  obtain ⟨d1,e1⟩:=A6l h2' (i:=1) (by omega)
  obtain ⟨d2,e2⟩:=A6l h2' (i:=2) (by omega)
  obtain ⟨d3,e3⟩:=A6l h2' (i:=3) (by omega)
  have g0:=h3 0 _ _ rfl e0
  have g1:=h3 1 _ _ rfl e1
  have g2:=h3 2 _ _ rfl e2
  have g3:=h3 3 _ _ rfl e3
  simp only [B0u,cells_22,cells_23,cells_24,List.drop_zero,List.drop_succ_cons,List.take_succ_cons,List.take_zero,List.getElem_toArray,List.getElem_cons_zero,List.getElem_cons_succ] at g0 g1 g2 g3
  obtain ⟨u0,L0,q0,s0,b0⟩:=C4d g0
  obtain ⟨n1,q1,_⟩:=B2f g1
  obtain ⟨u2,L2,ds2,q2,s2,k2,_,b2⟩:=B1u (enc:=ArcD.cells) (fun _ _=>True) Tryz.underlying23 B80 (fun f x y hf=>arc_in hf) g2
  obtain ⟨u3,L3,ds3,q3,s3,k3,_,b3⟩:=B1u (enc:=EndD.cells) (fun _ _=>True) Tryz.underlying24 B2y (fun f x y hf=>end_in hf) g3
  simp only [List.cons.injEq,and_true] at q0 q1 q2 q3
  subst q0 q1 q2 q3
  have m0:=A14 (List.mem_of_getElem? e0)
  have m2:=A14 (List.mem_of_getElem? e2)
  have m3:=A14 (List.mem_of_getElem? e3)
  have l2:=B5i ds2
  have l3:=B5i ds3
  simp only [Rows.uptoBulk] at hb
  refine ⟨⟨L0,n1,L2,L3⟩,⟨⟨a,c,e,agg_of hv,s0,s2,s3⟩⟩,⟨?_,?_,?_,fun x hx=>?_⟩,?_⟩
  ·show L0.length≤_; omega
  ·show L2.length≤_; omega
  ·show L3.length≤_; omega
  ·have:=B7m hx; show x.size≤_; have h':x.size≤B4g L0:=this; omega
  ·show B4g L0≤_; omega
end
end Go.Proofs.YtnoengaghabmjaaGreat
