/- A part of the proof: RefPair, RelPairs, GraphPut, GraphEither, RelSlot, RelEither, Same, LawMade, JagTwo, JoinRef, LawRelKit, IsOver, DataIn. -/
import Derived.Test.YtnoengaghabmjaaGreatDoorMClose3RelComposes8
import Derived.Test.YtnoengaghabmjaaGreatDoorMClose3RelComposes9
import Derived.Test.YtnoengaghabmjaaGreatDoorMClose3RelComposes4
import Derived.Test.YtnoengaghabmjaaGreatDoorMClose3RelComposes6
import Derived.Test.YtnoengaghabmjaaGreatDoorMClose3RelComposes7
import Derived.Test.YtnoengaghabmjaaGreatDoorMClose3RelComposes2
import Derived.Test.YtnoengaghabmjaaGreatDoorMClose3RelComposes3
import Derived.Test.YtnoengaghabmjaaGreatDoorMClose3RelComposes1
import Derived.Test.YtnoengaghabmjaaGreatDoorRows
set_option linter.unusedVariables false
set_option linter.unusedSimpArgs false
/- The reference's has and Pair: whether a net holds a pair. -/
set_option maxHeartbeats 4000000
set_option maxRecDepth 20000
set_option linter.unusedSimpArgs false
set_option linter.unusedVariables false
namespace Go.Proofs.YtnoengaghabmjaaGreatDoor
open Go Go.Proofs Go.Proofs.Sh
theorem B6j {c:Bool} {a b:Nat×Nat}:abin Tryz.prog 79 c .eql (.agg (A4b a).toArray) (.agg (A4b b).toArray)=some (.bool (decide (a=b))):=by
 have h:=B0p a b
 unfold A7p at h
 unfold abin aeq B4g
 simp only [C2g,Bool.not_false,cond_true,h,Option.map_some]
theorem refHas {H:AH} {ul:Value} {L:List (Nat×Nat)} {p:Nat×Nat} (hl:Sl H ul 2 (L.map A4b)) (hLl:L.length≤1073741823) (hw:Wf H):
  Sh.Call Tryz.prog (knows 8) 52 [ul,.agg (A4b p).toArray] H (fun r H'=>Kept H H'∧r=.bool (decide (p∈L))):=by
 refine A3b rfl Tryz.func52 rfl (Nat.le_of_ble_eq_true rfl) ?_
 have hres:Tryz.f52.results.toList=[.tmp 4]:=rfl
 simp only [↓Sh.dn,sx,Nat.reduceBEq,reduceCtorEq,Nat.reduceEqDiff,spNew]
 have kn:=Kept.new hw 2 (A4b p)
 have ca:(H.new 2 (A4b p)).2.cells ⟨H.next,0,some 0⟩ 2=some (A4b p):=(Sh.Obj.new (H:=H) 2 (A4b p)).cells (i:=0) (n:=2) (by simp [A4b])
 have hl1:=hl.grow (kn.grow hw)
 generalize H.next=g at ca ⊢
 generalize (H.new 2 (A4b p)).2=H1 at kn ca hl1 ⊢
 have hlen:=fun H'=>hl1.len Tryz.underlying76 H'
 simp only [List.length_map] at hlen
 refine A0i L.length 5 (List.range' 5 20) (fun i F H'=>H'=H1∧p∉L.take i) (by simp only [↓Sh.dn,sx,Nat.reduceBEq,reduceCtorEq,Nat.reduceEqDiff]) ⟨rfl,by simp⟩ ?_ ?_
 ·rintro i F H' hi hF f5 ⟨rfl,hn⟩ k
  have f0:=hF 0 rfl
  have f3:=hF 3 rfl
  simp only [↓Sh.dn,sx,Nat.reduceBEq,reduceCtorEq,Nat.reduceEqDiff] at f0 f3
  obtain ⟨g1,o1,q1,i1,c1,_⟩:=hl1.at Tryz.underlying76 A1r (i:=i) (x:=A4b L[i]) (by simp [hi]) .i64
  have htk:L.take (i+1)=L.take i++[L[i]]:=by rw [List.take_add_one,List.getElem?_eq_getElem hi]; rfl
  have hm:L[i]∈L:=List.getElem_mem hi
  generalize L[i]=e at c1 htk hm
  by_cases h:e=p
  ·subst h
   simp only [↓Sh.dn,sx,Nat.reduceBEq,reduceCtorEq,Nat.reduceEqDiff,f0,f3,f5,hlen,A9a,hi,decide_true,i1,c1,ca,Option.map_some,B6j,hres,hm]
   exact kn
  ·simp only [↓Sh.dn,sx,Nat.reduceBEq,reduceCtorEq,Nat.reduceEqDiff,f0,f3,f5,hlen,A9a,hi,decide_true,i1,c1,ca,Option.map_some,B6j,h,decide_false,A7d hi (by omega)]
   refine k _ _ (by repeat (first | refine Same.put ?_ rfl | exact Same.rfl' _)) (by simp only [↓Sh.dn,sx,Nat.reduceBEq,reduceCtorEq,Nat.reduceEqDiff]) ⟨rfl,fun hx=>?_⟩
   rw [htk] at hx
   rcases List.mem_append.1 hx with h2 | h2
   ·exact hn h2
   ·exact h (List.mem_singleton.1 h2).symm
 ·rintro F H' hF f5 ⟨rfl,hn⟩
  have f0:=hF 0 rfl
  simp only [↓Sh.dn,sx,Nat.reduceBEq,reduceCtorEq,Nat.reduceEqDiff] at f0
  rw [List.take_length] at hn
  simp only [↓Sh.dn,sx,Nat.reduceBEq,reduceCtorEq,Nat.reduceEqDiff,f0,f5,hlen,A9a,Nat.lt_irrefl,decide_false,hres,hn]
  exact kn
def A76 (N:NetD) (x y:List ByteArray):Prop:=RelP (A5k N) N.isEnd x y
theorem B62 {N:NetD} {x y:List ByteArray}:(∃ s,N.isEnd s∧Cl (A2t (A5k N) x y) (fun q=>q.1=0∧q.2∈[(0,0)]) (s,x.length,y.length))↔A76 N x y:=by
 unfold A76 RelP
 refine exists_congr fun s=>and_congr_right fun _=>?_
 rw [← places]
 have e:(fun q:Nat×Nat×Nat=>q.1=0∧q.2∈[(0,0)])=fun q=>q=(0,0,0):=funext fun q=>propext (by
  obtain ⟨a,b⟩:=q
  simp [Prod.ext_iff])
 rw [e]
theorem spotNew0:A2m Tryz.prog 79 [(0,.int .i64 0),(1,.int .i64 0)]=some (.agg (A4b (0,0)).toArray):=A56 (a:=0) (b:=0)
theorem B72 {L:List (Nat×Nat)} {a b:Nat} (hn:L.Nodup) (h:∀ p∈L,p.1≤a∧p.2≤b) (ha:a≤400) (hb:b≤400):L.length≤160801:=by
 have h1:(L.map fun p=>(0,p)).Nodup:=by
  rw [List.nodup_iff_pairwise_ne] at hn ⊢
  rw [List.pairwise_map]
  exact hn.imp fun h e=>h (Prod.mk.inj e).2
 have h2:=C5a (a:=1) (b:=a+1) (c:=b+1) h1 fun w hw=>by
  obtain ⟨p,hp,rfl⟩:=List.mem_map.1 hw
  have:=h p hp
  exact ⟨Nat.one_pos,by simp only; omega,by simp only; omega⟩
 rw [List.length_map] at h2
 have h3:(a+1) * (b+1)≤401 * 401:=Nat.mul_le_mul (by omega) (by omega)
 rw [Nat.one_mul] at h2
 omega
theorem reach_le {N:NetD} (hok:A5j N) {x y:List ByteArray} {L O:List (Nat×Nat)} (hL:∀ p∈L,p.1≤x.length∧p.2≤y.length) (hO:∀ p,p∈O↔∃ s,N.isEnd s∧Cl (A2t (A5k N) x y) (fun q=>q.1=0∧q.2∈L) (s,p)):∀ p∈O,p.1≤x.length∧p.2≤y.length:=fun p hp=>by
 obtain ⟨s,_,h2⟩:=(hO p).1 hp
 have:=A39 hok (fun p hp=>⟨hp.1,hL p.2 hp.2⟩) h2
 simp only at this
 exact ⟨by omega,by omega⟩
theorem refPair {H:AH} {v ux uy:Value} {N:NetD} {x y:List ByteArray} (h:A8k H v N) (hok:A5j N) (hsm:A4c N) (hx:Sl H ux 1 (x.map A1b)) (hy:Sl H uy 1 (y.map A1b)) (hxl:x.length≤400) (hyl:y.length≤400) (hw:Wf H):
  Sh.Call Tryz.prog (knows 8) 29 [v,ux,uy] H (fun r H'=>Kept H H'∧r=.bool (tB (A76 N x y))):=by
 refine A3b rfl Tryz.func29 rfl (Nat.le_of_ble_eq_true rfl) ?_
 have hres:Tryz.f29.results.toList=[.tmp 6]:=rfl
 obtain ⟨sg,ar,en,rfl,hsg,har,hen⟩:=h
 have hb1:=NetBox.of (N:=N) hw hsg har hen
 have hk1:Kept H (H.new 4 [sg,.int .i64 N.states,ar,en]).2:=Kept.new hw 4 _
 simp only [↓Sh.dn,sx,Nat.reduceBEq,reduceCtorEq,Nat.reduceEqDiff,A7k hsg.isCell har.isCell hen.isCell]
 generalize H.next=gg at hb1 ⊢
 generalize (H.new 4 [sg,.int .i64 N.states,ar,en]).2=H1 at hb1 hk1 ⊢
 have kn:=Kept.new hk1.wf 2 (A4b (0,0))
 have hl:Sl (H1.new 2 (A4b (0,0))).2 (.slice (some ⟨H1.next,0,some 0⟩) 1 1) 2 ([(0,0)].map A4b):=(Buf.fresh (H:=H1) (s:=2) (xs:=[A4b (0,0)]) hk1.wf (by intro x hx; rw [List.mem_singleton.1 hx]; rfl) (by simp) 1 rfl).toSl
 have hb2:=hb1.kept hk1.wf kn
 have hk2:=hk1.trans kn
 obtain ⟨r3,H3,hd3,hk3,O,oo,hO,hnd,hiff⟩:=refReach hb2.netAt hok hsm (hx.grow (hk2.grow hw)) (hy.grow (hk2.grow hw)) hxl hyl hl (by simp) (by simp) kn.wf
 have hbd:=reach_le hok (L:=[(0,0)]) (by simp) hiff
 have hOl:=B72 hnd hbd hxl hyl
 obtain ⟨r4,H4,hd4,hk4,rfl⟩:=refHas (p:=(x.length,y.length)) hO.toSl (by omega) hk3.wf
 have hlx:=fun H'=>hx.len Tryz.underlying22 H'
 have hly:=fun H'=>hy.len Tryz.underlying22 H'
 simp only [List.length_map] at hlx hly
 simp only [↓Sh.dn,sx,Nat.reduceBEq,reduceCtorEq,Nat.reduceEqDiff,hb1.c0,hb1.c1,hb1.c2,hb1.c3,hb1.ca,A3a hb1,A1a hb1,A2a hb1,Option.map_some,spotNew0,C1k]
 refine ⟨_,_,hd3,?_⟩
 simp only [↓Sh.dn,sx,Nat.reduceBEq,reduceCtorEq,Nat.reduceEqDiff,hlx,hly,A56]
 refine ⟨_,_,hd4,?_⟩
 simp only [↓Sh.dn,sx,Nat.reduceBEq,reduceCtorEq,Nat.reduceEqDiff,hres]
 refine ⟨(hk2.trans hk3).trans hk4,?_⟩
 have:decide ((x.length,y.length)∈O)=tB (A76 N x y):=by
  rw [Bool.eq_iff_iff,decide_eq_true_iff,C8d,hiff,B62]
 rw [this]
end Go.Proofs.YtnoengaghabmjaaGreatDoor
/- Pairs of a net, by texts and by numbers. -/
namespace Go.Proofs.YtnoengaghabmjaaGreatDoor
open Go Go.Proofs Go.Proofs.Sh
theorem A08 {N:NetD} (hok:A5j N) {x:ByteArray} (hx:x=⟨#[]⟩∨x∈N.sigma):labN (A8q N.sigma x)=(labT x).map (ixN N.sigma)∧∀ s,labT x=some s→s∈N.sigma:=by
 have e0:(⟨#[]⟩:ByteArray)=A1m:=rfl
 rw [e0] at hx
 by_cases h:x=A1m
 ·subst h
  have:=(B05 hok.asc).2 (C1h hok)
  unfold labN labT
  rw [if_pos this,if_pos rfl]
  exact ⟨rfl,fun s hs=>by cases hs⟩
 ·have hm:=hx.resolve_left h
  obtain ⟨k,_,h2,h3⟩:=B57 hok.asc hm
  unfold labN labT
  rw [if_neg (by omega),if_neg h,h2]
  exact ⟨by rw [Option.map_some,h3]; rfl,fun s hs=>by rw [← Option.some.inj hs]; exact hm⟩
theorem A28 {N:NetD} (hok:A5j N) {x:ByteArray} (hx:x=⟨#[]⟩∨x∈N.sigma):A8q N.sigma x < (N.sigma.length:Int):=by
 by_cases h:x∈N.sigma
 ·obtain ⟨k,h1,h2,_⟩:=B57 hok.asc h
  have:=(List.getElem?_eq_some_iff.1 h1).1
  omega
 ·have:=(B05 hok.asc).2 h
  omega
theorem A5x {N:NetD} (hok:A5j N) (s:Nat) (a b:Option Nat) (t:Nat):A0v (A3l N) s a b t↔∃ c d,A5k N s c d t∧a=c.map (ixN N.sigma)∧b=d.map (ixN N.sigma):=by
 unfold A0v A5k
 constructor
 ·rintro ⟨r,hr,e,he,h1,h2,h3⟩
  obtain ⟨c,hc,h4,rfl⟩:=(A5z hr e).1 he
  obtain ⟨_,_,h5,_,h6,h7⟩:=hok.arc c hc
  simp only at h1 h2 h3
  exact ⟨_,_,⟨c,hc,h4,rfl,rfl,by omega⟩,by rw [← h2,(A08 hok h6).1],by rw [← h3,(A08 hok h7).1]⟩
 ·rintro ⟨_,_,⟨c,hc,h1,rfl,rfl,h4⟩,rfl,rfl⟩
  obtain ⟨h7,h8,h5,_,h6,h9⟩:=hok.arc c hc
  have hs:s < N.states.toNat:=by omega
  unfold A3l
  exact ⟨_,A1h hs,(c.to.toNat,A8q N.sigma c.inn,A8q N.sigma c.out,c.cost),(A5z (A1h hs) _).2 ⟨c,hc,h1,rfl⟩,by simp only; omega,(A08 hok h6).1,(A08 hok h9).1⟩
theorem C9c {N:NetD} (hok:A5j N) {s t:Nat} {x y:List ByteArray} (h:Sh.Way (A5k N) s x y t):(∀ z∈x,z∈N.sigma)∧∀ z∈y,z∈N.sigma:=by
 induction h with
 | nil s=>exact ⟨fun z hz=>(by cases hz),fun z hz=>by cases hz⟩
 | @cons s t u a b x y h1 _ ih=>
  obtain ⟨c,hc,_,rfl,rfl,_⟩:=h1
  obtain ⟨_,_,_,_,h6,h7⟩:=hok.arc c hc
  have key:∀ {o:Option ByteArray} {w:List ByteArray},(∀ s,o=some s→s∈N.sigma)→(∀ z∈w,z∈N.sigma)→∀ z∈o.toList++w,z∈N.sigma:=fun {o w} ho hw z hz=>by
   rcases List.mem_append.1 hz with h | h
   ·exact ho z (by cases o with
      | none => cases h
      | some s => rw [List.mem_singleton.1 h])
   ·exact hw z h
  exact ⟨key (A08 hok h6).2 ih.1,key (A08 hok h7).2 ih.2⟩
theorem A65 {α β:Type} {f:α→β} {S:α→Prop} (hf:∀ x y,S x→S y→f x=f y→x=y):∀ {l m:List α},(∀ x∈l,S x)→(∀ x∈m,S x)→l.map f=m.map f→l=m
 | [],[],_,_,_=>rfl
 | [],_ :: _,_,_,h=>by simp at h
 | _ :: _,[],_,_,h=>by simp at h
 | a :: l,b :: m,hl,hm,h=>by
  simp only [List.map_cons,List.cons.injEq] at h
  rw [hf a b (hl a List.mem_cons_self) (hm b List.mem_cons_self) h.1,A65 hf (fun x hx=>hl x (List.mem_cons_of_mem _ hx)) (fun x hx=>hm x (List.mem_cons_of_mem _ hx)) h.2]
theorem way_rows {N:NetD} (hok:A5j N) {x y:List ByteArray} (hx:∀ z∈x,z∈N.sigma) (hy:∀ z∈y,z∈N.sigma) (s t:Nat):Sh.Way (A0v (A3l N)) s (x.map (ixN N.sigma)) (y.map (ixN N.sigma)) t↔Sh.Way (A5k N) s x y t:=by
 constructor
 ·intro h
  have key:∀ {s t:Nat} {u v:List Nat},Sh.Way (A0v (A3l N)) s u v t→∃ x y,Sh.Way (A5k N) s x y t∧u=x.map (ixN N.sigma)∧v=y.map (ixN N.sigma):=by
   intro s t u v k
   induction k with
   | nil s=>exact ⟨[],[],.nil s,rfl,rfl⟩
   | @cons s t w a b u v h1 _ ih=>
    obtain ⟨c,d,h2,rfl,rfl⟩:=(A5x hok _ _ _ _).1 h1
    obtain ⟨x,y,h3,rfl,rfl⟩:=ih
    have e:∀ o:Option ByteArray,(o.map (ixN N.sigma)).toList=o.toList.map (ixN N.sigma):=fun o=>by cases o <;> rfl
    exact ⟨c.toList++x,d.toList++y,.cons h2 h3,by rw [List.map_append,e],by rw [List.map_append,e]⟩
  obtain ⟨x',y',h1,h2,h3⟩:=key h
  obtain ⟨h4,h5⟩:=C9c hok h1
  rw [A65 (S:=fun z=>z∈N.sigma) (B5a hok.asc) hx h4 h2,A65 (S:=fun z=>z∈N.sigma) (B5a hok.asc) hy h5 h3]
  exact h1
 ·intro h
  exact h.map (f:=ixN N.sigma) fun s a b t hs=>(A5x hok _ _ _ _).2 ⟨a,b,hs,rfl,rfl⟩
theorem C0s {N:NetD} (hok:A5j N) {x y:List ByteArray} (hx:∀ z∈x,z∈N.sigma) (hy:∀ z∈y,z∈N.sigma):(∃ t,0 < (A7n N N.ends).getD t 0∧Sh.Way (A0v (A3l N)) 0 (x.map (ixN N.sigma)) (y.map (ixN N.sigma)) t)↔A76 N x y:=by
 unfold A76 RelP
 refine exists_congr fun t=>and_congr (B9p hok t) (way_rows hok hx hy 0 t)
theorem C7j {N:NetD} (hok:A5j N) {x y:List ByteArray} (h:A76 N x y):(∀ z∈x,z∈N.sigma)∧∀ z∈y,z∈N.sigma:=by
 obtain ⟨t,_,h2⟩:=h
 exact C9c hok h2
end Go.Proofs.YtnoengaghabmjaaGreatDoor
/- What the net of a graph is as a relation. -/
namespace Go.Proofs.YtnoengaghabmjaaGreatDoor
open Go Go.Proofs Go.Proofs.Sh
theorem grNow {H:AH} {X:Nat→Prop} {g:Nat} {sigma:List ByteArray} {rows:List (List (List Value))} {ends costs:List Int} (h:GrX H X g sigma rows ends costs) (hw:Wf H):GrX H (fun y=>X y∧y < H.next) g sigma rows ends costs:=by
 obtain ⟨sv,av,ev,cv,os,ot,oe,oc,vals,obs,h,ho⟩:=h
 refine ⟨sv,av,ev,cv,os,ot,oe,oc,vals,obs,h,fun y hy=>⟨ho y hy,?_⟩⟩
 rcases hy with rfl | hy | hy | hy | hy
 ·exact h.arr.lt hw
 ·exact h.sg.lt hw y hy
 ·exact h.jag.lt hw y hy
 ·exact h.en.lt hw y hy
 ·exact h.co.lt hw y hy
structure C2f (sigma:List ByteArray) (E:List (List GE)) (ends costs:List Int) (n:Nat) (M:NetD):Prop where
 sg:M.sigma=sigma
 st:M.states=(n:Int)
 al:M.arcs.length≤(E.map List.length).sum
 arc:∀ a,a∈M.arcs↔∃ (s:Nat) (r:List GE),E[s]?=some r∧∃ e∈r,a=B4a sigma s e
 el:M.ends.length≤n
 fin:∀ x,x∈M.ends↔∃ s:Nat,s < n∧0 < ends.getD s 0∧x=⟨(s:Int),costs.getD s 0⟩
structure B1h (sigma:List ByteArray) (E:List (List GE)) (ends costs:List Int) (n:Nat):Prop where
 le:E.length=n
 ln:ends.length=n
 lc:costs.length=n
 n1:1≤n
 n2:n≤3000
 to:∀ r∈E,∀ e∈r,e.1 < n∧e.2.1 < (sigma.length:Int)∧e.2.2.1 < (sigma.length:Int)∧e.2.2.2=0
 sum:(E.map List.length).sum≤60000
 zero:∀ s,costs.getD s 0=0
theorem A34 {sigma:List ByteArray} (hs:A7i sigma=0) {k:Int} (hk:k < (sigma.length:Int)):(A1t sigma k=⟨#[]⟩∨A1t sigma k∈sigma)∧(labT (A1t sigma k)).map (ixN sigma)=labN k:=by
 have hno:=C4g hs
 have hasc:=A1z hs
 have e0:(⟨#[]⟩:ByteArray)=A1m:=rfl
 unfold A1t labN
 by_cases h:k < 0
 ·rw [if_pos h,if_pos h]
  refine ⟨.inl rfl,?_⟩
  unfold labT
  rw [e0,if_pos rfl]; rfl
 ·rw [if_neg h,if_neg h]
  have hl:k.toNat < sigma.length:=by omega
  have hg:sigma[k.toNat]?=some sigma[k.toNat]:=List.getElem?_eq_getElem hl
  have e:sigma.getD k.toNat ⟨#[]⟩=sigma[k.toNat]:=by simp [List.getD,hl]
  rw [e]
  have hm:sigma[k.toNat]∈sigma:=List.getElem_mem hl
  refine ⟨.inr hm,?_⟩
  unfold labT
  rw [if_neg fun h=>hno (by rw [← h]; exact hm),Option.map_some]
  unfold ixN
  rw [A20 hasc hg]
  rfl
section
variable {sigma:List ByteArray} {E:List (List GE)} {ends costs:List Int} {n:Nat} {M:NetD}
theorem B8o (hM:C2f sigma E ends costs n M) (hR:B1h sigma E ends costs n) (hs:A7i sigma=0):A5h M=0:=by
 have h1:=hR.n1
 have h2:=hR.n2
 have h3:=hM.st
 have h4:=hM.al
 have h5:=hM.el
 have h6:=hR.sum
 have hsy:∀ k:Int,k < (sigma.length:Int)→A2j M (A1t sigma k)=false:=fun k hk=>by
  unfold A2j
  rw [hM.sg]
  rcases (A34 hs hk).1 with h | h
  ·rw [h]; simp
  ·simp [A4k.2 h]
 have hn:A2g M=0:=by
  unfold A2g
  rw [if_neg,if_neg,if_neg,if_neg,if_neg]
  ·intro h
   obtain ⟨e,he,hb⟩:=List.any_eq_true.1 h
   obtain ⟨s,h7,_,rfl⟩:=(hM.fin e).1 he
   simp only [A1p,Bool.or_eq_true,decide_eq_true_eq] at hb
   omega
  ·intro h
   obtain ⟨a,ha,hb⟩:=List.any_eq_true.1 h
   obtain ⟨s,r,hr,e,he,rfl⟩:=(hM.arc a).1 ha
   obtain ⟨k1,k2,k3,k4⟩:=hR.to r (List.mem_of_getElem? hr) e he
   have hsl:=(List.getElem?_eq_some_iff.1 hr).1
   have hle:=hR.le
   simp only [A1i,B4a,hsy _ k2,hsy _ k3,Bool.or_eq_true,decide_eq_true_eq,Bool.false_eq_true,or_false] at hb
   rcases hb with ((hb | hb) | hb) | hb <;> have hb2:=of_decide_eq_true hb <;> omega
  ·omega
  ·rw [hM.sg]; simp [hs]
  ·simp only [A4m,Bool.or_eq_true,decide_eq_true_eq]; omega
 unfold A5h
 rw [if_neg (by simp [hn]),if_pos]
 simp only [NetD.free,Bool.and_eq_true,List.all_eq_true,decide_eq_true_eq]
 refine ⟨fun a ha=>?_,fun e he=>?_⟩
 ·obtain ⟨s,r,hr,e,he,rfl⟩:=(hM.arc a).1 ha
  exact (hR.to r (List.mem_of_getElem? hr) e he).2.2.2
 ·obtain ⟨s,_,_,rfl⟩:=(hM.fin e).1 he
  exact hR.zero s
theorem B7z (hM:C2f sigma E ends costs n M) (hR:B1h sigma E ends costs n) (hsl:sigma.length≤1048576) (hsx:∀ x∈sigma,x.size≤1048576):A4c M:=by
 have h1:=hR.n2
 have h4:=hM.al
 have h5:=hM.el
 have h6:=hR.sum
 exact ⟨by rw [hM.sg]; exact hsl,by omega,by omega,by rw [hM.sg]; exact hsx⟩
theorem C9h (hM:C2f sigma E ends costs n M) (hR:B1h sigma E ends costs n) (hs:A7i sigma=0):A0v (A3l M)=A0v E:=by
 obtain ⟨hok,_,_⟩:=A3i (B8o hM hR hs)
 funext s a b t
 apply propext
 rw [A5x hok]
 have hsg:=hM.sg
 rw [hsg]
 constructor
 ·rintro ⟨_,_,⟨c,hc,h1,rfl,rfl,h2⟩,rfl,rfl⟩
  obtain ⟨s',r,hr,e,he,rfl⟩:=(hM.arc c).1 hc
  obtain ⟨k1,k2,k3,k4⟩:=hR.to r (List.mem_of_getElem? hr) e he
  have hss:s'=s:=by
   have:((s':Nat):Int)=(s:Int):=h1
   omega
  subst hss
  have htt:e.1=t:=by
   have:((e.1:Nat):Int)=(t:Int):=h2
   omega
  exact ⟨r,hr,e,he,htt,(A34 hs k2).2.symm,(A34 hs k3).2.symm⟩
 ·rintro ⟨r,hr,e,he,rfl,rfl,rfl⟩
  obtain ⟨k1,k2,k3,k4⟩:=hR.to r (List.mem_of_getElem? hr) e he
  exact ⟨_,_,⟨B4a sigma s e,(hM.arc _).2 ⟨s,r,hr,e,he,rfl⟩,rfl,rfl,rfl,rfl⟩,(A34 hs k2).2.symm,(A34 hs k3).2.symm⟩
def endP (ends:List Int) (t:Nat):Prop:=0 < ends.getD t 0
theorem C3i (hM:C2f sigma E ends costs n M) (hR:B1h sigma E ends costs n) (hs:A7i sigma=0) (x y:List ByteArray):
  A76 M x y↔((∀ z∈x,z∈sigma)∧∀ z∈y,z∈sigma)∧RelP (A0v E) (endP ends) (x.map (ixN sigma)) (y.map (ixN sigma)):=by
 obtain ⟨hok,_,_⟩:=A3i (B8o hM hR hs)
 have key:∀ (hx:∀ z∈x,z∈sigma) (hy:∀ z∈y,z∈sigma),A76 M x y↔RelP (A0v E) (endP ends) (x.map (ixN sigma)) (y.map (ixN sigma)):=fun hx hy=>by
  rw [← C0s hok (by rw [hM.sg]; exact hx) (by rw [hM.sg]; exact hy),C9h hM hR hs,hM.sg]
  unfold RelP
  refine exists_congr fun t=>and_congr_left fun _=>?_
  rw [B9p hok]
  unfold NetD.isEnd endP
  constructor
  ·rintro ⟨e,he,h1⟩
   obtain ⟨s,h2,h3,rfl⟩:=(hM.fin e).1 he
   have:((s:Nat):Int)=(t:Int):=h1
   have:s=t:=by omega
   rw [← this]; exact h3
  ·intro h1
   refine ⟨_,(hM.fin _).2 ⟨t,?_,h1,rfl⟩,rfl⟩
   have hln:=hR.ln
   rcases Nat.lt_or_ge t ends.length with h2 | h2
   ·omega
   ·rw [List.getD_eq_getElem?_getD,List.getElem?_eq_none h2] at h1
    exact absurd h1 (Int.lt_irrefl 0)
 constructor
 ·intro h
  have hsy:=C7j hok h
  rw [hM.sg] at hsy
  exact ⟨hsy,(key hsy.1 hsy.2).1 h⟩
 ·rintro ⟨h1,h2⟩
  exact (key h1.1 h1.2).2 h2
end
end Go.Proofs.YtnoengaghabmjaaGreatDoor
/- graph.Either: the graph of the words of two. -/
namespace Go.Proofs.YtnoengaghabmjaaGreatDoor
open Go Go.Proofs Go.Proofs.Sh
end Go.Proofs.YtnoengaghabmjaaGreatDoor
/- What functions that join nets have alike: the place of the result, what comes out. -/
namespace Go.Proofs.YtnoengaghabmjaaGreatDoor
open Go Go.Proofs Go.Proofs.Sh
def A86:Value:=.agg #[.slice none 0 0,.int .i64 0,.slice none 0 0,.slice none 0 0]
def JoinOut (H H':AH) (sigma:List ByteArray) (err:Int) (P:List ByteArray→List ByteArray→Prop) (r:Value):Prop:=
 Kept H H'∧∃ mv,r=.tuple #[mv,.int .i64 err]∧(err≠0→mv=A86)∧(err=0→∃ M:NetD,(∀ H2,(∀ y,H.next≤y→H2.objs.get y=H'.objs.get y)→Nonempty (A8k H2 mv M))∧A4c M∧A5h M=0∧M.sigma=sigma∧∀ x y,A76 M x y↔P x y)
structure Slot (H0:AH) (go:Nat):Prop where
 ob:Sh.Obj H0 go 4 [.slice none 0 0,.int .i64 0,.slice none 0 0,.slice none 0 0] true
 lt:go < H0.next
theorem Slot.new {H:AH}:Slot (H.new 4 [.slice none 0 0,.int .i64 0,.slice none 0 0,.slice none 0 0]).2 H.next:=⟨Sh.Obj.new (H:=H) 4 _,Nat.lt_succ_self _⟩
theorem Slot.put {H0 H':AH} {go:Nat} (h:Slot H0 go) (hk:Kept H0 H') {a b c d:Value} (ha:isCell a=true) (hb:isCell b=true) (hc:isCell c=true) (hd:isCell d=true):
  ∃ H'',A4h Tryz.prog 26 H' (.agg #[a,b,c,d]) (.pointer (some ⟨go,0,some 0⟩))=some H''∧H''.cells ⟨go,0,some 0⟩ 4=some [a,b,c,d]∧Chg (fun y=>y=go) H' H''∧H''.next=H'.next:=by
 have o0':Sh.Obj H' go 4 [.slice none 0 0,.int .i64 0,.slice none 0 0,.slice none 0 0] true:=by
  have o0:=h.ob
  unfold Sh.Obj at o0 ⊢
  rw [hk.old go h.lt]; exact o0
 obtain ⟨H6,w6,ar6,v6,z6⟩:=o0'.arr.write hk.wf (i:=0) (vs:=[a,b,c,d]) (by simp)
 have sc6:setCells [.slice none 0 0,.int .i64 0,.slice none 0 0,.slice none 0 0] 0 [a,b,c,d]=[a,b,c,d]:=rfl
 rw [sc6] at ar6
 refine ⟨H6,?_,ar6.cells (i:=0) (n:=4) (by simp),z6,v6⟩
 rw [A4q (vs:=[a,b,c,d]) A6o rfl (by simp [ha,hb,hc,hd])]
 exact w6
theorem netZ:A2m Tryz.prog 26 []=some (.agg #[.slice none 0 0,.int .i64 0,.slice none 0 0,.slice none 0 0]):=by
 have va:∀ xs:Array Value,A8a (.agg xs)=xs.toList:=fun _=>rfl
 refine A9g (pl:=[(0,1),(1,1),(2,1),(3,1)]) Tryz.underlying26 A01 (by kernel_rfl) ?_
 simp [A5r,va]
theorem JoinOut.bad {H H':AH} {sigma:List ByteArray} {err:Int} {P:List ByteArray→List ByteArray→Prop} (hk:Kept H H') (he:err≠0):JoinOut H H' sigma err P (.tuple #[.agg [Value.slice none 0 0,.int .i64 0,.slice none 0 0,.slice none 0 0].toArray,.int .i64 err]):=
 ⟨hk,_,rfl,fun _=>rfl,fun h=>absurd h he⟩
theorem A7y (N:NetD):(A3l N).length=N.states.toNat:=by unfold A3l; rw [A1f]
theorem B2k (N:NetD):(A7n N N.ends).length=N.states.toNat:=by unfold A7n; rw [List.length_map,A1f]
theorem B1a (N:NetD):(A5n N N.ends).length=N.states.toNat:=by unfold A5n; rw [List.length_map,A1f]
theorem A1y {N:NetD} (h:A5h N=0):∀ r∈A3l N,∀ e∈r,e.1 < N.states.toNat∧e.2.1 < (N.sigma.length:Int)∧e.2.2.1 < (N.sigma.length:Int)∧e.2.2.2=0:=fun r hr e he=>by
 obtain ⟨hok,_,hf⟩:=A3i h
 obtain ⟨s,hs⟩:=List.mem_iff_getElem?.1 hr
 obtain ⟨a,ha,_,rfl⟩:=(A5z hs e).1 he
 obtain ⟨_,_,k1,k2,k3,k4⟩:=hok.arc a ha
 simp only [NetD.free,Bool.and_eq_true,List.all_eq_true,decide_eq_true_eq] at hf
 exact ⟨by simp only; omega,A28 hok k3,A28 hok k4,hf.1 a ha⟩
theorem B8h {N:NetD} (h:A5h N=0):∀ r∈A3l N,r.length≤60000∧∀ e∈r,e.1 < N.states.toNat:=fun r hr=>by
 obtain ⟨hok,_,_⟩:=A3i h
 obtain ⟨s,hs⟩:=List.mem_iff_getElem?.1 hr
 exact ⟨Nat.le_trans (A14 hs) hok.ar,fun e he=>(A1y h r hr e he).1⟩
theorem A0z {N:NetD} (h:A5h N=0):∀ c∈A5n N N.ends,c=0:=fun c hc=>by
 obtain ⟨hok,_,hf⟩:=A3i h
 simp only [NetD.free,Bool.and_eq_true,List.all_eq_true,decide_eq_true_eq] at hf
 unfold A5n at hc
 obtain ⟨r,hr,rfl⟩:=List.mem_map.1 hc
 obtain ⟨s,hs⟩:=List.mem_iff_getElem?.1 hr
 refine B1v fun x hx=>?_
 obtain ⟨e,he,_,rfl⟩:=(A5z hs x).1 hx
 exact hf.2 e he
theorem B3x {l:List Int} (h:∀ c∈l,c=0) (s:Nat):l.getD s 0=0:=by
 rw [List.getD_eq_getElem?_getD]
 cases hg:l[s]? with
 | none=>rfl
 | some c=>exact h c (List.mem_of_getElem? hg)
theorem A19 {H:AH} (h:Wf H) {y:Nat} (hy:H.next≤y):H.objs.get y=none:=by
 cases hg:H.objs.get y with
 | none=>rfl
 | some x=>have:=h y x hg; omega
theorem B6k {N:NetD} (h:A5h N=0):((A3l N).map List.length).sum=N.arcs.length:=by
 obtain ⟨hok,_,_⟩:=A3i h
 unfold A3l
 have key:∀ (l:List ArcD),(∀ a∈l,0≤a.fr∧a.fr < N.states)→((rowsOf ArcD.fr (fun a=>(a.to.toNat,A8q N.sigma a.inn,A8q N.sigma a.out,a.cost)) N.states.toNat l).map List.length).sum=l.length:=fun l hl=>by
  unfold rowsOf
  rw [List.map_map]
  have e:(List.length ∘ fun (s:Nat)=>(l.filter fun a=>decide (a.fr=(s:Int))).map fun a=>(a.to.toNat,A8q N.sigma a.inn,A8q N.sigma a.out,a.cost))=fun (s:Nat)=>(l.filter fun a=>decide (a.fr=(s:Int))).length:=by
   funext s; simp
  rw [e]
  clear e
  induction l with
  | nil=>
   generalize N.states.toNat=m
   induction m with
   | zero=>rfl
   | succ m ihm=>rw [List.range_succ,List.map_append,List.sum_append,ihm]; rfl
  | cons a l ih=>
   have h1:=ih fun b hb=>hl b (List.mem_cons_of_mem _ hb)
   obtain ⟨h2,h3⟩:=hl a List.mem_cons_self
   have h4:∀ (m:Nat),((List.range m).map fun (s:Nat)=>((a :: l).filter fun b=>decide (b.fr=(s:Int))).length).sum=((List.range m).map fun (s:Nat)=>(l.filter fun b=>decide (b.fr=(s:Int))).length).sum+(if a.fr.toNat < m then 1 else 0):=fun m=>by
    induction m with
    | zero=>simp
    | succ m ihm=>
     rw [List.range_succ,List.map_append,List.sum_append,List.map_append,List.sum_append,ihm]
     simp only [List.map_cons,List.map_nil,List.sum_cons,List.sum_nil,Nat.add_zero]
     by_cases hm:a.fr=(m:Int)
     ·rw [List.filter_cons_of_pos (by simpa using hm),if_neg (by omega),if_pos (by omega),List.length_cons]; omega
     ·rw [List.filter_cons_of_neg (by simpa using hm)]
      by_cases hlt:a.fr.toNat < m
      ·rw [if_pos hlt,if_pos (by omega)]; omega
      ·rw [if_neg hlt,if_neg (by omega)]; omega
   rw [h4,h1,if_pos (by omega),List.length_cons]
 exact key N.arcs fun a ha=>⟨(hok.arc a ha).1,(hok.arc a ha).2.1⟩
end Go.Proofs.YtnoengaghabmjaaGreatDoor
/- rel.Either: the pairs of both. -/
namespace Go.Proofs.YtnoengaghabmjaaGreatDoor
open Go Go.Proofs Go.Proofs.Sh
end Go.Proofs.YtnoengaghabmjaaGreatDoor
/- Whether lists of texts are equal; a text is put into a list; ascending lists. -/
namespace Go.Proofs.YtnoengaghabmjaaGreatDoor
open Go Go.Proofs Go.Proofs.Sh
def ordW:List ByteArray→List ByteArray→Int
 | [],[]=>0
 | [],_ :: _=>-1
 | _ :: _,[]=>1
 | a :: x,b :: y=>if A7m a b=true then -1 else if a=b then ordW x y else 1
theorem B7u:∀ l,ordW l l=0
 | []=>rfl
 | a :: x=>by simp [ordW,A0o,B7u x]
theorem C6l:∀ {l m:List ByteArray},ordW l m=0↔l=m
 | [],[]=>by simp [ordW]
 | [],_ :: _=>by simp [ordW]
 | _ :: _,[]=>by simp [ordW]
 | a :: x,b :: y=>by
  unfold ordW
  by_cases h:A7m a b=true
  ·rw [if_pos h]
   constructor
   ·intro h1; cases h1
   ·intro h1; injection h1 with h1 _; rw [h1,A0o] at h; cases h
  ·rw [if_neg h]
   by_cases h2:a=b
   ·rw [if_pos h2,C6l,h2]; simp
   ·rw [if_neg h2]; simp [h2]
theorem A73:∀ {i:Nat} {l m:List ByteArray},l.take i=m.take i→ordW l m=ordW (l.drop i) (m.drop i)
 | 0,l,m,_=>rfl
 | i+1,[],[],_=>rfl
 | i+1,[],_ :: _,h=>by simp at h
 | i+1,_ :: _,[],h=>by simp at h
 | i+1,a :: x,b :: y,h=>by
  simp only [List.take_succ_cons,List.cons.injEq] at h
  obtain ⟨h1,h2⟩:=h
  subst h1
  simp only [List.drop_succ_cons]
  rw [← A73 h2]
  unfold ordW
  rw [A0o]
  cases x <;> cases y <;> simp [ordW]
theorem refOrdW {H:AH} {v u:Value} {l m:List ByteArray} (hl:Sl H v 1 (l.map A1b)) (hm:Sl H u 1 (m.map A1b)) (hll:l.length≤1048576) (hml:m.length≤1048576) (hw:Wf H):
  Sh.Call Tryz.prog (knows 8) 51 [v,u] H (fun r H'=>H'=H∧r=.int .i64 (ordW l m)):=by
 refine A3b rfl Tryz.func51 rfl (Nat.le_of_ble_eq_true rfl) ?_
 have hres:Tryz.f51.results.toList=[.tmp 4]:=rfl
 have hlen:=fun H'=>hl.len Tryz.underlying22 H'
 have mlen:=fun H'=>hm.len Tryz.underlying22 H'
 simp only [List.length_map] at hlen mlen
 simp only [↓Sh.dn,sx,Nat.reduceBEq,reduceCtorEq,Nat.reduceEqDiff]
 have hmin:min l.length m.length≤1048576:=by omega
 refine A0i (min l.length m.length) 5 (List.range' 5 31) (fun i F H'=>H'=H∧l.take i=m.take i) (by simp only [↓Sh.dn,sx,Nat.reduceBEq,reduceCtorEq,Nat.reduceEqDiff]) ⟨rfl,rfl⟩ ?_ ?_
 ·rintro i F H' hi hF f5 ⟨rfl,htk⟩ k
  have f0:=hF 0 rfl
  have f1:=hF 1 rfl
  simp only [↓Sh.dn,sx,Nat.reduceBEq,reduceCtorEq,Nat.reduceEqDiff] at f0 f1
  have hi1:i < l.length:=by omega
  have hi2:i < m.length:=by omega
  obtain ⟨p1,hia1,hc1⟩:=Sl.elem (s:=1) Tryz.underlying22 A6l hl (i:=i) (u:=.string l[i]) (by rw [List.getElem?_map,List.getElem?_eq_getElem hi1]; rfl)
  obtain ⟨p2,hia2,hc2⟩:=Sl.elem (s:=1) Tryz.underlying22 A6l hm (i:=i) (u:=.string m[i]) (by rw [List.getElem?_map,List.getElem?_eq_getElem hi2]; rfl)
  have ho:∀ k:Int,ordW (l[i] :: l.drop (i+1)) (m[i] :: m.drop (i+1))=k→ordW l m=k:=fun k hk=>by
   rw [A73 htk,List.drop_eq_getElem_cons hi1,List.drop_eq_getElem_cons hi2]; exact hk
  have ht1:l.take (i+1)=l.take i++[l[i]]:=by rw [List.take_add_one,List.getElem?_eq_getElem hi1]; rfl
  have ht2:m.take (i+1)=m.take i++[m[i]]:=by rw [List.take_add_one,List.getElem?_eq_getElem hi2]; rfl
  generalize l[i]=x at hc1 ho ht1
  generalize m[i]=y at hc2 ho ht2
  simp only [↓Sh.dn,sx,Nat.reduceBEq,reduceCtorEq,Nat.reduceEqDiff,f0,f1,f5,hlen,mlen,A9a,hi1,hi2,decide_true,hia1,hc1,hia2,hc2]
  cases hlt:A7m x y with
  | true=>
   have:=ho (-1) (by simp [ordW,hlt])
   simp only [↓Sh.dn,sx,Nat.reduceBEq,reduceCtorEq,Nat.reduceEqDiff,hres,this]
  | false=>
   by_cases hxy:x=y
   ·simp only [↓Sh.dn,sx,Nat.reduceBEq,reduceCtorEq,Nat.reduceEqDiff,f0,f1,f5,hia1,hc1,hia2,hc2,hlt,hxy,decide_true,A0o,wrap_succ hi hmin]
    exact k _ _ (by repeat (first | refine Same.put ?_ rfl | exact Same.rfl' _)) (by simp only [↓Sh.dn,sx,Nat.reduceBEq,reduceCtorEq,Nat.reduceEqDiff]) ⟨rfl,by rw [ht1,ht2,htk,hxy]⟩
   ·have:=ho 1 (by simp [ordW,hlt,hxy])
    simp only [↓Sh.dn,sx,Nat.reduceBEq,reduceCtorEq,Nat.reduceEqDiff,f0,f1,f5,hia1,hc1,hia2,hc2,hlt,hxy,decide_false,hres,this]
 ·rintro F H' hF f5 ⟨rfl,htk⟩
  have f0:=hF 0 rfl
  have f1:=hF 1 rfl
  simp only [↓Sh.dn,sx,Nat.reduceBEq,reduceCtorEq,Nat.reduceEqDiff] at f0 f1
  by_cases h1:l.length < m.length
  ·have e:min l.length m.length=l.length:=by omega
   rw [e] at f5 htk
   have:ordW l m=-1:=by
    rw [A73 htk,List.drop_length,List.drop_eq_getElem_cons h1]; rfl
   simp only [↓Sh.dn,sx,Nat.reduceBEq,reduceCtorEq,Nat.reduceEqDiff,f0,f1,f5,hlen,mlen,A9a,Nat.lt_irrefl,h1,decide_true,decide_false,hres,this]
  ·have e:min l.length m.length=m.length:=by omega
   rw [e] at f5 htk
   by_cases h2:m.length < l.length
   ·have : ordW l m = 1 := by
      rw [A73 htk, List.drop_length, List.drop_eq_getElem_cons h2]; rfl
    simp only [↓Sh.dn, sx, Nat.reduceBEq, reduceCtorEq, Nat.reduceEqDiff, f0, f1, f5, hlen, mlen, A9a, Nat.lt_irrefl, h1, h2, decide_true, decide_false, hres, this]
   ·have heq : l = m := by
      rw [List.take_length, List.take_of_length_le (by omega)] at htk
      exact htk
    have : ordW l m = 0 := by rw [heq, B7u]
    simp only [↓Sh.dn, sx, Nat.reduceBEq, reduceCtorEq, Nat.reduceEqDiff, f0, f1, f5, hlen, mlen, A9a, Nat.lt_irrefl, h1, h2, decide_true, decide_false, hres, this]
theorem refOrder {H:AH} {v u:Value} {l m:List ByteArray} (hl:Sl H v 1 (l.map A1b)) (hm:Sl H u 1 (m.map A1b)) (hll:l.length≤1048576) (hml:m.length≤1048576) (hw:Wf H):
  Sh.Call Tryz.prog (knows 8) 51 [v,u] H (fun r H'=>H'=H∧∃ k:Int,r=.int .i64 k∧(k=0↔l=m)):=by
 refine (refOrdW hl hm hll hml hw).mono ?_
 rintro r H' ⟨rfl,rfl⟩
 exact ⟨rfl,_,rfl,C6l⟩
theorem C6r {H:AH} {v u:Value} {l m:List ByteArray} (hl:Sl H v 1 (l.map A1b)) (hm:Sl H u 1 (m.map A1b)) (hll:l.length≤1048576) (hml:m.length≤1048576) (hw:Wf H):
  Sh.Call Tryz.prog (knows 8) 26 [v,u] H (fun r H'=>H'=H∧r=.bool (decide (l=m))):=by
 refine A3b rfl Tryz.func26 rfl (Nat.le_of_ble_eq_true rfl) ?_
 have hres:Tryz.f26.results.toList=[.tmp 4]:=rfl
 obtain ⟨r,H1,hd,rfl,k,rfl,hk⟩:=refOrder hl hm hll hml hw
 simp only [↓Sh.dn,sx,Nat.reduceBEq,reduceCtorEq,Nat.reduceEqDiff]
 refine ⟨_,_,hd,?_⟩
 have:decide (k=0)=decide (l=m):=decide_eq_decide.2 hk
 simp only [↓Sh.dn,sx,Nat.reduceBEq,reduceCtorEq,Nat.reduceEqDiff,hres,this]
structure LS (H:AH) (base:Nat) (z:Value) (l:List ByteArray) (ob:Option Nat):Prop where
 bf:Buf H 1 z (l.map A1b) ob
 fr:∀ y,ob=some y→base≤y
theorem LS.void (H:AH) (base:Nat):LS H base (.slice none 0 0) [] none:=⟨.void none,fun y hy=>by cases hy⟩
theorem LS.kept {H H':AH} {base:Nat} {z:Value} {l:List ByteArray} {ob:Option Nat} (h:LS H base z l ob) (hw:Wf H) (hk:Kept H H'):LS H' base z l ob:=⟨h.bf.kept hw hk,h.fr⟩
end Go.Proofs.YtnoengaghabmjaaGreatDoor
/- What the laws of chapter 05 ask of a net that is made. -/
namespace Go.Proofs.YtnoengaghabmjaaGreatDoor
open Go Go.Proofs Go.Proofs.Sh
theorem boolEq {c b:Bool}:abin Tryz.prog 4 c .eql (.bool b) (.bool b)=some (.bool true):=by
 unfold abin aeq B4g A4f
 simp only [eqT,Tryz.underlying4,cond_true,beq_self_eq_true,Option.map_some]
theorem lawNone {H:AH} (hw:Wf H):Sh.Call Tryz.prog (knows 8) 13 [A86] H (fun r H'=>Kept H H'∧r=.bool true):=by
 refine A3b rfl Tryz.func13 rfl (Nat.le_of_ble_eq_true rfl) ?_
 have hres:Tryz.f13.results.toList=[.tmp 2]:=rfl
 have hb:=NetBox.of (N:=⟨[],0,[],[]⟩) hw (Sl.nil H 1) (Sl.nil H 5) (Sl.nil H 2)
 have k:=Kept.new hw 4 [.slice none 0 0,.int .i64 (NetD.states ⟨[],0,[],[]⟩),.slice none 0 0,.slice none 0 0]
 unfold A86
 simp only [↓Sh.dn,sx,Nat.reduceBEq,reduceCtorEq,Nat.reduceEqDiff,A1c]
 simp only [] at hb k
 generalize H.next=gg at hb ⊢
 generalize (H.new 4 [.slice none 0 0,.int .i64 0,.slice none 0 0,.slice none 0 0]).2=H1 at hb k ⊢
 have z:((0:Nat):Int)=0:=rfl
 have l0:=fun H'=>hb.hsg.len Tryz.underlying22 H'
 have l2:=fun H'=>hb.har.len Tryz.underlying23 H'
 have l3:=fun H'=>hb.hen.len Tryz.underlying24 H'
 simp only [List.map_nil,List.length_nil,z] at l0 l2 l3
 simp only [↓Sh.dn,sx,Nat.reduceBEq,reduceCtorEq,Nat.reduceEqDiff,hb.c0,hb.c1,hb.c2,hb.c3,hb.ca,A3a hb,A1a hb,A2a hb,l0,l2,l3,List.length_nil,z,eq_self,decide_true,hres]
 exact k
theorem lawMade {H:AH} {mv usg ux uy:Value} {M:NetD} {sigma x y:List ByteArray} (hM:A8k H mv M) (hsm:A4c M) (hE:A5h M=0) (hs:M.sigma=sigma) (hsg:Sl H usg 1 (sigma.map A1b)) (hsl:sigma.length≤1048576) (hx:Sl H ux 1 (x.map A1b)) (hy:Sl H uy 1 (y.map A1b)) (hxl:x.length≤400) (hyl:y.length≤400) {b:Bool} (hb:b=tB (A76 M x y)) (hw:Wf H):
  Sh.Call Tryz.prog (knows 8) 15 [mv,usg,ux,uy,.bool b] H (fun r H'=>Kept H H'∧r=.bool true):=by
 subst hb
 refine A3b rfl Tryz.func15 rfl (Nat.le_of_ble_eq_true rfl) ?_
 have hres:Tryz.f15.results.toList=[.tmp 10]:=rfl
 obtain ⟨sg,ar,en,rfl,s1,s2,s3⟩:=hM
 have hb1:=NetBox.of (N:=M) hw s1 s2 s3
 have k1:=Kept.new hw 4 [sg,.int .i64 M.states,ar,en]
 simp only [↓Sh.dn,sx,Nat.reduceBEq,reduceCtorEq,Nat.reduceEqDiff,A7k s1.isCell s2.isCell s3.isCell]
 generalize H.next=gg at hb1 ⊢
 generalize (H.new 4 [sg,.int .i64 M.states,ar,en]).2=H1 at hb1 k1 ⊢
 obtain ⟨r2,H2,hd2,k2,rfl⟩:=B2b hb1.netAt hsm k1.wf
 have k12:=k1.trans k2
 have hb2:=hb1.kept k1.wf k2
 obtain ⟨r3,H3,hd3,rfl,rfl⟩:=C6r hb2.hsg (hsg.grow (k12.grow hw)) (by rw [hs]; exact hsl) hsl k12.wf
 obtain ⟨okM,_,_⟩:=A3i hE
 obtain ⟨r4,H4,hd4,k4,rfl⟩:=refPair hb2.netAt okM hsm (hx.grow (k12.grow hw)) (hy.grow (k12.grow hw)) hxl hyl k12.wf
 rw [decide_eq_true hs] at hd3
 rw [hE] at hd2
 simp only [↓Sh.dn,sx,Nat.reduceBEq,reduceCtorEq,Nat.reduceEqDiff,hb1.c0,hb1.c1,hb1.c2,hb1.c3,hb1.ca,A3a hb1,A1a hb1,A2a hb1,Option.map_some]
 refine ⟨_,_,hd2,?_⟩
 simp only [↓Sh.dn,sx,Nat.reduceBEq,reduceCtorEq,Nat.reduceEqDiff,hb2.c0,hb2.c1,hb2.c2,hb2.c3,hb2.ca,A3a hb2,A1a hb2,A2a hb2,Option.map_some,eq_self,decide_true]
 refine ⟨_,_,hd3,?_⟩
 simp only [↓Sh.dn,sx,Nat.reduceBEq,reduceCtorEq,Nat.reduceEqDiff,hb2.c0,hb2.c1,hb2.c2,hb2.c3,hb2.ca,A3a hb2,A1a hb2,A2a hb2,Option.map_some]
 refine ⟨_,_,hd4,?_⟩
 simp only [↓Sh.dn,sx,Nat.reduceBEq,reduceCtorEq,Nat.reduceEqDiff,boolEq,hres]
 exact k12.trans k4
end Go.Proofs.YtnoengaghabmjaaGreatDoor
/- Two lists in a row. -/
namespace Go.Proofs.YtnoengaghabmjaaGreatDoor
open Go Go.Proofs Go.Proofs.Sh
theorem two_jag {H:AH} {u v:Value} {x y:List ByteArray} (hu:Sl H u 1 (x.map A1b)) (hv:Sl H v 1 (y.map A1b)) (hw:Wf H):JagR (H.new 1 [u,v]).2 (.slice (some ⟨H.next,0,some 0⟩) 2 2) 1 ([x,y].map fun w=>w.map A1b) [u,v]:=by
 have k:=Kept.new hw 1 [u,v]
 refine ⟨(Buf.fresh (H:=H) (s:=1) (xs:=[[u],[v]]) hw (by
  intro x hx
  simp only [List.mem_cons,List.not_mem_nil,or_false] at hx
  rcases hx with rfl | rfl <;> rfl) (by simp) 2 rfl).toSl,rfl,fun i w' r h1 h2=>?_⟩
 match i with
 | 0=>
  simp only [List.map_cons,List.map_nil,List.getElem?_cons_zero,Option.some.injEq] at h1 h2
  subst h1 h2
  exact hu.grow (k.grow hw)
 | 1=>
  simp only [List.map_cons,List.map_nil,List.getElem?_cons_succ,List.getElem?_cons_zero,Option.some.injEq] at h1 h2
  subst h1 h2
  exact hv.grow (k.grow hw)
 | i+2=>simp at h1
end Go.Proofs.YtnoengaghabmjaaGreatDoor
/- The reference's word on what two nets make. -/
namespace Go.Proofs.YtnoengaghabmjaaGreatDoor
open Go Go.Proofs Go.Proofs.Sh
end Go.Proofs.YtnoengaghabmjaaGreatDoor
/- What laws of relations have alike: whether nets and words are far too large. -/
namespace Go.Proofs.YtnoengaghabmjaaGreatDoor
open Go Go.Proofs Go.Proofs.Sh
theorem lawLong {H:AH} {v:Value} {ws:List (List ByteArray)} {vs:List Value} (h:JagR H v 1 (ws.map fun w=>w.map A1b) vs) (hl:ws.length≤1048576):
  Sh.Call Tryz.prog (knows 8) 10 [v] H (fun r H'=>H'=H∧r=.bool (ws.any fun w=>decide (240 < w.length))):=by
 refine A3b rfl Tryz.func10 rfl (Nat.le_of_ble_eq_true rfl) ?_
 have hres:Tryz.f10.results.toList=[.tmp 2]:=rfl
 have hlen:∀ H',A5a Tryz.prog .len [48] [v] H'=some (.int .i64 (ws.length:Int),H'):=fun H'=>by
  rw [h.sl.len Tryz.underlying48,List.length_map,h.len,List.length_map]
 simp only [↓Sh.dn,sx,Nat.reduceBEq,reduceCtorEq,Nat.reduceEqDiff]
 refine A0i ws.length 3 (List.range' 3 14) (fun i F H'=>H'=H∧∀ w∈ws.take i,¬240 < w.length) (by simp only [↓Sh.dn,sx,Nat.reduceBEq,reduceCtorEq,Nat.reduceEqDiff]) ⟨rfl,by simp⟩ ?_ ?_
 ·rintro i F H' hi hF f3 ⟨rfl,hall⟩ k
  have f0:=hF 0 rfl
  simp only [↓Sh.dn,sx,Nat.reduceBEq,reduceCtorEq,Nat.reduceEqDiff] at f0
  obtain ⟨g1,o1,q1,w1,i1,c1,s1⟩:=h.at Tryz.underlying48 A0x (i:=i) (r:=ws[i].map A1b) (by rw [List.getElem?_map,List.getElem?_eq_getElem hi]; rfl)
  have htk:ws.take (i+1)=ws.take i++[ws[i]]:=by rw [List.take_add_one,List.getElem?_eq_getElem hi]; rfl
  have hm:ws[i]∈ws:=List.getElem_mem hi
  generalize ws[i]=w at s1 htk hm
  have hlw:=s1.len Tryz.underlying22 H'
  simp only [List.length_map] at hlw
  have d:decide ((240:Int) < (w.length:Int))=decide (240 < w.length):=decide_eq_decide.2 (by omega)
  by_cases hd:240 < w.length
  ·have:(ws.any fun w=>decide (240 < w.length))=true:=List.any_eq_true.2 ⟨w,hm,decide_eq_true hd⟩
   simp only [↓Sh.dn,sx,Nat.reduceBEq,reduceCtorEq,Nat.reduceEqDiff,f0,f3,hlen,A9a,hi,decide_true,i1,c1,hlw,d,hd,hres,this]
  ·simp only [↓Sh.dn,sx,Nat.reduceBEq,reduceCtorEq,Nat.reduceEqDiff,f0,f3,hlen,A9a,hi,decide_true,i1,c1,hlw,d,hd,decide_false,A7d hi (by omega)]
   refine k _ _ (by repeat (first | refine Same.put ?_ rfl | exact Same.rfl' _)) (by simp only [↓Sh.dn,sx,Nat.reduceBEq,reduceCtorEq,Nat.reduceEqDiff]) ⟨rfl,fun u hu=>?_⟩
   rw [htk] at hu
   rcases List.mem_append.1 hu with h2 | h2
   ·exact hall u h2
   ·rw [List.mem_singleton.1 h2]; exact hd
 ·rintro F H' hF f3 ⟨rfl,hall⟩
  have f0:=hF 0 rfl
  simp only [↓Sh.dn,sx,Nat.reduceBEq,reduceCtorEq,Nat.reduceEqDiff] at f0
  rw [List.take_length] at hall
  have:(ws.any fun w=>decide (240 < w.length))=false:=by
   rw [List.any_eq_false]
   intro w hw
   rw [decide_eq_true_eq]; exact hall w hw
  simp only [↓Sh.dn,sx,Nat.reduceBEq,reduceCtorEq,Nat.reduceEqDiff,f0,f3,hlen,A9a,Nat.lt_irrefl,decide_false,hres,this]
def NetRow (H:AH) (r:List Value):Prop:=∃ (N:NetD) (sg ar en:Value),r=[sg,.int .i64 N.states,ar,en]∧Sl H sg 1 (N.sigma.map A1b)∧Sl H ar 5 (N.arcs.map ArcD.cells)∧Sl H en 2 (N.ends.map EndD.cells)∧A4c N
theorem lawOver {H:AH} {v:Value} {rows:List (List Value)} (h:Sl H v 4 rows) (hl:rows.length≤1048576) (hr:∀ r∈rows,NetRow H r):
  Sh.Call Tryz.prog (knows 8) 9 [v] H (fun r H'=>H'=H∧∃ b,r=.bool b):=by
 refine A3b rfl Tryz.func9 rfl (Nat.le_of_ble_eq_true rfl) ?_
 have hres:Tryz.f9.results.toList=[.tmp 2]:=rfl
 have hlen:∀ H',A5a Tryz.prog .len [51] [v] H'=some (.int .i64 (rows.length:Int),H'):=fun H'=>h.len Tryz.underlying51 H'
 simp only [↓Sh.dn,sx,Nat.reduceBEq,reduceCtorEq,Nat.reduceEqDiff]
 refine A0i rows.length 4 (List.range' 3 100) (fun i F H'=>H'=H∧∃ n,F.get 3=some (.int .i64 n)) (by simp only [↓Sh.dn,sx,Nat.reduceBEq,reduceCtorEq,Nat.reduceEqDiff]) ⟨rfl,0,by simp only [↓Sh.dn,sx,Nat.reduceBEq,reduceCtorEq,Nat.reduceEqDiff]⟩ ?_ ?_
 ·rintro i F H' hi hF f4 ⟨rfl,n,f3⟩ k
  have f0:=hF 0 rfl
  simp only [↓Sh.dn,sx,Nat.reduceBEq,reduceCtorEq,Nat.reduceEqDiff] at f0
  obtain ⟨g1,o1,q1,i1,_,c1⟩:=h.at Tryz.underlying51 A6o (i:=i) (List.getElem?_eq_getElem hi) .i64
  obtain ⟨N,sg,ar,en,hrow,hsg,har,hen,hsm⟩:=hr _ (List.getElem_mem hi)
  have d0:=c1 0 sg (by rw [hrow]; rfl)
  have d2:=c1 2 ar (by rw [hrow]; rfl)
  have d3:=c1 3 en (by rw [hrow]; rfl)
  simp only [Nat.add_zero] at d0
  have l0:=fun H'=>hsg.len Tryz.underlying22 H'
  have l2:=fun H'=>har.len Tryz.underlying23 H'
  have l3:=fun H'=>hen.len Tryz.underlying24 H'
  simp only [List.length_map] at l0 l2 l3
  have hs0:=hsm.sg
  have hs2:=hsm.ar
  simp only [↓Sh.dn,sx,Nat.reduceBEq,reduceCtorEq,Nat.reduceEqDiff,f0,f4,hlen,A9a,hi,decide_true,i1,d0,l0]
  have e0:decide ((400:Int) < (N.sigma.length:Int))=decide (400 < N.sigma.length):=decide_eq_decide.2 (by omega)
  have e2:decide ((120000:Int) < (N.arcs.length:Int))=decide (120000 < N.arcs.length):=decide_eq_decide.2 (by omega)
  have e3:decide ((120000:Int) < (N.ends.length:Int))=decide (120000 < N.ends.length):=decide_eq_decide.2 (by omega)
  cases h0:decide (400 < N.sigma.length) with
  | true=>simp only [↓Sh.dn,sx,Nat.reduceBEq,reduceCtorEq,Nat.reduceEqDiff,e0,h0,hres]
  | false=>
  cases h2:decide (120000 < N.arcs.length) with
  | true=>simp only [↓Sh.dn,sx,Nat.reduceBEq,reduceCtorEq,Nat.reduceEqDiff,e0,h0,f0,f4,i1,d2,l2,e2,h2,hres]
  | false=>
  cases h3:decide (120000 < N.ends.length) with
  | true=>simp only [↓Sh.dn,sx,Nat.reduceBEq,reduceCtorEq,Nat.reduceEqDiff,e0,h0,f0,f4,i1,d2,l2,e2,h2,d3,l3,e3,h3,hres]
  | false=>
  simp only [↓Sh.dn,sx,Nat.reduceBEq,reduceCtorEq,Nat.reduceEqDiff,e0,h0,f0,f4,i1,d2,l2,e2,h2,d3,l3,e3,h3]
  refine A0i N.sigma.length 5 (List.range' 38 21++[3,5]) (fun q F2 H2=>H2=H'∧∃ n,F2.get 3=some (.int .i64 n)) (by simp only [↓Sh.dn,sx,Nat.reduceBEq,reduceCtorEq,Nat.reduceEqDiff]) ⟨rfl,n,by simp only [↓Sh.dn,sx,Nat.reduceBEq,reduceCtorEq,Nat.reduceEqDiff,f3]⟩ ?_ ?_
  ·rintro q F2 H2 hq hF2 f5 ⟨rfl,n2,g3⟩ k2
   have g0:=hF2 0 rfl
   have g4:=hF2 4 rfl
   simp only [↓Sh.dn,sx,Nat.reduceBEq,reduceCtorEq,Nat.reduceEqDiff,f0,f4] at g0 g4
   obtain ⟨p2,j2,e2'⟩:=Sl.elem (s:=1) Tryz.underlying22 A6l hsg (i:=q) (u:=.string N.sigma[q]) (by rw [List.getElem?_map,List.getElem?_eq_getElem hq]; rfl)
   simp only [↓Sh.dn,sx,Nat.reduceBEq,reduceCtorEq,Nat.reduceEqDiff,g0,g3,g4,f5,i1,d0,l0,A9a,hq,decide_true,j2,e2',A7d hq (by omega)]
   exact k2 _ _ (by repeat (first | refine Same.put ?_ rfl | exact Same.rfl' _)) (by simp only [↓Sh.dn,sx,Nat.reduceBEq,reduceCtorEq,Nat.reduceEqDiff]) ⟨rfl,_,by simp only [↓Sh.dn,sx,Nat.reduceBEq,reduceCtorEq,Nat.reduceEqDiff]; rfl⟩
  ·rintro F2 H2 hF2 f5 ⟨rfl,n2,g3⟩
   have g0:=hF2 0 rfl
   have g4:=hF2 4 rfl
   simp only [↓Sh.dn,sx,Nat.reduceBEq,reduceCtorEq,Nat.reduceEqDiff,f0,f4] at g0 g4
   simp only [↓Sh.dn,sx,Nat.reduceBEq,reduceCtorEq,Nat.reduceEqDiff,g0,g4,f5,i1,d0,l0,A9a,Nat.lt_irrefl,decide_false]
   refine A5s (m:=N.arcs.length) (fun m F3 H3=>H3=H2∧Same (List.range' 38 61++[3,6]) F2 F3∧∃ q n,m+q=N.arcs.length∧F3.get 6=some (.int .i64 ((q:Nat):Int))∧F3.get 3=some (.int .i64 n)) ⟨rfl,(by repeat (first | refine Same.put ?_ rfl | exact Same.rfl' _)),0,n2,by omega,by simp only [↓Sh.dn,sx,Nat.reduceBEq,reduceCtorEq,Nat.reduceEqDiff]; rfl,by simp only [↓Sh.dn,sx,Nat.reduceBEq,reduceCtorEq,Nat.reduceEqDiff,g3]⟩ ?_
   rintro m F3 H3 ⟨rfl,hS,q,n3,hmq,e6,e3'⟩ k3
   have u0:=hS 0 rfl
   have u4:=hS 4 rfl
   simp only [↓Sh.dn,sx,Nat.reduceBEq,reduceCtorEq,Nat.reduceEqDiff,g0,g4] at u0 u4
   have wi:=A7d hi (by omega)
   have fin:Same (List.range' 3 100) F F3:=by
    refine Same.trans ?_ (hS.sub rfl)
    refine Same.trans ?_ (hF2.sub rfl)
    exact (by repeat (first | refine Same.put ?_ rfl | exact Same.rfl' _))
   by_cases hq:q < N.arcs.length
   ·cases hn:decide (n3≤240000) with
    | false=>
     simp only [↓Sh.dn,sx,Nat.reduceBEq,reduceCtorEq,Nat.reduceEqDiff,u0,u4,e6,e3',i1,d2,l2,A9a,hq,decide_true,hn,wi]
     refine k _ _ ?_ (by simp only [↓Sh.dn,sx,Nat.reduceBEq,reduceCtorEq,Nat.reduceEqDiff]) ⟨rfl,n3,by simp only [↓Sh.dn,sx,Nat.reduceBEq,reduceCtorEq,Nat.reduceEqDiff,e3']⟩
     repeat refine Same.put ?_ rfl
     exact fin
    | true=>
     obtain ⟨ga,oa,ka,ja,_,ca⟩:=har.at Tryz.underlying23 A2l (i:=q) (x:=N.arcs[q].cells) (by simp [hq]) .i64
     have x1:=ca 1 (.string N.arcs[q].inn) rfl
     have x2:=ca 2 (.string N.arcs[q].out) rfl
     simp only [↓Sh.dn,sx,Nat.reduceBEq,reduceCtorEq,Nat.reduceEqDiff,u0,u4,e6,e3',i1,d2,l2,A9a,hq,decide_true,hn,ja,x1,x2,A7d hq (by omega)]
     refine k3 (N.arcs.length - (q+1)) _ _ (by omega) ⟨rfl,?_,q+1,_,by omega,by simp only [↓Sh.dn,sx,Nat.reduceBEq,reduceCtorEq,Nat.reduceEqDiff],by simp only [↓Sh.dn,sx,Nat.reduceBEq,reduceCtorEq,Nat.reduceEqDiff]; rfl⟩
     repeat refine Same.put ?_ rfl
     exact hS
   ·have hd:decide (q < N.arcs.length)=false:=decide_eq_false hq
    simp only [↓Sh.dn,sx,Nat.reduceBEq,reduceCtorEq,Nat.reduceEqDiff,u0,u4,e6,i1,d2,l2,A9a,hd,wi]
    refine k _ _ ?_ (by simp only [↓Sh.dn,sx,Nat.reduceBEq,reduceCtorEq,Nat.reduceEqDiff]) ⟨rfl,n3,by simp only [↓Sh.dn,sx,Nat.reduceBEq,reduceCtorEq,Nat.reduceEqDiff,e3']⟩
    repeat refine Same.put ?_ rfl
    exact fin
 ·rintro F H' hF f4 ⟨rfl,n,f3⟩
  have f0:=hF 0 rfl
  simp only [↓Sh.dn,sx,Nat.reduceBEq,reduceCtorEq,Nat.reduceEqDiff] at f0
  simp only [↓Sh.dn,sx,Nat.reduceBEq,reduceCtorEq,Nat.reduceEqDiff,f0,f3,f4,hlen,A9a,Nat.lt_irrefl,decide_false,hres]
end Go.Proofs.YtnoengaghabmjaaGreatDoor
/- Whether there is far more in a net than may be. -/
namespace Go.Proofs.YtnoengaghabmjaaGreatDoor
open Go Go.Proofs Go.Proofs.Sh
def B6y (l:List ByteArray):Nat:=(l.map fun s=>s.size).sum
end Go.Proofs.YtnoengaghabmjaaGreatDoor
/- What comes in: lists of texts, nets. -/
namespace Go.Proofs.YtnoengaghabmjaaGreatDoor
open Go Go.Proofs Go.Proofs.Sh
section
variable {K:Type}
theorem bulk_pos:∀ (d:DataW K),1≤Rows.uptoBulk d
 | .lit l=>by cases l <;> simp [Rows.uptoBulk]
 | .nil=>by simp [Rows.uptoBulk]
 | .ptr d=>by simp [Rows.uptoBulk]
 | .slice a b=>by simp [Rows.uptoBulk]
 | .agg a=>by simp [Rows.uptoBulk]
 | .iface n d=>by simp [Rows.uptoBulk]
 | .map es=>by simp [Rows.uptoBulk]
 | .held h=>by simp [Rows.uptoBulk]
theorem B3q:∀ (ds:List (DataW K)),ds.length≤Rows.uptoBulkAll ds
 | []=>Nat.zero_le _
 | d :: ds=>by
  have:=bulk_pos d
  have:=B3q ds
  simp only [Rows.uptoBulkAll,List.length_cons]; omega
theorem A4s:∀ {ds:List (DataW K)} {d:DataW K},d∈ds→Rows.uptoBulk d≤Rows.uptoBulkAll ds
 | d :: ds,x,h=>by
  simp only [Rows.uptoBulkAll]
  rcases List.mem_cons.1 h with rfl | h
  ·omega
  ·have:=A4s h; omega
theorem B6i {α β:Type} {f:α→β}:∀ {l:List β},(∀ x∈l,∃ a,x=f a)→∃ L:List α,l=L.map f
 | [],_=>⟨[],rfl⟩
 | x :: l,h=>by
  obtain ⟨a,rfl⟩:=h x List.mem_cons_self
  obtain ⟨L,rfl⟩:=B6i (l:=l) fun y hy=>h y (List.mem_cons_of_mem _ hy)
  exact ⟨a :: L,rfl⟩
theorem B33 {α:Type} {enc:α→List Value} {H:AH} {f t e s:Nat} {cs:List Value} {d:DataW K} (R:α→DataW K→Prop) (hu:Tryz.prog.underlying t=some (.slice e)) (hs:Tryz.prog.cellsOf e=s)
  (hR:∀ f x y,RD Tryz.prog H f e x y→∃ a,x=enc a∧R a y) (h:RD Tryz.prog H f t cs d):
  ∃ u,∃ L:List α,∃ ds,cs=[u]∧Sl H u s (L.map enc)∧L.length=ds.length∧(∀ (i:Nat) a y,L[i]?=some a→ds[i]?=some y→enc a=enc a→∃ a',enc a'=enc a∧R a' y)∧Rows.uptoBulkAll ds < Rows.uptoBulk d:=by
 obtain ⟨l,ds,⟨u,rfl,hsl⟩,hlen,hel,hd⟩:=RD.slice hu hs h
 have hget:∀ (i:Nat) x,l[i]?=some x→∃ y a,ds[i]?=some y∧x=enc a∧R a y:=by
  intro i x hx
  have hi:=(List.getElem?_eq_some_iff.1 hx).1
  have hy:ds[i]?=some (ds[i]'(by omega)):=List.getElem?_eq_getElem (by omega)
  obtain ⟨f',hf⟩:=hel i x _ hx hy
  obtain ⟨a,h1,h2⟩:=hR f' x _ hf
  exact ⟨_,a,hy,h1,h2⟩
 obtain ⟨L,rfl⟩:=B6i (f:=enc) (l:=l) fun x hx=>by
  obtain ⟨i,hi⟩:=List.mem_iff_getElem?.1 hx
  obtain ⟨y,a,_,h2,_⟩:=hget i x hi
  exact ⟨a,h2⟩
 refine ⟨u,L,ds,rfl,hsl,by simpa using hlen,fun i a y ha hy _=>?_,?_⟩
 ·obtain ⟨y',a',h1,h2,h3⟩:=hget i (enc a) (by simp [ha])
  rw [hy] at h1
  injection h1 with h1
  subst h1
  exact ⟨a',h2.symm,h3⟩
 ·rcases hd with ⟨rfl,rfl⟩ | ⟨sp,rfl⟩
  ·simp [Rows.uptoBulk,Rows.uptoBulkAll]
  ·simp only [Rows.uptoBulk]; omega
theorem C0w {H:AH} {f:Nat} {x:List Value} {y:DataW K} (h:RD Tryz.prog H f 9 x y):∃ s,x=A1b s∧y=.lit (.string s.data.toList):=RD.str Tryz.underlying9 h
theorem B8i {H:AH} {f:Nat} {x:List Value} {y:DataW K} (h:RD Tryz.prog H f 3 x y):∃ n,x=[.int .i64 n]∧-9223372036854775808≤n∧n < 9223372036854775808:=RD.int Tryz.underlying3 h
theorem B9u:∀ {L:List ByteArray} {ds:List (DataW K)},L.length=ds.length→(∀ (i:Nat) a y,L[i]?=some a→ds[i]?=some y→y=.lit (.string a.data.toList))→Rows.uptoBulkAll ds=B6y L+L.length
 | [],[],_,_=>rfl
 | [],_ :: _,h,_=>by simp at h
 | _ :: _,[],h,_=>by simp at h
 | a :: L,d :: ds,h,hr=>by
  have h0:=hr 0 a d rfl rfl
  have ih:=B9u (L:=L) (ds:=ds) (by simpa using h) fun i a y h1 h2=>hr (i+1) a y (by simpa using h1) (by simpa using h2)
  subst h0
  have e:a.data.toList.length=a.size:=by rw [Array.length_toList]; rfl
  simp only [Rows.uptoBulkAll,Rows.uptoBulk,ih,B6y,List.map_cons,List.sum_cons,List.length_cons,e]
  omega
theorem B31 {a b:ByteArray} (h:A1b a=A1b b):a=b:=by
 simp only [A1b,List.cons.injEq,Value.string.injEq,and_true] at h; exact h
theorem B53 {H:AH} {f:Nat} {cs:List Value} {d:DataW K} (h:RD Tryz.prog H f 22 cs d):∃ u,∃ L:List ByteArray,cs=[u]∧Sl H u 1 (L.map A1b)∧B6y L+L.length < Rows.uptoBulk d:=by
 obtain ⟨u,L,ds,h1,h2,h3,h4,h5⟩:=B33 (enc:=A1b) (fun s y=>y=.lit (.string s.data.toList)) Tryz.underlying22 C1s (fun f x y hf=>C0w hf) h
 refine ⟨u,L,h1,h2,?_⟩
 rw [← B9u h3 fun i a y ha hy=>by
  obtain ⟨a',e,hr⟩:=h4 i a y ha hy rfl
  rw [← B31 e]; exact hr]
 exact h5
theorem C8p {L:List ByteArray} {x:ByteArray} (h:x∈L):x.size≤B6y L:=by
 induction L with
 | nil=>cases h
 | cons a L ih=>
  simp only [B6y,List.map_cons,List.sum_cons] at ih ⊢
  rcases List.mem_cons.1 h with rfl | h
  ·omega
  ·have:=ih h; omega
theorem four {c:List Value} (h:c.length=4):∃ a b x y,c=[a,b,x,y]:=by
 match c,h with
 | [a,b,x,y],_=>exact ⟨a,b,x,y,rfl⟩
theorem five {c:List Value} (h:c.length=5):∃ a b x y z,c=[a,b,x,y,z]:=by
 match c,h with
 | [a,b,x,y,z],_=>exact ⟨a,b,x,y,z,rfl⟩
theorem two {c:List Value} (h:c.length=2):∃ a b,c=[a,b]:=by
 match c,h with
 | [a,b],_=>exact ⟨a,b,rfl⟩
theorem A8j {ds:List (DataW K)} {n i:Nat} (h:ds.length=n) (hi:i < n):∃ x,ds[i]?=some x:=⟨ds[i]'(by omega),List.getElem?_eq_getElem (by omega)⟩
theorem arc_in {H:AH} {f:Nat} {x:List Value} {y:DataW K} (h:RD Tryz.prog H f 43 x y):∃ a:ArcD,x=a.cells∧True:=by
 ·obtain ⟨f',ds,rfl,h1,h2,h3⟩:=RD.struct Tryz.underlying43 h
  rw [C6e] at h1
  obtain ⟨a,b,c,d,e,rfl⟩:=five h1
  have h2':ds.length=5:=h2
  obtain ⟨d0,e0⟩:=A8j h2' (i:=0) (by omega)
  obtain ⟨d1,e1⟩:=A8j h2' (i:=1) (by omega)
  obtain ⟨d2,e2⟩:=A8j h2' (i:=2) (by omega)
  obtain ⟨d3,e3⟩:=A8j h2' (i:=3) (by omega)
  obtain ⟨d4,e4⟩:=A8j h2' (i:=4) (by omega)
  have g0:=h3 0 _ _ rfl e0
  have g1:=h3 1 _ _ rfl e1
  have g2:=h3 2 _ _ rfl e2
  have g3:=h3 3 _ _ rfl e3
  have g4:=h3 4 _ _ rfl e4
  simp only [B04,C1s,List.drop_zero,List.drop_succ_cons,List.take_succ_cons,List.take_zero,List.getElem_toArray,List.getElem_cons_zero,List.getElem_cons_succ] at g0 g1 g2 g3 g4
  obtain ⟨n0,q0,_⟩:=B8i g0
  obtain ⟨s1,q1,_⟩:=C0w g1
  obtain ⟨s2,q2,_⟩:=C0w g2
  obtain ⟨n3,q3,_⟩:=B8i g3
  obtain ⟨n4,q4,_⟩:=B8i g4
  simp only [A1b,List.cons.injEq,and_true] at q0 q1 q2 q3 q4
  subst q0 q1 q2 q3 q4
  exact ⟨⟨n0,s1,s2,n3,n4⟩,rfl,trivial⟩
theorem end_in {H:AH} {f:Nat} {x:List Value} {y:DataW K} (h:RD Tryz.prog H f 45 x y):∃ a:EndD,x=a.cells∧True:=by
 ·obtain ⟨f',ds,rfl,h1,h2,h3⟩:=RD.struct Tryz.underlying45 h
  rw [B84] at h1
  obtain ⟨a,b,rfl⟩:=two h1
  have h2':ds.length=2:=h2
  obtain ⟨d0,e0⟩:=A8j h2' (i:=0) (by omega)
  obtain ⟨d1,e1⟩:=A8j h2' (i:=1) (by omega)
  have g0:=h3 0 _ _ rfl e0
  have g1:=h3 1 _ _ rfl e1
  simp only [B04,List.drop_zero,List.drop_succ_cons,List.take_succ_cons,List.take_zero,List.getElem_toArray,List.getElem_cons_zero,List.getElem_cons_succ] at g0 g1
  obtain ⟨n0,q0,_⟩:=B8i g0
  obtain ⟨n1,q1,_⟩:=B8i g1
  simp only [List.cons.injEq,and_true] at q0 q1
  subst q0 q1
  exact ⟨⟨n0,n1⟩,rfl,trivial⟩
theorem agg_of {v:Value} {a b:Value} {l:List Value} (h:A8a v=a :: b :: l):v=.agg (a :: b :: l).toArray:=by
 cases v <;> simp only [A8a] at h <;> try (cases h; done)
 rw [← h]
theorem net_in {H:AH} {f:Nat} {v:Value} {d:DataW K} (h:RD Tryz.prog H f 26 (A8a v) d) (hb:Rows.uptoBulk d≤1048576):∃ N:NetD,Nonempty (A8k H v N)∧A4c N∧B6y N.sigma≤1048576:=by
 ·obtain ⟨f',ds,rfl,h1,h2,h3⟩:=RD.struct Tryz.underlying26 h
  rw [C4b] at h1
  obtain ⟨a,b,c,e,hv⟩:=four h1
  rw [hv] at h3
  have h2':ds.length=4:=h2
  obtain ⟨d0,e0⟩:=A8j h2' (i:=0) (by omega)
  obtain ⟨d1,e1⟩:=A8j h2' (i:=1) (by omega)
  obtain ⟨d2,e2⟩:=A8j h2' (i:=2) (by omega)
  obtain ⟨d3,e3⟩:=A8j h2' (i:=3) (by omega)
  have g0:=h3 0 _ _ rfl e0
  have g1:=h3 1 _ _ rfl e1
  have g2:=h3 2 _ _ rfl e2
  have g3:=h3 3 _ _ rfl e3
  simp only [B04,B14,cells_23,cells_24,List.drop_zero,List.drop_succ_cons,List.take_succ_cons,List.take_zero,List.getElem_toArray,List.getElem_cons_zero,List.getElem_cons_succ] at g0 g1 g2 g3
  obtain ⟨u0,L0,q0,s0,b0⟩:=B53 g0
  obtain ⟨n1,q1,_⟩:=B8i g1
  obtain ⟨u2,L2,ds2,q2,s2,k2,_,b2⟩:=B33 (enc:=ArcD.cells) (fun _ _=>True) Tryz.underlying23 C6e (fun f x y hf=>arc_in hf) g2
  obtain ⟨u3,L3,ds3,q3,s3,k3,_,b3⟩:=B33 (enc:=EndD.cells) (fun _ _=>True) Tryz.underlying24 B84 (fun f x y hf=>end_in hf) g3
  simp only [List.cons.injEq,and_true] at q0 q1 q2 q3
  subst q0 q1 q2 q3
  have m0:=A4s (List.mem_of_getElem? e0)
  have m2:=A4s (List.mem_of_getElem? e2)
  have m3:=A4s (List.mem_of_getElem? e3)
  have l2:=B3q ds2
  have l3:=B3q ds3
  simp only [Rows.uptoBulk] at hb
  refine ⟨⟨L0,n1,L2,L3⟩,⟨⟨a,c,e,agg_of hv,s0,s2,s3⟩⟩,⟨?_,?_,?_,fun x hx=>?_⟩,?_⟩
  ·show L0.length≤_; omega
  ·show L2.length≤_; omega
  ·show L3.length≤_; omega
  ·have:=C8p hx; show x.size≤_; have h':x.size≤B6y L0:=this; omega
  ·show B6y L0≤_; omega
end
end Go.Proofs.YtnoengaghabmjaaGreatDoor
