/- A part of the proof: RefPair, RelPairs, GraphPut, GraphEither, RelSlot, RelEither, JagTwo, Same, JoinRef, LawRelKit, IsOver, DataIn. -/
import Derived.Test.YtnoengaghabmjaaGreatDoorMClose3RelEithers8
import Derived.Test.YtnoengaghabmjaaGreatDoorMClose3RelEithers9
import Derived.Test.YtnoengaghabmjaaGreatDoorMClose3RelEithers4
import Derived.Test.YtnoengaghabmjaaGreatDoorMClose3RelEithers6
import Derived.Test.YtnoengaghabmjaaGreatDoorMClose3RelEithers7
import Derived.Test.YtnoengaghabmjaaGreatDoorMClose3RelEithers2
import Derived.Test.YtnoengaghabmjaaGreatDoorMClose3RelEithers1
import Derived.Test.YtnoengaghabmjaaGreatDoorMClose3RelEithers3
import Derived.Test.YtnoengaghabmjaaGreatDoorRows
set_option linter.unusedVariables false
set_option linter.unusedSimpArgs false
/- The reference's has and Pair: whether a net holds a pair. -/
set_option maxHeartbeats 4000000
set_option maxRecDepth 20000
set_option linter.unusedSimpArgs false
set_option linter.unusedVariables false
namespace Go.Proofs.YtnoengaghabmjaaGreatDoor
open Go Go.Proofs Go.Proofs.Sh
theorem B6e {c:Bool} {a b:Nat×Nat}:abin Tryz.prog 79 c .eql (.agg (A9g a).toArray) (.agg (A9g b).toArray)=some (.bool (decide (a=b))):=by
 have h:=B0l a b
 unfold A61 at h
 unfold abin aeq B7b
 simp only [B98,Bool.not_false,cond_true,h,Option.map_some]
theorem refHas {H:AH} {ul:Value} {L:List (Nat×Nat)} {p:Nat×Nat} (hl:Sl H ul 2 (L.map A9g)) (hLl:L.length≤1073741823) (hw:Wf H):
  Sh.Call Tryz.prog (knows 8) 52 [ul,.agg (A9g p).toArray] H (fun r H'=>Kept H H'∧r=.bool (decide (p∈L))):=by
 refine A3b rfl Tryz.func52 rfl (Nat.le_of_ble_eq_true rfl) ?_
 have hres:Tryz.f52.results.toList=[.tmp 4]:=rfl
 simp only [↓Sh.dn,sx,Nat.reduceBEq,reduceCtorEq,Nat.reduceEqDiff,spNew]
 have kn:=Kept.new hw 2 (A9g p)
 have ca:(H.new 2 (A9g p)).2.cells ⟨H.next,0,some 0⟩ 2=some (A9g p):=(Sh.Obj.new (H:=H) 2 (A9g p)).cells (i:=0) (n:=2) (by simp [A9g])
 have hl1:=hl.grow (kn.grow hw)
 generalize H.next=g at ca ⊢
 generalize (H.new 2 (A9g p)).2=H1 at kn ca hl1 ⊢
 have hlen:=fun H'=>hl1.len Tryz.underlying76 H'
 simp only [List.length_map] at hlen
 refine A6i L.length 5 (List.range' 5 20) (fun i F H'=>H'=H1∧p∉L.take i) (by simp only [↓Sh.dn,sx,Nat.reduceBEq,reduceCtorEq,Nat.reduceEqDiff]) ⟨rfl,by simp⟩ ?_ ?_
 ·rintro i F H' hi hF f5 ⟨rfl,hn⟩ k
  have f0:=hF 0 rfl
  have f3:=hF 3 rfl
  simp only [↓Sh.dn,sx,Nat.reduceBEq,reduceCtorEq,Nat.reduceEqDiff] at f0 f3
  obtain ⟨g1,o1,q1,i1,c1,_⟩:=hl1.at Tryz.underlying76 A3r (i:=i) (x:=A9g L[i]) (by simp [hi]) .i64
  have htk:L.take (i+1)=L.take i++[L[i]]:=by rw [List.take_add_one,List.getElem?_eq_getElem hi]; rfl
  have hm:L[i]∈L:=List.getElem_mem hi
  generalize L[i]=e at c1 htk hm
  by_cases h:e=p
  ·subst h
   simp only [↓Sh.dn,sx,Nat.reduceBEq,reduceCtorEq,Nat.reduceEqDiff,f0,f3,f5,hlen,A1b,hi,decide_true,i1,c1,ca,Option.map_some,B6e,hres,hm]
   exact kn
  ·simp only [↓Sh.dn,sx,Nat.reduceBEq,reduceCtorEq,Nat.reduceEqDiff,f0,f3,f5,hlen,A1b,hi,decide_true,i1,c1,ca,Option.map_some,B6e,h,decide_false,A8e hi (by omega)]
   refine k _ _ (by repeat (first | refine Same.put ?_ rfl | exact Same.rfl' _)) (by simp only [↓Sh.dn,sx,Nat.reduceBEq,reduceCtorEq,Nat.reduceEqDiff]) ⟨rfl,fun hx=>?_⟩
   rw [htk] at hx
   rcases List.mem_append.1 hx with h2 | h2
   ·exact hn h2
   ·exact h (List.mem_singleton.1 h2).symm
 ·rintro F H' hF f5 ⟨rfl,hn⟩
  have f0:=hF 0 rfl
  simp only [↓Sh.dn,sx,Nat.reduceBEq,reduceCtorEq,Nat.reduceEqDiff] at f0
  rw [List.take_length] at hn
  simp only [↓Sh.dn,sx,Nat.reduceBEq,reduceCtorEq,Nat.reduceEqDiff,f0,f5,hlen,A1b,Nat.lt_irrefl,decide_false,hres,hn]
  exact kn
def A2m (N:NetD) (x y:List ByteArray):Prop:=RelP (A1z N) N.isEnd x y
theorem B4u {N:NetD} {x y:List ByteArray}:(∃ s,N.isEnd s∧Cl (A06 (A1z N) x y) (fun q=>q.1=0∧q.2∈[(0,0)]) (s,x.length,y.length))↔A2m N x y:=by
 unfold A2m RelP
 refine exists_congr fun s=>and_congr_right fun _=>?_
 rw [← places]
 have e:(fun q:Nat×Nat×Nat=>q.1=0∧q.2∈[(0,0)])=fun q=>q=(0,0,0):=funext fun q=>propext (by
  obtain ⟨a,b⟩:=q
  simp [Prod.ext_iff])
 rw [e]
theorem spotNew0:A6n Tryz.prog 79 [(0,.int .i64 0),(1,.int .i64 0)]=some (.agg (A9g (0,0)).toArray):=B9u (a:=0) (b:=0)
theorem B7v {L:List (Nat×Nat)} {a b:Nat} (hn:L.Nodup) (h:∀ p∈L,p.1≤a∧p.2≤b) (ha:a≤400) (hb:b≤400):L.length≤160801:=by
 have h1:(L.map fun p=>(0,p)).Nodup:=by
  rw [List.nodup_iff_pairwise_ne] at hn ⊢
  rw [List.pairwise_map]
  exact hn.imp fun h e=>h (Prod.mk.inj e).2
 have h2:=C0c (a:=1) (b:=a+1) (c:=b+1) h1 fun w hw=>by
  obtain ⟨p,hp,rfl⟩:=List.mem_map.1 hw
  have:=h p hp
  exact ⟨Nat.one_pos,by simp only; omega,by simp only; omega⟩
 rw [List.length_map] at h2
 have h3:(a+1) * (b+1)≤401 * 401:=Nat.mul_le_mul (by omega) (by omega)
 rw [Nat.one_mul] at h2
 omega
theorem reach_le {N:NetD} (hok:A7o N) {x y:List ByteArray} {L O:List (Nat×Nat)} (hL:∀ p∈L,p.1≤x.length∧p.2≤y.length) (hO:∀ p,p∈O↔∃ s,N.isEnd s∧Cl (A06 (A1z N) x y) (fun q=>q.1=0∧q.2∈L) (s,p)):∀ p∈O,p.1≤x.length∧p.2≤y.length:=fun p hp=>by
 obtain ⟨s,_,h2⟩:=(hO p).1 hp
 have:=A46 hok (fun p hp=>⟨hp.1,hL p.2 hp.2⟩) h2
 simp only at this
 exact ⟨by omega,by omega⟩
theorem B2x {H:AH} {v ux uy:Value} {N:NetD} {x y:List ByteArray} (h:A7l H v N) (hok:A7o N) (hsm:A6c N) (hx:Sl H ux 1 (x.map A0b)) (hy:Sl H uy 1 (y.map A0b)) (hxl:x.length≤400) (hyl:y.length≤400) (hw:Wf H):
  Sh.Call Tryz.prog (knows 8) 29 [v,ux,uy] H (fun r H'=>Kept H H'∧r=.bool (tB (A2m N x y))):=by
 refine A3b rfl Tryz.func29 rfl (Nat.le_of_ble_eq_true rfl) ?_
 have hres:Tryz.f29.results.toList=[.tmp 6]:=rfl
 obtain ⟨sg,ar,en,rfl,hsg,har,hen⟩:=h
 have hb1:=NetBox.of (N:=N) hw hsg har hen
 have hk1:Kept H (H.new 4 [sg,.int .i64 N.states,ar,en]).2:=Kept.new hw 4 _
 simp only [↓Sh.dn,sx,Nat.reduceBEq,reduceCtorEq,Nat.reduceEqDiff,A2n hsg.isCell har.isCell hen.isCell]
 generalize H.next=gg at hb1 ⊢
 generalize (H.new 4 [sg,.int .i64 N.states,ar,en]).2=H1 at hb1 hk1 ⊢
 have kn:=Kept.new hk1.wf 2 (A9g (0,0))
 have hl:Sl (H1.new 2 (A9g (0,0))).2 (.slice (some ⟨H1.next,0,some 0⟩) 1 1) 2 ([(0,0)].map A9g):=(Buf.fresh (H:=H1) (s:=2) (xs:=[A9g (0,0)]) hk1.wf (by intro x hx; rw [List.mem_singleton.1 hx]; rfl) (by simp) 1 rfl).toSl
 have hb2:=hb1.kept hk1.wf kn
 have hk2:=hk1.trans kn
 obtain ⟨r3,H3,hd3,hk3,O,oo,hO,hnd,hiff⟩:=refReach hb2.netAt hok hsm (hx.grow (hk2.grow hw)) (hy.grow (hk2.grow hw)) hxl hyl hl (by simp) (by simp) kn.wf
 have hbd:=reach_le hok (L:=[(0,0)]) (by simp) hiff
 have hOl:=B7v hnd hbd hxl hyl
 obtain ⟨r4,H4,hd4,hk4,rfl⟩:=refHas (p:=(x.length,y.length)) hO.toSl (by omega) hk3.wf
 have hlx:=fun H'=>hx.len Tryz.underlying22 H'
 have hly:=fun H'=>hy.len Tryz.underlying22 H'
 simp only [List.length_map] at hlx hly
 simp only [↓Sh.dn,sx,Nat.reduceBEq,reduceCtorEq,Nat.reduceEqDiff,hb1.c0,hb1.c1,hb1.c2,hb1.c3,hb1.ca,A3a hb1,A2a hb1,A1a hb1,Option.map_some,spotNew0,C5k]
 refine ⟨_,_,hd3,?_⟩
 simp only [↓Sh.dn,sx,Nat.reduceBEq,reduceCtorEq,Nat.reduceEqDiff,hlx,hly,B9u]
 refine ⟨_,_,hd4,?_⟩
 simp only [↓Sh.dn,sx,Nat.reduceBEq,reduceCtorEq,Nat.reduceEqDiff,hres]
 refine ⟨(hk2.trans hk3).trans hk4,?_⟩
 have:decide ((x.length,y.length)∈O)=tB (A2m N x y):=by
  rw [Bool.eq_iff_iff,decide_eq_true_iff,A25,hiff,B4u]
 rw [this]
end Go.Proofs.YtnoengaghabmjaaGreatDoor
/- Pairs of a net, by texts and by numbers. -/
namespace Go.Proofs.YtnoengaghabmjaaGreatDoor
open Go Go.Proofs Go.Proofs.Sh
theorem B0h {N:NetD} (hok:A7o N) {x:ByteArray} (hx:x=⟨#[]⟩∨x∈N.sigma):labN (A3p N.sigma x)=(labT x).map (ixN N.sigma)∧∀ s,labT x=some s→s∈N.sigma:=by
 have e0:(⟨#[]⟩:ByteArray)=A5p:=rfl
 rw [e0] at hx
 by_cases h:x=A5p
 ·subst h
  have:=(B57 hok.asc).2 (B69 hok)
  unfold labN labT
  rw [if_pos this,if_pos rfl]
  exact ⟨rfl,fun s hs=>by cases hs⟩
 ·have hm:=hx.resolve_left h
  obtain ⟨k,_,h2,h3⟩:=B33 hok.asc hm
  unfold labN labT
  rw [if_neg (by omega),if_neg h,h2]
  exact ⟨by rw [Option.map_some,h3]; rfl,fun s hs=>by rw [← Option.some.inj hs]; exact hm⟩
theorem A55 {N:NetD} (hok:A7o N) {x:ByteArray} (hx:x=⟨#[]⟩∨x∈N.sigma):A3p N.sigma x < (N.sigma.length:Int):=by
 by_cases h:x∈N.sigma
 ·obtain ⟨k,h1,h2,_⟩:=B33 hok.asc h
  have:=(List.getElem?_eq_some_iff.1 h1).1
  omega
 ·have:=(B57 hok.asc).2 h
  omega
theorem A68 {N:NetD} (hok:A7o N) (s:Nat) (a b:Option Nat) (t:Nat):A0o (A1i N) s a b t↔∃ c d,A1z N s c d t∧a=c.map (ixN N.sigma)∧b=d.map (ixN N.sigma):=by
 unfold A0o A1z
 constructor
 ·rintro ⟨r,hr,e,he,h1,h2,h3⟩
  obtain ⟨c,hc,h4,rfl⟩:=(A5w hr e).1 he
  obtain ⟨_,_,h5,_,h6,h7⟩:=hok.arc c hc
  simp only at h1 h2 h3
  exact ⟨_,_,⟨c,hc,h4,rfl,rfl,by omega⟩,by rw [← h2,(B0h hok h6).1],by rw [← h3,(B0h hok h7).1]⟩
 ·rintro ⟨_,_,⟨c,hc,h1,rfl,rfl,h4⟩,rfl,rfl⟩
  obtain ⟨h7,h8,h5,_,h6,h9⟩:=hok.arc c hc
  have hs:s < N.states.toNat:=by omega
  unfold A1i
  exact ⟨_,A3i hs,(c.to.toNat,A3p N.sigma c.inn,A3p N.sigma c.out,c.cost),(A5w (A3i hs) _).2 ⟨c,hc,h1,rfl⟩,by simp only; omega,(B0h hok h6).1,(B0h hok h9).1⟩
theorem B43 {N:NetD} (hok:A7o N) {s t:Nat} {x y:List ByteArray} (h:Sh.Way (A1z N) s x y t):(∀ z∈x,z∈N.sigma)∧∀ z∈y,z∈N.sigma:=by
 induction h with
 | nil s=>exact ⟨fun z hz=>(by cases hz),fun z hz=>by cases hz⟩
 | @cons s t u a b x y h1 _ ih=>
  obtain ⟨c,hc,_,rfl,rfl,_⟩:=h1
  obtain ⟨_,_,_,_,h6,h7⟩:=hok.arc c hc
  have key:∀ {o:Option ByteArray} {w:List ByteArray},(∀ s,o=some s→s∈N.sigma)→(∀ z∈w,z∈N.sigma)→∀ z∈o.toList++w,z∈N.sigma:=fun {o w} ho hw z hz=>by
   rcases List.mem_append.1 hz with h | h
   ·exact ho z (by cases o with
      | none => cases h
      | some s => rw [List.mem_singleton.1 h])
   ·exact hw z h
  exact ⟨key (B0h hok h6).2 ih.1,key (B0h hok h7).2 ih.2⟩
theorem A23 {α β:Type} {f:α→β} {S:α→Prop} (hf:∀ x y,S x→S y→f x=f y→x=y):∀ {l m:List α},(∀ x∈l,S x)→(∀ x∈m,S x)→l.map f=m.map f→l=m
 | [],[],_,_,_=>rfl
 | [],_ :: _,_,_,h=>by simp at h
 | _ :: _,[],_,_,h=>by simp at h
 | a :: l,b :: m,hl,hm,h=>by
  simp only [List.map_cons,List.cons.injEq] at h
  rw [hf a b (hl a List.mem_cons_self) (hm b List.mem_cons_self) h.1,A23 hf (fun x hx=>hl x (List.mem_cons_of_mem _ hx)) (fun x hx=>hm x (List.mem_cons_of_mem _ hx)) h.2]
theorem way_rows {N:NetD} (hok:A7o N) {x y:List ByteArray} (hx:∀ z∈x,z∈N.sigma) (hy:∀ z∈y,z∈N.sigma) (s t:Nat):Sh.Way (A0o (A1i N)) s (x.map (ixN N.sigma)) (y.map (ixN N.sigma)) t↔Sh.Way (A1z N) s x y t:=by
 constructor
 ·intro h
  have key:∀ {s t:Nat} {u v:List Nat},Sh.Way (A0o (A1i N)) s u v t→∃ x y,Sh.Way (A1z N) s x y t∧u=x.map (ixN N.sigma)∧v=y.map (ixN N.sigma):=by
   intro s t u v k
   induction k with
   | nil s=>exact ⟨[],[],.nil s,rfl,rfl⟩
   | @cons s t w a b u v h1 _ ih=>
    obtain ⟨c,d,h2,rfl,rfl⟩:=(A68 hok _ _ _ _).1 h1
    obtain ⟨x,y,h3,rfl,rfl⟩:=ih
    have e:∀ o:Option ByteArray,(o.map (ixN N.sigma)).toList=o.toList.map (ixN N.sigma):=fun o=>by cases o <;> rfl
    exact ⟨c.toList++x,d.toList++y,.cons h2 h3,by rw [List.map_append,e],by rw [List.map_append,e]⟩
  obtain ⟨x',y',h1,h2,h3⟩:=key h
  obtain ⟨h4,h5⟩:=B43 hok h1
  rw [A23 (S:=fun z=>z∈N.sigma) (C4d hok.asc) hx h4 h2,A23 (S:=fun z=>z∈N.sigma) (C4d hok.asc) hy h5 h3]
  exact h1
 ·intro h
  exact h.map (f:=ixN N.sigma) fun s a b t hs=>(A68 hok _ _ _ _).2 ⟨a,b,hs,rfl,rfl⟩
theorem A58 {N:NetD} (hok:A7o N) {x y:List ByteArray} (hx:∀ z∈x,z∈N.sigma) (hy:∀ z∈y,z∈N.sigma):(∃ t,0 < (A3j N N.ends).getD t 0∧Sh.Way (A0o (A1i N)) 0 (x.map (ixN N.sigma)) (y.map (ixN N.sigma)) t)↔A2m N x y:=by
 unfold A2m RelP
 refine exists_congr fun t=>and_congr (C4j hok t) (way_rows hok hx hy 0 t)
theorem B8p {N:NetD} (hok:A7o N) {x y:List ByteArray} (h:A2m N x y):(∀ z∈x,z∈N.sigma)∧∀ z∈y,z∈N.sigma:=by
 obtain ⟨t,_,h2⟩:=h
 exact B43 hok h2
end Go.Proofs.YtnoengaghabmjaaGreatDoor
/- What the net of a graph is as a relation. -/
namespace Go.Proofs.YtnoengaghabmjaaGreatDoor
open Go Go.Proofs Go.Proofs.Sh
theorem grNow {H:AH} {X:Nat→Prop} {g:Nat} {sigma:List ByteArray} {rows:List (List (List Value))} {ends costs:List Int} (h:GrX H X g sigma rows ends costs) (hw:Wf H):GrX H (fun y=>X y∧y < H.next) g sigma rows ends costs:=by
 obtain ⟨sv,av,ev,cv,os,ot,oe,oc,vals,obs,h,ho⟩:=h
 refine ⟨sv,av,ev,cv,os,ot,oe,oc,vals,obs,h,fun y hy=>⟨ho y hy,?_⟩⟩
 rcases hy with rfl | hy | hy | hy | hy
 ·exact h.arr.lt hw
 ·exact h.sg.lt hw y hy
 ·exact h.jag.lt hw y hy
 ·exact h.en.lt hw y hy
 ·exact h.co.lt hw y hy
structure C2a (sigma:List ByteArray) (E:List (List GE)) (ends costs:List Int) (n:Nat) (M:NetD):Prop where
 sg:M.sigma=sigma
 st:M.states=(n:Int)
 al:M.arcs.length≤(E.map List.length).sum
 arc:∀ a,a∈M.arcs↔∃ (s:Nat) (r:List GE),E[s]?=some r∧∃ e∈r,a=A08 sigma s e
 el:M.ends.length≤n
 fin:∀ x,x∈M.ends↔∃ s:Nat,s < n∧0 < ends.getD s 0∧x=⟨(s:Int),costs.getD s 0⟩
structure B9c (sigma:List ByteArray) (E:List (List GE)) (ends costs:List Int) (n:Nat):Prop where
 le:E.length=n
 ln:ends.length=n
 lc:costs.length=n
 n1:1≤n
 n2:n≤3000
 to:∀ r∈E,∀ e∈r,e.1 < n∧e.2.1 < (sigma.length:Int)∧e.2.2.1 < (sigma.length:Int)∧e.2.2.2=0
 sum:(E.map List.length).sum≤60000
 zero:∀ s,costs.getD s 0=0
theorem A02 {sigma:List ByteArray} (hs:A0i sigma=0) {k:Int} (hk:k < (sigma.length:Int)):(A3s sigma k=⟨#[]⟩∨A3s sigma k∈sigma)∧(labT (A3s sigma k)).map (ixN sigma)=labN k:=by
 have hno:=C6a hs
 have hasc:=A4x hs
 have e0:(⟨#[]⟩:ByteArray)=A5p:=rfl
 unfold A3s labN
 by_cases h:k < 0
 ·rw [if_pos h,if_pos h]
  refine ⟨.inl rfl,?_⟩
  unfold labT
  rw [e0,if_pos rfl]; rfl
 ·rw [if_neg h,if_neg h]
  have hl:k.toNat < sigma.length:=by omega
  have hg:sigma[k.toNat]?=some sigma[k.toNat]:=List.getElem?_eq_getElem hl
  have e:sigma.getD k.toNat ⟨#[]⟩=sigma[k.toNat]:=by simp [List.getD,hl]
  rw [e]
  have hm:sigma[k.toNat]∈sigma:=List.getElem_mem hl
  refine ⟨.inr hm,?_⟩
  unfold labT
  rw [if_neg fun h=>hno (by rw [← h]; exact hm),Option.map_some]
  unfold ixN
  rw [A3w hasc hg]
  rfl
section
variable {sigma:List ByteArray} {E:List (List GE)} {ends costs:List Int} {n:Nat} {M:NetD}
theorem B2k (hM:C2a sigma E ends costs n M) (hR:B9c sigma E ends costs n) (hs:A0i sigma=0):A8g M=0:=by
 have h1:=hR.n1
 have h2:=hR.n2
 have h3:=hM.st
 have h4:=hM.al
 have h5:=hM.el
 have h6:=hR.sum
 have hsy:∀ k:Int,k < (sigma.length:Int)→A9i M (A3s sigma k)=false:=fun k hk=>by
  unfold A9i
  rw [hM.sg]
  rcases (A02 hs hk).1 with h | h
  ·rw [h]; simp
  ·simp [A2k.2 h]
 have hn:A8f M=0:=by
  unfold A8f
  rw [if_neg,if_neg,if_neg,if_neg,if_neg]
  ·intro h
   obtain ⟨e,he,hb⟩:=List.any_eq_true.1 h
   obtain ⟨s,h7,_,rfl⟩:=(hM.fin e).1 he
   simp only [A9n,Bool.or_eq_true,decide_eq_true_eq] at hb
   omega
  ·intro h
   obtain ⟨a,ha,hb⟩:=List.any_eq_true.1 h
   obtain ⟨s,r,hr,e,he,rfl⟩:=(hM.arc a).1 ha
   obtain ⟨k1,k2,k3,k4⟩:=hR.to r (List.mem_of_getElem? hr) e he
   have hsl:=(List.getElem?_eq_some_iff.1 hr).1
   have hle:=hR.le
   simp only [A2h,A08,hsy _ k2,hsy _ k3,Bool.or_eq_true,decide_eq_true_eq,Bool.false_eq_true,or_false] at hb
   rcases hb with ((hb | hb) | hb) | hb <;> have hb2:=of_decide_eq_true hb <;> omega
  ·omega
  ·rw [hM.sg]; simp [hs]
  ·simp only [A3l,Bool.or_eq_true,decide_eq_true_eq]; omega
 unfold A8g
 rw [if_neg (by simp [hn]),if_pos]
 simp only [NetD.free,Bool.and_eq_true,List.all_eq_true,decide_eq_true_eq]
 refine ⟨fun a ha=>?_,fun e he=>?_⟩
 ·obtain ⟨s,r,hr,e,he,rfl⟩:=(hM.arc a).1 ha
  exact (hR.to r (List.mem_of_getElem? hr) e he).2.2.2
 ·obtain ⟨s,_,_,rfl⟩:=(hM.fin e).1 he
  exact hR.zero s
theorem B5w (hM:C2a sigma E ends costs n M) (hR:B9c sigma E ends costs n) (hsl:sigma.length≤1048576) (hsx:∀ x∈sigma,x.size≤1048576):A6c M:=by
 have h1:=hR.n2
 have h4:=hM.al
 have h5:=hM.el
 have h6:=hR.sum
 exact ⟨by rw [hM.sg]; exact hsl,by omega,by omega,by rw [hM.sg]; exact hsx⟩
theorem B39 (hM:C2a sigma E ends costs n M) (hR:B9c sigma E ends costs n) (hs:A0i sigma=0):A0o (A1i M)=A0o E:=by
 obtain ⟨hok,_,_⟩:=A8h (B2k hM hR hs)
 funext s a b t
 apply propext
 rw [A68 hok]
 have hsg:=hM.sg
 rw [hsg]
 constructor
 ·rintro ⟨_,_,⟨c,hc,h1,rfl,rfl,h2⟩,rfl,rfl⟩
  obtain ⟨s',r,hr,e,he,rfl⟩:=(hM.arc c).1 hc
  obtain ⟨k1,k2,k3,k4⟩:=hR.to r (List.mem_of_getElem? hr) e he
  have hss:s'=s:=by
   have:((s':Nat):Int)=(s:Int):=h1
   omega
  subst hss
  have htt:e.1=t:=by
   have:((e.1:Nat):Int)=(t:Int):=h2
   omega
  exact ⟨r,hr,e,he,htt,(A02 hs k2).2.symm,(A02 hs k3).2.symm⟩
 ·rintro ⟨r,hr,e,he,rfl,rfl,rfl⟩
  obtain ⟨k1,k2,k3,k4⟩:=hR.to r (List.mem_of_getElem? hr) e he
  exact ⟨_,_,⟨A08 sigma s e,(hM.arc _).2 ⟨s,r,hr,e,he,rfl⟩,rfl,rfl,rfl,rfl⟩,(A02 hs k2).2.symm,(A02 hs k3).2.symm⟩
def endP (ends:List Int) (t:Nat):Prop:=0 < ends.getD t 0
theorem C0b (hM:C2a sigma E ends costs n M) (hR:B9c sigma E ends costs n) (hs:A0i sigma=0) (x y:List ByteArray):
  A2m M x y↔((∀ z∈x,z∈sigma)∧∀ z∈y,z∈sigma)∧RelP (A0o E) (endP ends) (x.map (ixN sigma)) (y.map (ixN sigma)):=by
 obtain ⟨hok,_,_⟩:=A8h (B2k hM hR hs)
 have key:∀ (hx:∀ z∈x,z∈sigma) (hy:∀ z∈y,z∈sigma),A2m M x y↔RelP (A0o E) (endP ends) (x.map (ixN sigma)) (y.map (ixN sigma)):=fun hx hy=>by
  rw [← A58 hok (by rw [hM.sg]; exact hx) (by rw [hM.sg]; exact hy),B39 hM hR hs,hM.sg]
  unfold RelP
  refine exists_congr fun t=>and_congr_left fun _=>?_
  rw [C4j hok]
  unfold NetD.isEnd endP
  constructor
  ·rintro ⟨e,he,h1⟩
   obtain ⟨s,h2,h3,rfl⟩:=(hM.fin e).1 he
   have:((s:Nat):Int)=(t:Int):=h1
   have:s=t:=by omega
   rw [← this]; exact h3
  ·intro h1
   refine ⟨_,(hM.fin _).2 ⟨t,?_,h1,rfl⟩,rfl⟩
   have hln:=hR.ln
   rcases Nat.lt_or_ge t ends.length with h2 | h2
   ·omega
   ·rw [List.getD_eq_getElem?_getD,List.getElem?_eq_none h2] at h1
    exact absurd h1 (Int.lt_irrefl 0)
 constructor
 ·intro h
  have hsy:=B8p hok h
  rw [hM.sg] at hsy
  exact ⟨hsy,(key hsy.1 hsy.2).1 h⟩
 ·rintro ⟨h1,h2⟩
  exact (key h1.1 h1.2).2 h2
end
theorem B1f {N:NetD} (hok:A7o N) (x y:List ByteArray):A2m N x y↔((∀ z∈x,z∈N.sigma)∧∀ z∈y,z∈N.sigma)∧RelP (A0o (A1i N)) (endP (A3j N N.ends)) (x.map (ixN N.sigma)) (y.map (ixN N.sigma)):=by
 constructor
 ·intro h
  have hsy:=B8p hok h
  exact ⟨hsy,(A58 hok hsy.1 hsy.2).2 h⟩
 ·rintro ⟨h1,h2⟩
  exact (A58 hok h1.1 h1.2).1 h2
end Go.Proofs.YtnoengaghabmjaaGreatDoor
/- graph.Either: the graph of the words of two. -/
namespace Go.Proofs.YtnoengaghabmjaaGreatDoor
open Go Go.Proofs Go.Proofs.Sh
def A1q (R E:List (List GE)):List (List GE):=(R++A1e R.length E).set 0 (R.getD 0 []++[(R.length,-1,-1,0)])
theorem A12 {R E:List (List GE)}:(A1q R E).length=R.length+E.length:=by simp [A1q,A1e]
theorem B4w {k:Nat} {E:List (List GE)} {s:Nat} {a b:Option Nat} {t:Nat}:A0o (A1e k E) s a b t↔∃ t',t=k+t'∧A0o E s a b t':=by
 unfold A0o A1e
 constructor
 ·rintro ⟨r,hr,e,he,h1,h2,h3⟩
  rw [List.getElem?_map] at hr
  obtain ⟨r0,hr0,rfl⟩:=Option.map_eq_some_iff.1 hr
  obtain ⟨e0,he0,rfl⟩:=List.mem_map.1 he
  unfold A8x at h1 h2 h3
  simp only at h1 h2 h3
  exact ⟨e0.1,by omega,r0,hr0,e0,he0,rfl,h2,h3⟩
 ·rintro ⟨t',rfl,r,hr,e,he,rfl,h2,h3⟩
  refine ⟨r.map (A8x k),by rw [List.getElem?_map,hr]; rfl,A8x k e,List.mem_map.2 ⟨e,he,rfl⟩,?_,?_,?_⟩
  ·rfl
  ·exact h2
  ·exact h3
theorem C3g {R Q:List (List GE)} {s:Nat} {a b:Option Nat} {t:Nat}:A0o (R++Q) s a b t↔A0o R s a b t∨∃ s',s=R.length+s'∧A0o Q s' a b t:=by
 unfold A0o
 constructor
 ·rintro ⟨r,hr,h⟩
  rcases Nat.lt_or_ge s R.length with h1 | h1
  ·rw [List.getElem?_append_left h1] at hr
   exact .inl ⟨r,hr,h⟩
  ·rw [List.getElem?_append_right h1] at hr
   exact .inr ⟨s - R.length,by omega,r,hr,h⟩
 ·rintro (⟨r,hr,h⟩ | ⟨s',rfl,r,hr,h⟩)
  ·exact ⟨r,by rw [List.getElem?_append_left (List.getElem?_eq_some_iff.1 hr).1]; exact hr,h⟩
  ·exact ⟨r,by rw [List.getElem?_append_right (Nat.le_add_right _ _),Nat.add_sub_cancel_left]; exact hr,h⟩
theorem C0n {R:List (List GE)} {k:Nat} {r0:List GE} {e0:GE} (hk:R[k]?=some r0) {s:Nat} {a b:Option Nat} {t:Nat}:A0o (R.set k (r0++[e0])) s a b t↔A0o R s a b t∨(s=k∧t=e0.1∧a=labN e0.2.1∧b=labN e0.2.2.1):=by
 have hkl:=(List.getElem?_eq_some_iff.1 hk).1
 unfold A0o
 constructor
 ·rintro ⟨r,hr,e,he,h1,h2,h3⟩
  rw [List.getElem?_set] at hr
  by_cases hs:k=s
  ·subst hs
   rw [if_pos rfl,if_pos hkl] at hr
   rw [← Option.some.inj hr] at he
   rcases List.mem_append.1 he with h4 | h4
   ·exact .inl ⟨r0,hk,e,h4,h1,h2,h3⟩
   ·rw [List.mem_singleton.1 h4] at h1 h2 h3
    exact .inr ⟨rfl,h1.symm,h2.symm,h3.symm⟩
  ·rw [if_neg hs] at hr
   exact .inl ⟨r,hr,e,he,h1,h2,h3⟩
 ·rintro (⟨r,hr,e,he,h⟩ | ⟨rfl,rfl,rfl,rfl⟩)
  ·by_cases hs:k=s
   ·subst hs
    rw [hk] at hr
    rw [← Option.some.inj hr] at he
    exact ⟨_,by rw [List.getElem?_set,if_pos rfl,if_pos hkl],e,List.mem_append_left _ he,h⟩
   ·exact ⟨r,by rw [List.getElem?_set,if_neg hs]; exact hr,e,he,h⟩
  ·exact ⟨_,by rw [List.getElem?_set,if_pos rfl,if_pos hkl],e0,List.mem_append_right _ List.mem_cons_self,rfl,rfl,rfl⟩
theorem B5a {R:List (List GE)} (h:0 < R.length) (Q:List (List GE)):(R++Q)[0]?=some (R.getD 0 []):=by
 rw [List.getElem?_append_left h]
 simp [List.getD,h]
theorem B2f {R E:List (List GE)} (hR:0 < R.length) {s:Nat} {a b:Option Nat} {t:Nat}:A0o (A1q R E) s a b t↔A0o R s a b t∨(s=0∧t=R.length∧a=none∧b=none)∨∃ s' t',s=R.length+s'∧t=R.length+t'∧A0o E s' a b t':=by
 unfold A1q
 have l1:labN (-1)=none:=rfl
 rw [C0n (B5a hR _),C3g]
 simp only [B4w,l1]
 constructor
 ·rintro ((h | ⟨s',h1,t',h2,h3⟩) | h)
  ·exact .inl h
  ·exact .inr (.inr ⟨s',t',h1,h2,h3⟩)
  ·exact .inr (.inl h)
 ·rintro (h | h | ⟨s',t',h1,h2,h3⟩)
  ·exact .inl (.inl h)
  ·exact .inr h
  ·exact .inl (.inr ⟨s',h1,t',h2,h3⟩)
def A5r (E1 E2:List (List GE)):List (List GE):=A1q (A1q [[]] E1) E2
theorem C0l {s:Nat} {a b:Option Nat} {t:Nat}:¬A0o [[]] s a b t:=by
 rintro ⟨r,hr,e,he,_⟩
 match s with
 | 0=>
  have:=Option.some.inj hr
  rw [← this] at he; cases he
 | s+1=>simp at hr
theorem C0o {E1 E2:List (List GE)} {ends1 ends2:List Int} {n:Nat} (hl:E1.length=n) (hl1:ends1.length=n) (hn:0 < n) (hto:∀ r∈E1,∀ e∈r,e.1 < n):
  EitherOf n (A0o E1) (A0o E2) (A0o (A5r E1 E2)) (endP ends1) (endP ends2) (endP ([0]++ends1++ends2)):=by
 refine ⟨fun s a b t=>?_,fun t=>?_,?_,?_,hn⟩
 ·unfold A5r
  have e1:(A1q [[]] E1).length=1+n:=by rw [A12,hl]; rfl
  rw [B2f (by omega),B2f (by simp),e1]
  have e2:([[]]:List (List GE)).length=1:=rfl
  rw [e2]
  constructor
  ·rintro ((h | ⟨h1,h2,h3,h4⟩ | h) | ⟨h1,h2,h3,h4⟩ | h)
   ·exact absurd h C0l
   ·exact .inl ⟨h1,h3,h4,.inl h2⟩
   ·exact .inr (.inl h)
   ·exact .inl ⟨h1,h3,h4,.inr h2⟩
   ·exact .inr (.inr h)
  ·rintro (⟨h1,h2,h3,h4 | h4⟩ | h | h)
   ·exact .inl (.inr (.inl ⟨h1,h4,h2,h3⟩))
   ·exact .inr (.inl ⟨h1,h4,h2,h3⟩)
   ·exact .inl (.inr (.inr h))
   ·exact .inr (.inr h)
 ·unfold endP
  simp only [List.getD_eq_getElem?_getD]
  rcases Nat.lt_trichotomy t 0 with h | h | h
  ·omega
  ·subst h
   simp only [List.cons_append,List.nil_append,List.getElem?_cons_zero,Option.getD_some,Int.lt_irrefl,false_iff,not_or,not_exists,not_and]
   exact ⟨fun t' h=>by omega,fun t' h=>by omega⟩
  ·obtain ⟨t,rfl⟩:∃ k,t=k+1:=⟨t - 1,by omega⟩
   simp only [List.cons_append,List.nil_append,List.getElem?_cons_succ]
   rcases Nat.lt_or_ge t n with h2 | h2
   ·rw [List.getElem?_append_left (by omega)]
    constructor
    ·intro h3; exact .inl ⟨t,by omega,h3⟩
    ·rintro (⟨t',h3,h4⟩ | ⟨t',h3,_⟩)
     ·have:t'=t:=by omega
      subst this; exact h4
     ·omega
   ·rw [List.getElem?_append_right (by omega),hl1]
    constructor
    ·intro h3; exact .inr ⟨t - n,by omega,h3⟩
    ·rintro (⟨t',h3,h4⟩ | ⟨t',h3,h4⟩)
     ·rw [List.getElem?_eq_none (by omega)] at h4
      exact absurd h4 (Int.lt_irrefl 0)
     ·have:t'=t - n:=by omega
      subst this; exact h4
 ·rintro s a b t ⟨r,hr,e,he,rfl,_⟩
  have:=(List.getElem?_eq_some_iff.1 hr).1
  exact ⟨by omega,hto r (List.mem_of_getElem? hr) e he⟩
 ·intro t h
  unfold endP at h
  rcases Nat.lt_or_ge t n with h2 | h2
  ·exact h2
  ·rw [List.getD_eq_getElem?_getD,List.getElem?_eq_none (by omega)] at h
   exact absurd h (Int.lt_irrefl 0)
theorem B67 {sigma:List ByteArray} {R E:List (List GE)} {m n:Nat} {k1 k2:Nat} (hR:R.length=m) (hm:0 < m) (hE:E.length=n) (hn:0 < n) (hRt:∀ r∈R,∀ e∈r,e.1 < m+n∧e.2.1 < (sigma.length:Int)∧e.2.2.1 < (sigma.length:Int)∧e.2.2.2=0) (hEt:∀ r∈E,∀ e∈r,e.1 < n∧e.2.1 < (sigma.length:Int)∧e.2.2.1 < (sigma.length:Int)∧e.2.2.2=0)
  (hs1:(R.map List.length).sum=k1) (hs2:(E.map List.length).sum=k2):(∀ r∈A1q R E,∀ e∈r,e.1 < m+n∧e.2.1 < (sigma.length:Int)∧e.2.2.1 < (sigma.length:Int)∧e.2.2.2=0)∧((A1q R E).map List.length).sum=k1+k2+1:=by
 have hsh:∀ r∈A1e R.length E,∀ e∈r,e.1 < m+n∧e.2.1 < (sigma.length:Int)∧e.2.2.1 < (sigma.length:Int)∧e.2.2.2=0:=fun r hr e he=>by
  unfold A1e at hr
  obtain ⟨r0,hr0,rfl⟩:=List.mem_map.1 hr
  obtain ⟨e0,he0,rfl⟩:=List.mem_map.1 he
  have:=hEt r0 hr0 e0 he0
  unfold A8x
  exact ⟨by simp only; omega,this.2⟩
 have hhead:=B5a (R:=R) (by omega) (A1e R.length E)
 have hneg:((-1:Int)) < (sigma.length:Int):=by omega
 refine ⟨fun r hr e he=>?_,?_⟩
 ·unfold A1q at hr
  rcases List.mem_or_eq_of_mem_set hr with h1 | h1
  ·rcases List.mem_append.1 h1 with h2 | h2
   ·exact hRt r h2 e he
   ·exact hsh r h2 e he
  ·rw [h1] at he
   rcases List.mem_append.1 he with h2 | h2
   ·have h3:=List.mem_of_getElem? hhead
    rcases List.mem_append.1 h3 with h4 | h4
    ·exact hRt _ h4 e h2
    ·exact hsh _ h4 e h2
   ·rw [List.mem_singleton.1 h2]
    exact ⟨by simp only; omega,hneg,hneg,rfl⟩
 ·have key : ∀ (L : List (List GE)) (r0 : List GE) (e0 : GE), L[0]? = some r0 → ((L.set 0 (r0 ++ [e0])).map List.length).sum = (L.map List.length).sum + 1 := fun L r0 e0 h => by
    cases L with
    | nil => simp at h
    | cons q L =>
      have := Option.some.inj h
      subst this
      simp; omega
  unfold A1q
  rw [key _ _ _ hhead, List.map_append, List.sum_append, hs1]
  have : ((A1e R.length E).map List.length).sum = k2 := by
    unfold A1e
    rw [List.map_map, ← hs2]
    congr 1
    exact List.map_congr_left fun r _ => by simp
  rw [this]
theorem B3w {H:AH} {Y1 Y2:Nat→Prop} {gv g1 g2 n1 n2:Nat} {sigma sigma2:List ByteArray} {E1 E2:List (List GE)} {ends1 ends2 costs1 costs2:List Int} (h1:GrX H Y1 g1 sigma (A7g E1) ends1 costs1) (h2:GrX H Y2 g2 sigma2 (A7g E2) ends2 costs2) (hv:Arr H gv 0 1 [.pointer (some ⟨g1,0,some 0⟩),.pointer (some ⟨g2,0,some 0⟩)])
  (hl1:E1.length=n1) (he1:ends1.length=n1) (hc1:costs1.length=n1) (hp1:1≤n1) (hq1:n1≤3000) (hl2:E2.length=n2) (he2:ends2.length=n2) (hc2:costs2.length=n2) (hp2:1≤n2) (hq2:n2≤3000) (hsl:sigma.length≤1048576)
  (ht1:∀ r∈E1,r.length≤60000∧∀ e∈r,e.1 < n1) (ht2:∀ r∈E2,r.length≤60000∧∀ e∈r,e.1 < n2) (hw:Wf H):
  Sh.Call Tryz.prog (knows 8) 44 [.slice (some ⟨gv,0,some 0⟩) 2 2] H (fun r H'=>Kept H H'∧∃ g,∃ X:Nat→Prop,r=.pointer (some ⟨g,0,some 0⟩)∧GrX H' X g sigma (A7g (A5r E1 E2)) ([0]++ends1++ends2) ([0]++costs1++costs2)):=by
 refine A3b rfl Tryz.func44 rfl (Nat.le_of_ble_eq_true rfl) ?_
 have hres:Tryz.f44.results.toList=[.tmp 2]:=rfl
 obtain ⟨sv,av,ev,cv,vals,hR⟩:=h1.read
 have hc0:H.cell ⟨g1,0,some 0⟩=some sv:=hR.arr.cell 0
 have v0:H.cell ⟨gv,0,some 0⟩=some (.pointer (some ⟨g1,0,some 0⟩)):=hv.cell 0
 have hia0:A3c Tryz.prog 118 (.slice (some ⟨gv,0,some 0⟩) 2 2) (.int .i64 0)=some (.pointer (some ⟨gv,0,some 0⟩)):=ia_118 (i:=0) (g:=gv) (o:=0) (k:=0) (n:=2) (c:=2) (j:=.i64) (by decide)
 obtain ⟨r3,H3,hd3,hk3,g,rfl,hG3⟩:=B91 (n:=1) hR.sg hsl (by decide) hw
 have hX3:=hG3.own hk3.wf
 have hd3':Does Tryz.prog (knows 8) 65 [sv,.int .i64 1] H (.pointer (some ⟨g,0,some 0⟩)) H3:=hd3
 simp only [↓Sh.dn,sx,Nat.reduceBEq,reduceCtorEq,Nat.reduceEqDiff,hia0,v0,hc0]
 refine ⟨_,_,hd3',?_⟩
 have hlenv:∀ H',A8a Tryz.prog .len [118] [.slice (some ⟨gv,0,some 0⟩) 2 2] H'=some (.int .i64 ((2:Nat):Int),H'):=fun H'=>B4x
 obtain ⟨Rw,hRw⟩:∃ Rw:Nat→List (List GE),Rw=fun i=>if i=0 then [[]] else if i=1 then A1q [[]] E1 else A5r E1 E2:=⟨_,rfl⟩
 obtain ⟨En,hEn⟩:∃ En:Nat→List Int,En=fun i=>if i=0 then [0] else if i=1 then [0]++ends1 else [0]++ends1++ends2:=⟨_,rfl⟩
 obtain ⟨Co,hCo⟩:∃ Co:Nat→List Int,Co=fun i=>if i=0 then [0] else if i=1 then [0]++costs1 else [0]++costs1++costs2:=⟨_,rfl⟩
 have hz:GrX H3 (fun y=>H.next≤y∧y < H3.next) g sigma (A7g (Rw 0)) (En 0) (Co 0):=by rw [hRw,hEn,hCo]; exact hX3
 have h1n:=grNow h1 hw
 have h2n:=grNow h2 hw
 have round:∀ i,i < 2→∃ (gi ni:Nat) (Yi:Nat→Prop) (si:List ByteArray) (Ei:List (List GE)) (ei ci:List Int),GrX H (fun y=>Yi y∧y < H.next) gi si (A7g Ei) ei ci∧H.cell ⟨gv,0+i * 1,some 0⟩=some (.pointer (some ⟨gi,0,some 0⟩))∧Ei.length=ni∧ei.length=ni∧ci.length=ni∧1≤ni∧ni≤3000∧(∀ r∈Ei,r.length≤180000000∧∀ e∈r,e.1 < ni)∧(Rw i).length≤3001∧0 < (Rw i).length∧(En i).length=(Rw i).length∧(Co i).length=(Rw i).length∧Rw (i+1)=A1q (Rw i) Ei∧En (i+1)=En i++ei∧Co (i+1)=Co i++ci∧((Rw i).getD 0 []).length≤1:=by
  intro i hi
  rw [hRw,hEn,hCo]
  match i,hi with
  | 0,_=>exact ⟨g1,n1,Y1,sigma,E1,ends1,costs1,h1n,v0,hl1,he1,hc1,hp1,hq1,fun r hr=>⟨by have:=(ht1 r hr).1; omega,(ht1 r hr).2⟩,by simp,by simp,rfl,rfl,rfl,rfl,rfl,by simp⟩
  | 1,_=>
   have e1:(A1q [[]] E1).length=1+n1:=by rw [A12,hl1]; rfl
   refine ⟨g2,n2,Y2,sigma2,E2,ends2,costs2,h2n,hv.cell 1,hl2,he2,hc2,hp2,hq2,fun r hr=>⟨by have:=(ht2 r hr).1; omega,(ht2 r hr).2⟩,?_,?_,?_,?_,rfl,rfl,rfl,?_⟩
   ·show (A1q [[]] E1).length≤3001
    omega
   ·show 0 < (A1q [[]] E1).length
    omega
   ·show ([0]++ends1).length=(A1q [[]] E1).length
    simp; omega
   ·show ([0]++costs1).length=(A1q [[]] E1).length
    simp; omega
   ·show ((A1q [[]] E1).getD 0 []).length≤1
    simp [A1q,List.getD]
 refine A6i 2 16 (List.range' 16 11++[5,6]) (fun i F H'=>Kept H H'∧∃ X:Nat→Prop,(∀ y,X y→H.next≤y)∧GrX H' X g sigma (A7g (Rw i)) (En i) (Co i)) (by simp only [↓Sh.dn,sx,Nat.reduceBEq,reduceCtorEq,Nat.reduceEqDiff]) ⟨hk3,_,fun y hy=>hy.1,hz⟩ ?_ ?_
 ·rintro i F H' hi hF f16 ⟨hk,X,hXb,hX⟩ k
  have f3:=hF 3 rfl
  have f14:=hF 14 rfl
  have f15:=hF 15 rfl
  simp only [↓Sh.dn,sx,Nat.reduceBEq,reduceCtorEq,Nat.reduceEqDiff] at f3 f14 f15
  obtain ⟨gi,ni,Yi,si,Ei,ei,ci,hgi,hpi,q1,q2,q3,q4,q5,q6,q7,q8,q9,q10,q11,q12,q13,q14⟩:=round i hi
  have hia:=ia_118 (g:=gv) (o:=0) (k:=0) (n:=2) (c:=2) (j:=.i64) hi
  rw [Nat.zero_add] at hia hpi
  have hpi':H'.cell ⟨gv,i * 1,some 0⟩=some (.pointer (some ⟨gi,0,some 0⟩)):=A1k (hk.grow hw) hpi
  have hgl:(A7g (Rw i)).length=(Rw i).length:=by unfold A7g; rw [List.length_map]
  obtain ⟨r4,H4,hd4,rfl,hc4,hX4⟩:=grAdd hX (hgi.kept hw hk) (fun y hy=>⟨fun hx=>by have:=hXb y hx; have:=hy.2; omega,by have:=hk.next; have:=hy.2; omega⟩) (by rw [hgl,q9]) (by rw [hgl,q10]) q1 q2 q3 q4 q5 (by rw [hgl]; omega) q6 hk.wf
  rw [hgl] at hd4 hX4
  have happ:A7g (Rw i)++A7g (A1e (Rw i).length Ei)=A7g (Rw i++A1e (Rw i).length Ei):=by unfold A7g; rw [List.map_append]
  rw [happ] at hX4
  have hhead:=B5a q8 (A1e (Rw i).length Ei)
  have hrow:(A7g (Rw i++A1e (Rw i).length Ei))[0]?=some (((Rw i).getD 0 []).map A5k):=by unfold A7g; rw [List.getElem?_map,hhead]; rfl
  obtain ⟨r5,H5,hd5,hc5,hX5⟩:=grArcX (s:=0) (x0:=((Rw i).length:Int)) (x1:=-1) (x2:=-1) (x3:=0) hX4 hrow (by rw [List.length_map]; omega) hc4.wf
  have hset:(A7g (Rw i++A1e (Rw i).length Ei)).set 0 (((Rw i).getD 0 []).map A5k++[[Value.int .i64 ((Rw i).length:Int),Value.int .i64 (-1),Value.int .i64 (-1),Value.int .i64 0]])=A7g (Rw (i+1)):=by
   rw [q11]
   unfold A1q A7g
   rw [List.map_set,List.map_append (l₁:=(Rw i).getD 0 [])]
   rfl
  rw [hset,← q12,← q13] at hX5
  have hd5':Does Tryz.prog (knows 8) 67 [.pointer (some ⟨g,0,some 0⟩),.int .i64 0,.int .i64 ((Rw i).length:Int),.int .i64 (-1),.int .i64 (-1),.int .i64 0] H4 r5 H5:=hd5
  have hn4:=hc4.next
  have hkn:=hk.next
  simp only [↓Sh.dn,sx,Nat.reduceBEq,reduceCtorEq,Nat.reduceEqDiff,f3,f14,f15,f16,A1b,hi,decide_true,hia,hpi']
  refine ⟨_,_,hd4,?_⟩
  refine ⟨_,_,hd5',?_⟩
  simp only [↓Sh.dn,sx,Nat.reduceBEq,reduceCtorEq,Nat.reduceEqDiff,f16,A8e hi (by decide)]
  have hXb':∀ y,(X y∨H'.next≤y)→H.next≤y:=fun y hy=>by
   rcases hy with h | h
   ·exact hXb y h
   ·omega
  refine k _ _ (by repeat (first | refine Same.put ?_ rfl | exact Same.rfl' _)) (by simp only [↓Sh.dn,sx,Nat.reduceBEq,reduceCtorEq,Nat.reduceEqDiff]) ⟨(hk.then (Nat.le_refl _) (hc4.weak hXb')).then (Nat.le_refl _) (hc5.weak hXb'),_,fun y hy=>?_,hX5⟩
  rcases hy with h | h
  ·exact hXb' y h
  ·omega
 ·rintro F H' hF f16 ⟨hk,X,hXb,hX⟩
  have f3:=hF 3 rfl
  have f15:=hF 15 rfl
  simp only [↓Sh.dn,sx,Nat.reduceBEq,reduceCtorEq,Nat.reduceEqDiff] at f3 f15
  simp only [↓Sh.dn,sx,Nat.reduceBEq,reduceCtorEq,Nat.reduceEqDiff,f3,f15,f16,A1b,Nat.lt_irrefl,decide_false,hres]
  rw [hRw,hEn,hCo] at hX
  exact ⟨hk,g,rfl,X,hX⟩
end Go.Proofs.YtnoengaghabmjaaGreatDoor
/- What functions that join nets have alike: the place of the result, what comes out. -/
namespace Go.Proofs.YtnoengaghabmjaaGreatDoor
open Go Go.Proofs Go.Proofs.Sh
def A33:Value:=.agg #[.slice none 0 0,.int .i64 0,.slice none 0 0,.slice none 0 0]
def JoinOut (H H':AH) (sigma:List ByteArray) (err:Int) (P:List ByteArray→List ByteArray→Prop) (r:Value):Prop:=
 Kept H H'∧∃ mv,r=.tuple #[mv,.int .i64 err]∧(err≠0→mv=A33)∧(err=0→∃ M:NetD,(∀ H2,(∀ y,H.next≤y→H2.objs.get y=H'.objs.get y)→Nonempty (A7l H2 mv M))∧A6c M∧A8g M=0∧M.sigma=sigma∧∀ x y,A2m M x y↔P x y)
structure Slot (H0:AH) (go:Nat):Prop where
 ob:Sh.Obj H0 go 4 [.slice none 0 0,.int .i64 0,.slice none 0 0,.slice none 0 0] true
 lt:go < H0.next
theorem Slot.new {H:AH}:Slot (H.new 4 [.slice none 0 0,.int .i64 0,.slice none 0 0,.slice none 0 0]).2 H.next:=⟨Sh.Obj.new (H:=H) 4 _,Nat.lt_succ_self _⟩
theorem Slot.put {H0 H':AH} {go:Nat} (h:Slot H0 go) (hk:Kept H0 H') {a b c d:Value} (ha:isCell a=true) (hb:isCell b=true) (hc:isCell c=true) (hd:isCell d=true):
  ∃ H'',A2i Tryz.prog 26 H' (.agg #[a,b,c,d]) (.pointer (some ⟨go,0,some 0⟩))=some H''∧H''.cells ⟨go,0,some 0⟩ 4=some [a,b,c,d]∧Chg (fun y=>y=go) H' H''∧H''.next=H'.next:=by
 have o0':Sh.Obj H' go 4 [.slice none 0 0,.int .i64 0,.slice none 0 0,.slice none 0 0] true:=by
  have o0:=h.ob
  unfold Sh.Obj at o0 ⊢
  rw [hk.old go h.lt]; exact o0
 obtain ⟨H6,w6,ar6,v6,z6⟩:=o0'.arr.write hk.wf (i:=0) (vs:=[a,b,c,d]) (by simp)
 have sc6:setCells [.slice none 0 0,.int .i64 0,.slice none 0 0,.slice none 0 0] 0 [a,b,c,d]=[a,b,c,d]:=rfl
 rw [sc6] at ar6
 refine ⟨H6,?_,ar6.cells (i:=0) (n:=4) (by simp),z6,v6⟩
 rw [A8r (vs:=[a,b,c,d]) A5n rfl (by simp [ha,hb,hc,hd])]
 exact w6
theorem netZ:A6n Tryz.prog 26 []=some (.agg #[.slice none 0 0,.int .i64 0,.slice none 0 0,.slice none 0 0]):=by
 have va:∀ xs:Array Value,A7a (.agg xs)=xs.toList:=fun _=>rfl
 refine A4j (pl:=[(0,1),(1,1),(2,1),(3,1)]) Tryz.underlying26 A8y (by kernel_rfl) ?_
 simp [A1s,va]
theorem JoinOut.bad {H H':AH} {sigma:List ByteArray} {err:Int} {P:List ByteArray→List ByteArray→Prop} (hk:Kept H H') (he:err≠0):JoinOut H H' sigma err P (.tuple #[.agg [Value.slice none 0 0,.int .i64 0,.slice none 0 0,.slice none 0 0].toArray,.int .i64 err]):=
 ⟨hk,_,rfl,fun _=>rfl,fun h=>absurd h he⟩
theorem A2o (N:NetD):(A1i N).length=N.states.toNat:=by unfold A1i; rw [A6e]
theorem A8w (N:NetD):(A3j N N.ends).length=N.states.toNat:=by unfold A3j; rw [List.length_map,A6e]
theorem A1y (N:NetD):(A0k N N.ends).length=N.states.toNat:=by unfold A0k; rw [List.length_map,A6e]
theorem A11 {N:NetD} (h:A8g N=0):∀ r∈A1i N,∀ e∈r,e.1 < N.states.toNat∧e.2.1 < (N.sigma.length:Int)∧e.2.2.1 < (N.sigma.length:Int)∧e.2.2.2=0:=fun r hr e he=>by
 obtain ⟨hok,_,hf⟩:=A8h h
 obtain ⟨s,hs⟩:=List.mem_iff_getElem?.1 hr
 obtain ⟨a,ha,_,rfl⟩:=(A5w hs e).1 he
 obtain ⟨_,_,k1,k2,k3,k4⟩:=hok.arc a ha
 simp only [NetD.free,Bool.and_eq_true,List.all_eq_true,decide_eq_true_eq] at hf
 exact ⟨by simp only; omega,A55 hok k3,A55 hok k4,hf.1 a ha⟩
theorem B5c {N:NetD} (h:A8g N=0):∀ r∈A1i N,r.length≤60000∧∀ e∈r,e.1 < N.states.toNat:=fun r hr=>by
 obtain ⟨hok,_,_⟩:=A8h h
 obtain ⟨s,hs⟩:=List.mem_iff_getElem?.1 hr
 exact ⟨Nat.le_trans (A01 hs) hok.ar,fun e he=>(A11 h r hr e he).1⟩
theorem B5e {N:NetD} (h:A8g N=0):∀ c∈A0k N N.ends,c=0:=fun c hc=>by
 obtain ⟨hok,_,hf⟩:=A8h h
 simp only [NetD.free,Bool.and_eq_true,List.all_eq_true,decide_eq_true_eq] at hf
 unfold A0k at hc
 obtain ⟨r,hr,rfl⟩:=List.mem_map.1 hc
 obtain ⟨s,hs⟩:=List.mem_iff_getElem?.1 hr
 refine B3t fun x hx=>?_
 obtain ⟨e,he,_,rfl⟩:=(A5w hs x).1 hx
 exact hf.2 e he
theorem C6i {l:List Int} (h:∀ c∈l,c=0) (s:Nat):l.getD s 0=0:=by
 rw [List.getD_eq_getElem?_getD]
 cases hg:l[s]? with
 | none=>rfl
 | some c=>exact h c (List.mem_of_getElem? hg)
theorem A66 {H:AH} (h:Wf H) {y:Nat} (hy:H.next≤y):H.objs.get y=none:=by
 cases hg:H.objs.get y with
 | none=>rfl
 | some x=>have:=h y x hg; omega
theorem B4h {N:NetD} (h:A8g N=0):((A1i N).map List.length).sum=N.arcs.length:=by
 obtain ⟨hok,_,_⟩:=A8h h
 unfold A1i
 have key:∀ (l:List ArcD),(∀ a∈l,0≤a.fr∧a.fr < N.states)→((rowsOf ArcD.fr (fun a=>(a.to.toNat,A3p N.sigma a.inn,A3p N.sigma a.out,a.cost)) N.states.toNat l).map List.length).sum=l.length:=fun l hl=>by
  unfold rowsOf
  rw [List.map_map]
  have e:(List.length ∘ fun (s:Nat)=>(l.filter fun a=>decide (a.fr=(s:Int))).map fun a=>(a.to.toNat,A3p N.sigma a.inn,A3p N.sigma a.out,a.cost))=fun (s:Nat)=>(l.filter fun a=>decide (a.fr=(s:Int))).length:=by
   funext s; simp
  rw [e]
  clear e
  induction l with
  | nil=>
   generalize N.states.toNat=m
   induction m with
   | zero=>rfl
   | succ m ihm=>rw [List.range_succ,List.map_append,List.sum_append,ihm]; rfl
  | cons a l ih=>
   have h1:=ih fun b hb=>hl b (List.mem_cons_of_mem _ hb)
   obtain ⟨h2,h3⟩:=hl a List.mem_cons_self
   have h4:∀ (m:Nat),((List.range m).map fun (s:Nat)=>((a :: l).filter fun b=>decide (b.fr=(s:Int))).length).sum=((List.range m).map fun (s:Nat)=>(l.filter fun b=>decide (b.fr=(s:Int))).length).sum+(if a.fr.toNat < m then 1 else 0):=fun m=>by
    induction m with
    | zero=>simp
    | succ m ihm=>
     rw [List.range_succ,List.map_append,List.sum_append,List.map_append,List.sum_append,ihm]
     simp only [List.map_cons,List.map_nil,List.sum_cons,List.sum_nil,Nat.add_zero]
     by_cases hm:a.fr=(m:Int)
     ·rw [List.filter_cons_of_pos (by simpa using hm),if_neg (by omega),if_pos (by omega),List.length_cons]; omega
     ·rw [List.filter_cons_of_neg (by simpa using hm)]
      by_cases hlt:a.fr.toNat < m
      ·rw [if_pos hlt,if_pos (by omega)]; omega
      ·rw [if_neg hlt,if_neg (by omega)]; omega
   rw [h4,h1,if_pos (by omega),List.length_cons]
 exact key N.arcs fun a ha=>⟨(hok.arc a ha).1,(hok.arc a ha).2.1⟩
end Go.Proofs.YtnoengaghabmjaaGreatDoor
/- rel.Either: the pairs of both. -/
namespace Go.Proofs.YtnoengaghabmjaaGreatDoor
open Go Go.Proofs Go.Proofs.Sh
theorem B0v {A B M:NetD} (hA:A8g A=0) (hB:A8g B=0) (hs:A.sigma=B.sigma) {n:Nat} {costs:List Int}
  (hM:C2a A.sigma (A5r (A1i A) (A1i B)) ([0]++A3j A A.ends++A3j B B.ends) costs n M) (hR:B9c A.sigma (A5r (A1i A) (A1i B)) ([0]++A3j A A.ends++A3j B B.ends) costs n) (x y:List ByteArray):A2m M x y↔A2m A x y∨A2m B x y:=by
 obtain ⟨okA,_,_⟩:=A8h hA
 obtain ⟨okB,_,_⟩:=A8h hB
 have h1:=okA.st1
 have ho:=C0o (E1:=A1i A) (E2:=A1i B) (ends1:=A3j A A.ends) (ends2:=A3j B B.ends) (n:=A.states.toNat) (A2o A) (A8w A) (by omega) (fun r hr e he=>(A11 hA r hr e he).1)
 rw [C0b hM hR okA.sig,B1f okA,B1f okB,← hs,ho.rel]
 constructor
 ·rintro ⟨h1,h2 | h2⟩
  ·exact .inl ⟨h1,h2⟩
  ·exact .inr ⟨h1,h2⟩
 ·rintro (⟨h1,h2⟩ | ⟨h1,h2⟩)
  ·exact ⟨h1,.inl h2⟩
  ·exact ⟨h1,.inr h2⟩
def A2e (A B:NetD):Int:=if A8j A B≠0 then A8j A B else if A09 A B=true then 3 else 0
theorem C3j {H:AH} {va vb:Value} {A B:NetD} (ha:A7l H va A) (hb:A7l H vb B) (hA:A6c A) (hB:A6c B) (hw:Wf H):
  Sh.Call Tryz.prog (knows 8) 20 [va,vb] H (fun r H'=>JoinOut H H' A.sigma (A2e A B) (fun x y=>A2m A x y∨A2m B x y) r):=by
 refine A3b rfl Tryz.func20 rfl (Nat.le_of_ble_eq_true rfl) ?_
 have hres:Tryz.f20.results.toList=[.cell 4 26,.tmp 5]:=rfl
 obtain ⟨sgA,arA,enA,rfl,s1,s2,s3⟩:=ha
 obtain ⟨sgB,arB,enB,rfl,t1,t2,t3⟩:=hb
 have bA:=NetBox.of (N:=A) hw s1 s2 s3
 have k1:=Kept.new hw 4 [sgA,.int .i64 A.states,arA,enA]
 have bB:=NetBox.of (N:=B) k1.wf (t1.grow (k1.grow hw)) (t2.grow (k1.grow hw)) (t3.grow (k1.grow hw))
 have k2:=k1.news 4 [sgB,.int .i64 B.states,arB,enB]
 have bA2:=bA.new k1.wf 4 [sgB,.int .i64 B.states,arB,enB]
 simp only [↓Sh.dn,sx,Nat.reduceBEq,reduceCtorEq,Nat.reduceEqDiff,A2n s1.isCell s2.isCell s3.isCell,A2n t1.isCell t2.isCell t3.isCell,A8b]
 obtain ⟨H1,hH1⟩:∃ K,(H.new 4 [sgA,.int .i64 A.states,arA,enA]).2=K:=⟨_,rfl⟩
 simp only [hH1] at k1 bB bA k2 bA2 ⊢
 obtain ⟨H2,hH2⟩:∃ K,(H1.new 4 [sgB,.int .i64 B.states,arB,enB]).2=K:=⟨_,rfl⟩
 simp only [hH2] at bB k2 bA2 ⊢
 generalize H.next=gA at bA2 ⊢
 generalize H1.next=gB at bB ⊢
 have sl:Slot (H2.new 4 [.slice none 0 0,.int .i64 0,.slice none 0 0,.slice none 0 0]).2 H2.next:=Slot.new
 have k3:=k2.news 4 [.slice none 0 0,.int .i64 0,.slice none 0 0,.slice none 0 0]
 have bA3:=bA2.new k2.wf 4 [.slice none 0 0,.int .i64 0,.slice none 0 0,.slice none 0 0]
 have bB3:=bB.new k2.wf 4 [.slice none 0 0,.int .i64 0,.slice none 0 0,.slice none 0 0]
 have gol:H.next≤H2.next:=k2.next
 generalize H2.next=go at sl gol ⊢
 generalize (H2.new 4 [.slice none 0 0,.int .i64 0,.slice none 0 0,.slice none 0 0]).2=H3 at sl k3 bA3 bB3 ⊢
 clear bA bA2 bB k1 k2 hH1 hH2 H1 H2 s1 s2 s3 t1 t2 t3
 obtain ⟨H4,hb4,k4,tn4,n4⟩:=B34 k3.wf bA3.hsg bA3.har bA3.hen bB3.hsg bB3.har bB3.hen
 obtain ⟨r5,H5,hd5,k5,rfl⟩:=B49 tn4 hA hB k4.wf
 simp only [↓Sh.dn,sx,Nat.reduceBEq,reduceCtorEq,Nat.reduceEqDiff,bA3.c0,bA3.c1,bA3.c2,bA3.c3,bA3.ca,A3a bA3,A2a bA3,A1a bA3,bB3.c0,bB3.c1,bB3.c2,bB3.c3,bB3.ca,A3a bB3,A2a bB3,A1a bB3,Option.map_some,hb4]
 refine ⟨_,_,hd5,?_⟩
 have k35:=k4.trans k5
 have bA5:=bA3.kept k3.wf k35
 have bB5:=bB3.kept k3.wf k35
 by_cases hE:A8j A B=0
 case neg=>
  have e1:A2e A B=A8j A B:=by unfold A2e; rw [if_pos hE]
  obtain ⟨Hz,sz,cz,zz,_⟩:=sl.put k35 (a:=.slice none 0 0) (b:=.int .i64 0) (c:=.slice none 0 0) (d:=.slice none 0 0) rfl rfl rfl rfl
  simp only [↓Sh.dn,sx,Nat.reduceBEq,reduceCtorEq,Nat.reduceEqDiff,hE,decide_false,netZ,sz,hres,cz,Option.map_some,e1]
  exact JoinOut.bad ((k3.trans k35).then gol (zz.weak fun y hy=>by omega)) hE
 obtain ⟨hrA,hrB,hsg⟩:=B2b hE
 obtain ⟨okA,_,_⟩:=A8h hrA
 obtain ⟨okB,_,_⟩:=A8h hrB
 obtain ⟨H6,hb6,k6,tn6,n6⟩:=B34 k5.wf bA5.hsg bA5.har bA5.hen bB5.hsg bB5.har bB5.hen
 obtain ⟨r7,H7,hd7,k7,rfl⟩:=relGreat tn6 okA okB k6.wf
 simp only [↓Sh.dn,sx,Nat.reduceBEq,reduceCtorEq,Nat.reduceEqDiff,hE,decide_true,bA5.c0,bA5.c1,bA5.c2,bA5.c3,bA5.ca,A3a bA5,A2a bA5,A1a bA5,bB5.c0,bB5.c1,bB5.c2,bB5.c3,bB5.ca,A3a bB5,A2a bB5,A1a bB5,Option.map_some,hb6]
 refine ⟨_,_,hd7,?_⟩
 have k37:=(k35.trans k6).trans k7
 have bA7:=bA3.kept k3.wf k37
 have bB7:=bB3.kept k3.wf k37
 cases hg:A09 A B with
 | true=>
  have e1:A2e A B=3:=by unfold A2e; rw [if_neg (by simpa using hE),if_pos hg]
  obtain ⟨Hz,sz,cz,zz,_⟩:=sl.put k37 (a:=.slice none 0 0) (b:=.int .i64 0) (c:=.slice none 0 0) (d:=.slice none 0 0) rfl rfl rfl rfl
  simp only [↓Sh.dn,sx,Nat.reduceBEq,reduceCtorEq,Nat.reduceEqDiff,netZ,sz,hres,cz,Option.map_some,e1]
  exact JoinOut.bad ((k3.trans k37).then gol (zz.weak fun y hy=>by omega)) (by decide)
 | false=>
 have e1:A2e A B=0:=by unfold A2e; rw [if_neg (by simpa using hE),if_neg (by rw [hg]; simp)]
 simp only [↓Sh.dn,sx,Nat.reduceBEq,reduceCtorEq,Nat.reduceEqDiff]
 obtain ⟨r8,H8,hd8,k8,g1,rfl,base1,hbase1,hG1⟩:=C5i bA7.netAt okA hA k37.wf
 have bB8:=bB7.kept k37.wf k8
 obtain ⟨r9,H9,hd9,k9,g2,rfl,base2,hbase2,hG2⟩:=C5i bB8.netAt okB hB k8.wf
 rw [← A15 okA] at hG1
 rw [← A15 okB] at hG2
 have hX1:=(hG1.own k8.wf).kept k8.wf k9
 have hX2:=hG2.own k9.wf
 have hbp:=B8g (P:=Tryz.prog) (H:=H9) Tryz.underlying118 B7u B1l rfl (x:=.pointer (some ⟨g1,0,some 0⟩)) (y:=.pointer (some ⟨g2,0,some 0⟩)) rfl rfl
 have k10:=Kept.new k9.wf 1 [.pointer (some ⟨g1,0,some 0⟩),.pointer (some ⟨g2,0,some 0⟩)]
 have a10:Arr (H9.new 1 [.pointer (some ⟨g1,0,some 0⟩),.pointer (some ⟨g2,0,some 0⟩)]).2 H9.next 0 1 [.pointer (some ⟨g1,0,some 0⟩),.pointer (some ⟨g2,0,some 0⟩)]:=(Sh.Obj.new (H:=H9) 1 _).arr
 have a1:=okA.st1
 have a2:=okA.st2
 have b1:=okB.st1
 have b2:=okB.st2
 obtain ⟨r11,H11,hd11,k11,g,X,rfl,hX⟩:=B3w (n1:=A.states.toNat) (n2:=B.states.toNat) (hX1.kept k9.wf k10) (hX2.kept k9.wf k10) a10 (A2o A) (A8w A) (A1y A) (by omega) (by omega) (A2o B) (A8w B) (A1y B) (by omega) (by omega) hA.sg (B5c hrA) (B5c hrB) k10.wf
 simp only [A09,Bool.or_eq_false_iff,decide_eq_false_iff_not,Int.not_lt,Nat.not_lt] at hg
 have hEB:∀ r∈A1i B,∀ e∈r,e.1 < B.states.toNat∧e.2.1 < (A.sigma.length:Int)∧e.2.2.1 < (A.sigma.length:Int)∧e.2.2.2=0:=by rw [hsg]; exact A11 hrB
 obtain ⟨o1,o2⟩:=B67 (sigma:=A.sigma) (R:=[[]]) (E:=A1i A) (m:=1) (n:=A.states.toNat) rfl (by decide) (A2o A) (by omega) (fun r hr e he=>by rw [List.mem_singleton.1 hr] at he; cases he) (A11 hrA) (k1:=0) rfl (B4h hrA)
 have l1:(A1q [[]] (A1i A)).length=1+A.states.toNat:=by rw [A12,A2o]; rfl
 obtain ⟨o3,o4⟩:=B67 (sigma:=A.sigma) (R:=A1q [[]] (A1i A)) (E:=A1i B) (m:=1+A.states.toNat) (n:=B.states.toNat) l1 (by omega) (A2o B) (by omega) (fun r hr e he=>⟨by have:=(o1 r hr e he).1; omega,(o1 r hr e he).2⟩) hEB o2 (B4h hrB)
 have hRO:B9c A.sigma (A5r (A1i A) (A1i B)) ([0]++A3j A A.ends++A3j B B.ends) ([0]++A0k A A.ends++A0k B B.ends) (1+A.states.toNat+B.states.toNat):=
  ⟨by unfold A5r; rw [A12,l1,A2o],by simp [A8w]; omega,by simp [A1y]; omega,by omega,by omega,o3,by unfold A5r; rw [o4]; omega,C6i fun c hc=>by
   simp only [List.mem_append,List.mem_singleton] at hc
   rcases hc with (rfl | h) | h
   ·rfl
   ·exact B5e hrA c h
   ·exact B5e hrB c h⟩
 obtain ⟨r12,H12,hd12,k12,M,hM,m1,m2,m3,m4,m5,m6⟩:=graphNet hX hRO.le hRO.ln hRO.lc hRO.n1 hRO.n2 hA.sg (fun r hr e he=>⟨(hRO.to r hr e he).1,(hRO.to r hr e he).2.1,(hRO.to r hr e he).2.2.1⟩) (by have:=hRO.sum; omega) k11.wf
 have hNO:C2a A.sigma (A5r (A1i A) (A1i B)) ([0]++A3j A A.ends++A3j B B.ends) ([0]++A0k A A.ends++A0k B B.ends) (1+A.states.toNat+B.states.toNat) M:=⟨m1,m2,m3,m4,m5,m6⟩
 have k812:=(((k8.trans k9).trans k10).trans k11).trans k12
 have k312:=k37.trans k812
 obtain ⟨⟨sgM,arM,enM,rfl,z1,z2,z3⟩⟩:=hM H12 fun y _=>rfl
 obtain ⟨H13,s13,c13,z13,x13⟩:=sl.put k312 z1.isCell (show isCell (.int .i64 M.states)=true from rfl) z2.isCell z3.isCell
 have hvqA:veq (.agg #[sgA,.int .i64 A.states,arA,enA]) (.agg #[sgA,.int .i64 A.states,arA,enA])=true:=A53 (by simp only [A8k,A4n,A8d,bA3.hsg.veq,bA3.har.veq,bA3.hen.veq,Bool.and_self])
 have hvqB:veq (.agg #[sgB,.int .i64 B.states,arB,enB]) (.agg #[sgB,.int .i64 B.states,arB,enB])=true:=A53 (by simp only [A8k,A4n,A8d,bB3.hsg.veq,bB3.har.veq,bB3.hen.veq,Bool.and_self])
 refine A41 (fl:=[(0,false),(2,false),(1,false),(3,true),(4,false),(5,true),(6,true),(7,true),(8,true)]) (by kernel_rfl) (by kernel_rfl) k37.wf ?_
 simp only [↓Sh.dn,sx,Nat.reduceBEq,reduceCtorEq,Nat.reduceEqDiff,wpg,A8z,isEff,A2c,isRead,A1h,A8d,A6h,A1f,A7d,forall_eq,forall_eq',bA7.c0,bA7.c1,bA7.c2,bA7.c3,bA7.ca,A3a bA7,A2a bA7,A1a bA7,bB7.c0,bB7.c1,bB7.c2,bB7.c3,bB7.ca,A3a bB7,A2a bB7,A1a bB7,bB8.c0,bB8.c1,bB8.c2,bB8.c3,bB8.ca,A3a bB8,A2a bB8,A1a bB8,Option.map_some,hvqA,hvqB]
 refine ⟨_,_,hd8,k8.wf,k8.grow k37.wf,?_⟩
 refine ⟨_,_,hd9,k9.wf,?_⟩
 have ma:∀ x,(H9.new 1 [.pointer (some ⟨g1,0,some 0⟩),.pointer (some ⟨g2,0,some 0⟩)]).2.objs.get H9.next=some x→A6y x x=true:=by
  intro x hx
  have:=Sh.Obj.new (H:=H9) 1 [.pointer (some ⟨g1,0,some 0⟩),.pointer (some ⟨g2,0,some 0⟩)]
  unfold Sh.Obj at this
  rw [this] at hx
  injection hx with hx
  subst hx
  simp [A6y,C5b,A8k,A4n,A1h]
 simp only [↓Sh.dn,sx,Nat.reduceBEq,reduceCtorEq,Nat.reduceEqDiff,wpg,A8z,isEff,A2c,isRead,A1h,A8d,A6h,A1f,A7d,forall_eq,forall_eq',hbp]
 refine ⟨ma,?_⟩
 refine ⟨_,_,hd11,k11.wf,?_⟩
 refine ⟨_,_,hd12,k12.wf,?_⟩
 simp only [↓Sh.dn,sx,Nat.reduceBEq,reduceCtorEq,Nat.reduceEqDiff,wpg,A8z,isEff,A2c,isRead,A1h,A8d,A6h,A1f,A7d,forall_eq,forall_eq',s13,hres,c13,Option.map_some,z13.wf,e1]
 refine ⟨(k3.trans k312).then gol (z13.weak fun y hy=>by omega),_,rfl,fun h=>absurd rfl h,fun _=>⟨M,fun H14 h14=>hM H14 fun y hy=>(h14 y (by have:=sl.lt; have:=(k37.trans ((k8.trans k9).trans (k10.trans k11))).next; omega)).trans ?_,B5w hNO hRO hA.sg hA.sx,B2k hNO hRO okA.sig,m1,B0v hrA hrB hsg hNO hRO⟩⟩
 have hgl:=sl.lt
 have hn:=(k37.trans ((k8.trans k9).trans (k10.trans k11))).next
 by_cases hyl:y < H12.next
 ·exact z13.old y hyl (by omega)
 ·have q1:=A66 k12.wf (y:=y) (by omega)
  have q2:=A66 z13.wf (y:=y) (by omega)
  rw [q1,q2]
end Go.Proofs.YtnoengaghabmjaaGreatDoor
/- Two lists in a row. -/
namespace Go.Proofs.YtnoengaghabmjaaGreatDoor
open Go Go.Proofs Go.Proofs.Sh
theorem two_jag {H:AH} {u v:Value} {x y:List ByteArray} (hu:Sl H u 1 (x.map A0b)) (hv:Sl H v 1 (y.map A0b)) (hw:Wf H):JagR (H.new 1 [u,v]).2 (.slice (some ⟨H.next,0,some 0⟩) 2 2) 1 ([x,y].map fun w=>w.map A0b) [u,v]:=by
 have k:=Kept.new hw 1 [u,v]
 refine ⟨(Buf.fresh (H:=H) (s:=1) (xs:=[[u],[v]]) hw (by
  intro x hx
  simp only [List.mem_cons,List.not_mem_nil,or_false] at hx
  rcases hx with rfl | rfl <;> rfl) (by simp) 2 rfl).toSl,rfl,fun i w' r h1 h2=>?_⟩
 match i with
 | 0=>
  simp only [List.map_cons,List.map_nil,List.getElem?_cons_zero,Option.some.injEq] at h1 h2
  subst h1 h2
  exact hu.grow (k.grow hw)
 | 1=>
  simp only [List.map_cons,List.map_nil,List.getElem?_cons_succ,List.getElem?_cons_zero,Option.some.injEq] at h1 h2
  subst h1 h2
  exact hv.grow (k.grow hw)
 | i+2=>simp at h1
end Go.Proofs.YtnoengaghabmjaaGreatDoor
/- Whether lists of texts are equal; a text is put into a list; ascending lists. -/
namespace Go.Proofs.YtnoengaghabmjaaGreatDoor
open Go Go.Proofs Go.Proofs.Sh
def ordW:List ByteArray→List ByteArray→Int
 | [],[]=>0
 | [],_ :: _=>-1
 | _ :: _,[]=>1
 | a :: x,b :: y=>if A6l a b=true then -1 else if a=b then ordW x y else 1
theorem B5m:∀ l,ordW l l=0
 | []=>rfl
 | a :: x=>by simp [ordW,A4m,B5m x]
theorem C2i:∀ {l m:List ByteArray},ordW l m=0↔l=m
 | [],[]=>by simp [ordW]
 | [],_ :: _=>by simp [ordW]
 | _ :: _,[]=>by simp [ordW]
 | a :: x,b :: y=>by
  unfold ordW
  by_cases h:A6l a b=true
  ·rw [if_pos h]
   constructor
   ·intro h1; cases h1
   ·intro h1; injection h1 with h1 _; rw [h1,A4m] at h; cases h
  ·rw [if_neg h]
   by_cases h2:a=b
   ·rw [if_pos h2,C2i,h2]; simp
   ·rw [if_neg h2]; simp [h2]
theorem A60:∀ {i:Nat} {l m:List ByteArray},l.take i=m.take i→ordW l m=ordW (l.drop i) (m.drop i)
 | 0,l,m,_=>rfl
 | i+1,[],[],_=>rfl
 | i+1,[],_ :: _,h=>by simp at h
 | i+1,_ :: _,[],h=>by simp at h
 | i+1,a :: x,b :: y,h=>by
  simp only [List.take_succ_cons,List.cons.injEq] at h
  obtain ⟨h1,h2⟩:=h
  subst h1
  simp only [List.drop_succ_cons]
  rw [← A60 h2]
  unfold ordW
  rw [A4m]
  cases x <;> cases y <;> simp [ordW]
theorem refOrdW {H:AH} {v u:Value} {l m:List ByteArray} (hl:Sl H v 1 (l.map A0b)) (hm:Sl H u 1 (m.map A0b)) (hll:l.length≤1048576) (hml:m.length≤1048576) (hw:Wf H):
  Sh.Call Tryz.prog (knows 8) 51 [v,u] H (fun r H'=>H'=H∧r=.int .i64 (ordW l m)):=by
 refine A3b rfl Tryz.func51 rfl (Nat.le_of_ble_eq_true rfl) ?_
 have hres:Tryz.f51.results.toList=[.tmp 4]:=rfl
 have hlen:=fun H'=>hl.len Tryz.underlying22 H'
 have mlen:=fun H'=>hm.len Tryz.underlying22 H'
 simp only [List.length_map] at hlen mlen
 simp only [↓Sh.dn,sx,Nat.reduceBEq,reduceCtorEq,Nat.reduceEqDiff]
 have hmin:min l.length m.length≤1048576:=by omega
 refine A6i (min l.length m.length) 5 (List.range' 5 31) (fun i F H'=>H'=H∧l.take i=m.take i) (by simp only [↓Sh.dn,sx,Nat.reduceBEq,reduceCtorEq,Nat.reduceEqDiff]) ⟨rfl,rfl⟩ ?_ ?_
 ·rintro i F H' hi hF f5 ⟨rfl,htk⟩ k
  have f0:=hF 0 rfl
  have f1:=hF 1 rfl
  simp only [↓Sh.dn,sx,Nat.reduceBEq,reduceCtorEq,Nat.reduceEqDiff] at f0 f1
  have hi1:i < l.length:=by omega
  have hi2:i < m.length:=by omega
  obtain ⟨p1,hia1,hc1⟩:=Sl.elem (s:=1) Tryz.underlying22 A1l hl (i:=i) (u:=.string l[i]) (by rw [List.getElem?_map,List.getElem?_eq_getElem hi1]; rfl)
  obtain ⟨p2,hia2,hc2⟩:=Sl.elem (s:=1) Tryz.underlying22 A1l hm (i:=i) (u:=.string m[i]) (by rw [List.getElem?_map,List.getElem?_eq_getElem hi2]; rfl)
  have ho:∀ k:Int,ordW (l[i] :: l.drop (i+1)) (m[i] :: m.drop (i+1))=k→ordW l m=k:=fun k hk=>by
   rw [A60 htk,List.drop_eq_getElem_cons hi1,List.drop_eq_getElem_cons hi2]; exact hk
  have ht1:l.take (i+1)=l.take i++[l[i]]:=by rw [List.take_add_one,List.getElem?_eq_getElem hi1]; rfl
  have ht2:m.take (i+1)=m.take i++[m[i]]:=by rw [List.take_add_one,List.getElem?_eq_getElem hi2]; rfl
  generalize l[i]=x at hc1 ho ht1
  generalize m[i]=y at hc2 ho ht2
  simp only [↓Sh.dn,sx,Nat.reduceBEq,reduceCtorEq,Nat.reduceEqDiff,f0,f1,f5,hlen,mlen,A1b,hi1,hi2,decide_true,hia1,hc1,hia2,hc2]
  cases hlt:A6l x y with
  | true=>
   have:=ho (-1) (by simp [ordW,hlt])
   simp only [↓Sh.dn,sx,Nat.reduceBEq,reduceCtorEq,Nat.reduceEqDiff,hres,this]
  | false=>
   by_cases hxy:x=y
   ·simp only [↓Sh.dn,sx,Nat.reduceBEq,reduceCtorEq,Nat.reduceEqDiff,f0,f1,f5,hia1,hc1,hia2,hc2,hlt,hxy,decide_true,A4m,wrap_succ hi hmin]
    exact k _ _ (by repeat (first | refine Same.put ?_ rfl | exact Same.rfl' _)) (by simp only [↓Sh.dn,sx,Nat.reduceBEq,reduceCtorEq,Nat.reduceEqDiff]) ⟨rfl,by rw [ht1,ht2,htk,hxy]⟩
   ·have:=ho 1 (by simp [ordW,hlt,hxy])
    simp only [↓Sh.dn,sx,Nat.reduceBEq,reduceCtorEq,Nat.reduceEqDiff,f0,f1,f5,hia1,hc1,hia2,hc2,hlt,hxy,decide_false,hres,this]
 ·rintro F H' hF f5 ⟨rfl,htk⟩
  have f0:=hF 0 rfl
  have f1:=hF 1 rfl
  simp only [↓Sh.dn,sx,Nat.reduceBEq,reduceCtorEq,Nat.reduceEqDiff] at f0 f1
  by_cases h1:l.length < m.length
  ·have e:min l.length m.length=l.length:=by omega
   rw [e] at f5 htk
   have:ordW l m=-1:=by
    rw [A60 htk,List.drop_length,List.drop_eq_getElem_cons h1]; rfl
   simp only [↓Sh.dn,sx,Nat.reduceBEq,reduceCtorEq,Nat.reduceEqDiff,f0,f1,f5,hlen,mlen,A1b,Nat.lt_irrefl,h1,decide_true,decide_false,hres,this]
  ·have e:min l.length m.length=m.length:=by omega
   rw [e] at f5 htk
   by_cases h2:m.length < l.length
   ·have : ordW l m = 1 := by
      rw [A60 htk, List.drop_length, List.drop_eq_getElem_cons h2]; rfl
    simp only [↓Sh.dn, sx, Nat.reduceBEq, reduceCtorEq, Nat.reduceEqDiff, f0, f1, f5, hlen, mlen, A1b, Nat.lt_irrefl, h1, h2, decide_true, decide_false, hres, this]
   ·have heq : l = m := by
      rw [List.take_length, List.take_of_length_le (by omega)] at htk
      exact htk
    have : ordW l m = 0 := by rw [heq, B5m]
    simp only [↓Sh.dn, sx, Nat.reduceBEq, reduceCtorEq, Nat.reduceEqDiff, f0, f1, f5, hlen, mlen, A1b, Nat.lt_irrefl, h1, h2, decide_true, decide_false, hres, this]
theorem refOrder {H:AH} {v u:Value} {l m:List ByteArray} (hl:Sl H v 1 (l.map A0b)) (hm:Sl H u 1 (m.map A0b)) (hll:l.length≤1048576) (hml:m.length≤1048576) (hw:Wf H):
  Sh.Call Tryz.prog (knows 8) 51 [v,u] H (fun r H'=>H'=H∧∃ k:Int,r=.int .i64 k∧(k=0↔l=m)):=by
 refine (refOrdW hl hm hll hml hw).mono ?_
 rintro r H' ⟨rfl,rfl⟩
 exact ⟨rfl,_,rfl,C2i⟩
theorem C6o {H:AH} {v u:Value} {l m:List ByteArray} (hl:Sl H v 1 (l.map A0b)) (hm:Sl H u 1 (m.map A0b)) (hll:l.length≤1048576) (hml:m.length≤1048576) (hw:Wf H):
  Sh.Call Tryz.prog (knows 8) 26 [v,u] H (fun r H'=>H'=H∧r=.bool (decide (l=m))):=by
 refine A3b rfl Tryz.func26 rfl (Nat.le_of_ble_eq_true rfl) ?_
 have hres:Tryz.f26.results.toList=[.tmp 4]:=rfl
 obtain ⟨r,H1,hd,rfl,k,rfl,hk⟩:=refOrder hl hm hll hml hw
 simp only [↓Sh.dn,sx,Nat.reduceBEq,reduceCtorEq,Nat.reduceEqDiff]
 refine ⟨_,_,hd,?_⟩
 have:decide (k=0)=decide (l=m):=decide_eq_decide.2 hk
 simp only [↓Sh.dn,sx,Nat.reduceBEq,reduceCtorEq,Nat.reduceEqDiff,hres,this]
structure LS (H:AH) (base:Nat) (z:Value) (l:List ByteArray) (ob:Option Nat):Prop where
 bf:Buf H 1 z (l.map A0b) ob
 fr:∀ y,ob=some y→base≤y
theorem LS.void (H:AH) (base:Nat):LS H base (.slice none 0 0) [] none:=⟨.void none,fun y hy=>by cases hy⟩
theorem LS.kept {H H':AH} {base:Nat} {z:Value} {l:List ByteArray} {ob:Option Nat} (h:LS H base z l ob) (hw:Wf H) (hk:Kept H H'):LS H' base z l ob:=⟨h.bf.kept hw hk,h.fr⟩
end Go.Proofs.YtnoengaghabmjaaGreatDoor
/- The reference's word on what two nets make; what the law asks of it. -/
namespace Go.Proofs.YtnoengaghabmjaaGreatDoor
open Go Go.Proofs Go.Proofs.Sh
theorem boolEq {c b:Bool}:abin Tryz.prog 4 c .eql (.bool b) (.bool b)=some (.bool true):=by
 unfold abin aeq B7b A0f
 simp only [eqT,Tryz.underlying4,cond_true,beq_self_eq_true,Option.map_some]
theorem lawNone {H:AH} (hw:Wf H):Sh.Call Tryz.prog (knows 8) 13 [A33] H (fun r H'=>Kept H H'∧r=.bool true):=by
 refine A3b rfl Tryz.func13 rfl (Nat.le_of_ble_eq_true rfl) ?_
 have hres:Tryz.f13.results.toList=[.tmp 2]:=rfl
 have hb:=NetBox.of (N:=⟨[],0,[],[]⟩) hw (Sl.nil H 1) (Sl.nil H 5) (Sl.nil H 2)
 have k:=Kept.new hw 4 [.slice none 0 0,.int .i64 (NetD.states ⟨[],0,[],[]⟩),.slice none 0 0,.slice none 0 0]
 unfold A33
 simp only [↓Sh.dn,sx,Nat.reduceBEq,reduceCtorEq,Nat.reduceEqDiff,A8b]
 simp only [] at hb k
 generalize H.next=gg at hb ⊢
 generalize (H.new 4 [.slice none 0 0,.int .i64 0,.slice none 0 0,.slice none 0 0]).2=H1 at hb k ⊢
 have z:((0:Nat):Int)=0:=rfl
 have l0:=fun H'=>hb.hsg.len Tryz.underlying22 H'
 have l2:=fun H'=>hb.har.len Tryz.underlying23 H'
 have l3:=fun H'=>hb.hen.len Tryz.underlying24 H'
 simp only [List.map_nil,List.length_nil,z] at l0 l2 l3
 simp only [↓Sh.dn,sx,Nat.reduceBEq,reduceCtorEq,Nat.reduceEqDiff,hb.c0,hb.c1,hb.c2,hb.c3,hb.ca,A3a hb,A2a hb,A1a hb,l0,l2,l3,List.length_nil,z,eq_self,decide_true,hres]
 exact k
theorem lawMade {H:AH} {mv usg ux uy:Value} {M:NetD} {sigma x y:List ByteArray} (hM:A7l H mv M) (hsm:A6c M) (hE:A8g M=0) (hs:M.sigma=sigma) (hsg:Sl H usg 1 (sigma.map A0b)) (hsl:sigma.length≤1048576) (hx:Sl H ux 1 (x.map A0b)) (hy:Sl H uy 1 (y.map A0b)) (hxl:x.length≤400) (hyl:y.length≤400) {b:Bool} (hb:b=tB (A2m M x y)) (hw:Wf H):
  Sh.Call Tryz.prog (knows 8) 15 [mv,usg,ux,uy,.bool b] H (fun r H'=>Kept H H'∧r=.bool true):=by
 subst hb
 refine A3b rfl Tryz.func15 rfl (Nat.le_of_ble_eq_true rfl) ?_
 have hres:Tryz.f15.results.toList=[.tmp 10]:=rfl
 obtain ⟨sg,ar,en,rfl,s1,s2,s3⟩:=hM
 have hb1:=NetBox.of (N:=M) hw s1 s2 s3
 have k1:=Kept.new hw 4 [sg,.int .i64 M.states,ar,en]
 simp only [↓Sh.dn,sx,Nat.reduceBEq,reduceCtorEq,Nat.reduceEqDiff,A2n s1.isCell s2.isCell s3.isCell]
 generalize H.next=gg at hb1 ⊢
 generalize (H.new 4 [sg,.int .i64 M.states,ar,en]).2=H1 at hb1 k1 ⊢
 obtain ⟨r2,H2,hd2,k2,rfl⟩:=B2a hb1.netAt hsm k1.wf
 have k12:=k1.trans k2
 have hb2:=hb1.kept k1.wf k2
 obtain ⟨r3,H3,hd3,rfl,rfl⟩:=C6o hb2.hsg (hsg.grow (k12.grow hw)) (by rw [hs]; exact hsl) hsl k12.wf
 obtain ⟨okM,_,_⟩:=A8h hE
 obtain ⟨r4,H4,hd4,k4,rfl⟩:=B2x hb2.netAt okM hsm (hx.grow (k12.grow hw)) (hy.grow (k12.grow hw)) hxl hyl k12.wf
 rw [decide_eq_true hs] at hd3
 rw [hE] at hd2
 simp only [↓Sh.dn,sx,Nat.reduceBEq,reduceCtorEq,Nat.reduceEqDiff,hb1.c0,hb1.c1,hb1.c2,hb1.c3,hb1.ca,A3a hb1,A2a hb1,A1a hb1,Option.map_some]
 refine ⟨_,_,hd2,?_⟩
 simp only [↓Sh.dn,sx,Nat.reduceBEq,reduceCtorEq,Nat.reduceEqDiff,hb2.c0,hb2.c1,hb2.c2,hb2.c3,hb2.ca,A3a hb2,A2a hb2,A1a hb2,Option.map_some,eq_self,decide_true]
 refine ⟨_,_,hd3,?_⟩
 simp only [↓Sh.dn,sx,Nat.reduceBEq,reduceCtorEq,Nat.reduceEqDiff,hb2.c0,hb2.c1,hb2.c2,hb2.c3,hb2.ca,A3a hb2,A2a hb2,A1a hb2,Option.map_some]
 refine ⟨_,_,hd4,?_⟩
 simp only [↓Sh.dn,sx,Nat.reduceBEq,reduceCtorEq,Nat.reduceEqDiff,boolEq,hres]
 exact k12.trans k4
theorem refMade1 {H:AH} {va vb ux uy:Value} {A B:NetD} {x y:List ByteArray} (ha:A7l H va A) (hb:A7l H vb B) (hA:A6c A) (hB:A6c B) (okA:A7o A) (okB:A7o B) (hx:Sl H ux 1 (x.map A0b)) (hy:Sl H uy 1 (y.map A0b)) (hxl:x.length≤400) (hyl:y.length≤400) (hw:Wf H):
  Sh.Call Tryz.prog (knows 8) 16 [va,vb,.int .i64 1,ux,uy] H (fun r H'=>Kept H H'∧r=.bool (tB (A2m A x y∨A2m B x y))):=by
 refine A3b rfl Tryz.func16 rfl (Nat.le_of_ble_eq_true rfl) ?_
 have hres:Tryz.f16.results.toList=[.tmp 10]:=rfl
 obtain ⟨sgA,arA,enA,rfl,s1,s2,s3⟩:=ha
 obtain ⟨sgB,arB,enB,rfl,t1,t2,t3⟩:=hb
 have bA:=NetBox.of (N:=A) hw s1 s2 s3
 have k1:=Kept.new hw 4 [sgA,.int .i64 A.states,arA,enA]
 have bB:=NetBox.of (N:=B) k1.wf (t1.grow (k1.grow hw)) (t2.grow (k1.grow hw)) (t3.grow (k1.grow hw))
 have k2:=k1.news 4 [sgB,.int .i64 B.states,arB,enB]
 have bA2:=bA.new k1.wf 4 [sgB,.int .i64 B.states,arB,enB]
 simp only [↓Sh.dn,sx,Nat.reduceBEq,reduceCtorEq,Nat.reduceEqDiff,A2n s1.isCell s2.isCell s3.isCell,A2n t1.isCell t2.isCell t3.isCell]
 obtain ⟨H1,hH1⟩:∃ K,(H.new 4 [sgA,.int .i64 A.states,arA,enA]).2=K:=⟨_,rfl⟩
 simp only [hH1] at k1 bB bA k2 bA2 ⊢
 obtain ⟨H2,hH2⟩:∃ K,(H1.new 4 [sgB,.int .i64 B.states,arB,enB]).2=K:=⟨_,rfl⟩
 simp only [hH2] at bB k2 bA2 ⊢
 generalize H.next=gA at bA2 ⊢
 generalize H1.next=gB at bB ⊢
 obtain ⟨r3,H3,hd3,k3,rfl⟩:=B2x bA2.netAt okA hA (hx.grow (k2.grow hw)) (hy.grow (k2.grow hw)) hxl hyl k2.wf
 have bB3:=bB.kept k2.wf k3
 have k23:=k2.trans k3
 obtain ⟨r4,H4,hd4,k4,rfl⟩:=B2x bB3.netAt okB hB (hx.grow (k23.grow hw)) (hy.grow (k23.grow hw)) hxl hyl k23.wf
 have i10:decide ((1:Int)=0)=false:=rfl
 have i11:decide ((1:Int)=1)=true:=rfl
 simp only [↓Sh.dn,sx,Nat.reduceBEq,reduceCtorEq,Nat.reduceEqDiff,bA2.c0,bA2.c1,bA2.c2,bA2.c3,bA2.ca,A3a bA2,A2a bA2,A1a bA2,Option.map_some,i10,i11,eq_self,decide_true,decide_false]
 refine ⟨_,_,hd3,?_⟩
 cases hp:tB (A2m A x y) with
 | true=>
  have e:tB (A2m A x y∨A2m B x y)=true:=A25.2 (.inl (A25.1 hp))
  simp only [↓Sh.dn,sx,Nat.reduceBEq,reduceCtorEq,Nat.reduceEqDiff,hres,e]
  exact k23
 | false=>
  have e:tB (A2m A x y∨A2m B x y)=tB (A2m B x y):=by
   rw [Bool.eq_iff_iff,A25,A25]
   have:¬A2m A x y:=fun h=>by rw [A25.2 h] at hp; cases hp
   simp [this]
  simp only [↓Sh.dn,sx,Nat.reduceBEq,reduceCtorEq,Nat.reduceEqDiff,bB3.c0,bB3.c1,bB3.c2,bB3.c3,bB3.ca,A3a bB3,A2a bB3,A1a bB3,Option.map_some]
  refine ⟨_,_,hd4,?_⟩
  simp only [↓Sh.dn,sx,Nat.reduceBEq,reduceCtorEq,Nat.reduceEqDiff,hres,e]
  exact k23.trans k4
end Go.Proofs.YtnoengaghabmjaaGreatDoor
/- What laws of relations have alike: whether nets and words are far too large. -/
namespace Go.Proofs.YtnoengaghabmjaaGreatDoor
open Go Go.Proofs Go.Proofs.Sh
theorem lawLong {H:AH} {v:Value} {ws:List (List ByteArray)} {vs:List Value} (h:JagR H v 1 (ws.map fun w=>w.map A0b) vs) (hl:ws.length≤1048576):
  Sh.Call Tryz.prog (knows 8) 10 [v] H (fun r H'=>H'=H∧r=.bool (ws.any fun w=>decide (240 < w.length))):=by
 refine A3b rfl Tryz.func10 rfl (Nat.le_of_ble_eq_true rfl) ?_
 have hres:Tryz.f10.results.toList=[.tmp 2]:=rfl
 have hlen:∀ H',A8a Tryz.prog .len [48] [v] H'=some (.int .i64 (ws.length:Int),H'):=fun H'=>by
  rw [h.sl.len Tryz.underlying48,List.length_map,h.len,List.length_map]
 simp only [↓Sh.dn,sx,Nat.reduceBEq,reduceCtorEq,Nat.reduceEqDiff]
 refine A6i ws.length 3 (List.range' 3 14) (fun i F H'=>H'=H∧∀ w∈ws.take i,¬240 < w.length) (by simp only [↓Sh.dn,sx,Nat.reduceBEq,reduceCtorEq,Nat.reduceEqDiff]) ⟨rfl,by simp⟩ ?_ ?_
 ·rintro i F H' hi hF f3 ⟨rfl,hall⟩ k
  have f0:=hF 0 rfl
  simp only [↓Sh.dn,sx,Nat.reduceBEq,reduceCtorEq,Nat.reduceEqDiff] at f0
  obtain ⟨g1,o1,q1,w1,i1,c1,s1⟩:=h.at Tryz.underlying48 A5v (i:=i) (r:=ws[i].map A0b) (by rw [List.getElem?_map,List.getElem?_eq_getElem hi]; rfl)
  have htk:ws.take (i+1)=ws.take i++[ws[i]]:=by rw [List.take_add_one,List.getElem?_eq_getElem hi]; rfl
  have hm:ws[i]∈ws:=List.getElem_mem hi
  generalize ws[i]=w at s1 htk hm
  have hlw:=s1.len Tryz.underlying22 H'
  simp only [List.length_map] at hlw
  have d:decide ((240:Int) < (w.length:Int))=decide (240 < w.length):=decide_eq_decide.2 (by omega)
  by_cases hd:240 < w.length
  ·have:(ws.any fun w=>decide (240 < w.length))=true:=List.any_eq_true.2 ⟨w,hm,decide_eq_true hd⟩
   simp only [↓Sh.dn,sx,Nat.reduceBEq,reduceCtorEq,Nat.reduceEqDiff,f0,f3,hlen,A1b,hi,decide_true,i1,c1,hlw,d,hd,hres,this]
  ·simp only [↓Sh.dn,sx,Nat.reduceBEq,reduceCtorEq,Nat.reduceEqDiff,f0,f3,hlen,A1b,hi,decide_true,i1,c1,hlw,d,hd,decide_false,A8e hi (by omega)]
   refine k _ _ (by repeat (first | refine Same.put ?_ rfl | exact Same.rfl' _)) (by simp only [↓Sh.dn,sx,Nat.reduceBEq,reduceCtorEq,Nat.reduceEqDiff]) ⟨rfl,fun u hu=>?_⟩
   rw [htk] at hu
   rcases List.mem_append.1 hu with h2 | h2
   ·exact hall u h2
   ·rw [List.mem_singleton.1 h2]; exact hd
 ·rintro F H' hF f3 ⟨rfl,hall⟩
  have f0:=hF 0 rfl
  simp only [↓Sh.dn,sx,Nat.reduceBEq,reduceCtorEq,Nat.reduceEqDiff] at f0
  rw [List.take_length] at hall
  have:(ws.any fun w=>decide (240 < w.length))=false:=by
   rw [List.any_eq_false]
   intro w hw
   rw [decide_eq_true_eq]; exact hall w hw
  simp only [↓Sh.dn,sx,Nat.reduceBEq,reduceCtorEq,Nat.reduceEqDiff,f0,f3,hlen,A1b,Nat.lt_irrefl,decide_false,hres,this]
def NetRow (H:AH) (r:List Value):Prop:=∃ (N:NetD) (sg ar en:Value),r=[sg,.int .i64 N.states,ar,en]∧Sl H sg 1 (N.sigma.map A0b)∧Sl H ar 5 (N.arcs.map ArcD.cells)∧Sl H en 2 (N.ends.map EndD.cells)∧A6c N
theorem lawOver {H:AH} {v:Value} {rows:List (List Value)} (h:Sl H v 4 rows) (hl:rows.length≤1048576) (hr:∀ r∈rows,NetRow H r):
  Sh.Call Tryz.prog (knows 8) 9 [v] H (fun r H'=>H'=H∧∃ b,r=.bool b):=by
 refine A3b rfl Tryz.func9 rfl (Nat.le_of_ble_eq_true rfl) ?_
 have hres:Tryz.f9.results.toList=[.tmp 2]:=rfl
 have hlen:∀ H',A8a Tryz.prog .len [51] [v] H'=some (.int .i64 (rows.length:Int),H'):=fun H'=>h.len Tryz.underlying51 H'
 simp only [↓Sh.dn,sx,Nat.reduceBEq,reduceCtorEq,Nat.reduceEqDiff]
 refine A6i rows.length 4 (List.range' 3 100) (fun i F H'=>H'=H∧∃ n,F.get 3=some (.int .i64 n)) (by simp only [↓Sh.dn,sx,Nat.reduceBEq,reduceCtorEq,Nat.reduceEqDiff]) ⟨rfl,0,by simp only [↓Sh.dn,sx,Nat.reduceBEq,reduceCtorEq,Nat.reduceEqDiff]⟩ ?_ ?_
 ·rintro i F H' hi hF f4 ⟨rfl,n,f3⟩ k
  have f0:=hF 0 rfl
  simp only [↓Sh.dn,sx,Nat.reduceBEq,reduceCtorEq,Nat.reduceEqDiff] at f0
  obtain ⟨g1,o1,q1,i1,_,c1⟩:=h.at Tryz.underlying51 A5n (i:=i) (List.getElem?_eq_getElem hi) .i64
  obtain ⟨N,sg,ar,en,hrow,hsg,har,hen,hsm⟩:=hr _ (List.getElem_mem hi)
  have d0:=c1 0 sg (by rw [hrow]; rfl)
  have d2:=c1 2 ar (by rw [hrow]; rfl)
  have d3:=c1 3 en (by rw [hrow]; rfl)
  simp only [Nat.add_zero] at d0
  have l0:=fun H'=>hsg.len Tryz.underlying22 H'
  have l2:=fun H'=>har.len Tryz.underlying23 H'
  have l3:=fun H'=>hen.len Tryz.underlying24 H'
  simp only [List.length_map] at l0 l2 l3
  have hs0:=hsm.sg
  have hs2:=hsm.ar
  simp only [↓Sh.dn,sx,Nat.reduceBEq,reduceCtorEq,Nat.reduceEqDiff,f0,f4,hlen,A1b,hi,decide_true,i1,d0,l0]
  have e0:decide ((400:Int) < (N.sigma.length:Int))=decide (400 < N.sigma.length):=decide_eq_decide.2 (by omega)
  have e2:decide ((120000:Int) < (N.arcs.length:Int))=decide (120000 < N.arcs.length):=decide_eq_decide.2 (by omega)
  have e3:decide ((120000:Int) < (N.ends.length:Int))=decide (120000 < N.ends.length):=decide_eq_decide.2 (by omega)
  cases h0:decide (400 < N.sigma.length) with
  | true=>simp only [↓Sh.dn,sx,Nat.reduceBEq,reduceCtorEq,Nat.reduceEqDiff,e0,h0,hres]
  | false=>
  cases h2:decide (120000 < N.arcs.length) with
  | true=>simp only [↓Sh.dn,sx,Nat.reduceBEq,reduceCtorEq,Nat.reduceEqDiff,e0,h0,f0,f4,i1,d2,l2,e2,h2,hres]
  | false=>
  cases h3:decide (120000 < N.ends.length) with
  | true=>simp only [↓Sh.dn,sx,Nat.reduceBEq,reduceCtorEq,Nat.reduceEqDiff,e0,h0,f0,f4,i1,d2,l2,e2,h2,d3,l3,e3,h3,hres]
  | false=>
  simp only [↓Sh.dn,sx,Nat.reduceBEq,reduceCtorEq,Nat.reduceEqDiff,e0,h0,f0,f4,i1,d2,l2,e2,h2,d3,l3,e3,h3]
  refine A6i N.sigma.length 5 (List.range' 38 21++[3,5]) (fun q F2 H2=>H2=H'∧∃ n,F2.get 3=some (.int .i64 n)) (by simp only [↓Sh.dn,sx,Nat.reduceBEq,reduceCtorEq,Nat.reduceEqDiff]) ⟨rfl,n,by simp only [↓Sh.dn,sx,Nat.reduceBEq,reduceCtorEq,Nat.reduceEqDiff,f3]⟩ ?_ ?_
  ·rintro q F2 H2 hq hF2 f5 ⟨rfl,n2,g3⟩ k2
   have g0:=hF2 0 rfl
   have g4:=hF2 4 rfl
   simp only [↓Sh.dn,sx,Nat.reduceBEq,reduceCtorEq,Nat.reduceEqDiff,f0,f4] at g0 g4
   obtain ⟨p2,j2,e2'⟩:=Sl.elem (s:=1) Tryz.underlying22 A1l hsg (i:=q) (u:=.string N.sigma[q]) (by rw [List.getElem?_map,List.getElem?_eq_getElem hq]; rfl)
   simp only [↓Sh.dn,sx,Nat.reduceBEq,reduceCtorEq,Nat.reduceEqDiff,g0,g3,g4,f5,i1,d0,l0,A1b,hq,decide_true,j2,e2',A8e hq (by omega)]
   exact k2 _ _ (by repeat (first | refine Same.put ?_ rfl | exact Same.rfl' _)) (by simp only [↓Sh.dn,sx,Nat.reduceBEq,reduceCtorEq,Nat.reduceEqDiff]) ⟨rfl,_,by simp only [↓Sh.dn,sx,Nat.reduceBEq,reduceCtorEq,Nat.reduceEqDiff]; rfl⟩
  ·rintro F2 H2 hF2 f5 ⟨rfl,n2,g3⟩
   have g0:=hF2 0 rfl
   have g4:=hF2 4 rfl
   simp only [↓Sh.dn,sx,Nat.reduceBEq,reduceCtorEq,Nat.reduceEqDiff,f0,f4] at g0 g4
   simp only [↓Sh.dn,sx,Nat.reduceBEq,reduceCtorEq,Nat.reduceEqDiff,g0,g4,f5,i1,d0,l0,A1b,Nat.lt_irrefl,decide_false]
   refine A6w (m:=N.arcs.length) (fun m F3 H3=>H3=H2∧Same (List.range' 38 61++[3,6]) F2 F3∧∃ q n,m+q=N.arcs.length∧F3.get 6=some (.int .i64 ((q:Nat):Int))∧F3.get 3=some (.int .i64 n)) ⟨rfl,(by repeat (first | refine Same.put ?_ rfl | exact Same.rfl' _)),0,n2,by omega,by simp only [↓Sh.dn,sx,Nat.reduceBEq,reduceCtorEq,Nat.reduceEqDiff]; rfl,by simp only [↓Sh.dn,sx,Nat.reduceBEq,reduceCtorEq,Nat.reduceEqDiff,g3]⟩ ?_
   rintro m F3 H3 ⟨rfl,hS,q,n3,hmq,e6,e3'⟩ k3
   have u0:=hS 0 rfl
   have u4:=hS 4 rfl
   simp only [↓Sh.dn,sx,Nat.reduceBEq,reduceCtorEq,Nat.reduceEqDiff,g0,g4] at u0 u4
   have wi:=A8e hi (by omega)
   have fin:Same (List.range' 3 100) F F3:=by
    refine Same.trans ?_ (hS.sub rfl)
    refine Same.trans ?_ (hF2.sub rfl)
    exact (by repeat (first | refine Same.put ?_ rfl | exact Same.rfl' _))
   by_cases hq:q < N.arcs.length
   ·cases hn:decide (n3≤240000) with
    | false=>
     simp only [↓Sh.dn,sx,Nat.reduceBEq,reduceCtorEq,Nat.reduceEqDiff,u0,u4,e6,e3',i1,d2,l2,A1b,hq,decide_true,hn,wi]
     refine k _ _ ?_ (by simp only [↓Sh.dn,sx,Nat.reduceBEq,reduceCtorEq,Nat.reduceEqDiff]) ⟨rfl,n3,by simp only [↓Sh.dn,sx,Nat.reduceBEq,reduceCtorEq,Nat.reduceEqDiff,e3']⟩
     repeat refine Same.put ?_ rfl
     exact fin
    | true=>
     obtain ⟨ga,oa,ka,ja,_,ca⟩:=har.at Tryz.underlying23 A1m (i:=q) (x:=N.arcs[q].cells) (by simp [hq]) .i64
     have x1:=ca 1 (.string N.arcs[q].inn) rfl
     have x2:=ca 2 (.string N.arcs[q].out) rfl
     simp only [↓Sh.dn,sx,Nat.reduceBEq,reduceCtorEq,Nat.reduceEqDiff,u0,u4,e6,e3',i1,d2,l2,A1b,hq,decide_true,hn,ja,x1,x2,A8e hq (by omega)]
     refine k3 (N.arcs.length - (q+1)) _ _ (by omega) ⟨rfl,?_,q+1,_,by omega,by simp only [↓Sh.dn,sx,Nat.reduceBEq,reduceCtorEq,Nat.reduceEqDiff],by simp only [↓Sh.dn,sx,Nat.reduceBEq,reduceCtorEq,Nat.reduceEqDiff]; rfl⟩
     repeat refine Same.put ?_ rfl
     exact hS
   ·have hd:decide (q < N.arcs.length)=false:=decide_eq_false hq
    simp only [↓Sh.dn,sx,Nat.reduceBEq,reduceCtorEq,Nat.reduceEqDiff,u0,u4,e6,i1,d2,l2,A1b,hd,wi]
    refine k _ _ ?_ (by simp only [↓Sh.dn,sx,Nat.reduceBEq,reduceCtorEq,Nat.reduceEqDiff]) ⟨rfl,n3,by simp only [↓Sh.dn,sx,Nat.reduceBEq,reduceCtorEq,Nat.reduceEqDiff,e3']⟩
    repeat refine Same.put ?_ rfl
    exact fin
 ·rintro F H' hF f4 ⟨rfl,n,f3⟩
  have f0:=hF 0 rfl
  simp only [↓Sh.dn,sx,Nat.reduceBEq,reduceCtorEq,Nat.reduceEqDiff] at f0
  simp only [↓Sh.dn,sx,Nat.reduceBEq,reduceCtorEq,Nat.reduceEqDiff,f0,f3,f4,hlen,A1b,Nat.lt_irrefl,decide_false,hres]
end Go.Proofs.YtnoengaghabmjaaGreatDoor
/- Whether there is far more in a net than may be. -/
namespace Go.Proofs.YtnoengaghabmjaaGreatDoor
open Go Go.Proofs Go.Proofs.Sh
def B7m (l:List ByteArray):Nat:=(l.map fun s=>s.size).sum
end Go.Proofs.YtnoengaghabmjaaGreatDoor
/- What comes in: lists of texts, nets. -/
namespace Go.Proofs.YtnoengaghabmjaaGreatDoor
open Go Go.Proofs Go.Proofs.Sh
section
variable {K:Type}
theorem bulk_pos:∀ (d:DataW K),1≤Rows.uptoBulk d
 | .lit l=>by cases l <;> simp [Rows.uptoBulk]
 | .nil=>by simp [Rows.uptoBulk]
 | .ptr d=>by simp [Rows.uptoBulk]
 | .slice a b=>by simp [Rows.uptoBulk]
 | .agg a=>by simp [Rows.uptoBulk]
 | .iface n d=>by simp [Rows.uptoBulk]
 | .map es=>by simp [Rows.uptoBulk]
 | .held h=>by simp [Rows.uptoBulk]
theorem B8k:∀ (ds:List (DataW K)),ds.length≤Rows.uptoBulkAll ds
 | []=>Nat.zero_le _
 | d :: ds=>by
  have:=bulk_pos d
  have:=B8k ds
  simp only [Rows.uptoBulkAll,List.length_cons]; omega
theorem A9q:∀ {ds:List (DataW K)} {d:DataW K},d∈ds→Rows.uptoBulk d≤Rows.uptoBulkAll ds
 | d :: ds,x,h=>by
  simp only [Rows.uptoBulkAll]
  rcases List.mem_cons.1 h with rfl | h
  ·omega
  ·have:=A9q h; omega
theorem B1d {α β:Type} {f:α→β}:∀ {l:List β},(∀ x∈l,∃ a,x=f a)→∃ L:List α,l=L.map f
 | [],_=>⟨[],rfl⟩
 | x :: l,h=>by
  obtain ⟨a,rfl⟩:=h x List.mem_cons_self
  obtain ⟨L,rfl⟩:=B1d (l:=l) fun y hy=>h y (List.mem_cons_of_mem _ hy)
  exact ⟨a :: L,rfl⟩
theorem B0y {α:Type} {enc:α→List Value} {H:AH} {f t e s:Nat} {cs:List Value} {d:DataW K} (R:α→DataW K→Prop) (hu:Tryz.prog.underlying t=some (.slice e)) (hs:Tryz.prog.cellsOf e=s)
  (hR:∀ f x y,RD Tryz.prog H f e x y→∃ a,x=enc a∧R a y) (h:RD Tryz.prog H f t cs d):
  ∃ u,∃ L:List α,∃ ds,cs=[u]∧Sl H u s (L.map enc)∧L.length=ds.length∧(∀ (i:Nat) a y,L[i]?=some a→ds[i]?=some y→enc a=enc a→∃ a',enc a'=enc a∧R a' y)∧Rows.uptoBulkAll ds < Rows.uptoBulk d:=by
 obtain ⟨l,ds,⟨u,rfl,hsl⟩,hlen,hel,hd⟩:=RD.slice hu hs h
 have hget:∀ (i:Nat) x,l[i]?=some x→∃ y a,ds[i]?=some y∧x=enc a∧R a y:=by
  intro i x hx
  have hi:=(List.getElem?_eq_some_iff.1 hx).1
  have hy:ds[i]?=some (ds[i]'(by omega)):=List.getElem?_eq_getElem (by omega)
  obtain ⟨f',hf⟩:=hel i x _ hx hy
  obtain ⟨a,h1,h2⟩:=hR f' x _ hf
  exact ⟨_,a,hy,h1,h2⟩
 obtain ⟨L,rfl⟩:=B1d (f:=enc) (l:=l) fun x hx=>by
  obtain ⟨i,hi⟩:=List.mem_iff_getElem?.1 hx
  obtain ⟨y,a,_,h2,_⟩:=hget i x hi
  exact ⟨a,h2⟩
 refine ⟨u,L,ds,rfl,hsl,by simpa using hlen,fun i a y ha hy _=>?_,?_⟩
 ·obtain ⟨y',a',h1,h2,h3⟩:=hget i (enc a) (by simp [ha])
  rw [hy] at h1
  injection h1 with h1
  subst h1
  exact ⟨a',h2.symm,h3⟩
 ·rcases hd with ⟨rfl,rfl⟩ | ⟨sp,rfl⟩
  ·simp [Rows.uptoBulk,Rows.uptoBulkAll]
  ·simp only [Rows.uptoBulk]; omega
theorem C9j {H:AH} {f:Nat} {x:List Value} {y:DataW K} (h:RD Tryz.prog H f 9 x y):∃ s,x=A0b s∧y=.lit (.string s.data.toList):=RD.str Tryz.underlying9 h
theorem B0d {H:AH} {f:Nat} {x:List Value} {y:DataW K} (h:RD Tryz.prog H f 3 x y):∃ n,x=[.int .i64 n]∧-9223372036854775808≤n∧n < 9223372036854775808:=RD.int Tryz.underlying3 h
theorem B8t:∀ {L:List ByteArray} {ds:List (DataW K)},L.length=ds.length→(∀ (i:Nat) a y,L[i]?=some a→ds[i]?=some y→y=.lit (.string a.data.toList))→Rows.uptoBulkAll ds=B7m L+L.length
 | [],[],_,_=>rfl
 | [],_ :: _,h,_=>by simp at h
 | _ :: _,[],h,_=>by simp at h
 | a :: L,d :: ds,h,hr=>by
  have h0:=hr 0 a d rfl rfl
  have ih:=B8t (L:=L) (ds:=ds) (by simpa using h) fun i a y h1 h2=>hr (i+1) a y (by simpa using h1) (by simpa using h2)
  subst h0
  have e:a.data.toList.length=a.size:=by rw [Array.length_toList]; rfl
  simp only [Rows.uptoBulkAll,Rows.uptoBulk,ih,B7m,List.map_cons,List.sum_cons,List.length_cons,e]
  omega
theorem B1u {a b:ByteArray} (h:A0b a=A0b b):a=b:=by
 simp only [A0b,List.cons.injEq,Value.string.injEq,and_true] at h; exact h
theorem B8w {H:AH} {f:Nat} {cs:List Value} {d:DataW K} (h:RD Tryz.prog H f 22 cs d):∃ u,∃ L:List ByteArray,cs=[u]∧Sl H u 1 (L.map A0b)∧B7m L+L.length < Rows.uptoBulk d:=by
 obtain ⟨u,L,ds,h1,h2,h3,h4,h5⟩:=B0y (enc:=A0b) (fun s y=>y=.lit (.string s.data.toList)) Tryz.underlying22 C5f (fun f x y hf=>C9j hf) h
 refine ⟨u,L,h1,h2,?_⟩
 rw [← B8t h3 fun i a y ha hy=>by
  obtain ⟨a',e,hr⟩:=h4 i a y ha hy rfl
  rw [← B1u e]; exact hr]
 exact h5
theorem C8d {L:List ByteArray} {x:ByteArray} (h:x∈L):x.size≤B7m L:=by
 induction L with
 | nil=>cases h
 | cons a L ih=>
  simp only [B7m,List.map_cons,List.sum_cons] at ih ⊢
  rcases List.mem_cons.1 h with rfl | h
  ·omega
  ·have:=ih h; omega
theorem four {c:List Value} (h:c.length=4):∃ a b x y,c=[a,b,x,y]:=by
 match c,h with
 | [a,b,x,y],_=>exact ⟨a,b,x,y,rfl⟩
theorem five {c:List Value} (h:c.length=5):∃ a b x y z,c=[a,b,x,y,z]:=by
 match c,h with
 | [a,b,x,y,z],_=>exact ⟨a,b,x,y,z,rfl⟩
theorem two {c:List Value} (h:c.length=2):∃ a b,c=[a,b]:=by
 match c,h with
 | [a,b],_=>exact ⟨a,b,rfl⟩
theorem A6j {ds:List (DataW K)} {n i:Nat} (h:ds.length=n) (hi:i < n):∃ x,ds[i]?=some x:=⟨ds[i]'(by omega),List.getElem?_eq_getElem (by omega)⟩
theorem arc_in {H:AH} {f:Nat} {x:List Value} {y:DataW K} (h:RD Tryz.prog H f 43 x y):∃ a:ArcD,x=a.cells∧True:=by
 ·obtain ⟨f',ds,rfl,h1,h2,h3⟩:=RD.struct Tryz.underlying43 h
  rw [B11] at h1
  obtain ⟨a,b,c,d,e,rfl⟩:=five h1
  have h2':ds.length=5:=h2
  obtain ⟨d0,e0⟩:=A6j h2' (i:=0) (by omega)
  obtain ⟨d1,e1⟩:=A6j h2' (i:=1) (by omega)
  obtain ⟨d2,e2⟩:=A6j h2' (i:=2) (by omega)
  obtain ⟨d3,e3⟩:=A6j h2' (i:=3) (by omega)
  obtain ⟨d4,e4⟩:=A6j h2' (i:=4) (by omega)
  have g0:=h3 0 _ _ rfl e0
  have g1:=h3 1 _ _ rfl e1
  have g2:=h3 2 _ _ rfl e2
  have g3:=h3 3 _ _ rfl e3
  have g4:=h3 4 _ _ rfl e4
  simp only [B2v,C5f,List.drop_zero,List.drop_succ_cons,List.take_succ_cons,List.take_zero,List.getElem_toArray,List.getElem_cons_zero,List.getElem_cons_succ] at g0 g1 g2 g3 g4
  obtain ⟨n0,q0,_⟩:=B0d g0
  obtain ⟨s1,q1,_⟩:=C9j g1
  obtain ⟨s2,q2,_⟩:=C9j g2
  obtain ⟨n3,q3,_⟩:=B0d g3
  obtain ⟨n4,q4,_⟩:=B0d g4
  simp only [A0b,List.cons.injEq,and_true] at q0 q1 q2 q3 q4
  subst q0 q1 q2 q3 q4
  exact ⟨⟨n0,s1,s2,n3,n4⟩,rfl,trivial⟩
theorem end_in {H:AH} {f:Nat} {x:List Value} {y:DataW K} (h:RD Tryz.prog H f 45 x y):∃ a:EndD,x=a.cells∧True:=by
 ·obtain ⟨f',ds,rfl,h1,h2,h3⟩:=RD.struct Tryz.underlying45 h
  rw [B95] at h1
  obtain ⟨a,b,rfl⟩:=two h1
  have h2':ds.length=2:=h2
  obtain ⟨d0,e0⟩:=A6j h2' (i:=0) (by omega)
  obtain ⟨d1,e1⟩:=A6j h2' (i:=1) (by omega)
  have g0:=h3 0 _ _ rfl e0
  have g1:=h3 1 _ _ rfl e1
  simp only [B2v,List.drop_zero,List.drop_succ_cons,List.take_succ_cons,List.take_zero,List.getElem_toArray,List.getElem_cons_zero,List.getElem_cons_succ] at g0 g1
  obtain ⟨n0,q0,_⟩:=B0d g0
  obtain ⟨n1,q1,_⟩:=B0d g1
  simp only [List.cons.injEq,and_true] at q0 q1
  subst q0 q1
  exact ⟨⟨n0,n1⟩,rfl,trivial⟩
theorem agg_of {v:Value} {a b:Value} {l:List Value} (h:A7a v=a :: b :: l):v=.agg (a :: b :: l).toArray:=by
 cases v <;> simp only [A7a] at h <;> try (cases h; done)
 rw [← h]
theorem net_in {H:AH} {f:Nat} {v:Value} {d:DataW K} (h:RD Tryz.prog H f 26 (A7a v) d) (hb:Rows.uptoBulk d≤1048576):∃ N:NetD,Nonempty (A7l H v N)∧A6c N∧B7m N.sigma≤1048576:=by
 ·obtain ⟨f',ds,rfl,h1,h2,h3⟩:=RD.struct Tryz.underlying26 h
  rw [B82] at h1
  obtain ⟨a,b,c,e,hv⟩:=four h1
  rw [hv] at h3
  have h2':ds.length=4:=h2
  obtain ⟨d0,e0⟩:=A6j h2' (i:=0) (by omega)
  obtain ⟨d1,e1⟩:=A6j h2' (i:=1) (by omega)
  obtain ⟨d2,e2⟩:=A6j h2' (i:=2) (by omega)
  obtain ⟨d3,e3⟩:=A6j h2' (i:=3) (by omega)
  have g0:=h3 0 _ _ rfl e0
  have g1:=h3 1 _ _ rfl e1
  have g2:=h3 2 _ _ rfl e2
  have g3:=h3 3 _ _ rfl e3
  simp only [B2v,B27,cells_23,cells_24,List.drop_zero,List.drop_succ_cons,List.take_succ_cons,List.take_zero,List.getElem_toArray,List.getElem_cons_zero,List.getElem_cons_succ] at g0 g1 g2 g3
  obtain ⟨u0,L0,q0,s0,b0⟩:=B8w g0
  obtain ⟨n1,q1,_⟩:=B0d g1
  obtain ⟨u2,L2,ds2,q2,s2,k2,_,b2⟩:=B0y (enc:=ArcD.cells) (fun _ _=>True) Tryz.underlying23 B11 (fun f x y hf=>arc_in hf) g2
  obtain ⟨u3,L3,ds3,q3,s3,k3,_,b3⟩:=B0y (enc:=EndD.cells) (fun _ _=>True) Tryz.underlying24 B95 (fun f x y hf=>end_in hf) g3
  simp only [List.cons.injEq,and_true] at q0 q1 q2 q3
  subst q0 q1 q2 q3
  have m0:=A9q (List.mem_of_getElem? e0)
  have m2:=A9q (List.mem_of_getElem? e2)
  have m3:=A9q (List.mem_of_getElem? e3)
  have l2:=B8k ds2
  have l3:=B8k ds3
  simp only [Rows.uptoBulk] at hb
  refine ⟨⟨L0,n1,L2,L3⟩,⟨⟨a,c,e,agg_of hv,s0,s2,s3⟩⟩,⟨?_,?_,?_,fun x hx=>?_⟩,?_⟩
  ·show L0.length≤_; omega
  ·show L2.length≤_; omega
  ·show L3.length≤_; omega
  ·have:=C8d hx; show x.size≤_; have h':x.size≤B7m L0:=this; omega
  ·show B7m L0≤_; omega
end
end Go.Proofs.YtnoengaghabmjaaGreatDoor
