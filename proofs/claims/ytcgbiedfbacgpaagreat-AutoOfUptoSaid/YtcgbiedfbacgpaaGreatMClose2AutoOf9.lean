/- A part of the proof: RefSorted, RefBefore, InsSortStr, SortSmallStr, BreakPatStr, HeapSortStr, PartitionStr, PartInsStr, PdqStr, SortStrsStr, SortStrings, RefSymbols, GraphSteps, GraphMore, SpreadAlive, SpreadBeyond, GraphAlive, GraphWalk, GraphWalk2, GraphFirst, GraphBeyond, GraphTexts, GraphWords, RefWalk, RefWalk2, RefShort, GraphTrim, GraphTrim2, AutoWords, RefWords, SameNet, IsOver, IsLong. -/
import Derived.Test.YtcgbiedfbacgpaaGreatMClose2AutoOf5
import Derived.Test.YtcgbiedfbacgpaaGreatMClose2AutoOf7
import Derived.Test.YtcgbiedfbacgpaaGreatMClose2AutoOf8
import Derived.Test.YtcgbiedfbacgpaaGreatMClose2AutoOf6
import Derived.Test.YtcgbiedfbacgpaaGreatMClose2AutoOf2
import Derived.Test.YtcgbiedfbacgpaaGreatMClose2AutoOf4
set_option linter.unusedVariables false
set_option linter.unusedSimpArgs false
/- The reference's Sorted: words in order, each once. -/
set_option maxHeartbeats 4000000
set_option maxRecDepth 20000
set_option linter.unusedSimpArgs false
set_option linter.unusedVariables false
namespace Go.Proofs.YtcgbiedfbacgpaaGreat
open Go Go.Proofs Go.Proofs.Sh
def shLt:List ByteArray→List ByteArray→Prop:=ShLt fun a b=>A0b a b=true
theorem C9o:∀ u:List ByteArray,¬B8r (fun a b=>A0b a b=true) u u
 | [],h=>by cases h
 | a :: x,h=>by
  rcases h with h | ⟨_,h⟩
  ·rw [A3g] at h; cases h
  ·exact C9o x h
theorem lex_tr:∀ {u v w:List ByteArray},B8r (fun a b=>A0b a b=true) u v→B8r (fun a b=>A0b a b=true) v w→B8r (fun a b=>A0b a b=true) u w
 | [],_,_,h,_=>by cases h
 | _ :: _,[],_,h,_=>by cases h
 | _ :: _,_ :: _,[],_,h=>by cases h
 | a :: x,b :: y,c :: z,h,k=>by
  rcases h with h | ⟨rfl,h⟩
  ·rcases k with k | ⟨rfl,k⟩
   ·exact .inl (A6k h k)
   ·exact .inl h
  ·rcases k with k | ⟨rfl,k⟩
   ·exact .inl k
   ·exact .inr ⟨rfl,lex_tr h k⟩
theorem sh_irr (u:List ByteArray):¬shLt u u:=fun h=>by
 rcases h with h | ⟨_,h⟩
 ·omega
 ·exact C9o u h
theorem sh_tr (u v w:List ByteArray) (h:shLt u v) (k:shLt v w):shLt u w:=by
 rcases h with h | ⟨h,h2⟩
 ·rcases k with k | ⟨k,_⟩
  ·exact .inl (by omega)
  ·exact .inl (by omega)
 ·rcases k with k | ⟨k,k2⟩
  ·exact .inl (by omega)
  ·exact .inr ⟨by omega,lex_tr h2 k2⟩
theorem ord3:∀ {u v:List ByteArray},u.length=v.length→(ordW u v=-1∧B8r (fun a b=>A0b a b=true) u v)∨(ordW u v=0∧u=v)∨(ordW u v=1∧B8r (fun a b=>A0b a b=true) v u)
 | [],[],_=>.inr (.inl ⟨rfl,rfl⟩)
 | [],_ :: _,h=>by cases h
 | _ :: _,[],h=>by cases h
 | a :: x,b :: y,h=>by
  unfold ordW
  rcases A74 a b with h1 | h1 | h1
  ·exact .inl ⟨by rw [if_pos h1],.inl h1⟩
  ·subst h1
   rw [A3g,if_neg (by simp),if_pos rfl]
   rcases ord3 (u:=x) (v:=y) (by simpa using h) with ⟨h2,h3⟩ | ⟨h2,h3⟩ | ⟨h2,h3⟩
   ·exact .inl ⟨h2,.inr ⟨rfl,h3⟩⟩
   ·exact .inr (.inl ⟨h2,by rw [h3]⟩)
   ·exact .inr (.inr ⟨h2,.inr ⟨rfl,h3⟩⟩)
  ·have h2:¬A0b a b=true:=fun h2=>by have:=A6k h1 h2; rw [A3g] at this; cases this
   have h3:a≠b:=fun e=>by rw [e,A3g] at h1; cases h1
   exact .inr (.inr ⟨by rw [if_neg h2,if_neg h3],.inl h1⟩)
theorem cmp3 (u v:List ByteArray):(cmpW u v=-1∧shLt u v)∨(cmpW u v=0∧u=v)∨(cmpW u v=1∧shLt v u):=by
 unfold cmpW
 by_cases h1:u.length < v.length
 ·exact .inl ⟨by rw [if_pos h1],.inl h1⟩
 ·by_cases h2:v.length < u.length
  ·exact .inr (.inr ⟨by rw [if_neg h1,if_pos h2],.inl h2⟩)
  ·have he:u.length=v.length:=by omega
   rw [if_neg h1,if_neg h2]
   rcases ord3 he with ⟨h3,h4⟩ | h3 | ⟨h3,h4⟩
   ·exact .inl ⟨h3,.inr ⟨he,h4⟩⟩
   ·exact .inr (.inl h3)
   ·exact .inr (.inr ⟨h3,.inr ⟨he.symm,h4⟩⟩)
def SortB (H:AH) (v:Value) (l:List (List ByteArray)):Prop:=
 ∃ (vs:List Value) (o:Option Nat),Buf H 1 v (vs.map fun x=>[x]) o∧(vs=[]→v=.slice none 0 0)∧vs.length=l.length∧∀ (j:Nat) x q,vs[j]?=some x→l[j]?=some q→Sl H x 1 (q.map A5a)
theorem SortB.kept {H H':AH} {v:Value} {l:List (List ByteArray)} (h:SortB H v l) (hw:Wf H) (hk:Kept H H'):SortB H' v l:=by
 obtain ⟨vs,o,h1,h2,h3,h4⟩:=h
 exact ⟨vs,o,h1.kept hw hk,h2,h3,fun j x q hx hq=>(h4 j x q hx hq).grow (hk.grow hw)⟩
theorem SortB.jag {H:AH} {v:Value} {l:List (List ByteArray)} (h:SortB H v l):∃ vs,JagR H v 1 (l.map fun q=>q.map A5a) vs:=by
 obtain ⟨vs,o,h1,h2,h3,h4⟩:=h
 refine ⟨vs,h1.toSl,by rw [List.length_map]; exact h3,fun i w r hw hr=>?_⟩
 rw [List.getElem?_map] at hr
 obtain ⟨q,hq,rfl⟩:=Option.map_eq_some_iff.1 hr
 exact h4 i w q hw hq
theorem rows_mid {α β:Type} {R:α→β→Prop} {A B:List α} {A' B':List β} {u:α} {w:β} (hl:A.length=A'.length) (hA:∀ (j:Nat) x q,A[j]?=some x→A'[j]?=some q→R x q) (hw:R u w) (hB:∀ (j:Nat) x q,B[j]?=some x→B'[j]?=some q→R x q):
  ∀ (j:Nat) x q,(A++u :: B)[j]?=some x→(A'++w :: B')[j]?=some q→R x q:=by
 intro j x q hx hq
 rcases Nat.lt_trichotomy j A.length with h | h | h
 ·rw [List.getElem?_append_left h] at hx
  rw [List.getElem?_append_left (by omega)] at hq
  exact hA j x q hx hq
 ·subst h
  rw [List.getElem?_append_right (Nat.le_refl _),Nat.sub_self] at hx
  rw [List.getElem?_append_right (by omega),hl,Nat.sub_self] at hq
  simp at hx hq
  rw [← hx,← hq]; exact hw
 ·rw [List.getElem?_append_right (by omega)] at hx
  rw [List.getElem?_append_right (by omega),← hl] at hq
  obtain ⟨d,hd⟩:∃ d,j - A.length=d+1:=⟨j - A.length - 1,by omega⟩
  rw [hd] at hx hq
  exact hB d x q hx hq
def IntoOut (H H':AH) (l:List (List ByteArray)) (w:List ByteArray) (r:Value):Prop:=
 Kept H H'∧∃ l',SortB H' r l'∧l'.Pairwise shLt∧(∀ x,x∈l'↔x∈l∨x=w)∧l'.length≤l.length+1
theorem refInto {H:AH} {v u:Value} {l:List (List ByteArray)} {w:List ByteArray} (hv:SortB H v l) (hu:Sl H u 1 (w.map A5a)) (hs:l.Pairwise shLt) (hll:l.length≤4000) (hlx:∀ q∈l,q.length≤1000) (hwl:w.length≤1000) (hw:Wf H):
  Sh.Call Tryz.prog (knows 7) 86 [v,u] H (fun r H'=>IntoOut H H' l w r):=by
 refine A3a rfl Tryz.func86 rfl (Nat.le_of_ble_eq_true rfl) ?_
 have hres:Tryz.f86.results.toList=[.tmp 4]:=rfl
 obtain ⟨vs,o,hb,hnil,hvl,hrow⟩:=id hv
 have A80:∀ {t:TypeId} {c:Bool} {x y:Int},y≠0→abin Tryz.prog t c .quo (.int .i64 x) (.int .i64 y)=some (.int .i64 (IntKind.wrap .i64 (x.tdiv y))):=by
  intro t c x y h
  simp only [abin,A8e,cond_true,aint,A6n,show (y == 0)=false from by simpa using h,cond_false]
 have hlen:∀ H',A2a Tryz.prog .len [29] [v] H'=some (.int .i64 (l.length:Int),H'):=fun H'=>by
  rw [hb.toSl.len Tryz.underlying29,List.length_map,hvl]
 have hlt:∀ {i j:Nat} {p q:List ByteArray},i < j→l[i]?=some p→l[j]?=some q→shLt p q:=fun {i j p q} hij hp hq=>by
  have h1:=(List.getElem?_eq_some_iff.1 hp)
  have h2:=(List.getElem?_eq_some_iff.1 hq)
  have:=List.pairwise_iff_getElem.1 hs i j h1.1 h2.1 hij
  rwa [h1.2,h2.2] at this
 simp only [↓Sh.dn,sx,Nat.reduceBEq,reduceCtorEq,Nat.reduceEqDiff,hlen]
 refine A4b (m:=l.length) (fun m F H'=>F.get 0=some v∧F.get 1=some u∧H'=H∧∃ lo hi:Nat,m=hi - lo∧lo≤hi∧hi≤l.length∧F.get 5=some (.int .i64 (lo:Int))∧F.get 6=some (.int .i64 (hi:Int))∧(∀ (j:Nat) q,j < lo→l[j]?=some q→shLt q w)∧∀ (j:Nat) q,hi≤j→l[j]?=some q→shLt w q)
  ⟨by simp only [↓Sh.dn,sx,Nat.reduceBEq,reduceCtorEq,Nat.reduceEqDiff],by simp only [↓Sh.dn,sx,Nat.reduceBEq,reduceCtorEq,Nat.reduceEqDiff],rfl,0,l.length,rfl,Nat.zero_le _,Nat.le_refl _,by simp only [↓Sh.dn,sx,Nat.reduceBEq,reduceCtorEq,Nat.reduceEqDiff]; rfl,by simp only [↓Sh.dn,sx,Nat.reduceBEq,reduceCtorEq,Nat.reduceEqDiff],fun j q hj=>absurd hj (Nat.not_lt_zero j),fun j q hj hq=>by
   have:=(List.getElem?_eq_some_iff.1 hq).1; omega⟩ ?_
 rintro m F H' ⟨f0,f1,rfl,lo,hi,rfl,hle,hhi,f5,f6,hlow,hhigh⟩ k
 by_cases hlh:lo < hi
 ·have hmid:(lo+hi) / 2 < l.length:=by omega
  have w1:IntKind.wrap .i64 ((lo:Int)+(hi:Int))=((lo+hi:Nat):Int):=by rw [wrap64 (by omega) (by omega)]; rfl
  have hq2:(Int.tdiv ((lo+hi:Nat):Int) 2)=(((lo+hi) / 2:Nat):Int):=by rw [Int.tdiv_eq_ediv_of_nonneg (by omega)]; rfl
  have w2:IntKind.wrap .i64 (((lo+hi) / 2:Nat):Int)=(((lo+hi) / 2:Nat):Int):=wrap64 (by omega) (by omega)
  have hml:lo≤(lo+hi) / 2:=by omega
  have hmh:(lo+hi) / 2 < hi:=by omega
  generalize hmd:(lo+hi) / 2=mid at hmid hq2 w2 hml hmh
  obtain ⟨x,hx⟩:∃ x,vs[mid]?=some x:=⟨vs[mid]'(by rw [hvl]; exact hmid),List.getElem?_eq_getElem _⟩
  obtain ⟨q,hq⟩:∃ q,l[mid]?=some q:=⟨l[mid],List.getElem?_eq_getElem _⟩
  obtain ⟨p1,i1,c1⟩:=Sl.elem (s:=1) Tryz.underlying29 A5k hb.toSl (i:=mid) (u:=x) (by rw [List.getElem?_map,hx]; rfl)
  have hqm:=hlx q (List.mem_of_getElem? hq)
  obtain ⟨r6,H6,hd6,e6,rfl⟩:=C7j (hrow mid x q hx hq) hu (by omega) (by omega) hw
  rw [e6] at hd6
  simp only [↓Sh.dn,sx,Nat.reduceBEq,reduceCtorEq,Nat.reduceEqDiff,f0,f1,f5,f6,A1a,hlh,decide_true,w1,A80 (show (2:Int)≠0 by decide),hq2,w2,i1,c1]
  refine ⟨_,_,hd6,?_⟩
  rcases cmp3 q w with ⟨h1,h2⟩ | ⟨h1,h2⟩ | ⟨h1,h2⟩
  ·have d0:decide ((-1:Int)=0)=false:=rfl
   have d1:decide ((-1:Int)=-1)=true:=rfl
   simp only [↓Sh.dn,sx,Nat.reduceBEq,reduceCtorEq,Nat.reduceEqDiff,h1,d0,d1,decide_false,decide_true,eq_self,A9a hmid (by omega)]
   refine k (hi - (mid+1)) _ _ (by omega) ⟨by simp only [↓Sh.dn,sx,Nat.reduceBEq,reduceCtorEq,Nat.reduceEqDiff,f0],by simp only [↓Sh.dn,sx,Nat.reduceBEq,reduceCtorEq,Nat.reduceEqDiff,f1],rfl,mid+1,hi,rfl,by omega,hhi,by simp only [↓Sh.dn,sx,Nat.reduceBEq,reduceCtorEq,Nat.reduceEqDiff],by simp only [↓Sh.dn,sx,Nat.reduceBEq,reduceCtorEq,Nat.reduceEqDiff,f6],fun j q' hj hq'=>?_,hhigh⟩
   by_cases hj2:j=mid
   ·subst hj2; rw [hq] at hq'; rw [← Option.some.inj hq']; exact h2
   ·exact sh_tr _ _ _ (hlt (by omega) hq' hq) h2
  ·have d0:decide ((0:Int)=0)=true:=rfl
   simp only [↓Sh.dn,sx,Nat.reduceBEq,reduceCtorEq,Nat.reduceEqDiff,h1,decide_true,eq_self,f0,hres]
   refine ⟨Kept.refl hw,l,hv,hs,fun y=>⟨.inl,fun h=>?_⟩,Nat.le_succ _⟩
   rcases h with h3 | h3
   ·exact h3
   ·rw [h3,← h2]; exact List.mem_of_getElem? hq
  ·have d0:decide ((1:Int)=0)=false:=rfl
   have d1:decide ((1:Int)=-1)=false:=rfl
   simp only [↓Sh.dn,sx,Nat.reduceBEq,reduceCtorEq,Nat.reduceEqDiff,h1,d0,d1,decide_false,decide_true,eq_self]
   refine k (mid - lo) _ _ (by omega) ⟨by simp only [↓Sh.dn,sx,Nat.reduceBEq,reduceCtorEq,Nat.reduceEqDiff,f0],by simp only [↓Sh.dn,sx,Nat.reduceBEq,reduceCtorEq,Nat.reduceEqDiff,f1],rfl,lo,mid,rfl,hml,by omega,by simp only [↓Sh.dn,sx,Nat.reduceBEq,reduceCtorEq,Nat.reduceEqDiff,f5],by simp only [↓Sh.dn,sx,Nat.reduceBEq,reduceCtorEq,Nat.reduceEqDiff],hlow,fun j q' hj hq'=>?_⟩
   by_cases hj2:j=mid
   ·subst hj2; rw [hq] at hq'; rw [← Option.some.inj hq']; exact h2
   ·exact sh_tr _ _ _ h2 (hlt (by omega) hq hq')
 ·have hlo:lo=hi:=by omega
  subst hlo
  have k1:=Kept.new hw 1 ([]:List Value)
  have hb1:=hb.kept hw k1
  have hkl:lo≤(vs.map fun x=>[x]).length:=by rw [List.length_map,hvl]; exact hhi
  have hnil':(vs.map fun x=>[x])=[]→v=.slice none 0 0:=fun h=>hnil (List.map_eq_nil_iff.1 h)
  have hwide:∀ x∈vs.map fun x=>[x],x.length=1:=fun x hx=>by obtain ⟨y,_,rfl⟩:=List.mem_map.1 hx; rfl
  have hln:(vs.map fun x=>[x]).length≤4000:=by rw [List.length_map,hvl]; exact hll
  have hol:=hb.lt hw
  obtain ⟨va,ha1,ha2⟩:=hb1.upTo hnil' hkl
  have ha:=ha1 (P:=Tryz.prog) Tryz.underlying29 A5k
  obtain ⟨w1,H2,b1,e1,e2,e3,e4⟩:=(Buf.void (H:=(H'.new 1 []).2) (s:=1) (some ⟨H'.next,0,some 0⟩)).append k1.wf (xs:=(vs.map fun x=>[x]).take lo) (fun x hx=>hwide x (List.mem_of_mem_take hx))
  have happ:=app_29 (base:=some ⟨H'.next,0,some 0⟩) (len:=0) (cap:=0) (ha2.srcKind Tryz.underlying29) ha2.newCells (by rw [List.length_take]; omega)
  rw [e1] at happ
  rw [List.nil_append] at e2
  have k2:Kept (H'.new 1 []).2 H2:=e3.kept fun g hg h=>by cases h
  have hx1:(H'.new 1 []).2.next=H'.next+1:=rfl
  have hb1l:∀ y,b1=some y→H'.next < y:=fun y hy=>by
   rcases e4 with rfl | ⟨rfl,_⟩
   ·cases hy
   ·have:=Option.some.inj hy; omega
  obtain ⟨a,cap,w2,H3,b2,hveq,p1,p2,p3,p4⟩:=e2.push k2.wf (x:=[u]) rfl
  have huc:=hu.isCell
  have hbs:=B0e (H:=H2) (x:=u) (by rw [A8a huc]; rfl) (by rw [A8a huc]; simp [huc])
  rw [A8a huc] at hbs
  have ha1':=C6n (H:=H2) (base:=a) (len:=((vs.map fun x=>[x]).take lo).length) (cap:=cap) (x:=[u]) rfl (by rw [List.length_take]; omega)
  rw [p1] at ha1'
  subst hveq
  have hb3:=(hb1.kept k1.wf k2).chg k2.wf p3 fun g hg hX=>by have:=hol g hg; have:=hb1l g hX; omega
  obtain ⟨vd,hd1,hd2⟩:=hb3.since hnil' hkl
  have hd:=hd1 (P:=Tryz.prog) Tryz.underlying29 A5k
  obtain ⟨a2,cap2,rfl⟩:=p2.shape
  obtain ⟨w3,H4,b3,q1,q2,q3,q4⟩:=p2.append p3.wf (xs:=(vs.map fun x=>[x]).drop lo) (fun x hx=>hwide x (List.mem_of_mem_drop hx))
  have happ2:=app_29 (base:=a2) (len:=((vs.map fun x=>[x]).take lo++[[u]]).length) (cap:=cap2) (hd2.srcKind Tryz.underlying29) hd2.newCells (by rw [List.length_append,List.length_take,List.length_drop,List.length_singleton]; omega)
  rw [q1] at happ2
  have hlh2:decide (lo < lo)=false:=decide_eq_false (Nat.lt_irrefl lo)
  simp only [↓Sh.dn,sx,Nat.reduceBEq,reduceCtorEq,Nat.reduceEqDiff,f0,f1,f5,f6,A1a,hlh2,ha,happ,hbs,ha1',hd,happ2,hres]
  have hk2n:=k2.next
  have hk04:Kept H' H4:=((k1.trans k2).then (Nat.le_refl _) (p3.weak fun y hy=>Nat.le_of_lt (hb1l y hy))).then (Nat.le_refl _) (q3.weak fun y hy=>by
   rcases p4 y hy with h1 | h1
   ·exact Nat.le_of_lt (hb1l y h1)
   ·omega)
  refine ⟨hk04,l.take lo++w :: l.drop lo,⟨vs.take lo++u :: vs.drop lo,b3,?_,fun h=>absurd h (by simp),?_,rows_mid (by rw [List.length_take,List.length_take,hvl]) (fun j x q hx hq=>?_) (hu.grow (hk04.grow hw)) fun j x q hx hq=>?_⟩,?_,fun x=>?_,?_⟩
  ·rw [List.map_append,List.map_cons,List.map_take,List.map_drop]
   simpa using q2
  ·simp only [List.length_append,List.length_cons,List.length_take,List.length_drop,hvl]
  ·rw [List.getElem?_take] at hx hq
   split at hx
   ·rename_i h1
    rw [if_pos h1] at hq
    exact (hrow j x q hx hq).grow (hk04.grow hw)
   ·cases hx
  ·rw [List.getElem?_drop] at hx hq
   exact (hrow _ x q hx hq).grow (hk04.grow hw)
  ·have hs2:=hs
   rw [← List.take_append_drop lo l,List.pairwise_append] at hs2
   have hA:∀ x∈l.take lo,shLt x w:=fun x hx=>by
    obtain ⟨j,hj⟩:=List.mem_iff_getElem?.1 hx
    rw [List.getElem?_take] at hj
    split at hj
    ·rename_i h1; exact hlow j x h1 hj
    ·cases hj
   have hB:∀ x∈l.drop lo,shLt w x:=fun x hx=>by
    obtain ⟨j,hj⟩:=List.mem_iff_getElem?.1 hx
    rw [List.getElem?_drop] at hj
    exact hhigh _ x (Nat.le_add_right lo j) hj
   rw [List.pairwise_append,List.pairwise_cons]
   refine ⟨hs2.1,⟨hB,hs2.2.1⟩,fun x hx y hy=>?_⟩
   rcases List.mem_cons.1 hy with h1 | h1
   ·rw [h1]; exact hA x hx
   ·exact hs2.2.2 x hx y h1
  ·have:x∈l↔x∈l.take lo∨x∈l.drop lo:=by rw [← List.mem_append,List.take_append_drop]
   rw [this,List.mem_append,List.mem_cons]
   constructor
   ·rintro (h1 | h1 | h1)
    ·exact .inl (.inl h1)
    ·exact .inr h1
    ·exact .inl (.inr h1)
   ·rintro ((h1 | h1) | h1)
    ·exact .inl h1
    ·exact .inr (.inr h1)
    ·exact .inr (.inl h1)
  ·simp only [List.length_append,List.length_cons,List.length_take,List.length_drop]; omega
theorem C4h {H:AH} {v:Value} {W:List (List ByteArray)} {vs:List Value} (hJ:JagR H v 1 (W.map fun q=>q.map A5a) vs) (hWl:W.length≤3000) (hx:∀ q∈W,q.length≤1000) (hw:Wf H):
  Sh.Call Tryz.prog (knows 7) 49 [v] H (fun r H'=>Kept H H'∧∃ l,SortB H' r l∧l.Pairwise shLt∧∀ x,x∈l↔x∈W):=by
 refine A3a rfl Tryz.func49 rfl (Nat.le_of_ble_eq_true rfl) ?_
 have hres:Tryz.f49.results.toList=[.tmp 2]:=rfl
 have hlv:∀ H',A2a Tryz.prog .len [29] [v] H'=some (.int .i64 (W.length:Int),H'):=fun H'=>by
  rw [hJ.sl.len Tryz.underlying29,List.length_map,hJ.len,List.length_map]
 simp only [↓Sh.dn,sx,Nat.reduceBEq,reduceCtorEq,Nat.reduceEqDiff]
 refine A9e W.length 4 (List.range' 3 22) (fun i F H'=>Kept H H'∧∃ z,F.get 3=some z∧∃ l,SortB H' z l∧l.Pairwise shLt∧(∀ x,x∈l↔x∈W.take i)∧l.length≤i) (by simp only [↓Sh.dn,sx,Nat.reduceBEq,reduceCtorEq,Nat.reduceEqDiff]) ⟨Kept.refl hw,.slice none 0 0,by simp only [↓Sh.dn,sx,Nat.reduceBEq,reduceCtorEq,Nat.reduceEqDiff],[],⟨[],none,.void none,fun _=>rfl,rfl,fun j x q hx=>by simp at hx⟩,List.Pairwise.nil,fun x=>by simp,Nat.le_refl _⟩ ?_ ?_
 ·rintro i F H' hi hF f4 ⟨hk,z,f3,l,hS,hp,hm,hl⟩ k
  have f0:=hF 0 rfl
  simp only [↓Sh.dn,sx,Nat.reduceBEq,reduceCtorEq,Nat.reduceEqDiff] at f0
  obtain ⟨g1,o1,k1,w1,i1,c1,s1⟩:=(hJ.grow (hk.grow hw)).at Tryz.underlying29 A5k (i:=i) (r:=W[i].map A5a) (by rw [List.getElem?_map,List.getElem?_eq_getElem hi]; rfl)
  have htake:W.take (i+1)=W.take i++[W[i]]:=by rw [List.take_add_one,List.getElem?_eq_getElem hi]; rfl
  have hWi:=hx _ (List.getElem_mem hi)
  generalize W[i]=w at s1 htake hWi
  obtain ⟨r2,H2,hd2,hk2,l2,hS2,hp2,hm2,hl2⟩:=refInto hS s1 hp (by omega) (fun q hq=>hx q (List.mem_of_mem_take ((hm q).1 hq))) hWi hk.wf
  simp only [↓Sh.dn,sx,Nat.reduceBEq,reduceCtorEq,Nat.reduceEqDiff,f0,f3,f4,hlv,A1a,hi,decide_true,i1,c1]
  refine ⟨_,_,hd2,?_⟩
  simp only [↓Sh.dn,sx,Nat.reduceBEq,reduceCtorEq,Nat.reduceEqDiff,f4,A9a hi (by omega)]
  refine k _ _ (by repeat (first | refine Same.put ?_ rfl | exact Same.rfl' _)) (by simp only [↓Sh.dn,sx,Nat.reduceBEq,reduceCtorEq,Nat.reduceEqDiff]) ⟨hk.trans hk2,r2,by simp only [↓Sh.dn,sx,Nat.reduceBEq,reduceCtorEq,Nat.reduceEqDiff],l2,hS2,hp2,fun x=>?_,by omega⟩
  rw [hm2,hm,htake,List.mem_append,List.mem_singleton]
 ·rintro F H' hF f4 ⟨hk,z,f3,l,hS,hp,hm,hl⟩
  have f0:=hF 0 rfl
  simp only [↓Sh.dn,sx,Nat.reduceBEq,reduceCtorEq,Nat.reduceEqDiff] at f0
  rw [List.take_length] at hm
  simp only [↓Sh.dn,sx,Nat.reduceBEq,reduceCtorEq,Nat.reduceEqDiff,f0,f3,f4,hlv,A1a,Nat.lt_irrefl,decide_false,hres]
  exact ⟨hk,l,hS,hp,hm⟩
theorem C8v {H:AH} {v:Value} {W:List (List ByteArray)} {vs:List Value} (hJ:JagR H v 1 (W.map fun q=>q.map A5a) vs) (hWl:W.length≤3000) (hx:∀ q∈W,q.length≤1048576∧∀ x∈q,x.size≤1048576) (hE:∀ q∈W,A6f q=0) (hw:Wf H):
  Sh.Call Tryz.prog (knows 7) 48 [v] H (fun r H'=>Kept H H'∧r=.int .i64 0):=by
 refine A3a rfl Tryz.func48 rfl (Nat.le_of_ble_eq_true rfl) ?_
 have hres:Tryz.f48.results.toList=[.tmp 2]:=rfl
 have hlv:∀ H',A2a Tryz.prog .len [29] [v] H'=some (.int .i64 (W.length:Int),H'):=fun H'=>by
  rw [hJ.sl.len Tryz.underlying29,List.length_map,hJ.len,List.length_map]
 simp only [↓Sh.dn,sx,Nat.reduceBEq,reduceCtorEq,Nat.reduceEqDiff]
 refine A9e W.length 3 (List.range' 2 22) (fun i F H'=>Kept H H') (by simp only [↓Sh.dn,sx,Nat.reduceBEq,reduceCtorEq,Nat.reduceEqDiff]) (Kept.refl hw) ?_ ?_
 ·rintro i F H' hi hF f3 hk k
  have f0:=hF 0 rfl
  simp only [↓Sh.dn,sx,Nat.reduceBEq,reduceCtorEq,Nat.reduceEqDiff] at f0
  obtain ⟨g1,o1,k1,w1,i1,c1,s1⟩:=(hJ.grow (hk.grow hw)).at Tryz.underlying29 A5k (i:=i) (r:=W[i].map A5a) (by rw [List.getElem?_map,List.getElem?_eq_getElem hi]; rfl)
  obtain ⟨hq1,hq2⟩:=hx _ (List.getElem_mem hi)
  have hWe:=hE _ (List.getElem_mem hi)
  generalize W[i]=w at s1 hq1 hq2 hWe
  obtain ⟨r2,H2,hd2,hk2,rfl⟩:=C2t s1 hq1 hq2 hk.wf
  rw [hWe] at hd2
  simp only [↓Sh.dn,sx,Nat.reduceBEq,reduceCtorEq,Nat.reduceEqDiff,f0,f3,hlv,A1a,hi,decide_true,i1,c1]
  refine ⟨_,_,hd2,?_⟩
  simp only [↓Sh.dn,sx,Nat.reduceBEq,reduceCtorEq,Nat.reduceEqDiff,f3,eq_self,decide_true,Bool.not_true,A9a hi (by omega)]
  exact k _ _ (by repeat (first | refine Same.put ?_ rfl | exact Same.rfl' _)) (by simp only [↓Sh.dn,sx,Nat.reduceBEq,reduceCtorEq,Nat.reduceEqDiff]) (hk.trans hk2)
 ·rintro F H' hF f3 hk
  have f0:=hF 0 rfl
  simp only [↓Sh.dn,sx,Nat.reduceBEq,reduceCtorEq,Nat.reduceEqDiff] at f0
  simp only [↓Sh.dn,sx,Nat.reduceBEq,reduceCtorEq,Nat.reduceEqDiff,f0,f3,hlv,A1a,Nat.lt_irrefl,decide_false,hres]
  exact hk
theorem C5n {H:AH} {v:Value} {W:List (List ByteArray)} {vs:List Value} (hJ:JagR H v 1 (W.map fun q=>q.map A5a) vs) (hWl:W.length≤200) (hx:∀ q∈W,q.length≤1000∧∀ x∈q,x.size≤1048576) (hE:∀ q∈W,A6f q=0) (hw:Wf H):
  Sh.Call Tryz.prog (knows 7) 22 [v] H (fun r H'=>Kept H H'∧∃ lv,r=.tuple #[lv,.int .i64 0]∧∃ l,SortB H' lv l∧l.Pairwise shLt∧∀ x,x∈l↔x∈W):=by
 refine A3a rfl Tryz.func22 rfl (Nat.le_of_ble_eq_true rfl) ?_
 have hres:Tryz.f22.results.toList=[.tmp 2,.tmp 3]:=rfl
 have hlv:∀ H',A2a Tryz.prog .len [29] [v] H'=some (.int .i64 (W.length:Int),H'):=fun H'=>by
  rw [hJ.sl.len Tryz.underlying29,List.length_map,hJ.len,List.length_map]
 have d1:decide ((200:Int) < (W.length:Int))=false:=decide_eq_false (by omega)
 obtain ⟨r2,H2,hd2,hk2,rfl⟩:=C8v hJ (by omega) (fun q hq=>⟨by have:=(hx q hq).1; omega,(hx q hq).2⟩) hE hw
 obtain ⟨r3,H3,hd3,hk3,l,hS,hp,hm⟩:=C4h (hJ.grow (hk2.grow hw)) (by omega) (fun q hq=>(hx q hq).1) hk2.wf
 simp only [↓Sh.dn,sx,Nat.reduceBEq,reduceCtorEq,Nat.reduceEqDiff,hlv,d1]
 refine ⟨_,_,hd2,?_⟩
 simp only [↓Sh.dn,sx,Nat.reduceBEq,reduceCtorEq,Nat.reduceEqDiff,eq_self,decide_true,Bool.not_true]
 refine ⟨_,_,hd3,?_⟩
 simp only [↓Sh.dn,sx,Nat.reduceBEq,reduceCtorEq,Nat.reduceEqDiff,hres]
 exact ⟨hk2.trans hk3,r3,rfl,l,hS,hp,hm⟩
end Go.Proofs.YtcgbiedfbacgpaaGreat
/- The reference's before, isLonger. -/
namespace Go.Proofs.YtcgbiedfbacgpaaGreat
open Go Go.Proofs Go.Proofs.Sh
theorem B2u {H:AH} {rv u:Value} {ot:Option Nat} {vals:List Value} {obs:List (Option Nat)} {n:Nat} {R:List (List (ByteArray×Nat))} {X:List Bool}
  (hJ:Jag H rv ot 2 vals (A8h R) obs) (hRl:R.length=n) (hRr:∀ r∈R,r.length≤180000000∧∀ e∈r,e.2 < n) (hX:Sl H u 1 (X.map A5p)) (hXl:X.length=n) (h1:1≤n) (hn:n≤3000) (hw:Wf H):
  Sh.Call Tryz.prog (knows 7) 64 [rv,u] H (fun r H'=>MarksOut H H' r n (Clo (A0t R true) fun t=>∃ s,X[s]?=some true∧∃ x,x≠A2b∧A1e R x s t)):=by
 refine A3a rfl Tryz.func64 rfl (Nat.le_of_ble_eq_true rfl) ?_
 have hres:Tryz.f64.results.toList=[.tmp 4]:=rfl
 have hlen:=fun H'=>hX.len Tryz.underlying58 H'
 simp only [List.length_map,hXl] at hlen
 have hmk:=mk_58 (H:=H) (l:=n) (c:=n) (Nat.le_refl _) (by omega)
 have k1:=Kept.new hw 1 (List.replicate n (.bool false))
 have f1:=Buf.fill hw (.bool false) (c:=n) (by omega)
 rw [if_neg (by omega)] at f1
 have hM1:MB (H.new 1 (List.replicate n (.bool false))).2 H.next n (.slice (some ⟨H.next,0,some 0⟩) n n) (some H.next) (List.replicate n false) []:=
  ⟨Marks.empty n,by rw [List.map_replicate]; exact f1,fun y hy=>by rw [← Option.some.inj hy]; exact Nat.le_refl _⟩
 have hx1:H.next < (H.new 1 (List.replicate n (.bool false))).2.next:=Nat.lt_succ_self _
 simp only [↓Sh.dn,sx,Nat.reduceBEq,reduceCtorEq,Nat.reduceEqDiff,hlen,hmk]
 generalize (Value.slice (some ⟨H.next,0,some 0⟩) n n)=mv at hM1 ⊢
 generalize (H.new 1 (List.replicate n (.bool false))).2=H1 at k1 hM1 hx1 ⊢
 refine A9e n 6 (List.range' 6 45) (fun i F H'=>Kept H H'∧∃ seen out,MB H' H.next n mv (some H.next) seen out∧∀ t,t∈out↔∃ s,s < i∧X[s]?=some true∧∃ x,x≠A2b∧A1e R x s t) (by simp only [↓Sh.dn,sx,Nat.reduceBEq,reduceCtorEq,Nat.reduceEqDiff]) ⟨k1,_,_,hM1,fun t=>by simp⟩ ?_ ?_
 ·rintro i F H' hi hF f6 ⟨hk,seen,out,hM,hiff⟩ k
  have f0:=hF 0 rfl
  have f1:=hF 1 rfl
  have f5:=hF 5 rfl
  simp only [↓Sh.dn,sx,Nat.reduceBEq,reduceCtorEq,Nat.reduceEqDiff] at f0 f1 f5
  obtain ⟨b,hbx⟩:∃ b,X[i]?=some b:=⟨X[i]'(by rw [hXl]; exact hi),List.getElem?_eq_getElem _⟩
  have hXb:∀ {H'},Kept H H'→∃ p,A7b Tryz.prog 58 u (.int .i64 (i:Int))=some (.pointer (some p))∧H'.cell p=some (.bool b):=fun hk=>
   Sl.elem (s:=1) Tryz.underlying58 A1u (hX.grow (hk.grow hw)) (i:=i) (u:=.bool b) (by rw [List.getElem?_map,hbx]; rfl)
  obtain ⟨r,hr⟩:∃ r,R[i]?=some r:=⟨R[i]'(by rw [hRl]; exact hi),List.getElem?_eq_getElem _⟩
  have hr':(A8h R)[i]?=some (r.map A3i):=by unfold A8h; rw [List.getElem?_map,hr]; rfl
  obtain ⟨hrl,hrt⟩:=hRr r (List.mem_of_getElem? hr)
  obtain ⟨qb,e4,e5⟩:=hXb hk
  simp only [↓Sh.dn,sx,Nat.reduceBEq,reduceCtorEq,Nat.reduceEqDiff,f1,f6,hlen,A1a,hi,decide_true]
  cases b with
  | false=>
   refine Sh.wp_inLoop.2 ?_
   simp only [↓Sh.dn,sx,Nat.reduceBEq,reduceCtorEq,Nat.reduceEqDiff,f0,f1,f6,e4,e5,A9a hi (Nat.le_trans hn (by decide))]
   refine k _ _ (by repeat (first | refine Same.put ?_ rfl | exact Same.rfl' _)) (by simp only [↓Sh.dn,sx,Nat.reduceBEq,reduceCtorEq,Nat.reduceEqDiff]) ⟨hk,seen,out,hM,fun t=>?_⟩
   rw [hiff]
   constructor
   ·rintro ⟨s,h1,h2⟩; exact ⟨s,by omega,h2⟩
   ·rintro ⟨s,h1,h2,h3⟩
    by_cases hs:s=i
    ·subst hs; rw [hbx] at h2; cases h2
    ·exact ⟨s,by omega,h2,h3⟩
  | true=>
  refine A9e r.length 7 (List.range' 7 44) (fun q F'' H''=>Kept H H''∧∃ seen' out',MB H'' H.next n mv (some H.next) seen' out'∧∀ t,t∈out'↔t∈out∨∃ e∈r.take q,e.2=t∧e.1≠A2b) (by simp only [↓Sh.dn,sx,Nat.reduceBEq,reduceCtorEq,Nat.reduceEqDiff]) ⟨hk,seen,out,hM,fun t=>by simp⟩ ?_ ?_
  ·rintro q F'' H'' hq hF'' f7 ⟨hk'',seen',out',hM',hiff'⟩ k2
   have g0:=hF'' 0 rfl
   have g1:=hF'' 1 rfl
   have g5:=hF'' 5 rfl
   have g6:=hF'' 6 rfl
   simp only [↓Sh.dn,sx,Nat.reduceBEq,reduceCtorEq,Nat.reduceEqDiff,f0,f1,f5,f6] at g0 g1 g5 g6
   obtain ⟨qb,e4,e5⟩:=hXb hk''
   obtain ⟨ga,oa,ka,wr,hia,hc1,hs1⟩:=(hJ.kept hw hk'').read.at Tryz.underlying57 A0q hr'
   have hl1:=fun H'=>hs1.len Tryz.underlying97 H'
   simp only [List.length_map] at hl1
   obtain ⟨g',o',k',hia2,hcs2,hcc2⟩:=hs1.at Tryz.underlying97 A6s (i:=q) (x:=A3i r[q]) (by simp [hq]) .i64
   have hrq:r[q]∈r:=List.getElem_mem hq
   have htk:r.take (q+1)=r.take q++[r[q]]:=by rw [List.take_add_one,List.getElem?_eq_getElem hq]; rfl
   generalize r[q]=e at hcs2 hcc2 hrq htk
   have c0:=hcc2 0 (.string e.1) rfl
   have c1:=hcc2 1 (.int .i64 (e.2:Int)) rfl
   have hjn:∀ t,(∃ e'∈r.take (q+1),e'.2=t∧e'.1≠A2b)↔(∃ e'∈r.take q,e'.2=t∧e'.1≠A2b)∨e.2=t∧e.1≠A2b:=fun t=>by
    rw [htk]
    simp only [List.mem_append,List.mem_singleton]
    constructor
    ·rintro ⟨e',h1 | h1,h2⟩
     ·exact .inl ⟨e',h1,h2⟩
     ·subst h1; exact .inr h2
    ·rintro (⟨e',h1,h2⟩ | h2)
     ·exact ⟨e',.inl h1,h2⟩
     ·exact ⟨e,.inr rfl,h2⟩
   have hrl':r.length≤4611686018427387904:=Nat.le_trans hrl (by decide)
   have c0':=c0
   simp only [Nat.add_zero] at c0'
   simp only [↓Sh.dn,sx,Nat.reduceBEq,reduceCtorEq,Nat.reduceEqDiff,g0,g1,g6,f7,e4,e5,hia,hc1,hl1,A1a,hq,decide_true,hia2,c0,c0']
   by_cases he:e.1=⟨#[]⟩
   ·simp only [↓Sh.dn,sx,Nat.reduceBEq,reduceCtorEq,Nat.reduceEqDiff,he,decide_true,f7,A9a hq hrl']
    refine k2 _ _ (by repeat (first | refine Same.put ?_ rfl | exact Same.rfl' _)) (by simp only [↓Sh.dn,sx,Nat.reduceBEq,reduceCtorEq,Nat.reduceEqDiff]) ⟨hk'',seen',out',hM',fun t=>?_⟩
    rw [hjn,hiff']
    have:¬(e.2=t∧e.1≠A2b):=fun h=>h.2 he
    simp [this]
   ·obtain ⟨p2,H3,seen2,out2,d1,d2,d3,d4,d5⟩:=hM'.put Tryz.underlying58 A1u hk''.wf (hrt e hrq)
    have st:A3e Tryz.prog 4 H'' (.bool true) (.pointer (some p2))=some H3:=by rw [A4d A1u rfl]; exact d2
    simp only [↓Sh.dn,sx,Nat.reduceBEq,reduceCtorEq,Nat.reduceEqDiff,he,decide_false,g0,g5,g6,f7,hia,hc1,hia2,c1,d1,st,A9a hq hrl']
    refine k2 _ _ (by repeat (first | refine Same.put ?_ rfl | exact Same.rfl' _)) (by simp only [↓Sh.dn,sx,Nat.reduceBEq,reduceCtorEq,Nat.reduceEqDiff]) ⟨hk''.then (Nat.le_refl _) (d4.weak fun y hy=>hM'.fr y hy),seen2,out2,d3,fun t=>?_⟩
    rw [d5,hjn,hiff']
    constructor
    ·rintro ((h1 | h1) | h1)
     ·exact .inl h1
     ·exact .inr (.inl h1)
     ·exact .inr (.inr ⟨h1.symm,he⟩)
    ·rintro (h1 | h1 | ⟨h1,_⟩)
     ·exact .inl (.inl h1)
     ·exact .inl (.inr h1)
     ·exact .inr h1.symm
  ·rintro F'' H'' hF'' f7 ⟨hk'',seen',out',hM',hiff'⟩
   have g0:=hF'' 0 rfl
   have g1:=hF'' 1 rfl
   have g6:=hF'' 6 rfl
   simp only [↓Sh.dn,sx,Nat.reduceBEq,reduceCtorEq,Nat.reduceEqDiff,f0,f1,f6] at g0 g1 g6
   obtain ⟨qb,e4,e5⟩:=hXb hk''
   obtain ⟨ga,oa,ka,wr,hia,hc1,hs1⟩:=(hJ.kept hw hk'').read.at Tryz.underlying57 A0q hr'
   have hl1:=fun H'=>hs1.len Tryz.underlying97 H'
   simp only [List.length_map] at hl1
   rw [List.take_length] at hiff'
   simp only [↓Sh.dn,sx,Nat.reduceBEq,reduceCtorEq,Nat.reduceEqDiff,g0,g1,g6,f7,e4,e5,hia,hc1,hl1,A1a,Nat.lt_irrefl,decide_false,A9a hi (Nat.le_trans hn (by decide))]
   refine k _ _ ?_ (by simp only [↓Sh.dn,sx,Nat.reduceBEq,reduceCtorEq,Nat.reduceEqDiff]) ⟨hk'',seen',out',hM',fun t=>?_⟩
   ·repeat refine Same.put ?_ rfl
    exact Same.trans (by repeat (first | refine Same.put ?_ rfl | exact Same.rfl' _)) (hF''.sub rfl)
   ·rw [hiff',hiff]
    constructor
    ·rintro (⟨s,h1,h2⟩ | ⟨e,h1,h2,h3⟩)
     ·exact ⟨s,by omega,h2⟩
     ·exact ⟨i,by omega,hbx,e.1,h3,r,hr,by rw [← h2]; exact h1⟩
    ·rintro ⟨s,h1,h2,x,h3,h4⟩
     by_cases hs:s=i
     ·subst hs
      obtain ⟨r',h5,h6⟩:=h4
      rw [hr] at h5
      exact .inr ⟨(x,t),by rw [Option.some.inj h5]; exact h6,rfl,h3⟩
     ·exact .inl ⟨s,by omega,h2,x,h3,h4⟩
 ·rintro F H' hF f6 ⟨hk,seen,out,hM,hiff⟩
  have f0:=hF 0 rfl
  have f1:=hF 1 rfl
  have f5:=hF 5 rfl
  simp only [↓Sh.dn,sx,Nat.reduceBEq,reduceCtorEq,Nat.reduceEqDiff] at f0 f1 f5
  obtain ⟨rr,H4,hd4,hc4,seen2,hb4,hsl,hiff4⟩:=B6d (em:=true) hk (hJ.kept hw hk) hRl hRr hM.bf (fun y hy=>by rw [← Option.some.inj hy]; exact Nat.le_refl _) (fun y hy hj=>by have:=hJ.lt hw y hj; have:=Option.some.inj hy; omega) hM.ms.len hn
  simp only [↓Sh.dn,sx,Nat.reduceBEq,reduceCtorEq,Nat.reduceEqDiff,f0,f1,f5,f6,hlen,A1a,Nat.lt_irrefl,decide_false]
  refine ⟨_,_,hd4,?_⟩
  simp only [↓Sh.dn,sx,Nat.reduceBEq,reduceCtorEq,Nat.reduceEqDiff,f5,hres]
  refine ⟨hk.then (Nat.le_refl _) (hc4.weak fun y hy=>by rw [← Option.some.inj hy]; exact Nat.le_refl _),seen2,some H.next,hb4,fun y hy=>by rw [← Option.some.inj hy]; exact Nat.le_refl _,hsl,fun t=>?_⟩
  rw [hiff4]
  have:(fun s=>seen[s]?=some true)=fun t=>∃ s,X[s]?=some true∧∃ x,x≠A2b∧A1e R x s t:=by
   funext t
   apply propext
   rw [hM.ms.iff,hiff]
   constructor
   ·rintro ⟨s,_,h1⟩; exact ⟨s,h1⟩
   ·rintro ⟨s,h1,h2⟩; exact ⟨s,by rw [← hXl]; exact (List.getElem?_eq_some_iff.1 h1).1,h1,h2⟩
  rw [this]
def anyE (E:List (List (ByteArray×Nat))) (s t:Nat):Prop:=∃ x,x≠A2b∧A1e E x s t
def exE (E:List (List (ByteArray×Nat))) (ends:List Bool):Nat→Nat→Prop:=A5t (A1e E A2b) (anyE E) (fun s=>ends[s]?=some true)
theorem B4d {R E:List (List (ByteArray×Nat))} (hg:∀ x t s,A1e R x t s↔A1e E x s t):A0t R true=fun a b=>A1e E A2b b a:=by
 funext s t
 apply propext
 unfold A0t
 constructor
 ·rintro ⟨x,h1,h2⟩; rw [← hg,← h2 rfl]; exact h1
 ·intro h; exact ⟨A2b,(hg _ _ _).2 h,fun _=>rfl⟩
theorem B9g {R E:List (List (ByteArray×Nat))} (hg:∀ x t s,A1e R x t s↔A1e E x s t) {X:List Bool} {Q:Nat→Prop} (hX:∀ t:Nat,X[t]?=some true↔Q t):
  Clo (A0t R true) (fun t=>∃ s,X[s]?=some true∧∃ x,x≠A2b∧A1e R x s t)=Clo (fun a b=>A1e E A2b b a) fun s=>∃ t,anyE E s t∧Q t:=by
 rw [B4d hg]
 congr 1
 funext t
 apply propext
 constructor
 ·rintro ⟨s,h1,x,h2,h3⟩; exact ⟨s,⟨x,h2,(hg _ _ _).1 h3⟩,(hX s).1 h1⟩
 ·rintro ⟨s,⟨x,h2,h3⟩,h1⟩; exact ⟨s,(hX s).2 h1,x,h2,(hg _ _ _).2 h3⟩
theorem C2o {H:AH} {v ev bv:Value} {vals:List Value} {n m:Nat} {E:List (List (ByteArray×Nat))} {ends:List Bool} (h:RG H v n E ends ev bv vals) (hm:m≤4000) (hw:Wf H):
  Sh.Call Tryz.prog (knows 7) 33 [v,.int .i64 (m:Int)] H (fun r H'=>Kept H H'∧r=.bool (tB (A1o (A1e E A2b) (anyE E) (fun s=>ends[s]?=some true) m 0))):=by
 refine A3a rfl Tryz.func33 rfl (Nat.le_of_ble_eq_true rfl) ?_
 have hres:Tryz.f33.results.toList=[.tmp 4]:=rfl
 have hn1:=h.n1
 have hn2:=h.n2
 have hrb:=RBox.of h hw
 have hk1:Kept H (H.new 3 [.int .i64 0,ev,bv]).2:=Kept.new hw 3 _
 have hE:=h.ed.sl.isCell
 have hB:=h.en.isCell
 rw [h.eq]
 simp only [↓Sh.dn,sx,Nat.reduceBEq,reduceCtorEq,Nat.reduceEqDiff,B0u hE hB]
 generalize (H.new 3 [.int .i64 0,ev,bv]).2=H1 at hrb hk1 ⊢
 generalize H.next=gb at hrb ⊢
 obtain ⟨rv,H3,hd3,hk3,R,ot,vs,obs,hJ,hin,hRl,hRr,hRg⟩:=A61 hrb.rg hk1.wf
 have hrb3:=hrb.kept hk1.wf hk3
 obtain ⟨r4,H4,hd4,hk4,B,hB4,hBl,hBi⟩:=refAlive hrb3.rg hk3.wf
 simp only [↓Sh.dn,sx,Nat.reduceBEq,reduceCtorEq,Nat.reduceEqDiff,hrb.ca,Option.map_some]
 refine ⟨_,_,hd3,?_⟩
 simp only [↓Sh.dn,sx,Nat.reduceBEq,reduceCtorEq,Nat.reduceEqDiff,hrb3.ca,Option.map_some]
 refine ⟨_,_,hd4,?_⟩
 have hB0:∀ t:Nat,B[t]?=some true↔A1o (A1e E A2b) (anyE E) (fun s=>ends[s]?=some true) 0 t:=fun t=>by
  rw [hBi]
  have:(fun s t=>∃ x,A1e E x t s)=fun a b=>A1e E A2b b a∨anyE E b a:=by
   funext a b
   apply propext
   constructor
   ·rintro ⟨x,hx⟩
    by_cases hx0:x=A2b
    ·subst hx0; exact .inl hx
    ·exact .inr ⟨x,hx0,hx⟩
   ·rintro (hx | ⟨x,_,hx⟩)
    ·exact ⟨_,hx⟩
    ·exact ⟨_,hx⟩
  rw [this]
  rfl
 have hk34:=hk3.trans hk4
 refine A9e m 7 (List.range' 12 8++[6,7]) (fun i F H'=>Kept H4 H'∧∃ z,F.get 6=some z∧∃ X:List Bool,Sl H' z 1 (X.map A5p)∧X.length=n∧∀ t:Nat,X[t]?=some true↔A1o (A1e E A2b) (anyE E) (fun s=>ends[s]?=some true) i t) (by simp only [↓Sh.dn,sx,Nat.reduceBEq,reduceCtorEq,Nat.reduceEqDiff]) ⟨Kept.refl hk4.wf,_,by simp only [↓Sh.dn,sx,Nat.reduceBEq,reduceCtorEq,Nat.reduceEqDiff],B,hB4,hBl,hB0⟩ ?_ ?_
 ·rintro i F H' hi hF f7 ⟨hk,z,f6,X,hX,hXl,hXi⟩ k
  have f1:=hF 1 rfl
  have f5:=hF 5 rfl
  simp only [↓Sh.dn,sx,Nat.reduceBEq,reduceCtorEq,Nat.reduceEqDiff] at f1 f5
  obtain ⟨r5,H5,hd5,hk5,B5,o5,hB5,hB5o,hB5l,hB5i⟩:=B2u ((hJ.kept hk3.wf hk4).kept hk4.wf hk) hRl hRr hX hXl hn1 hn2 hk.wf
  simp only [↓Sh.dn,sx,Nat.reduceBEq,reduceCtorEq,Nat.reduceEqDiff,f1,f5,f6,f7,A1a,hi,decide_true]
  refine ⟨_,_,hd5,?_⟩
  simp only [↓Sh.dn,sx,Nat.reduceBEq,reduceCtorEq,Nat.reduceEqDiff,f7,A9a hi (by omega)]
  refine k _ _ (by repeat (first | refine Same.put ?_ rfl | exact Same.rfl' _)) (by simp only [↓Sh.dn,sx,Nat.reduceBEq,reduceCtorEq,Nat.reduceEqDiff]) ⟨hk.trans hk5,r5,by simp only [↓Sh.dn,sx,Nat.reduceBEq,reduceCtorEq,Nat.reduceEqDiff],B5,hB5.toSl,hB5l,fun t=>?_⟩
  rw [hB5i,B9g hRg hXi]
  rfl
 ·rintro F H' hF f7 ⟨hk,z,f6,X,hX,hXl,hXi⟩
  have f1:=hF 1 rfl
  have f2:=hF 2 rfl
  simp only [↓Sh.dn,sx,Nat.reduceBEq,reduceCtorEq,Nat.reduceEqDiff] at f1 f2
  have hlX:=fun H'=>hX.len Tryz.underlying58 H'
  simp only [List.length_map,hXl] at hlX
  have hpos:decide ((0:Int) < (n:Int))=true:=by simp; omega
  obtain ⟨b,hb⟩:∃ b,X[0]?=some b:=⟨X[0]'(by rw [hXl]; exact hn1),List.getElem?_eq_getElem _⟩
  obtain ⟨q,e1,e2⟩:=Sl.elem (s:=1) Tryz.underlying58 A1u hX (i:=0) (u:=.bool b) (by rw [List.getElem?_map,hb]; rfl)
  have e1':A7b Tryz.prog 58 z (.int .i64 0)=some (.pointer (some q)):=e1
  have c0:=(hrb3.kept hk3.wf (hk4.trans hk)).c0
  have hbt:b=tB (A1o (A1e E A2b) (anyE E) (fun s=>ends[s]?=some true) m 0):=by
   rw [Bool.eq_iff_iff,B2t,← hXi,hb]
   simp
  simp only [↓Sh.dn,sx,Nat.reduceBEq,reduceCtorEq,Nat.reduceEqDiff,f1,f2,f6,f7,A1a,Nat.lt_irrefl,decide_false,hlX,hpos,c0,e1',e2,hres,hbt]
  exact (hk1.trans hk34).trans hk
end Go.Proofs.YtcgbiedfbacgpaaGreat
/- insertionSortOrdered. -/
namespace Go.Proofs.YtcgbiedfbacgpaaGreat
open Go Go.Proofs Go.Proofs.Sh
theorem B0a {H:AH} {g k n cap a b:Nat} {l:List ByteArray} (hv:A4e H g k n l) (hw:Wf H) (hl:l.length≤1048576) (hab:a≤b) (hb:b≤l.length):
  Sh.Call Tryz.prog (knows 7) 129 [.slice (some ⟨g,0,some k⟩) l.length cap,.int .i64 (a:Int),.int .i64 (b:Int)] H
   (fun r H'=>∃ l',Mix a b l l'∧Srt A0b a b l'∧A4e H' g k n l'∧Chg (fun y=>y=g) H H'):=by
 refine A3a rfl Tryz.func129 rfl (Nat.le_of_ble_eq_true rfl) ?_
 have hres:Tryz.f129.results.toList=[]:=rfl
 have hTO:=strTO
 have w1:IntKind.wrap .i64 ((a:Int)+1)=((a+1:Nat):Int):=by rw [wrap64 (by omega) (by omega)]; rfl
 simp only [↓Sh.dn,sx,Nat.reduceBEq,reduceCtorEq,Nat.reduceEqDiff,w1]
 let Adj (i:Nat) (m:List ByteArray):Prop:=∀ (p:Nat) x y,a≤p→p+1 < i→m[p]?=some x→m[p+1]?=some y→A0b y x=false
 refine A4b (fun m F H' => ∃ (i : Nat) (l1 : List ByteArray), m = b - i ∧ a + 1 ≤ i ∧ (i ≤ b ∨ i = a + 1) ∧ Mix a b l l1 ∧ Adj i l1 ∧ A4e H' g k n l1 ∧ Chg (fun y => y = g) H H' ∧
     F.get 0 = some (.slice (some ⟨g, 0, some k⟩) l.length cap) ∧ F.get 1 = some (.int .i64 (a : Int)) ∧ F.get 2 = some (.int .i64 (b : Int)) ∧ F.get 6 = some (.int .i64 (i : Int))) (m := b - (a + 1))
   ⟨a + 1, l, rfl, by omega, .inr rfl, .refl l, fun p x y h1 h2 => by omega, hv, Chg.refl hw, by simp only [↓Sh.dn, sx, Nat.reduceBEq, reduceCtorEq, Nat.reduceEqDiff], by simp only [↓Sh.dn, sx, Nat.reduceBEq, reduceCtorEq, Nat.reduceEqDiff], by simp only [↓Sh.dn, sx, Nat.reduceBEq, reduceCtorEq, Nat.reduceEqDiff], by simp only [↓Sh.dn, sx, Nat.reduceBEq, reduceCtorEq, Nat.reduceEqDiff]⟩ ?_
 rintro m F H' ⟨i,l1,rfl,hai,hib,hm,hadj,hv1,hc1,f0,f1,f2,f6⟩ kk
 by_cases hlt:i < b
 ·simp only [↓Sh.dn,sx,Nat.reduceBEq,reduceCtorEq,Nat.reduceEqDiff,f2,f6,A1a,hlt,decide_true]
  refine A4b (fun m F' H2 => ∃ (j : Nat) (l2 : List ByteArray), m = j ∧ a ≤ j ∧ j ≤ i ∧ Mix a b l l2 ∧ (∀ (p : Nat) x y, a ≤ p → p + 1 < i + 1 → p + 1 ≠ j → l2[p]? = some x → l2[p + 1]? = some y → A0b y x = false) ∧
      (∀ x y, a < j → j < i → l2[j - 1]? = some x → l2[j + 1]? = some y → A0b y x = false) ∧ A4e H2 g k n l2 ∧ Chg (fun y => y = g) H H2 ∧
      F'.get 0 = some (.slice (some ⟨g, 0, some k⟩) l.length cap) ∧ F'.get 1 = some (.int .i64 (a : Int)) ∧ F'.get 2 = some (.int .i64 (b : Int)) ∧ F'.get 6 = some (.int .i64 (i : Int)) ∧ F'.get 7 = some (.int .i64 (j : Int))) (m := i)
    ⟨i, l1, rfl, by omega, Nat.le_refl _, hm, fun p x y h1 h2 h3 => hadj p x y h1 (by omega), fun x y h1 h2 => by omega, hv1, hc1, by simp only [↓Sh.dn, sx, Nat.reduceBEq, reduceCtorEq, Nat.reduceEqDiff, f0], by simp only [↓Sh.dn, sx, Nat.reduceBEq, reduceCtorEq, Nat.reduceEqDiff, f1], by simp only [↓Sh.dn, sx, Nat.reduceBEq, reduceCtorEq, Nat.reduceEqDiff, f2], by simp only [↓Sh.dn, sx, Nat.reduceBEq, reduceCtorEq, Nat.reduceEqDiff, f6], by simp only [↓Sh.dn, sx, Nat.reduceBEq, reduceCtorEq, Nat.reduceEqDiff]⟩ ?_
  rintro j F' H2 ⟨_,l2,rfl,haj,hji,hm2,hA,hB,hv2,hc2,g0,g1,g2,g6,g7⟩ k2
  have hlen:=hm2.length
  have wi:IntKind.wrap .i64 ((i:Int)+1)=((i+1:Nat):Int):=by rw [wrap64 (by omega) (by omega)]; rfl
  simp only [↓Sh.dn,sx,Nat.reduceBEq,reduceCtorEq,Nat.reduceEqDiff]
  refine (A1b (by kernel_rfl)).2 ?_
  by_cases hgt:a < j
  ·have wj:IntKind.wrap .i64 ((j:Int) - 1)=((j - 1:Nat):Int):=by rw [wrap64 (by omega) (by omega)]; omega
   have hj1:j < l2.length:=by omega
   have hj2:j - 1 < l2.length:=by omega
   have i1:=A8c (g:=g) (k:=k) (cap:=cap) (m:=l.length) (i:=j) (j:=.i64) (by omega)
   have i2:=A8c (g:=g) (k:=k) (cap:=cap) (m:=l.length) (i:=j - 1) (j:=.i64) (by omega)
   have r1:=A5c hv2 hj1
   have r2:=A5c hv2 hj2
   have q1:l2[j]?=some l2[j]:=List.getElem?_eq_getElem hj1
   have q2:l2[j - 1]?=some l2[j - 1]:=List.getElem?_eq_getElem hj2
   simp only [↓Sh.dn,sx,Nat.reduceBEq,reduceCtorEq,Nat.reduceEqDiff,g0,g1,g7,A1a,hgt,decide_true,wj,i1,i2,r1,r2]
   refine ⟨_,_,A7d,?_⟩
   cases hc:A0b l2[j] l2[j - 1] with
   | true=>
    simp only [↓Sh.dn,sx,Nat.reduceBEq,reduceCtorEq,Nat.reduceEqDiff]
    refine (A1b (by kernel_rfl)).2 ?_
    obtain ⟨K1,K2,e1,e2,e3,e4,e5⟩:=A5j hv2 hc2.wf hj1 hj2
    simp only [↓Sh.dn,sx,Nat.reduceBEq,reduceCtorEq,Nat.reduceEqDiff,g0,g7,wj,i1,i2,r1,r2,A7m,e1,e2]
    refine k2 (j - 1) _ _ (by omega) ⟨j - 1,swp l2 j (j - 1),rfl,by omega,by omega,hm2.swap (by omega) (by omega) (by omega) (by omega),fun p x y h1 h2 h3 hx hy=>?_,fun x y h1 h2 hx hy=>?_,e3,hc2.trans e4,by simp only [↓Sh.dn,sx,Nat.reduceBEq,reduceCtorEq,Nat.reduceEqDiff,g0],by simp only [↓Sh.dn,sx,Nat.reduceBEq,reduceCtorEq,Nat.reduceEqDiff,g1],by simp only [↓Sh.dn,sx,Nat.reduceBEq,reduceCtorEq,Nat.reduceEqDiff,g2],by simp only [↓Sh.dn,sx,Nat.reduceBEq,reduceCtorEq,Nat.reduceEqDiff,g6],by simp only [↓Sh.dn,sx,Nat.reduceBEq,reduceCtorEq,Nat.reduceEqDiff]⟩
    ·rw [swp_get hj1 hj2] at hx hy
     by_cases hp1:p+1=j
     ·have hp:p=j - 1:=by omega
      rw [if_pos hp,q1] at hx
      rw [if_neg (by omega),if_pos hp1,q2] at hy
      rw [← Option.some.inj hx,← Option.some.inj hy]
      exact hTO.asymm hc
     ·by_cases hp2:p=j
      ·rw [if_neg (by omega),if_pos hp2,q2] at hx
       rw [if_neg (by omega),if_neg (by omega)] at hy
       rw [← Option.some.inj hx]
       exact hB _ _ hgt (by omega) q2 (by rw [← hp2]; exact hy)
      ·rw [if_neg (by omega),if_neg hp2] at hx
       rw [if_neg (by omega),if_neg (by omega)] at hy
       exact hA p x y h1 h2 hp1 hx hy
    ·rw [swp_get hj1 hj2] at hx hy
     rw [if_neg (by omega),if_neg (by omega)] at hx
     rw [if_neg (by omega),if_pos (by omega),q2] at hy
     rw [← Option.some.inj hy]
     exact hA (j - 2) _ _ (by omega) (by omega) (by omega) (by rw [show j - 2=j - 1 - 1 by omega]; exact hx) (by rw [show j - 2+1=j - 1 by omega]; exact q2)
   | false=>
    simp only [↓Sh.dn,sx,Nat.reduceBEq,reduceCtorEq,Nat.reduceEqDiff,g6,wi]
    refine kk (b - (i+1)) _ _ (by omega) ⟨i+1,l2,rfl,by omega,.inl (by omega),hm2,fun p x y h1 h2 hx hy=>?_,hv2,hc2,by simp only [↓Sh.dn,sx,Nat.reduceBEq,reduceCtorEq,Nat.reduceEqDiff,g0],by simp only [↓Sh.dn,sx,Nat.reduceBEq,reduceCtorEq,Nat.reduceEqDiff,g1],by simp only [↓Sh.dn,sx,Nat.reduceBEq,reduceCtorEq,Nat.reduceEqDiff,g2],by simp only [↓Sh.dn,sx,Nat.reduceBEq,reduceCtorEq,Nat.reduceEqDiff]⟩
    by_cases hp:p+1=j
    ·have hp':p=j - 1:=by omega
     rw [hp',q2] at hx
     rw [hp,q1] at hy
     rw [← Option.some.inj hx,← Option.some.inj hy]; exact hc
    ·exact hA p x y h1 h2 hp hx hy
  ·simp only [↓Sh.dn,sx,Nat.reduceBEq,reduceCtorEq,Nat.reduceEqDiff,g0,g1,g7,A1a,hgt,decide_false,g6,wi]
   exact kk (b - (i+1)) _ _ (by omega) ⟨i+1,l2,rfl,by omega,.inl (by omega),hm2,fun p x y h1 h2 hx hy=>hA p x y h1 h2 (by omega) hx hy,hv2,hc2,by simp only [↓Sh.dn,sx,Nat.reduceBEq,reduceCtorEq,Nat.reduceEqDiff,g0],by simp only [↓Sh.dn,sx,Nat.reduceBEq,reduceCtorEq,Nat.reduceEqDiff,g1],by simp only [↓Sh.dn,sx,Nat.reduceBEq,reduceCtorEq,Nat.reduceEqDiff,g2],by simp only [↓Sh.dn,sx,Nat.reduceBEq,reduceCtorEq,Nat.reduceEqDiff]⟩
 ·simp only [↓Sh.dn,sx,Nat.reduceBEq,reduceCtorEq,Nat.reduceEqDiff,f2,f6,A1a,hlt,decide_false,hres]
  exact ⟨l1,hm,B0b hTO fun p x y h1 h2 hx hy=>hadj p x y h1 (by omega) hx hy,hv1,hc1⟩
end Go.Proofs.YtcgbiedfbacgpaaGreat
/- Small parts of the sort: reverseRange, order2, median, choosePivot. -/
namespace Go.Proofs.YtcgbiedfbacgpaaGreat
open Go Go.Proofs Go.Proofs.Sh
section
variable {H:AH} {g k n cap a b:Nat} {l:List ByteArray}
theorem B7d (hv:A4e H g k n l) (hw:Wf H) (hl:l.length≤1048576) (hab:a < b) (hb:b≤l.length):
  Sh.Call Tryz.prog (knows 7) 133 [.slice (some ⟨g,0,some k⟩) l.length cap,.int .i64 (a:Int),.int .i64 (b:Int)] H
   (fun r H'=>∃ l',Mix a b l l'∧A4e H' g k n l'∧Chg (fun y=>y=g) H H'):=by
 refine A3a rfl Tryz.func133 rfl (Nat.le_of_ble_eq_true rfl) ?_
 have hres:Tryz.f133.results.toList=[]:=rfl
 have w1:IntKind.wrap .i64 ((b:Int) - 1)=((b - 1:Nat):Int):=by rw [wrap64 (by omega) (by omega)]; omega
 simp only [↓Sh.dn,sx,Nat.reduceBEq,reduceCtorEq,Nat.reduceEqDiff,w1]
 refine A4b (fun m F H' => ∃ (i j : Nat) (l1 : List ByteArray), m = b - i ∧ a ≤ i ∧ i + j + 1 = a + b ∧ i ≤ b ∧ Mix a b l l1 ∧ A4e H' g k n l1 ∧ Chg (fun y => y = g) H H' ∧
     F.get 0 = some (.slice (some ⟨g, 0, some k⟩) l.length cap) ∧ F.get 6 = some (.int .i64 (i : Int)) ∧ F.get 7 = some (.int .i64 (j : Int))) (m := b - a)
   ⟨a, b - 1, l, rfl, by omega, by omega, by omega, .refl l, hv, Chg.refl hw, by simp only [↓Sh.dn, sx, Nat.reduceBEq, reduceCtorEq, Nat.reduceEqDiff], by simp only [↓Sh.dn, sx, Nat.reduceBEq, reduceCtorEq, Nat.reduceEqDiff], by simp only [↓Sh.dn, sx, Nat.reduceBEq, reduceCtorEq, Nat.reduceEqDiff]⟩ ?_
 rintro m F H' ⟨i,j,l1,rfl,hai,hij,hib,hm,hv1,hc1,f0,f6,f7⟩ kk
 have hlen:=hm.length
 by_cases hlt:i < j
 ·have hi:i < l1.length:=by omega
  have hj:j < l1.length:=by omega
  have wi:IntKind.wrap .i64 ((i:Int)+1)=((i+1:Nat):Int):=by rw [wrap64 (by omega) (by omega)]; rfl
  have wj:IntKind.wrap .i64 ((j:Int) - 1)=((j - 1:Nat):Int):=by rw [wrap64 (by omega) (by omega)]; omega
  have i1:=A8c (g:=g) (k:=k) (cap:=cap) (m:=l.length) (i:=i) (j:=.i64) (by omega)
  have i2:=A8c (g:=g) (k:=k) (cap:=cap) (m:=l.length) (i:=j) (j:=.i64) (by omega)
  have r1:=A5c hv1 hi
  have r2:=A5c hv1 hj
  obtain ⟨K1,K2,e1,e2,e3,e4,e5⟩:=A5j hv1 hc1.wf hi hj
  simp only [↓Sh.dn,sx,Nat.reduceBEq,reduceCtorEq,Nat.reduceEqDiff,f6,f7,A1a,hlt,decide_true]
  refine (A1b (by kernel_rfl)).2 ?_
  simp only [↓Sh.dn,sx,Nat.reduceBEq,reduceCtorEq,Nat.reduceEqDiff,f0,f6,f7,i1,i2,r1,r2,A7m,e1,e2,wi,wj]
  exact kk (b - (i+1)) _ _ (by omega) ⟨i+1,j - 1,swp l1 i j,rfl,by omega,by omega,by omega,hm.swap (by omega) (by omega) (by omega) (by omega),e3,hc1.trans e4,by simp only [↓Sh.dn,sx,Nat.reduceBEq,reduceCtorEq,Nat.reduceEqDiff,f0],by simp only [↓Sh.dn,sx,Nat.reduceBEq,reduceCtorEq,Nat.reduceEqDiff],by simp only [↓Sh.dn,sx,Nat.reduceBEq,reduceCtorEq,Nat.reduceEqDiff]⟩
 ·simp only [↓Sh.dn,sx,Nat.reduceBEq,reduceCtorEq,Nat.reduceEqDiff,f6,f7,A1a,hlt,decide_false,hres]
  exact ⟨l1,hm,hv1,hc1⟩
def B1e (H:AH) (p:Nat) (c:Int):Prop:=Arr H p 0 1 [.int .i64 c]
theorem B9e {i j p:Nat} {c:Int} (hv:A4e H g k n l) (hp:B1e H p c) (hpg:p≠g) (hw:Wf H) (hi:i < l.length) (hj:j < l.length):
  Sh.Call Tryz.prog (knows 7) 147 [.slice (some ⟨g,0,some k⟩) l.length cap,.int .i64 (i:Int),.int .i64 (j:Int),.pointer (some ⟨p,0,some 0⟩)] H
   (fun r H'=>∃ i' j':Nat,r=.tuple #[.int .i64 (i':Int),.int .i64 (j':Int)]∧(i'=i∧j'=j∨i'=j∧j'=i)∧A4e H' g k n l∧∃ c',B1e H' p c'∧Chg (fun y=>y=p) H H'):=by
 refine A3a rfl Tryz.func147 rfl (Nat.le_of_ble_eq_true rfl) ?_
 have hres:Tryz.f147.results.toList=[.tmp 8,.tmp 9]:=rfl
 have i1:=A8c (g:=g) (k:=k) (cap:=cap) (m:=l.length) (i:=i) (j:=.i64) hi
 have i2:=A8c (g:=g) (k:=k) (cap:=cap) (m:=l.length) (i:=j) (j:=.i64) hj
 have r1:=A5c hv hi
 have r2:=A5c hv hj
 have r3:H.cell ⟨p,0,some 0⟩=some (.int .i64 c):=hp.cell 0
 simp only [↓Sh.dn,sx,Nat.reduceBEq,reduceCtorEq,Nat.reduceEqDiff]
 refine (A1b (by kernel_rfl)).2 ?_
 simp only [↓Sh.dn,sx,Nat.reduceBEq,reduceCtorEq,Nat.reduceEqDiff,i1,i2,r1,r2]
 refine ⟨_,_,A7d,?_⟩
 cases hc:A0b l[j] l[i] with
 | true=>
  obtain ⟨K1,e1,e2,e3,e4⟩:=hp.write hw (i:=0) (vs:=[.int .i64 (IntKind.wrap .i64 (c+1))]) (by simp)
  have st:A3e Tryz.prog 3 H (.int .i64 (IntKind.wrap .i64 (c+1))) (.pointer (some ⟨p,0,some 0⟩))=H.write ⟨p,0,some 0⟩ [.int .i64 (IntKind.wrap .i64 (c+1))]:=A4d A2f rfl
  simp only [↓Sh.dn,sx,Nat.reduceBEq,reduceCtorEq,Nat.reduceEqDiff,r3,st,e1,hres]
  exact ⟨j,i,rfl,.inr ⟨rfl,rfl⟩,hv.chg hw e4 (fun h=>hpg h.symm),_,e2,e4⟩
 | false=>
  simp only [↓Sh.dn,sx,Nat.reduceBEq,reduceCtorEq,Nat.reduceEqDiff,hres]
  exact ⟨i,j,rfl,.inl ⟨rfl,rfl⟩,hv,c,hp,Chg.refl hw⟩
theorem B4e {i j m p:Nat} {c:Int} (hv:A4e H g k n l) (hp:B1e H p c) (hpg:p≠g) (hw:Wf H) (hi:i < l.length) (hj:j < l.length) (hm:m < l.length):
  Sh.Call Tryz.prog (knows 7) 145 [.slice (some ⟨g,0,some k⟩) l.length cap,.int .i64 (i:Int),.int .i64 (j:Int),.int .i64 (m:Int),.pointer (some ⟨p,0,some 0⟩)] H
   (fun r H'=>∃ q:Nat,r=.int .i64 (q:Int)∧(q=i∨q=j∨q=m)∧A4e H' g k n l∧∃ c',B1e H' p c'∧Chg (fun y=>y=p) H H'):=by
 refine A3a rfl Tryz.func145 rfl (Nat.le_of_ble_eq_true rfl) ?_
 have hres:Tryz.f145.results.toList=[.tmp 10]:=rfl
 obtain ⟨r,H1,hd1,i1,j1,rfl,h1,hv1,c1,hp1,hc1⟩:=B9e (cap:=cap) hv hp hpg hw hi hj
 have hi1:i1 < l.length:=by omega
 have hj1:j1 < l.length:=by omega
 obtain ⟨r,H2,hd2,j2,m2,rfl,h2,hv2,c2,hp2,hc2⟩:=B9e (cap:=cap) hv1 hp1 hpg hc1.wf hj1 hm
 have hj2:j2 < l.length:=by omega
 obtain ⟨r,H3,hd3,i3,j3,rfl,h3,hv3,c3,hp3,hc3⟩:=B9e (cap:=cap) hv2 hp2 hpg hc2.wf hi1 hj2
 simp only [↓Sh.dn,sx,Nat.reduceBEq,reduceCtorEq,Nat.reduceEqDiff]
 refine ⟨_,_,hd1,?_⟩
 simp only [↓Sh.dn,sx,Nat.reduceBEq,reduceCtorEq,Nat.reduceEqDiff]
 refine ⟨_,_,hd2,?_⟩
 simp only [↓Sh.dn,sx,Nat.reduceBEq,reduceCtorEq,Nat.reduceEqDiff]
 refine ⟨_,_,hd3,?_⟩
 simp only [↓Sh.dn,sx,Nat.reduceBEq,reduceCtorEq,Nat.reduceEqDiff,hres]
 exact ⟨j3,rfl,by omega,hv3,c3,hp3,(hc1.trans hc2).trans hc3⟩
theorem A3q {i p:Nat} {c:Int} (hv:A4e H g k n l) (hp:B1e H p c) (hpg:p≠g) (hw:Wf H) (hl:l.length≤1048576) (h0:1≤i) (hi:i+1 < l.length):
  Sh.Call Tryz.prog (knows 7) 144 [.slice (some ⟨g,0,some k⟩) l.length cap,.int .i64 (i:Int),.pointer (some ⟨p,0,some 0⟩)] H
   (fun r H'=>∃ q:Nat,r=.int .i64 (q:Int)∧(i≤q+1∧q≤i+1)∧A4e H' g k n l∧∃ c',B1e H' p c'∧Chg (fun y=>y=p) H H'):=by
 refine A3a rfl Tryz.func144 rfl (Nat.le_of_ble_eq_true rfl) ?_
 have hres:Tryz.f144.results.toList=[.tmp 6]:=rfl
 have w1:IntKind.wrap .i64 ((i:Int) - 1)=((i - 1:Nat):Int):=by rw [wrap64 (by omega) (by omega)]; omega
 have w2:IntKind.wrap .i64 ((i:Int)+1)=((i+1:Nat):Int):=by rw [wrap64 (by omega) (by omega)]; rfl
 obtain ⟨r,H1,hd1,q,rfl,h1,hv1,c1,hp1,hc1⟩:=B4e (cap:=cap) (i:=i - 1) (j:=i) (m:=i+1) hv hp hpg hw (by omega) (by omega) hi
 simp only [↓Sh.dn,sx,Nat.reduceBEq,reduceCtorEq,Nat.reduceEqDiff,w1,w2]
 refine ⟨_,_,hd1,?_⟩
 simp only [↓Sh.dn,sx,Nat.reduceBEq,reduceCtorEq,Nat.reduceEqDiff,hres]
 exact ⟨q,rfl,by omega,by omega,hv1,c1,hp1,hc1⟩
theorem B5i (hv:A4e H g k n l) (hw:Wf H) (hl:l.length≤1048576) (hab:a+12 < b) (hb:b≤l.length):
  Sh.Call Tryz.prog (knows 7) 132 [.slice (some ⟨g,0,some k⟩) l.length cap,.int .i64 (a:Int),.int .i64 (b:Int)] H
   (fun r H'=>∃ q:Nat,∃ h:Int,r=.tuple #[.int .i64 (q:Int),.int .i64 h]∧a≤q∧q < b∧A4e H' g k n l∧Kept H H'):=by
 refine A3a rfl Tryz.func132 rfl (Nat.le_of_ble_eq_true rfl) ?_
 have hres:Tryz.f132.results.toList=[.tmp 6,.tmp 7]:=rfl
 have al:anew Tryz.prog 3 H (.int .i64 0)=some (.pointer (some ⟨H.next,0,some 0⟩),(H.new 1 [.int .i64 0]).2):=A60 A2f rfl
 have w0:IntKind.wrap .i64 ((b:Int) - (a:Int))=((b - a:Nat):Int):=by rw [wrap64 (by omega) (by omega)]; omega
 have hq4:(Int.tdiv ((b - a:Nat):Int) 4)=(((b - a) / 4:Nat):Int):=by rw [Int.tdiv_eq_ediv_of_nonneg (by omega)]; rfl
 have A80:∀ {t:TypeId} {c:Bool} {x y:Int},y≠0→abin Tryz.prog t c .quo (.int .i64 x) (.int .i64 y)=some (.int .i64 (IntKind.wrap .i64 (x.tdiv y))):=by
  intro t c x y h
  simp only [abin,A8e,cond_true,aint,A6n,show (y == 0)=false from by simpa using h,cond_false]
 have wq:IntKind.wrap .i64 (((b - a) / 4:Nat):Int)=(((b - a) / 4:Nat):Int):=wrap64 (by omega) (by omega)
 have m1:IntKind.wrap .i64 ((((b - a) / 4:Nat):Int) * 1)=(((b - a) / 4 * 1:Nat):Int):=by rw [wrap64 (by omega) (by omega)]; omega
 have m2:IntKind.wrap .i64 ((((b - a) / 4:Nat):Int) * 2)=(((b - a) / 4 * 2:Nat):Int):=by rw [wrap64 (by omega) (by omega)]; omega
 have m3:IntKind.wrap .i64 ((((b - a) / 4:Nat):Int) * 3)=(((b - a) / 4 * 3:Nat):Int):=by rw [wrap64 (by omega) (by omega)]; omega
 have p1:IntKind.wrap .i64 ((a:Int)+(((b - a) / 4 * 1:Nat):Int))=((a+(b - a) / 4 * 1:Nat):Int):=by rw [wrap64 (by omega) (by omega)]; rfl
 have p2:IntKind.wrap .i64 ((a:Int)+(((b - a) / 4 * 2:Nat):Int))=((a+(b - a) / 4 * 2:Nat):Int):=by rw [wrap64 (by omega) (by omega)]; rfl
 have p3:IntKind.wrap .i64 ((a:Int)+(((b - a) / 4 * 3:Nat):Int))=((a+(b - a) / 4 * 3:Nat):Int):=by rw [wrap64 (by omega) (by omega)]; rfl
 have d8:decide ((8:Int)≤((b - a:Nat):Int))=true:=by simp; omega
 have hk1:Kept H (H.new 1 [.int .i64 0]).2:=Kept.new hw 1 _
 have hv0:A4e (H.new 1 [.int .i64 0]).2 g k n l:=hv.kept hw hk1
 have hp0:B1e (H.new 1 [.int .i64 0]).2 H.next 0:=(Obj.new (H:=H) 1 [.int .i64 0]).arr
 have hpg:H.next≠g:=by have:=hv.lt hw; omega
 simp only [↓Sh.dn,sx,Nat.reduceBEq,reduceCtorEq,Nat.reduceEqDiff,al,w0,A80 (show (4:Int)≠0 by decide),hq4,wq,m1,m2,m3,p1,p2,p3,d8]
 generalize (H.new 1 [.int .i64 0]).2=H1 at hk1 hv0 hp0 ⊢
 by_cases h50:50≤b - a
 ·have d50:decide ((50:Int)≤((b - a:Nat):Int))=true:=by simp; omega
  obtain ⟨r,H2,hd2,q1,rfl,h1,hv1,c1,hp1,hc1⟩:=A3q (cap:=cap) (i:=a+(b - a) / 4 * 1) hv0 hp0 hpg hk1.wf hl (by omega) (by omega)
  obtain ⟨r,H3,hd3,q2,rfl,h2,hv2,c2,hp2,hc2⟩:=A3q (cap:=cap) (i:=a+(b - a) / 4 * 2) hv1 hp1 hpg hc1.wf hl (by omega) (by omega)
  obtain ⟨r,H4,hd4,q3,rfl,h3,hv3,c3,hp3,hc3⟩:=A3q (cap:=cap) (i:=a+(b - a) / 4 * 3) hv2 hp2 hpg hc2.wf hl (by omega) (by omega)
  obtain ⟨r,H5,hd5,q4,rfl,h4,hv4,c4,hp4,hc4⟩:=B4e (cap:=cap) (i:=q1) (j:=q2) (m:=q3) hv3 hp3 hpg hc3.wf (by omega) (by omega) (by omega)
  have r9:H5.cell ⟨H.next,0,some 0⟩=some (.int .i64 c4):=hp4.cell 0
  have hkk:Kept H H5:=(((hk1.chg.trans hc1).trans hc2).trans hc3 |>.trans hc4).kept fun x hx=>by omega
  simp only [↓Sh.dn,sx,Nat.reduceBEq,reduceCtorEq,Nat.reduceEqDiff,d50]
  refine ⟨_,_,hd2,?_⟩
  try simp only [↓Sh.dn,sx,Nat.reduceBEq,reduceCtorEq,Nat.reduceEqDiff]
  refine ⟨_,_,hd3,?_⟩
  try simp only [↓Sh.dn,sx,Nat.reduceBEq,reduceCtorEq,Nat.reduceEqDiff]
  refine ⟨_,_,hd4,?_⟩
  try simp only [↓Sh.dn,sx,Nat.reduceBEq,reduceCtorEq,Nat.reduceEqDiff]
  refine ⟨_,_,hd5,?_⟩
  simp only [↓Sh.dn,sx,Nat.reduceBEq,reduceCtorEq,Nat.reduceEqDiff,r9]
  by_cases z0:c4=0
  ·simp only [↓Sh.dn,sx,Nat.reduceBEq,reduceCtorEq,Nat.reduceEqDiff,z0,decide_true,hres]
   exact ⟨q4,1,rfl,by omega,by omega,hv4,hkk⟩
  ·simp only [↓Sh.dn,sx,Nat.reduceBEq,reduceCtorEq,Nat.reduceEqDiff,z0,decide_false]
   by_cases z1:c4=12
   ·simp only [↓Sh.dn,sx,Nat.reduceBEq,reduceCtorEq,Nat.reduceEqDiff,z1,decide_true,hres]
    exact ⟨q4,2,rfl,by omega,by omega,hv4,hkk⟩
   ·simp only [↓Sh.dn,sx,Nat.reduceBEq,reduceCtorEq,Nat.reduceEqDiff,z1,decide_false,hres]
    exact ⟨q4,0,rfl,by omega,by omega,hv4,hkk⟩
 ·have d50:decide ((50:Int)≤((b - a:Nat):Int))=false:=by simp; omega
  obtain ⟨r,H5,hd5,q4,rfl,h4,hv4,c4,hp4,hc4⟩:=B4e (cap:=cap) (i:=a+(b - a) / 4 * 1) (j:=a+(b - a) / 4 * 2) (m:=a+(b - a) / 4 * 3) hv0 hp0 hpg hk1.wf (by omega) (by omega) (by omega)
  have r9:H5.cell ⟨H.next,0,some 0⟩=some (.int .i64 c4):=hp4.cell 0
  have hkk:Kept H H5:=(hk1.chg.trans hc4).kept fun x hx=>by omega
  simp only [↓Sh.dn,sx,Nat.reduceBEq,reduceCtorEq,Nat.reduceEqDiff,d50]
  refine ⟨_,_,hd5,?_⟩
  simp only [↓Sh.dn,sx,Nat.reduceBEq,reduceCtorEq,Nat.reduceEqDiff,r9]
  by_cases z0:c4=0
  ·simp only [↓Sh.dn,sx,Nat.reduceBEq,reduceCtorEq,Nat.reduceEqDiff,z0,decide_true,hres]
   exact ⟨q4,1,rfl,by omega,by omega,hv4,hkk⟩
  ·simp only [↓Sh.dn,sx,Nat.reduceBEq,reduceCtorEq,Nat.reduceEqDiff,z0,decide_false]
   by_cases z1:c4=12
   ·simp only [↓Sh.dn,sx,Nat.reduceBEq,reduceCtorEq,Nat.reduceEqDiff,z1,decide_true,hres]
    exact ⟨q4,2,rfl,by omega,by omega,hv4,hkk⟩
   ·simp only [↓Sh.dn,sx,Nat.reduceBEq,reduceCtorEq,Nat.reduceEqDiff,z1,decide_false,hres]
    exact ⟨q4,0,rfl,by omega,by omega,hv4,hkk⟩
end
end Go.Proofs.YtcgbiedfbacgpaaGreat
/- breakPatternsOrdered. -/
namespace Go.Proofs.YtcgbiedfbacgpaaGreat
open Go Go.Proofs Go.Proofs.Sh
section
variable {H:AH} {g k n cap a b:Nat} {l:List ByteArray}
theorem C2h {p:Nat} {z:Int} (hp:Arr H p 0 1 [.int .u64 z]) (hw:Wf H):
  Sh.Call Tryz.prog (knows 7) 139 [.pointer (some ⟨p,0,some 0⟩)] H (fun r H'=>∃ z',r=.int .u64 z'∧Arr H' p 0 1 [.int .u64 z']∧Chg (fun y=>y=p) H H'):=by
 refine A3a rfl Tryz.func139 rfl (Nat.le_of_ble_eq_true rfl) ?_
 have hres:Tryz.f139.results.toList=[.tmp 2]:=rfl
 have st:∀ (H:AH) (z:Int),A3e Tryz.prog 168 H (.int .u64 z) (.pointer (some ⟨p,0,some 0⟩))=H.write ⟨p,0,some 0⟩ [.int .u64 z]:=fun H z=>A4d A3z rfl
 obtain ⟨s1,h1⟩:∃ s,A8l true .u64 z 13=some (.int .u64 s):=A9z (b:=13)
 have r0:H.cell ⟨p,0,some 0⟩=some (.int .u64 z):=hp.cell 0
 obtain ⟨K1,e1,a1,n1,c1⟩:=hp.write hw (i:=0) (vs:=[.int .u64 (IntKind.wrap .u64 ((BitVec.ofInt IntKind.u64.bits z) ^^^ (BitVec.ofInt IntKind.u64.bits s1)).toNat)]) (by simp)
 simp only [↓Sh.dn,sx,Nat.reduceBEq,reduceCtorEq,Nat.reduceEqDiff]
 refine (A1b (by kernel_rfl)).2 ?_
 simp only [↓Sh.dn,sx,Nat.reduceBEq,reduceCtorEq,Nat.reduceEqDiff,r0,C7y,h1,C9j,st,e1]
 generalize IntKind.wrap .u64 ((BitVec.ofInt IntKind.u64.bits z) ^^^ (BitVec.ofInt IntKind.u64.bits s1)).toNat=z1 at a1 e1 ⊢
 obtain ⟨s2,h2⟩:∃ s,A8l false .u64 z1 7=some (.int .u64 s):=A9z (b:=7)
 have r1:K1.cell ⟨p,0,some 0⟩=some (.int .u64 z1):=a1.cell 0
 obtain ⟨K2,e2,a2,n2,c2⟩:=a1.write c1.wf (i:=0) (vs:=[.int .u64 (IntKind.wrap .u64 ((BitVec.ofInt IntKind.u64.bits z1) ^^^ (BitVec.ofInt IntKind.u64.bits s2)).toNat)]) (by simp [setCells])
 refine (A1b (by kernel_rfl)).2 ?_
 simp only [↓Sh.dn,sx,Nat.reduceBEq,reduceCtorEq,Nat.reduceEqDiff,r1,C0k,h2,C9j,st,e2]
 generalize IntKind.wrap .u64 ((BitVec.ofInt IntKind.u64.bits z1) ^^^ (BitVec.ofInt IntKind.u64.bits s2)).toNat=z2 at a2 e2 ⊢
 obtain ⟨s3,h3⟩:∃ s,A8l true .u64 z2 17=some (.int .u64 s):=A9z (b:=17)
 have r2:K2.cell ⟨p,0,some 0⟩=some (.int .u64 z2):=a2.cell 0
 obtain ⟨K3,e3,a3,n3,c3⟩:=a2.write c2.wf (i:=0) (vs:=[.int .u64 (IntKind.wrap .u64 ((BitVec.ofInt IntKind.u64.bits z2) ^^^ (BitVec.ofInt IntKind.u64.bits s3)).toNat)]) (by simp [setCells])
 refine (A1b (by kernel_rfl)).2 ?_
 simp only [↓Sh.dn,sx,Nat.reduceBEq,reduceCtorEq,Nat.reduceEqDiff,r2,C7y,h3,C9j,st,e3]
 generalize IntKind.wrap .u64 ((BitVec.ofInt IntKind.u64.bits z2) ^^^ (BitVec.ofInt IntKind.u64.bits s3)).toNat=z3 at a3 e3 ⊢
 have r3:K3.cell ⟨p,0,some 0⟩=some (.int .u64 z3):=a3.cell 0
 simp only [↓Sh.dn,sx,Nat.reduceBEq,reduceCtorEq,Nat.reduceEqDiff,r3,hres]
 exact ⟨z3,rfl,a3,(c1.trans c2).trans c3⟩
theorem A79 (hv:A4e H g k n l) (hw:Wf H) (hl:l.length≤1048576) (hab:a+12 < b) (hb:b≤l.length):
  Sh.Call Tryz.prog (knows 7) 131 [.slice (some ⟨g,0,some k⟩) l.length cap,.int .i64 (a:Int),.int .i64 (b:Int)] H
   (fun r H'=>∃ l',Mix a b l l'∧A4e H' g k n l'∧Chg (fun y=>y=g) H H'):=by
 refine A3a rfl Tryz.func131 rfl (Nat.le_of_ble_eq_true rfl) ?_
 have hres:Tryz.f131.results.toList=[]:=rfl
 have w0:IntKind.wrap .i64 ((b:Int) - (a:Int))=((b - a:Nat):Int):=by rw [wrap64 (by omega) (by omega)]; omega
 have d8:decide ((8:Int)≤((b - a:Nat):Int))=true:=by simp; omega
 have wu:IntKind.wrap .u64 ((b - a:Nat):Int)=((b - a:Nat):Int):=A3w (by omega) (by omega)
 have al:anew Tryz.prog 168 H (.int .u64 0)=some (.pointer (some ⟨H.next,0,some 0⟩),(H.new 1 [.int .u64 0]).2):=A60 A3z rfl
 have st:∀ (H:AH) (p:Addr) (z:Int),A3e Tryz.prog 168 H (.int .u64 z) (.pointer (some p))=H.write p [.int .u64 z]:=fun H p z=>A4d A3z rfl
 have ov:(H.new 1 [.int .u64 0]).2.write ⟨H.next,0,some 0⟩ [.int .u64 ((b - a:Nat):Int)]=some (H.new 1 [.int .u64 ((b - a:Nat):Int)]).2:=A2r rfl
 have hq4:(Int.tdiv ((b - a:Nat):Int) 4)=(((b - a) / 4:Nat):Int):=by rw [Int.tdiv_eq_ediv_of_nonneg (by omega)]; rfl
 have wq:IntKind.wrap .i64 (((b - a) / 4:Nat):Int)=(((b - a) / 4:Nat):Int):=wrap64 (by omega) (by omega)
 have m2:IntKind.wrap .i64 ((((b - a) / 4:Nat):Int) * 2)=(((b - a) / 4 * 2:Nat):Int):=by rw [wrap64 (by omega) (by omega)]; omega
 have p2:IntKind.wrap .i64 ((a:Int)+(((b - a) / 4 * 2:Nat):Int))=((a+(b - a) / 4 * 2:Nat):Int):=by rw [wrap64 (by omega) (by omega)]; rfl
 have q1:IntKind.wrap .i64 (((a+(b - a) / 4 * 2:Nat):Int) - 1)=((a+(b - a) / 4 * 2 - 1:Nat):Int):=by rw [wrap64 (by omega) (by omega)]; omega
 have q2:IntKind.wrap .i64 (((a+(b - a) / 4 * 2:Nat):Int)+1)=((a+(b - a) / 4 * 2+1:Nat):Int):=by rw [wrap64 (by omega) (by omega)]; rfl
 have hk1:Kept H (H.new 1 [.int .u64 ((b - a:Nat):Int)]).2:=Kept.new hw 1 _
 have hp0:Arr (H.new 1 [.int .u64 ((b - a:Nat):Int)]).2 H.next 0 1 [.int .u64 ((b - a:Nat):Int)]:=(Obj.new (H:=H) 1 _).arr
 have hv0:=hv.kept hw hk1
 have hpg:H.next≠g:=by have:=hv.lt hw; omega
 simp only [↓Sh.dn,sx,Nat.reduceBEq,reduceCtorEq,Nat.reduceEqDiff,w0,d8,wu,al,st,ov]
 generalize (H.new 1 [.int .u64 ((b - a:Nat):Int)]).2=H1 at hk1 hv0 hp0 ⊢
 obtain ⟨r,H2,hd,rfl,c,rfl,hc1,hc2,hc3⟩:=C0z (H:=H1) (x:=b - a) (by omega)
 refine ⟨_,_,hd,?_⟩
 simp only [↓Sh.dn,sx,Nat.reduceBEq,reduceCtorEq,Nat.reduceEqDiff,w0,A80 (show (4:Int)≠0 by decide),hq4,wq,m2,p2,q1]
 have hc2':=hc2 (by omega)
 have hpos:0 < 2 ^ c:=Nat.two_pow_pos c
 have wc:IntKind.wrap .u64 (((2 ^ c:Nat):Int) - 1)=((2 ^ c - 1:Nat):Int):=by
  rw [A3w (by omega) (by omega)]; omega
 generalize hM:2 ^ c=M at *
 refine A4b (fun m F H' => ∃ (i : Nat) (z : Int) (l1 : List ByteArray), m = a + (b - a) / 4 * 2 + 2 - i ∧ a + (b - a) / 4 * 2 - 1 ≤ i ∧ Mix a b l l1 ∧ A4e H' g k n l1 ∧ Arr H' H.next 0 1 [.int .u64 z] ∧ Chg (fun y => y = g ∨ y = H.next) H2 H' ∧
     F.get 0 = some (.slice (some ⟨g, 0, some k⟩) l.length cap) ∧ F.get 1 = some (.int .i64 (a : Int)) ∧ F.get 6 = some (.int .i64 ((b - a : Nat) : Int)) ∧ F.get 7 = some (.pointer (some ⟨H.next, 0, some 0⟩)) ∧ F.get 8 = some (.int .u64 (M : Int)) ∧ F.get 9 = some (.int .i64 (i : Int))) (m := a + (b - a) / 4 * 2 + 2 - (a + (b - a) / 4 * 2 - 1))
   ⟨a + (b - a) / 4 * 2 - 1, _, l, rfl, by omega, .refl l, hv0, hp0, Chg.refl hk1.wf, by simp only [↓Sh.dn, sx, Nat.reduceBEq, reduceCtorEq, Nat.reduceEqDiff], by simp only [↓Sh.dn, sx, Nat.reduceBEq, reduceCtorEq, Nat.reduceEqDiff], by simp only [↓Sh.dn, sx, Nat.reduceBEq, reduceCtorEq, Nat.reduceEqDiff], by simp only [↓Sh.dn, sx, Nat.reduceBEq, reduceCtorEq, Nat.reduceEqDiff], by simp only [↓Sh.dn, sx, Nat.reduceBEq, reduceCtorEq, Nat.reduceEqDiff], by simp only [↓Sh.dn, sx, Nat.reduceBEq, reduceCtorEq, Nat.reduceEqDiff]⟩ ?_
 rintro m F H' ⟨i,z,l1,rfl,hai,hm,hv1,hp1,hch,f0,f1,f6,f7,f8,f9⟩ kk
 have hlen:=hm.length
 by_cases hlt:i≤a+(b - a) / 4 * 2+1
 ·have dl:decide ((i:Int)≤((a+(b - a) / 4 * 2+1:Nat):Int))=true:=by simp; omega
  obtain ⟨r,H3,hd3,z',rfl,hp2,hc3'⟩:=C2h hp1 hch.wf
  have hv2:=hv1.chg hch.wf hc3' (fun h=>hpg h.symm)
  obtain ⟨o,ho1,ho2⟩:=and_le z' (m:=M - 1) (by omega)
  have wo:IntKind.wrap .i64 (o:Int)=(o:Int):=wrap64 (by omega) (by omega)
  simp only [↓Sh.dn,sx,Nat.reduceBEq,reduceCtorEq,Nat.reduceEqDiff,f1,f6,f9,A80 (show (4:Int)≠0 by decide),hq4,wq,m2,p2,q2,dl,f7]
  refine ⟨_,_,hd3,?_⟩
  simp only [↓Sh.dn,sx,Nat.reduceBEq,reduceCtorEq,Nat.reduceEqDiff,f8,wc,b_and,ho2,wo,f6]
  have key:∀ (o':Nat) (F':Fr),o' < b - a→F'.get 0=some (.slice (some ⟨g,0,some k⟩) l.length cap)→F'.get 1=some (.int .i64 (a:Int))→F'.get 6=some (.int .i64 ((b - a:Nat):Int))→F'.get 7=some (.pointer (some ⟨H.next,0,some 0⟩))→F'.get 8=some (.int .u64 (M:Int))→F'.get 9=some (.int .i64 (i:Int))→F'.get 10=some (.int .i64 (o':Int))→True:=fun _ _ _ _ _ _ _ _ _ _=>trivial
  have wi:IntKind.wrap .i64 ((i:Int)+1)=((i+1:Nat):Int):=by rw [wrap64 (by omega) (by omega)]; rfl
  by_cases hbig:b - a≤o
  ·have db:decide (((b - a:Nat):Int)≤(o:Int))=true:=by simp; omega
   have ws:IntKind.wrap .i64 ((o:Int) - ((b - a:Nat):Int))=((o - (b - a):Nat):Int):=by rw [wrap64 (by omega) (by omega)]; omega
   have wa:IntKind.wrap .i64 ((a:Int)+((o - (b - a):Nat):Int))=((a+(o - (b - a)):Nat):Int):=by rw [wrap64 (by omega) (by omega)]; rfl
   have hi:i < l1.length:=by omega
   have hj:a+(o - (b - a)) < l1.length:=by omega
   have i1:=A8c (g:=g) (k:=k) (cap:=cap) (m:=l.length) (i:=i) (j:=.i64) (by omega)
   have i2:=A8c (g:=g) (k:=k) (cap:=cap) (m:=l.length) (i:=a+(o - (b - a))) (j:=.i64) (by omega)
   have r1:=A5c hv2 hi
   have r2:=A5c hv2 hj
   obtain ⟨K1,K2,e1,e2,e3,e4,e5⟩:=A5j hv2 hc3'.wf hi hj
   simp only [↓Sh.dn,sx,Nat.reduceBEq,reduceCtorEq,Nat.reduceEqDiff,db,f6,ws]
   refine (A1b (by kernel_rfl)).2 ?_
   simp only [↓Sh.dn,sx,Nat.reduceBEq,reduceCtorEq,Nat.reduceEqDiff,f0,f1,f9,wa,i1,i2,r1,r2,A7m,e1,e2,wi]
   exact kk (a+(b - a) / 4 * 2+2 - (i+1)) _ _ (by omega) ⟨i+1,z',swp l1 i (a+(o - (b - a))),rfl,by omega,hm.swap (by omega) (by omega) (by omega) (by omega),e3,hp2.keep (e4.old _ (hp2.lt hc3'.wf) hpg),(hch.trans (hc3'.weak fun _ h=>.inr h)).trans (e4.weak fun _ h=>.inl h),by simp only [↓Sh.dn,sx,Nat.reduceBEq,reduceCtorEq,Nat.reduceEqDiff,f0],by simp only [↓Sh.dn,sx,Nat.reduceBEq,reduceCtorEq,Nat.reduceEqDiff,f1],by simp only [↓Sh.dn,sx,Nat.reduceBEq,reduceCtorEq,Nat.reduceEqDiff,f6],by simp only [↓Sh.dn,sx,Nat.reduceBEq,reduceCtorEq,Nat.reduceEqDiff,f7],by simp only [↓Sh.dn,sx,Nat.reduceBEq,reduceCtorEq,Nat.reduceEqDiff,f8],by simp only [↓Sh.dn,sx,Nat.reduceBEq,reduceCtorEq,Nat.reduceEqDiff]⟩
  ·have db:decide (((b - a:Nat):Int)≤(o:Int))=false:=by simp; omega
   have wa:IntKind.wrap .i64 ((a:Int)+(o:Int))=((a+o:Nat):Int):=by rw [wrap64 (by omega) (by omega)]; rfl
   have hi:i < l1.length:=by omega
   have hj:a+o < l1.length:=by omega
   have i1:=A8c (g:=g) (k:=k) (cap:=cap) (m:=l.length) (i:=i) (j:=.i64) (by omega)
   have i2:=A8c (g:=g) (k:=k) (cap:=cap) (m:=l.length) (i:=a+o) (j:=.i64) (by omega)
   have r1:=A5c hv2 hi
   have r2:=A5c hv2 hj
   obtain ⟨K1,K2,e1,e2,e3,e4,e5⟩:=A5j hv2 hc3'.wf hi hj
   simp only [↓Sh.dn,sx,Nat.reduceBEq,reduceCtorEq,Nat.reduceEqDiff,db]
   refine (A1b (by kernel_rfl)).2 ?_
   simp only [↓Sh.dn,sx,Nat.reduceBEq,reduceCtorEq,Nat.reduceEqDiff,f0,f1,f9,wa,i1,i2,r1,r2,A7m,e1,e2,wi]
   exact kk (a+(b - a) / 4 * 2+2 - (i+1)) _ _ (by omega) ⟨i+1,z',swp l1 i (a+o),rfl,by omega,hm.swap (by omega) (by omega) (by omega) (by omega),e3,hp2.keep (e4.old _ (hp2.lt hc3'.wf) hpg),(hch.trans (hc3'.weak fun _ h=>.inr h)).trans (e4.weak fun _ h=>.inl h),by simp only [↓Sh.dn,sx,Nat.reduceBEq,reduceCtorEq,Nat.reduceEqDiff,f0],by simp only [↓Sh.dn,sx,Nat.reduceBEq,reduceCtorEq,Nat.reduceEqDiff,f1],by simp only [↓Sh.dn,sx,Nat.reduceBEq,reduceCtorEq,Nat.reduceEqDiff,f6],by simp only [↓Sh.dn,sx,Nat.reduceBEq,reduceCtorEq,Nat.reduceEqDiff,f7],by simp only [↓Sh.dn,sx,Nat.reduceBEq,reduceCtorEq,Nat.reduceEqDiff,f8],by simp only [↓Sh.dn,sx,Nat.reduceBEq,reduceCtorEq,Nat.reduceEqDiff]⟩
 ·have dl:decide ((i:Int)≤((a+(b - a) / 4 * 2+1:Nat):Int))=false:=by simp; omega
  simp only [↓Sh.dn,sx,Nat.reduceBEq,reduceCtorEq,Nat.reduceEqDiff,f1,f6,f9,A80 (show (4:Int)≠0 by decide),hq4,wq,m2,p2,q2,dl,hres]
  refine ⟨l1,hm,hv1,?_⟩
  exact ⟨fun x hx hxg=>(hch.old x (Nat.lt_of_lt_of_le hx hk1.next) (fun h=>by rcases h with h | h; exact hxg h; omega)).trans (hk1.old x hx),Nat.le_trans hk1.next hch.next,hch.wf⟩
end
end Go.Proofs.YtcgbiedfbacgpaaGreat
/- siftDownOrdered, heapSortOrdered. -/
namespace Go.Proofs.YtcgbiedfbacgpaaGreat
open Go Go.Proofs Go.Proofs.Sh
def A75 (l:List ByteArray) (f lo hi:Nat):Prop:=∀ (q r:Nat) x y,lo≤r→(q=2 * r+1∨q=2 * r+2)→q < hi→l[f+r]?=some x→l[f+q]?=some y→A0b x y=false
theorem C3i {l:List ByteArray} {f hi:Nat} (h:A75 l f 0 hi) (hl:f+hi≤l.length):∀ (q:Nat) x y,q < hi→l[f]?=some x→l[f+q]?=some y→A0b x y=false:=by
 intro q
 induction q using Nat.strongRecOn with
 | _ q ih=>
  intro x y hq hx hy
  by_cases h0:q=0
  ·subst h0
   rw [Nat.add_zero,hx] at hy
   rw [← Option.some.inj hy]; exact strTO.irrefl x
  ·have hr:(q - 1) / 2 < q:=by omega
   have hz:l[f+(q - 1) / 2]?=some (l[f+(q - 1) / 2]'(by omega)):=List.getElem?_eq_getElem (by omega)
   exact strTO.le_trans (h q ((q - 1) / 2) _ _ (Nat.zero_le _) (by omega) hq hz hy) (ih _ hr x _ (by omega) hx hz)
section
variable {H:AH} {g k n cap:Nat} {l:List ByteArray}
theorem B9d {lo hi f:Nat} (hv:A4e H g k n l) (hw:Wf H) (hl:l.length≤1048576) (hlo:lo≤hi) (hb:f+hi≤l.length) (hh:A75 l f (lo+1) hi):
  Sh.Call Tryz.prog (knows 7) 143 [.slice (some ⟨g,0,some k⟩) l.length cap,.int .i64 (lo:Int),.int .i64 (hi:Int),.int .i64 (f:Int)] H
   (fun r H'=>∃ l',Mix (f+lo) (f+hi) l l'∧A75 l' f lo hi∧A4e H' g k n l'∧Chg (fun y=>y=g) H H'):=by
 refine A3a rfl Tryz.func143 rfl (Nat.le_of_ble_eq_true rfl) ?_
 have hres:Tryz.f143.results.toList=[]:=rfl
 have hTO:=strTO
 simp only [↓Sh.dn,sx,Nat.reduceBEq,reduceCtorEq,Nat.reduceEqDiff]
 refine A4b (fun m F H' => ∃ (r : Nat) (l1 : List ByteArray), m = hi - r ∧ lo ≤ r ∧ r ≤ hi ∧ Mix (f + lo) (f + hi) l l1 ∧
     (∀ (q p : Nat) x y, lo ≤ p → p ≠ r → (q = 2 * p + 1 ∨ q = 2 * p + 2) → q < hi → l1[f + p]? = some x → l1[f + q]? = some y → A0b x y = false) ∧
     (∀ (q p : Nat) x y, lo ≤ p → (r = 2 * p + 1 ∨ r = 2 * p + 2) → (q = 2 * r + 1 ∨ q = 2 * r + 2) → q < hi → l1[f + p]? = some x → l1[f + q]? = some y → A0b x y = false) ∧
     A4e H' g k n l1 ∧ Chg (fun y => y = g) H H' ∧
     F.get 0 = some (.slice (some ⟨g, 0, some k⟩) l.length cap) ∧ F.get 2 = some (.int .i64 (hi : Int)) ∧ F.get 3 = some (.int .i64 (f : Int)) ∧ F.get 8 = some (.int .i64 (r : Int))) (m := hi - lo)
   ⟨lo, l, rfl, Nat.le_refl _, hlo, .refl l, fun q p x y h1 h2 h3 h4 hx hy => hh q p x y (by omega) h3 h4 hx hy, fun q p x y h1 h2 => by omega, hv, Chg.refl hw, by simp only [↓Sh.dn, sx, Nat.reduceBEq, reduceCtorEq, Nat.reduceEqDiff], by simp only [↓Sh.dn, sx, Nat.reduceBEq, reduceCtorEq, Nat.reduceEqDiff], by simp only [↓Sh.dn, sx, Nat.reduceBEq, reduceCtorEq, Nat.reduceEqDiff], by simp only [↓Sh.dn, sx, Nat.reduceBEq, reduceCtorEq, Nat.reduceEqDiff]⟩ ?_
 rintro m F H' ⟨r,l1,rfl,hr,hrh,hm,hA,hB,hv1,hc1,f0,f2,f3,f8⟩ kk
 have hlen:=hm.length
 have w1:IntKind.wrap .i64 ((2:Int) * (r:Int))=((2 * r:Nat):Int):=by rw [wrap64 (by omega) (by omega)]; rfl
 have w2:IntKind.wrap .i64 (((2 * r:Nat):Int)+1)=((2 * r+1:Nat):Int):=by rw [wrap64 (by omega) (by omega)]; rfl
 have w3:IntKind.wrap .i64 (((2 * r+1:Nat):Int)+1)=((2 * r+1+1:Nat):Int):=by rw [wrap64 (by omega) (by omega)]; rfl
 simp only [↓Sh.dn,sx,Nat.reduceBEq,reduceCtorEq,Nat.reduceEqDiff,f2,f8,w1,w2]
 by_cases hend:hi≤2 * r+1
 ·have d:decide ((hi:Int)≤((2 * r+1:Nat):Int))=true:=by simp; omega
  simp only [↓Sh.dn,sx,Nat.reduceBEq,reduceCtorEq,Nat.reduceEqDiff,d,hres]
  exact ⟨l1,hm,fun q p x y h1 h2 h3 hx hy=>hA q p x y h1 (by omega) h2 h3 hx hy,hv1,hc1⟩
 have d:decide ((hi:Int)≤((2 * r+1:Nat):Int))=false:=by simp; omega
 simp only [↓Sh.dn,sx,Nat.reduceBEq,reduceCtorEq,Nat.reduceEqDiff,d]
 have jr:f+r < l1.length:=by omega
 have ir:=A8c (g:=g) (k:=k) (cap:=cap) (m:=l.length) (i:=f+r) (j:=.i64) (by omega)
 have gr:=A5c hv1 jr
 have qr:l1[f+r]?=some l1[f+r]:=List.getElem?_eq_getElem jr
 have wfr:IntKind.wrap .i64 ((f:Int)+(r:Int))=((f+r:Nat):Int):=by rw [wrap64 (by omega) (by omega)]; rfl
 refine B4g (fun F' H2=>H2=H'∧F'.get 0=some (.slice (some ⟨g,0,some k⟩) l.length cap)∧F'.get 2=some (.int .i64 (hi:Int))∧F'.get 3=some (.int .i64 (f:Int))∧F'.get 8=some (.int .i64 (r:Int))∧F'.get 9=some (.int .i64 ((2 * r+1:Nat):Int))∧
  ∃ bb:Bool,F'.get 36=some (.bool bb)∧(bb=true→2 * r+2 < hi∧∀ y z,l1[f+(2 * r+1)]?=some y→l1[f+(2 * r+2)]?=some z→A0b y z=true)∧(bb=false→2 * r+2 < hi→∀ y z,l1[f+(2 * r+1)]?=some y→l1[f+(2 * r+2)]?=some z→A0b y z=false)) rfl ?_ ?_
 ·refine (A1b (by kernel_rfl)).2 ?_
  by_cases h2:2 * r+1+1 < hi
  ·have j1:f+(2 * r+1) < l1.length:=by omega
   have j2:f+(2 * r+1)+1 < l1.length:=by omega
   have i1:=A8c (g:=g) (k:=k) (cap:=cap) (m:=l.length) (i:=f+(2 * r+1)) (j:=.i64) (by omega)
   have i2:=A8c (g:=g) (k:=k) (cap:=cap) (m:=l.length) (i:=f+(2 * r+1)+1) (j:=.i64) (by omega)
   have g1:=A5c hv1 j1
   have g2:=A5c hv1 j2
   have u1:IntKind.wrap .i64 ((f:Int)+((2 * r+1:Nat):Int))=((f+(2 * r+1):Nat):Int):=by rw [wrap64 (by omega) (by omega)]; rfl
   have u2:IntKind.wrap .i64 (((f+(2 * r+1):Nat):Int)+1)=((f+(2 * r+1)+1:Nat):Int):=by rw [wrap64 (by omega) (by omega)]; rfl
   simp only [↓Sh.dn,sx,Nat.reduceBEq,reduceCtorEq,Nat.reduceEqDiff,f0,f2,f3,w3,A1a,h2,decide_true,u1,u2,i1,i2,g1,g2]
   refine ⟨_,_,A7d,?_⟩
   simp only [↓Sh.dn,sx,Nat.reduceBEq,reduceCtorEq,Nat.reduceEqDiff,f0,f2,f3,f8]
   have e1:l1[f+(2 * r+1)]?=some l1[f+(2 * r+1)]:=List.getElem?_eq_getElem j1
   have e2:l1[f+(2 * r+2)]?=some l1[f+(2 * r+1)+1]:=List.getElem?_eq_getElem j2
   refine ⟨fun hb y z hy hz=>?_,fun hb y z hy hz=>?_⟩
   ·rw [e1] at hy; rw [e2] at hz; rw [← Option.some.inj hy,← Option.some.inj hz]; exact hb
   ·rw [e1] at hy; rw [e2] at hz; rw [← Option.some.inj hy,← Option.some.inj hz]; exact hb
  ·simp only [↓Sh.dn,sx,Nat.reduceBEq,reduceCtorEq,Nat.reduceEqDiff,f0,f2,f3,f8,w3,A1a,h2,decide_false]
   try (refine fun h=>by omega)
 rintro F1 H2 ⟨rfl,x0,x2,x3,x8,x9,bb,x36,hb1,hb2⟩
 refine B6j (fun F' H3=>H3=H2∧F'.get 0=some (.slice (some ⟨g,0,some k⟩) l.length cap)∧F'.get 2=some (.int .i64 (hi:Int))∧F'.get 3=some (.int .i64 (f:Int))∧F'.get 8=some (.int .i64 (r:Int))∧
  ∃ c:Nat,F'.get 9=some (.int .i64 (c:Int))∧(c=2 * r+1∨c=2 * r+2)∧c < hi∧(∀ (q:Nat) y z,(q=2 * r+1∨q=2 * r+2)→q < hi→l1[f+c]?=some y→l1[f+q]?=some z→A0b y z=false)) rfl ?_ ?_
 ·cases bb with
  | true=>
   obtain ⟨h1,h2⟩:=hb1 rfl
   simp only [↓Sh.dn,sx,Nat.reduceBEq,reduceCtorEq,Nat.reduceEqDiff,x0,x2,x3,x8,x9,x36,w3]
   refine ⟨2 * r+2,rfl,.inr rfl,h1,fun q y z hq hqh hy hz=>?_⟩
   rcases hq with rfl | rfl
   ·exact hTO.asymm (h2 z y hz hy)
   ·rw [hy] at hz; rw [← Option.some.inj hz]; exact hTO.irrefl y
  | false=>
   simp only [↓Sh.dn,sx,Nat.reduceBEq,reduceCtorEq,Nat.reduceEqDiff,x0,x2,x3,x8,x9,x36]
   refine ⟨2 * r+1,rfl,.inl rfl,by omega,fun q y z hq hqh hy hz=>?_⟩
   rcases hq with rfl | rfl
   ·rw [hy] at hz; rw [← Option.some.inj hz]; exact hTO.irrefl y
   ·exact hb2 rfl hqh y z hy hz
 rintro F' H3 ⟨rfl,g0,g2,g3,g8,c,g9,hc,hch,hmax⟩
 have jc:f+c < l1.length:=by omega
 have ic:=A8c (g:=g) (k:=k) (cap:=cap) (m:=l.length) (i:=f+c) (j:=.i64) (by omega)
 have gc:=A5c hv1 jc
 have qc:l1[f+c]?=some l1[f+c]:=List.getElem?_eq_getElem jc
 have wfc:IntKind.wrap .i64 ((f:Int)+(c:Int))=((f+c:Nat):Int):=by rw [wrap64 (by omega) (by omega)]; rfl
 simp only [↓Sh.dn,sx,Nat.reduceBEq,reduceCtorEq,Nat.reduceEqDiff]
 refine (A1b (by kernel_rfl)).2 ?_
 simp only [↓Sh.dn,sx,Nat.reduceBEq,reduceCtorEq,Nat.reduceEqDiff,g0,g3,g8,g9,wfr,wfc,ir,ic,gr,gc]
 refine ⟨_,_,A7d,?_⟩
 cases hlt:A0b l1[f+r] l1[f+c] with
 | false=>
  simp only [↓Sh.dn,sx,Nat.reduceBEq,reduceCtorEq,Nat.reduceEqDiff,hres]
  refine ⟨l1,hm,fun q p x y h1 h2 h3 hx hy=>?_,hv1,hc1⟩
  by_cases hp:p=r
  ·subst hp
   rw [qr] at hx
   rw [← Option.some.inj hx]
   exact hTO.le_trans (hmax q _ _ h2 h3 qc hy) hlt
  ·exact hA q p x y h1 hp h2 h3 hx hy
 | true=>
  obtain ⟨K1,K2,e1,e2,e3,e4,e5⟩:=A5j hv1 hc1.wf jr jc
  simp only [↓Sh.dn,sx,Nat.reduceBEq,reduceCtorEq,Nat.reduceEqDiff]
  refine (A1b (by kernel_rfl)).2 ?_
  simp only [↓Sh.dn,sx,Nat.reduceBEq,reduceCtorEq,Nat.reduceEqDiff,g0,g3,g8,g9,wfr,wfc,ir,ic,gr,gc,A7m,e1,e2]
  refine kk (hi - c) _ _ (by omega) ⟨c,swp l1 (f+r) (f+c),rfl,by omega,by omega,hm.swap (by omega) (by omega) (by omega) (by omega),fun q p x y h1 h2 h3 h4 hx hy=>?_,fun q p x y h1 h2 h3 h4 hx hy=>?_,e3,hc1.trans e4,by simp only [↓Sh.dn,sx,Nat.reduceBEq,reduceCtorEq,Nat.reduceEqDiff,g0],by simp only [↓Sh.dn,sx,Nat.reduceBEq,reduceCtorEq,Nat.reduceEqDiff,g2],by simp only [↓Sh.dn,sx,Nat.reduceBEq,reduceCtorEq,Nat.reduceEqDiff,g3],by simp only [↓Sh.dn,sx,Nat.reduceBEq,reduceCtorEq,Nat.reduceEqDiff]⟩
  ·rw [swp_get jr jc] at hx hy
   by_cases hp:p=r
   ·subst hp
    rw [if_neg (by omega),if_pos rfl,qc] at hx
    rw [← Option.some.inj hx]
    by_cases hq:q=c
    ·subst hq
     rw [if_pos rfl,qr] at hy
     rw [← Option.some.inj hy]; exact hTO.asymm hlt
    ·rw [if_neg (by omega),if_neg (by omega)] at hy
     exact hmax q _ _ h3 h4 qc hy
   ·rw [if_neg (by omega),if_neg (by omega)] at hx
    by_cases hq:q=r
    ·subst hq
     rw [if_neg (by omega),if_pos rfl] at hy
     exact hB c p x _ h1 (by omega) hc hch hx hy
    ·by_cases hq2:q=c
     ·omega
     ·rw [if_neg (by omega),if_neg (by omega)] at hy
      exact hA q p x y h1 hp h3 h4 hx hy
  ·have hpr:p=r:=by omega
   subst hpr
   rw [swp_get jr jc] at hx hy
   rw [if_neg (by omega),if_pos rfl,qc] at hx
   rw [if_neg (by omega),if_neg (by omega)] at hy
   rw [← Option.some.inj hx]
   exact hA q c _ _ (by omega) (by omega) h3 h4 qc hy
theorem B56 {a b:Nat} (hv:A4e H g k n l) (hw:Wf H) (hl:l.length≤1048576) (hab:a < b) (hb:b≤l.length):
  Sh.Call Tryz.prog (knows 7) 130 [.slice (some ⟨g,0,some k⟩) l.length cap,.int .i64 (a:Int),.int .i64 (b:Int)] H
   (fun r H'=>∃ l',Mix a b l l'∧Srt A0b a b l'∧A4e H' g k n l'∧Chg (fun y=>y=g) H H'):=by
 refine A3a rfl Tryz.func130 rfl (Nat.le_of_ble_eq_true rfl) ?_
 have hres:Tryz.f130.results.toList=[]:=rfl
 have hTO:=strTO
 obtain ⟨hi,rfl⟩:∃ hi,b=a+hi:=⟨b - a,by omega⟩
 have w0:IntKind.wrap .i64 (((a+hi:Nat):Int) - (a:Int))=(hi:Int):=by rw [wrap64 (by omega) (by omega)]; omega
 have w1:IntKind.wrap .i64 ((hi:Int) - 1)=((hi - 1:Nat):Int):=by rw [wrap64 (by omega) (by omega)]; omega
 have hq2:(Int.tdiv ((hi - 1:Nat):Int) 2)=(((hi - 1) / 2:Nat):Int):=by rw [Int.tdiv_eq_ediv_of_nonneg (by omega)]; rfl
 have wq:IntKind.wrap .i64 (((hi - 1) / 2:Nat):Int)=(((hi - 1) / 2:Nat):Int):=wrap64 (by omega) (by omega)
 simp only [↓Sh.dn,sx,Nat.reduceBEq,reduceCtorEq,Nat.reduceEqDiff,w0,w1,A80 (show (2:Int)≠0 by decide),hq2,wq]
 refine A90 (fun F' H2 => ∃ l1 : List ByteArray, Mix a (a + hi) l l1 ∧ A75 l1 a 0 hi ∧ A4e H2 g k n l1 ∧ Chg (fun y => y = g) H H2 ∧
     F'.get 0 = some (.slice (some ⟨g, 0, some k⟩) l.length cap) ∧ F'.get 6 = some (.int .i64 (a : Int)) ∧ F'.get 7 = some (.int .i64 0) ∧ F'.get 8 = some (.int .i64 (hi : Int))) (by rfl) ?_ ?_
 ·refine A4b (fun m F H' => ∃ l1 : List ByteArray, m ≤ (hi - 1) / 2 + 1 ∧ Mix a (a + hi) l l1 ∧ A75 l1 a m hi ∧ A4e H' g k n l1 ∧ Chg (fun y => y = g) H H' ∧
    F.get 0 = some (.slice (some ⟨g, 0, some k⟩) l.length cap) ∧ F.get 6 = some (.int .i64 (a : Int)) ∧ F.get 7 = some (.int .i64 0) ∧ F.get 8 = some (.int .i64 (hi : Int)) ∧ F.get 9 = some (.int .i64 ((m : Int) - 1))) (m := (hi - 1) / 2 + 1)
    ⟨l, Nat.le_refl _, .refl l, fun q r x y h1 h2 h3 => by omega, hv, Chg.refl hw, by simp only [↓Sh.dn, sx, Nat.reduceBEq, reduceCtorEq, Nat.reduceEqDiff], by simp only [↓Sh.dn, sx, Nat.reduceBEq, reduceCtorEq, Nat.reduceEqDiff], by simp only [↓Sh.dn, sx, Nat.reduceBEq, reduceCtorEq, Nat.reduceEqDiff], by simp only [↓Sh.dn, sx, Nat.reduceBEq, reduceCtorEq, Nat.reduceEqDiff], by simp only [↓Sh.dn, sx, Nat.reduceBEq, reduceCtorEq, Nat.reduceEqDiff]; congr 2; omega⟩ ?_
  rintro m F H' ⟨l1, hmh, hm, hh, hv1, hc1, f0, f6, f7, f8, f9⟩ kk
  have hlen := hm.length
  cases m with
  | zero =>
    have d : decide ((0 : Int) ≤ ((0 : Nat) : Int) - 1) = false := by simp
    simp only [↓Sh.dn, sx, Nat.reduceBEq, reduceCtorEq, Nat.reduceEqDiff, f9, d, f0, f6, f7, f8]
    exact ⟨l1, hm, hh, hv1, hc1⟩
  | succ m =>
    have e9 : ((m + 1 : Nat) : Int) - 1 = (m : Int) := by omega
    rw [e9] at f9
    have d : decide ((0 : Int) ≤ (m : Int)) = true := by simp
    obtain ⟨r, H2, hd, l2, hm2, hh2, hv2, hc2⟩ := B9d (cap := cap) (lo := m) (hi := hi) (f := a) hv1 hc1.wf (by omega) (by omega) (by omega) hh
    have wm : IntKind.wrap .i64 ((m : Int) - 1) = (m : Int) - 1 := wrap64 (by omega) (by omega)
    rw [hlen] at hd
    simp only [↓Sh.dn, sx, Nat.reduceBEq, reduceCtorEq, Nat.reduceEqDiff, f9, d, f0, f6, f8]
    refine ⟨_, _, hd, ?_⟩
    simp only [↓Sh.dn, sx, Nat.reduceBEq, reduceCtorEq, Nat.reduceEqDiff, f9, wm]
    exact kk m _ _ (by omega) ⟨l2, by omega, hm.trans (hm2.wide (by omega) (Nat.le_refl _)), hh2, hv2, hc1.trans hc2, by simp only [↓Sh.dn, sx, Nat.reduceBEq, reduceCtorEq, Nat.reduceEqDiff, f0], by simp only [↓Sh.dn, sx, Nat.reduceBEq, reduceCtorEq, Nat.reduceEqDiff, f6], by simp only [↓Sh.dn, sx, Nat.reduceBEq, reduceCtorEq, Nat.reduceEqDiff, f7], by simp only [↓Sh.dn, sx, Nat.reduceBEq, reduceCtorEq, Nat.reduceEqDiff, f8], by simp only [↓Sh.dn, sx, Nat.reduceBEq, reduceCtorEq, Nat.reduceEqDiff]⟩
 rintro F1 H1 ⟨l1,hm1,hh1,hv1,hc1,f0,f6,f7,f8⟩
 have hlen1:=hm1.length
 simp only [↓Sh.dn,sx,Nat.reduceBEq,reduceCtorEq,Nat.reduceEqDiff,f8,w1]
 refine A4b (fun m F H' => ∃ l2 : List ByteArray, m ≤ hi ∧ Mix a (a + hi) l l2 ∧ A75 l2 a 0 m ∧ (∀ (p q : Nat) x y, p < q → m ≤ q → q < hi → l2[a + p]? = some x → l2[a + q]? = some y → A0b y x = false) ∧ A4e H' g k n l2 ∧ Chg (fun y => y = g) H H' ∧
     F.get 0 = some (.slice (some ⟨g, 0, some k⟩) l.length cap) ∧ F.get 6 = some (.int .i64 (a : Int)) ∧ F.get 7 = some (.int .i64 0) ∧ F.get 10 = some (.int .i64 ((m : Int) - 1))) (m := hi)
   ⟨l1, Nat.le_refl _, hm1, hh1, fun p q x y h1 h2 h3 => by omega, hv1, hc1, by simp only [↓Sh.dn, sx, Nat.reduceBEq, reduceCtorEq, Nat.reduceEqDiff, f0], by simp only [↓Sh.dn, sx, Nat.reduceBEq, reduceCtorEq, Nat.reduceEqDiff, f6], by simp only [↓Sh.dn, sx, Nat.reduceBEq, reduceCtorEq, Nat.reduceEqDiff, f7], by simp only [↓Sh.dn, sx, Nat.reduceBEq, reduceCtorEq, Nat.reduceEqDiff]; congr 2; omega⟩ ?_
 rintro m F H' ⟨l2,hmh,hm,hh,hT,hv2,hc2,f0,f6,f7,f10⟩ kk
 have hlen:=hm.length
 cases m with
 | zero=>
  have d:decide ((0:Int)≤((0:Nat):Int) - 1)=false:=by simp
  simp only [↓Sh.dn,sx,Nat.reduceBEq,reduceCtorEq,Nat.reduceEqDiff,f10,d,hres]
  refine ⟨l2,hm,fun i j x y h1 h2 h3 hx hy=>?_,hv2,hc2⟩
  by_cases hij:i=j
  ·subst hij
   rw [hx] at hy
   rw [← Option.some.inj hy]; exact hTO.irrefl x
  ·exact hT (i - a) (j - a) x y (by omega) (Nat.zero_le _) (by omega) (by rw [show a+(i - a)=i by omega]; exact hx) (by rw [show a+(j - a)=j by omega]; exact hy)
 | succ m=>
  have e10:((m+1:Nat):Int) - 1=(m:Int):=by omega
  rw [e10] at f10
  have d:decide ((0:Int)≤(m:Int))=true:=by simp
  have ja:a < l2.length:=by omega
  have jm:a+m < l2.length:=by omega
  have i1:=A8c (g:=g) (k:=k) (cap:=cap) (m:=l.length) (i:=a) (j:=.i64) (by omega)
  have i2:=A8c (g:=g) (k:=k) (cap:=cap) (m:=l.length) (i:=a+m) (j:=.i64) (by omega)
  have g1:=A5c hv2 ja
  have g2:=A5c hv2 jm
  have wam:IntKind.wrap .i64 ((a:Int)+(m:Int))=((a+m:Nat):Int):=by rw [wrap64 (by omega) (by omega)]; rfl
  have wm:IntKind.wrap .i64 ((m:Int) - 1)=(m:Int) - 1:=wrap64 (by omega) (by omega)
  obtain ⟨K1,K2,e1,e2,e3,e4,e5⟩:=A5j hv2 hc2.wf ja jm
  have hsw:Mix a (a+(m+1)) l2 (swp l2 a (a+m)):=(Mix.refl l2).swap (by omega) (by omega) (by omega) (by omega)
  obtain ⟨r,H3,hd,l3,hm3,hh3,hv3,hc3⟩:=B9d (cap:=cap) (lo:=0) (hi:=m) (f:=a) e3 e4.wf (by rw [A7q]; omega) (by omega) (by rw [A7q]; omega) (fun q p x y h1 h2 h3 hx hy=>by
   rw [swp_get ja jm,if_neg (by omega),if_neg (by omega)] at hx hy
   exact hh q p x y (Nat.zero_le _) h2 (by omega) hx hy)
  rw [A7q,hlen] at hd
  have hmix:Mix a (a+(m+1)) l2 l3:=hsw.trans (hm3.wide (by omega) (by omega))
  have hl3:=hmix.length
  simp only [↓Sh.dn,sx,Nat.reduceBEq,reduceCtorEq,Nat.reduceEqDiff,f10,d]
  refine (A1b (by kernel_rfl)).2 ?_
  simp only [↓Sh.dn,sx,Nat.reduceBEq,reduceCtorEq,Nat.reduceEqDiff,f0,f6,f7,f10,wam,i1,i2,g1,g2,A7m,e1,e2]
  refine ⟨_,_,hd,?_⟩
  simp only [↓Sh.dn,sx,Nat.reduceBEq,reduceCtorEq,Nat.reduceEqDiff,f10,wm]
  have qa:l2[a]?=some l2[a]:=List.getElem?_eq_getElem ja
  refine kk m _ _ (by omega) ⟨l3,by omega,hm.trans (hmix.wide (Nat.le_refl _) (by omega)),hh3,fun p q x y h1 h2 h3 hx hy=>?_,hv3,(hc2.trans e4).trans hc3,by simp only [↓Sh.dn,sx,Nat.reduceBEq,reduceCtorEq,Nat.reduceEqDiff,f0],by simp only [↓Sh.dn,sx,Nat.reduceBEq,reduceCtorEq,Nat.reduceEqDiff,f6],by simp only [↓Sh.dn,sx,Nat.reduceBEq,reduceCtorEq,Nat.reduceEqDiff,f7],by simp only [↓Sh.dn,sx,Nat.reduceBEq,reduceCtorEq,Nat.reduceEqDiff]⟩
  by_cases hq:q=m
  ·subst hq
   have hy':l3[a+q]?=some l2[a]:=by
    rw [hm3.out (.inr (by omega)),swp_get ja jm,if_pos rfl,qa]
   rw [hy'] at hy
   rw [← Option.some.inj hy]
   refine hmix.all (p:=fun x=>A0b l2[a] x=false) (by omega) (fun i z hi1 hi2 hz=>?_) (a+p) x (by omega) (by omega) hx
   exact C3i hh (by omega) (i - a) _ _ (by omega) qa (by rw [show a+(i - a)=i by omega]; exact hz)
  ·have hyq:l2[a+q]?=some y:=by rw [← hmix.out (.inr (by omega))]; exact hy
   by_cases hp:p≤m
   ·refine hmix.all (p:=fun x=>A0b y x=false) (by omega) (fun i z hi1 hi2 hz=>?_) (a+p) x (by omega) (by omega) hx
    exact hT (i - a) q z y (by omega) (by omega) h3 (by rw [show a+(i - a)=i by omega]; exact hz) hyq
   ·have hxp:l2[a+p]?=some x:=by rw [← hmix.out (.inr (by omega))]; exact hx
    exact hT p q x y h1 (by omega) h3 hxp hyq
end
end Go.Proofs.YtcgbiedfbacgpaaGreat
/- partitionOrdered, partitionEqualOrdered. -/
namespace Go.Proofs.YtcgbiedfbacgpaaGreat
open Go Go.Proofs Go.Proofs.Sh
section
variable {H:AH} {g k n cap a b:Nat} {l:List ByteArray}
theorem B5w {p:Nat} (hv:A4e H g k n l) (hw:Wf H) (hl:l.length≤1048576) (hap:a≤p) (hpb:p < b) (hb:b≤l.length):
  Sh.Call Tryz.prog (knows 7) 136 [.slice (some ⟨g,0,some k⟩) l.length cap,.int .i64 (a:Int),.int .i64 (b:Int),.int .i64 (p:Int)] H
   (fun r H'=>∃ (m:Nat) (al:Bool),r=.tuple #[.int .i64 (m:Int),.bool al]∧a≤m∧m < b∧∃ l':List ByteArray,Mix a b l l'∧∃ y,l'[m]?=some y∧(∀ (q:Nat) x,a≤q→q < m→l'[q]?=some x→A0b x y=true)∧(∀ (q:Nat) x,m < q→q < b→l'[q]?=some x→A0b x y=false)∧A4e H' g k n l'∧Chg (fun y=>y=g) H H'):=by
 refine A3a rfl Tryz.func136 rfl (Nat.le_of_ble_eq_true rfl) ?_
 have hTO:=strTO
 have ja:a < l.length:=by omega
 have jp:p < l.length:=by omega
 have ia:=A8c (g:=g) (k:=k) (cap:=cap) (m:=l.length) (i:=a) (j:=.i64) ja
 have ip:=A8c (g:=g) (k:=k) (cap:=cap) (m:=l.length) (i:=p) (j:=.i64) jp
 have xa:=A5c hv ja
 have xp:=A5c hv jp
 have wa:IntKind.wrap .i64 ((a:Int)+1)=((a+1:Nat):Int):=by rw [wrap64 (by omega) (by omega)]; rfl
 have wb:IntKind.wrap .i64 ((b:Int) - 1)=((b - 1:Nat):Int):=by rw [wrap64 (by omega) (by omega)]; omega
 obtain ⟨K1,H1,e1,e2,hv1,hc1,e5⟩:=A5j hv hw ja jp
 have hm1:Mix a b l (swp l a p):=(Mix.refl l).swap (by omega) (by omega) (by omega) (by omega)
 simp only [↓Sh.dn,sx,Nat.reduceBEq,reduceCtorEq,Nat.reduceEqDiff]
 refine (A1b (by kernel_rfl)).2 ?_
 simp only [↓Sh.dn,sx,Nat.reduceBEq,reduceCtorEq,Nat.reduceEqDiff,ia,ip,xa,xp,A7m,e1,e2,wa,wb]
 have hpa:(swp l a p)[a]?=some l[p]:=by
  rw [swp_get ja jp]
  by_cases h:a=p
  ·rw [if_pos h,List.getElem?_eq_getElem ja]; simp only [h]
  ·rw [if_neg h,if_pos rfl]; exact List.getElem?_eq_getElem jp
 generalize l[p]=pv at hpa xp e1
 generalize hL0:swp l a p=l1 at hpa hm1 hv1
 have hlen:=hm1.length
 have xa:H1.cell ⟨g,a,some k⟩=some (Value.string pv):=hv1.cell (by simp [hpa])
 have hres:Tryz.f136.results.toList=[.tmp 8,.tmp 9]:=rfl
 have last : ∀ (l1 : List ByteArray) (H' : AH) (i j : Nat), Mix a b l l1 → l1[a]? = some pv → a ≤ j → j < b → (∀ (q : Nat) x, a + 1 ≤ q → q ≤ j → l1[q]? = some x → A0b x pv = true) → (∀ (q : Nat) x, j < q → q < b → l1[q]? = some x → A0b x pv = false) →
     Mix a b l (swp l1 j a) ∧ (swp l1 j a)[j]? = some pv ∧ (∀ (q : Nat) x, a ≤ q → q < j → (swp l1 j a)[q]? = some x → A0b x pv = true) ∧ (∀ (q : Nat) x, j < q → q < b → (swp l1 j a)[q]? = some x → A0b x pv = false) := by
   intro l1 H' i j hm hp hj hjb h1 h2
   have hlen := hm.length
   have jj : j < l1.length := by omega
   have ja : a < l1.length := by omega
   refine ⟨hm.swap (by omega) (by omega) (by omega) (by omega), ?_, fun q x hq1 hq2 hx => ?_, fun q x hq1 hq2 hx => ?_⟩
   · rw [swp_get jj ja]
     by_cases h : j = a
     · rw [if_pos h, h]; exact hp
     · rw [if_neg h, if_pos rfl]; exact hp
   · rw [swp_get jj ja] at hx
     by_cases h : q = a
     · rw [if_pos h] at hx; exact h1 j x (by omega) (Nat.le_refl _) hx
     · rw [if_neg h, if_neg (by omega)] at hx; exact h1 q x (by omega) (by omega) hx
   · rw [swp_get jj ja, if_neg (by omega), if_neg (by omega)] at hx
     exact h2 q x hq1 hq2 hx
 obtain ⟨MF1,hMF1⟩:∃ M:Fr→AH→Prop,M=fun F' H9=>H1=H9∧∃ v:Nat,F'.get 0=some (.slice (some ⟨g,0,some k⟩) l.length cap)∧F'.get 1=some (.int .i64 (a:Int))∧F'.get 10=some (.int .i64 ((v:Nat):Int))∧F'.get 11=some (.int .i64 (((b - 1):Nat):Int))∧(a+1)≤v∧v≤(b - 1)+1∧(∀ (q:Nat) x,(a+1)≤q→q < v→l1[q]?=some x→A0b x pv=true)∧(v≤(b - 1)→∀ x,l1[v]?=some x→A0b x pv=false):=⟨_,rfl⟩
 refine A90 MF1 (by rfl) ?_ ?_
 ·refine A4b (fun m F' H9 => H1 = H9 ∧ ∃ v : Nat, m = (b - 1) + 1 - v ∧ F'.get 0 = some (.slice (some ⟨g, 0, some k⟩) l.length cap) ∧ F'.get 1 = some (.int .i64 (a : Int)) ∧ F'.get 10 = some (.int .i64 ((v : Nat) : Int)) ∧ F'.get 11 = some (.int .i64 (((b - 1) : Nat) : Int)) ∧ (a + 1) ≤ v ∧ v ≤ (b - 1) + 1 ∧ (∀ (q : Nat) x, (a + 1) ≤ q → q < v → l1[q]? = some x → A0b x pv = true)) (m := (b - 1) + 1 - (a + 1))
    ⟨rfl, (a + 1), rfl, by simp only [↓Sh.dn, sx, Nat.reduceBEq, reduceCtorEq, Nat.reduceEqDiff, true_and], by simp only [↓Sh.dn, sx, Nat.reduceBEq, reduceCtorEq, Nat.reduceEqDiff, true_and], by simp only [↓Sh.dn, sx, Nat.reduceBEq, reduceCtorEq, Nat.reduceEqDiff, true_and], by simp only [↓Sh.dn, sx, Nat.reduceBEq, reduceCtorEq, Nat.reduceEqDiff, true_and], by omega, by omega, fun q x h1 h2 => by omega⟩ ?_
  rintro m F' H9 ⟨rfl, v, rfl, g0, g1, gi, gj, h1, h2, h3⟩ k2
  simp only [↓Sh.dn, sx, Nat.reduceBEq, reduceCtorEq, Nat.reduceEqDiff]
  refine (A1b (by kernel_rfl)).2 ?_
  by_cases hle : v ≤ (b - 1)
  · have jv : v < l1.length := by omega
    have iv := A8c (g := g) (k := k) (cap := cap) (m := l.length) (i := v) (j := .i64) (by omega)
    have xv := A5c hv1 jv
    have qv : l1[v]? = some l1[v] := List.getElem?_eq_getElem jv
    have wv : IntKind.wrap .i64 ((v : Int) + 1) = ((v + 1 : Nat) : Int) := by rw [wrap64 (by omega) (by omega)]; rfl
    simp only [↓Sh.dn, sx, Nat.reduceBEq, reduceCtorEq, Nat.reduceEqDiff, g0, g1, gi, gj, A7l, hle, decide_true, iv, ia, xv, xa]
    refine ⟨_, _, A7d, ?_⟩
    cases hlt : A0b l1[v] pv with
    | true =>
      simp only [↓Sh.dn, sx, Nat.reduceBEq, reduceCtorEq, Nat.reduceEqDiff, g0, g1, gi, gj, wv]
      refine k2 ((b - 1) + 1 - (v + 1)) _ _ (by omega) ⟨rfl, v + 1, rfl, by simp only [↓Sh.dn, sx, Nat.reduceBEq, reduceCtorEq, Nat.reduceEqDiff, g0], by simp only [↓Sh.dn, sx, Nat.reduceBEq, reduceCtorEq, Nat.reduceEqDiff, g1], by simp only [↓Sh.dn, sx, Nat.reduceBEq, reduceCtorEq, Nat.reduceEqDiff, gi], by simp only [↓Sh.dn, sx, Nat.reduceBEq, reduceCtorEq, Nat.reduceEqDiff, gj], by omega, by omega, fun q x hq1 hq2 hx => ?_⟩
      · by_cases hq : q = v
        · subst hq; rw [qv] at hx; rw [← Option.some.inj hx]; exact hlt
        · exact h3 q x (by omega) (by omega) hx
    | false =>
      simp only [↓Sh.dn, sx, Nat.reduceBEq, reduceCtorEq, Nat.reduceEqDiff, hMF1, g0, g1, gi, gj]
      exact ⟨v, rfl, h1, h2, h3, fun _ x hx => by rw [qv] at hx; rw [← Option.some.inj hx]; exact hlt⟩
  · simp only [↓Sh.dn, sx, Nat.reduceBEq, reduceCtorEq, Nat.reduceEqDiff, hMF1, g0, g1, gi, gj, A7l, hle, decide_false]
    exact ⟨v, rfl, h1, h2, h3, fun h => absurd h hle⟩
 intro F1 H9 h9
 rw [hMF1] at h9
 obtain ⟨rfl,i1,u0,u1,ui,uj,u5,u6,u7,u8⟩:=h9
 simp only [↓Sh.dn,sx,Nat.reduceBEq,reduceCtorEq,Nat.reduceEqDiff]
 obtain ⟨MF2,hMF2⟩:∃ M:Fr→AH→Prop,M=fun F' H9=>H1=H9∧∃ v:Nat,F'.get 0=some (.slice (some ⟨g,0,some k⟩) l.length cap)∧F'.get 1=some (.int .i64 (a:Int))∧F'.get 10=some (.int .i64 ((i1:Nat):Int))∧F'.get 11=some (.int .i64 ((v:Nat):Int))∧i1≤v+1∧v≤(b - 1)∧(∀ (q:Nat) x,v < q→q≤(b - 1)→l1[q]?=some x→A0b x pv=false)∧(i1≤v→∀ x,l1[v]?=some x→A0b x pv=true):=⟨_,rfl⟩
 refine A90 MF2 (by rfl) ?_ ?_
 ·refine A4b (fun m F' H9 => H1 = H9 ∧ ∃ v : Nat, m = v ∧ F'.get 0 = some (.slice (some ⟨g, 0, some k⟩) l.length cap) ∧ F'.get 1 = some (.int .i64 (a : Int)) ∧ F'.get 10 = some (.int .i64 ((i1 : Nat) : Int)) ∧ F'.get 11 = some (.int .i64 ((v : Nat) : Int)) ∧ i1 ≤ v + 1 ∧ v ≤ (b - 1) ∧ (∀ (q : Nat) x, v < q → q ≤ (b - 1) → l1[q]? = some x → A0b x pv = false)) (m := (b - 1))
    ⟨rfl, (b - 1), rfl, by simp only [↓Sh.dn, sx, Nat.reduceBEq, reduceCtorEq, Nat.reduceEqDiff, u0], by simp only [↓Sh.dn, sx, Nat.reduceBEq, reduceCtorEq, Nat.reduceEqDiff, u1], by simp only [↓Sh.dn, sx, Nat.reduceBEq, reduceCtorEq, Nat.reduceEqDiff, ui], by simp only [↓Sh.dn, sx, Nat.reduceBEq, reduceCtorEq, Nat.reduceEqDiff, uj], by omega, by omega, fun q x h1 h2 => by omega⟩ ?_
  rintro v F' H9 ⟨rfl, _, rfl, g0, g1, gi, gj, h1, h2, h3⟩ k2
  simp only [↓Sh.dn, sx, Nat.reduceBEq, reduceCtorEq, Nat.reduceEqDiff]
  refine (A1b (by kernel_rfl)).2 ?_
  by_cases hle : i1 ≤ v
  · have jv : v < l1.length := by omega
    have iv := A8c (g := g) (k := k) (cap := cap) (m := l.length) (i := v) (j := .i64) (by omega)
    have xv := A5c hv1 jv
    have qv : l1[v]? = some l1[v] := List.getElem?_eq_getElem jv
    have wv : IntKind.wrap .i64 ((v : Int) - 1) = ((v - 1 : Nat) : Int) := by rw [wrap64 (by omega) (by omega)]; omega
    simp only [↓Sh.dn, sx, Nat.reduceBEq, reduceCtorEq, Nat.reduceEqDiff, g0, g1, gi, gj, A7l, hle, decide_true, iv, ia, xv, xa]
    refine ⟨_, _, A7d, ?_⟩
    cases hlt : A0b l1[v] pv with
    | false =>
      simp only [↓Sh.dn, sx, Nat.reduceBEq, reduceCtorEq, Nat.reduceEqDiff, g0, g1, gi, gj, wv]
      refine k2 ((v - 1)) _ _ (by omega) ⟨rfl, v - 1, rfl, by simp only [↓Sh.dn, sx, Nat.reduceBEq, reduceCtorEq, Nat.reduceEqDiff, g0], by simp only [↓Sh.dn, sx, Nat.reduceBEq, reduceCtorEq, Nat.reduceEqDiff, g1], by simp only [↓Sh.dn, sx, Nat.reduceBEq, reduceCtorEq, Nat.reduceEqDiff, gi], by simp only [↓Sh.dn, sx, Nat.reduceBEq, reduceCtorEq, Nat.reduceEqDiff, gj], by omega, by omega, fun q x hq1 hq2 hx => ?_⟩
      · by_cases hq : q = v
        · subst hq; rw [qv] at hx; rw [← Option.some.inj hx]; exact hlt
        · exact h3 q x (by omega) (by omega) hx
    | true =>
      simp only [↓Sh.dn, sx, Nat.reduceBEq, reduceCtorEq, Nat.reduceEqDiff, hMF2, g0, g1, gi, gj]
      exact ⟨v, rfl, h1, h2, h3, fun _ x hx => by rw [qv] at hx; rw [← Option.some.inj hx]; exact hlt⟩
  · simp only [↓Sh.dn, sx, Nat.reduceBEq, reduceCtorEq, Nat.reduceEqDiff, hMF2, g0, g1, gi, gj, A7l, hle, decide_false]
    exact ⟨v, rfl, h1, h2, h3, fun h => absurd h hle⟩
 intro F2 H9 h9
 rw [hMF2] at h9
 obtain ⟨rfl,j1,w0,w1,wi,wj,w5,w6,w7,w8⟩:=h9
 simp only [↓Sh.dn,sx,Nat.reduceBEq,reduceCtorEq,Nat.reduceEqDiff,wi,wj,A1a]
 by_cases hgt:j1 < i1
 ·have jj:j1 < l1.length:=by omega
  have ja1:a < l1.length:=by omega
  have ij:=A8c (g:=g) (k:=k) (cap:=cap) (m:=l.length) (i:=j1) (j:=.i64) (by omega)
  have xj:=A5c hv1 jj
  have xa':=A5c hv1 ja1
  obtain ⟨L1,L2,d1,d2,hv2,hc2,d5⟩:=A5j hv1 hc1.wf jj ja1
  obtain ⟨p1,p2,p3,p4⟩:=last l1 H1 i1 j1 hm1 hpa (by omega) (by omega) (fun q x h1 h2 hx=>u7 q x h1 (by omega) hx) (fun q x h1 h2 hx=>w7 q x h1 (by omega) hx)
  simp only [↓Sh.dn,sx,Nat.reduceBEq,reduceCtorEq,Nat.reduceEqDiff,hgt,decide_true]
  refine (A1b (by kernel_rfl)).2 ?_
  simp only [↓Sh.dn,sx,Nat.reduceBEq,reduceCtorEq,Nat.reduceEqDiff,w0,w1,wi,wj,ij,ia,xj,xa',A7m,d1,d2,hres]
  exact ⟨j1,_,rfl,by omega,by omega,swp l1 j1 a,p1,pv,p2,p3,p4,hv2,hc1.trans hc2⟩
 simp only [↓Sh.dn,sx,Nat.reduceBEq,reduceCtorEq,Nat.reduceEqDiff,hgt,decide_false]
 have hij:i1 < j1:=by
  by_cases h:i1=j1
  ·have h1:=u8 (by omega)
   have h2:=w8 (by omega)
   obtain ⟨x,hx⟩:∃ x,l1[i1]?=some x:=⟨_,List.getElem?_eq_getElem (by omega)⟩
   have a1:=h1 x hx
   have a2:=h2 x (by rw [← h]; exact hx)
   rw [a1] at a2; cases a2
  ·omega
 have ji1:i1 < l1.length:=by omega
 have jj1:j1 < l1.length:=by omega
 have ii:=A8c (g:=g) (k:=k) (cap:=cap) (m:=l.length) (i:=i1) (j:=.i64) (by omega)
 have ij:=A8c (g:=g) (k:=k) (cap:=cap) (m:=l.length) (i:=j1) (j:=.i64) (by omega)
 have xi:=A5c hv1 ji1
 have xj:=A5c hv1 jj1
 have yi:IntKind.wrap .i64 ((i1:Int)+1)=((i1+1:Nat):Int):=by rw [wrap64 (by omega) (by omega)]; rfl
 have yj:IntKind.wrap .i64 ((j1:Int) - 1)=((j1 - 1:Nat):Int):=by rw [wrap64 (by omega) (by omega)]; omega
 obtain ⟨L1,L2,d1,d2,hv2,hc2,d5⟩:=A5j hv1 hc1.wf ji1 jj1
 refine (A1b (by kernel_rfl)).2 ?_
 simp only [↓Sh.dn,sx,Nat.reduceBEq,reduceCtorEq,Nat.reduceEqDiff,w0,w1,wi,wj,ii,ij,xi,xj,A7m,d1,d2,yi,yj]
 have pair : ∀ (l1 : List ByteArray) (i0 i1 j0 j1 : Nat), l1.length = l.length → l1[a]? = some pv → a + 1 ≤ i0 → i0 ≤ i1 → i1 < j1 → j1 ≤ j0 → j0 < b → (∀ (q : Nat) x, a + 1 ≤ q → q < i1 → l1[q]? = some x → A0b x pv = true) → (∀ (q : Nat) x, j1 < q → q < b → l1[q]? = some x → A0b x pv = false) →
     (∀ x, l1[i1]? = some x → A0b x pv = false) → (∀ x, l1[j1]? = some x → A0b x pv = true) → (swp l1 i1 j1)[a]? = some pv ∧ (∀ (q : Nat) x, a + 1 ≤ q → q < i1 + 1 → (swp l1 i1 j1)[q]? = some x → A0b x pv = true) ∧ (∀ (q : Nat) x, j1 - 1 < q → q < b → (swp l1 i1 j1)[q]? = some x → A0b x pv = false) := by
   intro l1 i0 i1 j0 j1 hlen hp h1 h2 h3 h4 h5 hA hB hi hj
   have ji : i1 < l1.length := by omega
   have jj : j1 < l1.length := by omega
   refine ⟨by rw [swp_get ji jj, if_neg (by omega), if_neg (by omega)]; exact hp, fun q x hq1 hq2 hx => ?_, fun q x hq1 hq2 hx => ?_⟩
   · rw [swp_get ji jj, if_neg (by omega)] at hx
     by_cases h : q = i1
     · rw [if_pos h] at hx; exact hj x hx
     · rw [if_neg h] at hx; exact hA q x hq1 (by omega) hx
   · rw [swp_get ji jj] at hx
     by_cases h : q = j1
     · rw [if_pos h] at hx; exact hi x hx
     · rw [if_neg h, if_neg (by omega)] at hx; exact hB q x (by omega) hq2 hx
 obtain ⟨s1,s2,s3⟩:=pair l1 (a+1) i1 (b - 1) j1 (by omega) hpa (Nat.le_refl _) (by omega) hij (by omega) (by omega) u7 (fun q x h1 h2 hx=>w7 q x h1 (by omega) hx) (u8 (by omega)) (w8 (by omega))
 refine A4b (fun m F' H2 => ∃ (i j : Nat) (l1 : List ByteArray), m = j + 1 - i ∧ a + 1 ≤ i ∧ i ≤ j + 1 ∧ j < b ∧ Mix a b l l1 ∧ l1[a]? = some pv ∧ (∀ (q : Nat) x, a + 1 ≤ q → q < i → l1[q]? = some x → A0b x pv = true) ∧ (∀ (q : Nat) x, j < q → q < b → l1[q]? = some x → A0b x pv = false) ∧ A4e H2 g k n l1 ∧ Chg (fun y => y = g) H H2 ∧
     F'.get 0 = some (.slice (some ⟨g, 0, some k⟩) l.length cap) ∧ F'.get 1 = some (.int .i64 (a : Int)) ∧ F'.get 10 = some (.int .i64 ((i : Nat) : Int)) ∧ F'.get 11 = some (.int .i64 ((j : Nat) : Int))) (m := j1 - 1 + 1 - (i1 + 1))
   ⟨i1 + 1, j1 - 1, swp l1 i1 j1, rfl, by omega, by omega, by omega, hm1.swap (by omega) (by omega) (by omega) (by omega), s1, s2, s3, hv2, hc1.trans hc2, by simp only [↓Sh.dn, sx, Nat.reduceBEq, reduceCtorEq, Nat.reduceEqDiff, w0], by simp only [↓Sh.dn, sx, Nat.reduceBEq, reduceCtorEq, Nat.reduceEqDiff, w1], by simp only [↓Sh.dn, sx, Nat.reduceBEq, reduceCtorEq, Nat.reduceEqDiff], by simp only [↓Sh.dn, sx, Nat.reduceBEq, reduceCtorEq, Nat.reduceEqDiff]⟩ ?_
 clear xa xi xj hpa hm1 hv1 hlen ji1 jj1 s1 s2 s3 hv2 d1 d2 u7 u8 w7 w8
 clear hL0
 rintro m F H2 ⟨i0,j0,l1,rfl,hi0,hij0,hj0,hm1,hpa,hA,hB,hv1,hc1,f0,f1,fi,fj⟩ kk
 have hlen:=hm1.length
 have xa:H2.cell ⟨g,a,some k⟩=some (Value.string pv):=hv1.cell (by simp [hpa])
 simp only [↓Sh.dn,sx,Nat.reduceBEq,reduceCtorEq,Nat.reduceEqDiff]
 obtain ⟨MF3,hMF3⟩:∃ M:Fr→AH→Prop,M=fun F' H9=>H2=H9∧∃ v:Nat,F'.get 0=some (.slice (some ⟨g,0,some k⟩) l.length cap)∧F'.get 1=some (.int .i64 (a:Int))∧F'.get 10=some (.int .i64 ((v:Nat):Int))∧F'.get 11=some (.int .i64 ((j0:Nat):Int))∧i0≤v∧v≤j0+1∧(∀ (q:Nat) x,i0≤q→q < v→l1[q]?=some x→A0b x pv=true)∧(v≤j0→∀ x,l1[v]?=some x→A0b x pv=false):=⟨_,rfl⟩
 refine A90 MF3 (by rfl) ?_ ?_
 ·refine A4b (fun m F' H9 => H2 = H9 ∧ ∃ v : Nat, m = j0 + 1 - v ∧ F'.get 0 = some (.slice (some ⟨g, 0, some k⟩) l.length cap) ∧ F'.get 1 = some (.int .i64 (a : Int)) ∧ F'.get 10 = some (.int .i64 ((v : Nat) : Int)) ∧ F'.get 11 = some (.int .i64 ((j0 : Nat) : Int)) ∧ i0 ≤ v ∧ v ≤ j0 + 1 ∧ (∀ (q : Nat) x, i0 ≤ q → q < v → l1[q]? = some x → A0b x pv = true)) (m := j0 + 1 - i0)
    ⟨rfl, i0, rfl, by simp only [↓Sh.dn, sx, Nat.reduceBEq, reduceCtorEq, Nat.reduceEqDiff, f0], by simp only [↓Sh.dn, sx, Nat.reduceBEq, reduceCtorEq, Nat.reduceEqDiff, f1], by simp only [↓Sh.dn, sx, Nat.reduceBEq, reduceCtorEq, Nat.reduceEqDiff, fi], by simp only [↓Sh.dn, sx, Nat.reduceBEq, reduceCtorEq, Nat.reduceEqDiff, fj], by omega, by omega, fun q x h1 h2 => by omega⟩ ?_
  rintro m F' H9 ⟨rfl, v, rfl, g0, g1, gi, gj, h1, h2, h3⟩ k2
  simp only [↓Sh.dn, sx, Nat.reduceBEq, reduceCtorEq, Nat.reduceEqDiff]
  refine (A1b (by kernel_rfl)).2 ?_
  by_cases hle : v ≤ j0
  · have jv : v < l1.length := by omega
    have iv := A8c (g := g) (k := k) (cap := cap) (m := l.length) (i := v) (j := .i64) (by omega)
    have xv := A5c hv1 jv
    have qv : l1[v]? = some l1[v] := List.getElem?_eq_getElem jv
    have wv : IntKind.wrap .i64 ((v : Int) + 1) = ((v + 1 : Nat) : Int) := by rw [wrap64 (by omega) (by omega)]; rfl
    simp only [↓Sh.dn, sx, Nat.reduceBEq, reduceCtorEq, Nat.reduceEqDiff, g0, g1, gi, gj, A7l, hle, decide_true, iv, ia, xv, xa]
    refine ⟨_, _, A7d, ?_⟩
    cases hlt : A0b l1[v] pv with
    | true =>
      simp only [↓Sh.dn, sx, Nat.reduceBEq, reduceCtorEq, Nat.reduceEqDiff, g0, g1, gi, gj, wv]
      refine k2 (j0 + 1 - (v + 1)) _ _ (by omega) ⟨rfl, v + 1, rfl, by simp only [↓Sh.dn, sx, Nat.reduceBEq, reduceCtorEq, Nat.reduceEqDiff, g0], by simp only [↓Sh.dn, sx, Nat.reduceBEq, reduceCtorEq, Nat.reduceEqDiff, g1], by simp only [↓Sh.dn, sx, Nat.reduceBEq, reduceCtorEq, Nat.reduceEqDiff, gi], by simp only [↓Sh.dn, sx, Nat.reduceBEq, reduceCtorEq, Nat.reduceEqDiff, gj], by omega, by omega, fun q x hq1 hq2 hx => ?_⟩
      · by_cases hq : q = v
        · subst hq; rw [qv] at hx; rw [← Option.some.inj hx]; exact hlt
        · exact h3 q x (by omega) (by omega) hx
    | false =>
      simp only [↓Sh.dn, sx, Nat.reduceBEq, reduceCtorEq, Nat.reduceEqDiff, hMF3, g0, g1, gi, gj]
      exact ⟨v, rfl, h1, h2, h3, fun _ x hx => by rw [qv] at hx; rw [← Option.some.inj hx]; exact hlt⟩
  · simp only [↓Sh.dn, sx, Nat.reduceBEq, reduceCtorEq, Nat.reduceEqDiff, hMF3, g0, g1, gi, gj, A7l, hle, decide_false]
    exact ⟨v, rfl, h1, h2, h3, fun h => absurd h hle⟩
 intro F3 H9 h9
 rw [hMF3] at h9
 obtain ⟨rfl,i2,u0,u1,ui,uj,u5,u6,u7,u8⟩:=h9
 simp only [↓Sh.dn,sx,Nat.reduceBEq,reduceCtorEq,Nat.reduceEqDiff]
 obtain ⟨MF4,hMF4⟩:∃ M:Fr→AH→Prop,M=fun F' H9=>H2=H9∧∃ v:Nat,F'.get 0=some (.slice (some ⟨g,0,some k⟩) l.length cap)∧F'.get 1=some (.int .i64 (a:Int))∧F'.get 10=some (.int .i64 ((i2:Nat):Int))∧F'.get 11=some (.int .i64 ((v:Nat):Int))∧i2≤v+1∧v≤j0∧(∀ (q:Nat) x,v < q→q≤j0→l1[q]?=some x→A0b x pv=false)∧(i2≤v→∀ x,l1[v]?=some x→A0b x pv=true):=⟨_,rfl⟩
 refine A90 MF4 (by rfl) ?_ ?_
 ·refine A4b (fun m F' H9 => H2 = H9 ∧ ∃ v : Nat, m = v ∧ F'.get 0 = some (.slice (some ⟨g, 0, some k⟩) l.length cap) ∧ F'.get 1 = some (.int .i64 (a : Int)) ∧ F'.get 10 = some (.int .i64 ((i2 : Nat) : Int)) ∧ F'.get 11 = some (.int .i64 ((v : Nat) : Int)) ∧ i2 ≤ v + 1 ∧ v ≤ j0 ∧ (∀ (q : Nat) x, v < q → q ≤ j0 → l1[q]? = some x → A0b x pv = false)) (m := j0)
    ⟨rfl, j0, rfl, by simp only [↓Sh.dn, sx, Nat.reduceBEq, reduceCtorEq, Nat.reduceEqDiff, u0], by simp only [↓Sh.dn, sx, Nat.reduceBEq, reduceCtorEq, Nat.reduceEqDiff, u1], by simp only [↓Sh.dn, sx, Nat.reduceBEq, reduceCtorEq, Nat.reduceEqDiff, ui], by simp only [↓Sh.dn, sx, Nat.reduceBEq, reduceCtorEq, Nat.reduceEqDiff, uj], by omega, by omega, fun q x h1 h2 => by omega⟩ ?_
  rintro v F' H9 ⟨rfl, _, rfl, g0, g1, gi, gj, h1, h2, h3⟩ k2
  simp only [↓Sh.dn, sx, Nat.reduceBEq, reduceCtorEq, Nat.reduceEqDiff]
  refine (A1b (by kernel_rfl)).2 ?_
  by_cases hle : i2 ≤ v
  · have jv : v < l1.length := by omega
    have iv := A8c (g := g) (k := k) (cap := cap) (m := l.length) (i := v) (j := .i64) (by omega)
    have xv := A5c hv1 jv
    have qv : l1[v]? = some l1[v] := List.getElem?_eq_getElem jv
    have wv : IntKind.wrap .i64 ((v : Int) - 1) = ((v - 1 : Nat) : Int) := by rw [wrap64 (by omega) (by omega)]; omega
    simp only [↓Sh.dn, sx, Nat.reduceBEq, reduceCtorEq, Nat.reduceEqDiff, g0, g1, gi, gj, A7l, hle, decide_true, iv, ia, xv, xa]
    refine ⟨_, _, A7d, ?_⟩
    cases hlt : A0b l1[v] pv with
    | false =>
      simp only [↓Sh.dn, sx, Nat.reduceBEq, reduceCtorEq, Nat.reduceEqDiff, g0, g1, gi, gj, wv]
      refine k2 ((v - 1)) _ _ (by omega) ⟨rfl, v - 1, rfl, by simp only [↓Sh.dn, sx, Nat.reduceBEq, reduceCtorEq, Nat.reduceEqDiff, g0], by simp only [↓Sh.dn, sx, Nat.reduceBEq, reduceCtorEq, Nat.reduceEqDiff, g1], by simp only [↓Sh.dn, sx, Nat.reduceBEq, reduceCtorEq, Nat.reduceEqDiff, gi], by simp only [↓Sh.dn, sx, Nat.reduceBEq, reduceCtorEq, Nat.reduceEqDiff, gj], by omega, by omega, fun q x hq1 hq2 hx => ?_⟩
      · by_cases hq : q = v
        · subst hq; rw [qv] at hx; rw [← Option.some.inj hx]; exact hlt
        · exact h3 q x (by omega) (by omega) hx
    | true =>
      simp only [↓Sh.dn, sx, Nat.reduceBEq, reduceCtorEq, Nat.reduceEqDiff, hMF4, g0, g1, gi, gj]
      exact ⟨v, rfl, h1, h2, h3, fun _ x hx => by rw [qv] at hx; rw [← Option.some.inj hx]; exact hlt⟩
  · simp only [↓Sh.dn, sx, Nat.reduceBEq, reduceCtorEq, Nat.reduceEqDiff, hMF4, g0, g1, gi, gj, A7l, hle, decide_false]
    exact ⟨v, rfl, h1, h2, h3, fun h => absurd h hle⟩
 intro F4 H9 h9
 rw [hMF4] at h9
 obtain ⟨rfl,j2,w0,w1,wi,wj,w5,w6,w7,w8⟩:=h9
 have hA2:∀ (q:Nat) x,a+1≤q→q < i2→l1[q]?=some x→A0b x pv=true:=by
  intro q x h1 h2 hx
  by_cases h:q < i0
  ·exact hA q x h1 h hx
  ·exact u7 q x (by omega) h2 hx
 have hB2:∀ (q:Nat) x,j2 < q→q < b→l1[q]?=some x→A0b x pv=false:=by
  intro q x h1 h2 hx
  by_cases h:j0 < q
  ·exact hB q x h h2 hx
  ·exact w7 q x h1 (by omega) hx
 simp only [↓Sh.dn,sx,Nat.reduceBEq,reduceCtorEq,Nat.reduceEqDiff,wi,wj,A1a]
 by_cases hgt:j2 < i2
 ·have jj:j2 < l1.length:=by omega
  have ja1:a < l1.length:=by omega
  have ij:=A8c (g:=g) (k:=k) (cap:=cap) (m:=l.length) (i:=j2) (j:=.i64) (by omega)
  have xj:=A5c hv1 jj
  have xa':=A5c hv1 ja1
  obtain ⟨L3,L4,d1,d2,hv2,hc2,d5⟩:=A5j hv1 hc1.wf jj ja1
  obtain ⟨p1,p2,p3,p4⟩:=last l1 H1 i2 j2 hm1 hpa (by omega) (by omega) (fun q x h1 h2 hx=>hA2 q x h1 (by omega) hx) (fun q x h1 h2 hx=>hB2 q x h1 h2 hx)
  simp only [↓Sh.dn,sx,Nat.reduceBEq,reduceCtorEq,Nat.reduceEqDiff,hgt,decide_true]
  refine (A1b (by kernel_rfl)).2 ?_
  simp only [↓Sh.dn,sx,Nat.reduceBEq,reduceCtorEq,Nat.reduceEqDiff,w0,w1,wi,wj,ij,ia,xj,xa',A7m,d1,d2,hres]
  exact ⟨j2,_,rfl,by omega,by omega,swp l1 j2 a,p1,pv,p2,p3,p4,hv2,hc1.trans hc2⟩
 simp only [↓Sh.dn,sx,Nat.reduceBEq,reduceCtorEq,Nat.reduceEqDiff,hgt,decide_false]
 have hij2:i2 < j2:=by
  by_cases h:i2=j2
  ·have h1:=u8 (by omega)
   have h2:=w8 (by omega)
   obtain ⟨x,hx⟩:∃ x,l1[i2]?=some x:=⟨_,List.getElem?_eq_getElem (by omega)⟩
   have a1:=h1 x hx
   have a2:=h2 x (by rw [← h]; exact hx)
   rw [a1] at a2; cases a2
  ·omega
 have ji1:i2 < l1.length:=by omega
 have jj1:j2 < l1.length:=by omega
 have ii2:=A8c (g:=g) (k:=k) (cap:=cap) (m:=l.length) (i:=i2) (j:=.i64) (by omega)
 have ij2:=A8c (g:=g) (k:=k) (cap:=cap) (m:=l.length) (i:=j2) (j:=.i64) (by omega)
 have xi:=A5c hv1 ji1
 have xj:=A5c hv1 jj1
 have yi2:IntKind.wrap .i64 ((i2:Int)+1)=((i2+1:Nat):Int):=by rw [wrap64 (by omega) (by omega)]; rfl
 have yj2:IntKind.wrap .i64 ((j2:Int) - 1)=((j2 - 1:Nat):Int):=by rw [wrap64 (by omega) (by omega)]; omega
 obtain ⟨L3,L4,d1,d2,hv2,hc2,d5⟩:=A5j hv1 hc1.wf ji1 jj1
 obtain ⟨s1,s2,s3⟩:=pair l1 i0 i2 j0 j2 (by omega) hpa hi0 (by omega) hij2 (by omega) (by omega) hA2 hB2 (u8 (by omega)) (w8 (by omega))
 refine (A1b (by kernel_rfl)).2 ?_
 simp only [↓Sh.dn,sx,Nat.reduceBEq,reduceCtorEq,Nat.reduceEqDiff,w0,w1,wi,wj,ii2,ij2,xi,xj,A7m,d1,d2,yi2,yj2]
 exact kk (j2 - 1+1 - (i2+1)) _ _ (by omega) ⟨i2+1,j2 - 1,swp l1 i2 j2,rfl,by omega,by omega,by omega,hm1.swap (by omega) (by omega) (by omega) (by omega),s1,s2,s3,hv2,hc1.trans hc2,by simp only [↓Sh.dn,sx,Nat.reduceBEq,reduceCtorEq,Nat.reduceEqDiff,w0],by simp only [↓Sh.dn,sx,Nat.reduceBEq,reduceCtorEq,Nat.reduceEqDiff,w1],by simp only [↓Sh.dn,sx,Nat.reduceBEq,reduceCtorEq,Nat.reduceEqDiff],by simp only [↓Sh.dn,sx,Nat.reduceBEq,reduceCtorEq,Nat.reduceEqDiff]⟩
theorem A67 {p:Nat} (hv:A4e H g k n l) (hw:Wf H) (hl:l.length≤1048576) (hap:a≤p) (hpb:p < b) (hb:b≤l.length):
  Sh.Call Tryz.prog (knows 7) 135 [.slice (some ⟨g,0,some k⟩) l.length cap,.int .i64 (a:Int),.int .i64 (b:Int),.int .i64 (p:Int)] H
   (fun r H'=>∃ m:Nat,r=.int .i64 (m:Int)∧a < m∧m≤b∧∃ l':List ByteArray,Mix a b l l'∧(∀ (q:Nat) x,a≤q→q < m→l'[q]?=some x→A0b l[p] x=false)∧(∀ (q:Nat) x,m≤q→q < b→l'[q]?=some x→A0b l[p] x=true)∧A4e H' g k n l'∧Chg (fun y=>y=g) H H'):=by
 refine A3a rfl Tryz.func135 rfl (Nat.le_of_ble_eq_true rfl) ?_
 have hTO:=strTO
 have ja:a < l.length:=by omega
 have jp:p < l.length:=by omega
 have ia:=A8c (g:=g) (k:=k) (cap:=cap) (m:=l.length) (i:=a) (j:=.i64) ja
 have ip:=A8c (g:=g) (k:=k) (cap:=cap) (m:=l.length) (i:=p) (j:=.i64) jp
 have xa:=A5c hv ja
 have xp:=A5c hv jp
 have wa:IntKind.wrap .i64 ((a:Int)+1)=((a+1:Nat):Int):=by rw [wrap64 (by omega) (by omega)]; rfl
 have wb:IntKind.wrap .i64 ((b:Int) - 1)=((b - 1:Nat):Int):=by rw [wrap64 (by omega) (by omega)]; omega
 obtain ⟨K1,H1,e1,e2,hv1,hc1,e5⟩:=A5j hv hw ja jp
 have hm1:Mix a b l (swp l a p):=(Mix.refl l).swap (by omega) (by omega) (by omega) (by omega)
 simp only [↓Sh.dn,sx,Nat.reduceBEq,reduceCtorEq,Nat.reduceEqDiff]
 refine (A1b (by kernel_rfl)).2 ?_
 simp only [↓Sh.dn,sx,Nat.reduceBEq,reduceCtorEq,Nat.reduceEqDiff,ia,ip,xa,xp,A7m,e1,e2,wa,wb]
 have hpa:(swp l a p)[a]?=some l[p]:=by
  rw [swp_get ja jp]
  by_cases h:a=p
  ·rw [if_pos h,List.getElem?_eq_getElem ja]; simp only [h]
  ·rw [if_neg h,if_pos rfl]; exact List.getElem?_eq_getElem jp
 generalize l[p]=pv at hpa xp e1 ⊢
 generalize hL0:swp l a p=l0 at hpa hm1 hv1
 have hres:Tryz.f135.results.toList=[.tmp 8]:=rfl
 have pair : ∀ (l1 : List ByteArray) (i1 j1 : Nat), l1.length = l.length → l1[a]? = some pv → a + 1 ≤ i1 → i1 < j1 → j1 < b → (∀ (q : Nat) x, a + 1 ≤ q → q < i1 → l1[q]? = some x → A0b pv x = false) → (∀ (q : Nat) x, j1 < q → q < b → l1[q]? = some x → A0b pv x = true) →
     (∀ x, l1[i1]? = some x → A0b pv x = true) → (∀ x, l1[j1]? = some x → A0b pv x = false) → (swp l1 i1 j1)[a]? = some pv ∧ (∀ (q : Nat) x, a + 1 ≤ q → q < i1 + 1 → (swp l1 i1 j1)[q]? = some x → A0b pv x = false) ∧ (∀ (q : Nat) x, j1 - 1 < q → q < b → (swp l1 i1 j1)[q]? = some x → A0b pv x = true) := by
   intro l1 i1 j1 hlen hp h1 h3 h5 hA hB hi hj
   have ji : i1 < l1.length := by omega
   have jj : j1 < l1.length := by omega
   refine ⟨by rw [swp_get ji jj, if_neg (by omega), if_neg (by omega)]; exact hp, fun q x hq1 hq2 hx => ?_, fun q x hq1 hq2 hx => ?_⟩
   · rw [swp_get ji jj, if_neg (by omega)] at hx
     by_cases h : q = i1
     · rw [if_pos h] at hx; exact hj x hx
     · rw [if_neg h] at hx; exact hA q x hq1 (by omega) hx
   · rw [swp_get ji jj] at hx
     by_cases h : q = j1
     · rw [if_pos h] at hx; exact hi x hx
     · rw [if_neg h, if_neg (by omega)] at hx; exact hB q x (by omega) hq2 hx
 refine A4b (fun m F' H2 => ∃ (i j : Nat) (l1 : List ByteArray), m = j + 1 - i ∧ a + 1 ≤ i ∧ i ≤ j + 1 ∧ j < b ∧ Mix a b l l1 ∧ l1[a]? = some pv ∧ (∀ (q : Nat) x, a + 1 ≤ q → q < i → l1[q]? = some x → A0b pv x = false) ∧ (∀ (q : Nat) x, j < q → q < b → l1[q]? = some x → A0b pv x = true) ∧ A4e H2 g k n l1 ∧ Chg (fun y => y = g) H H2 ∧
     F'.get 0 = some (.slice (some ⟨g, 0, some k⟩) l.length cap) ∧ F'.get 1 = some (.int .i64 (a : Int)) ∧ F'.get 9 = some (.int .i64 ((i : Nat) : Int)) ∧ F'.get 10 = some (.int .i64 ((j : Nat) : Int))) (m := b - 1 + 1 - (a + 1))
   ⟨a + 1, b - 1, l0, rfl, by omega, by omega, by omega, hm1, hpa, fun q x h1 h2 => by omega, fun q x h1 h2 => by omega, hv1, hc1, by simp only [↓Sh.dn, sx, Nat.reduceBEq, reduceCtorEq, Nat.reduceEqDiff], by simp only [↓Sh.dn, sx, Nat.reduceBEq, reduceCtorEq, Nat.reduceEqDiff], by simp only [↓Sh.dn, sx, Nat.reduceBEq, reduceCtorEq, Nat.reduceEqDiff], by simp only [↓Sh.dn, sx, Nat.reduceBEq, reduceCtorEq, Nat.reduceEqDiff]⟩ ?_
 clear xa hpa hm1 hv1
 clear hL0
 rintro m F H2 ⟨i0,j0,l1,rfl,hi0,hij0,hj0,hm1,hpa,hA,hB,hv1,hc1,f0,f1,fi,fj⟩ kk
 have hlen:=hm1.length
 have xa:H2.cell ⟨g,a,some k⟩=some (Value.string pv):=hv1.cell (by simp [hpa])
 simp only [↓Sh.dn,sx,Nat.reduceBEq,reduceCtorEq,Nat.reduceEqDiff]
 obtain ⟨MF3,hMF3⟩:∃ M:Fr→AH→Prop,M=fun F' H9=>H2=H9∧∃ v:Nat,F'.get 0=some (.slice (some ⟨g,0,some k⟩) l.length cap)∧F'.get 1=some (.int .i64 (a:Int))∧F'.get 9=some (.int .i64 ((v:Nat):Int))∧F'.get 10=some (.int .i64 ((j0:Nat):Int))∧i0≤v∧v≤j0+1∧(∀ (q:Nat) x,i0≤q→q < v→l1[q]?=some x→A0b pv x=false)∧(v≤j0→∀ x,l1[v]?=some x→A0b pv x=true):=⟨_,rfl⟩
 refine A90 MF3 (by rfl) ?_ ?_
 ·refine A4b (fun m F' H9 => H2 = H9 ∧ ∃ v : Nat, m = j0 + 1 - v ∧ F'.get 0 = some (.slice (some ⟨g, 0, some k⟩) l.length cap) ∧ F'.get 1 = some (.int .i64 (a : Int)) ∧ F'.get 9 = some (.int .i64 ((v : Nat) : Int)) ∧ F'.get 10 = some (.int .i64 ((j0 : Nat) : Int)) ∧ i0 ≤ v ∧ v ≤ j0 + 1 ∧ (∀ (q : Nat) x, i0 ≤ q → q < v → l1[q]? = some x → A0b pv x = false)) (m := j0 + 1 - i0)
    ⟨rfl, i0, rfl, by simp only [↓Sh.dn, sx, Nat.reduceBEq, reduceCtorEq, Nat.reduceEqDiff, f0], by simp only [↓Sh.dn, sx, Nat.reduceBEq, reduceCtorEq, Nat.reduceEqDiff, f1], by simp only [↓Sh.dn, sx, Nat.reduceBEq, reduceCtorEq, Nat.reduceEqDiff, fi], by simp only [↓Sh.dn, sx, Nat.reduceBEq, reduceCtorEq, Nat.reduceEqDiff, fj], by omega, by omega, fun q x h1 h2 => by omega⟩ ?_
  rintro m F' H9 ⟨rfl, v, rfl, g0, g1, gi, gj, h1, h2, h3⟩ k2
  simp only [↓Sh.dn, sx, Nat.reduceBEq, reduceCtorEq, Nat.reduceEqDiff]
  refine (A1b (by kernel_rfl)).2 ?_
  by_cases hle : v ≤ j0
  · have jv : v < l1.length := by omega
    have iv := A8c (g := g) (k := k) (cap := cap) (m := l.length) (i := v) (j := .i64) (by omega)
    have xv := A5c hv1 jv
    have qv : l1[v]? = some l1[v] := List.getElem?_eq_getElem jv
    have wv : IntKind.wrap .i64 ((v : Int) + 1) = ((v + 1 : Nat) : Int) := by rw [wrap64 (by omega) (by omega)]; rfl
    simp only [↓Sh.dn, sx, Nat.reduceBEq, reduceCtorEq, Nat.reduceEqDiff, g0, g1, gi, gj, A7l, hle, decide_true, iv, ia, xv, xa]
    refine ⟨_, _, A7d, ?_⟩
    cases hlt : A0b pv l1[v] with
    | false =>
      simp only [↓Sh.dn, sx, Nat.reduceBEq, reduceCtorEq, Nat.reduceEqDiff, g0, g1, gi, gj, wv]
      refine k2 (j0 + 1 - (v + 1)) _ _ (by omega) ⟨rfl, v + 1, rfl, by simp only [↓Sh.dn, sx, Nat.reduceBEq, reduceCtorEq, Nat.reduceEqDiff, g0], by simp only [↓Sh.dn, sx, Nat.reduceBEq, reduceCtorEq, Nat.reduceEqDiff, g1], by simp only [↓Sh.dn, sx, Nat.reduceBEq, reduceCtorEq, Nat.reduceEqDiff, gi], by simp only [↓Sh.dn, sx, Nat.reduceBEq, reduceCtorEq, Nat.reduceEqDiff, gj], by omega, by omega, fun q x hq1 hq2 hx => ?_⟩
      · by_cases hq : q = v
        · subst hq; rw [qv] at hx; rw [← Option.some.inj hx]; exact hlt
        · exact h3 q x (by omega) (by omega) hx
    | true =>
      simp only [↓Sh.dn, sx, Nat.reduceBEq, reduceCtorEq, Nat.reduceEqDiff, hMF3, g0, g1, gi, gj]
      exact ⟨v, rfl, h1, h2, h3, fun _ x hx => by rw [qv] at hx; rw [← Option.some.inj hx]; exact hlt⟩
  · simp only [↓Sh.dn, sx, Nat.reduceBEq, reduceCtorEq, Nat.reduceEqDiff, hMF3, g0, g1, gi, gj, A7l, hle, decide_false]
    exact ⟨v, rfl, h1, h2, h3, fun h => absurd h hle⟩
 intro F3 H9 h9
 rw [hMF3] at h9
 obtain ⟨rfl,i2,u0,u1,ui,uj,u5,u6,u7,u8⟩:=h9
 simp only [↓Sh.dn,sx,Nat.reduceBEq,reduceCtorEq,Nat.reduceEqDiff]
 obtain ⟨MF4,hMF4⟩:∃ M:Fr→AH→Prop,M=fun F' H9=>H2=H9∧∃ v:Nat,F'.get 0=some (.slice (some ⟨g,0,some k⟩) l.length cap)∧F'.get 1=some (.int .i64 (a:Int))∧F'.get 9=some (.int .i64 ((i2:Nat):Int))∧F'.get 10=some (.int .i64 ((v:Nat):Int))∧i2≤v+1∧v≤j0∧(∀ (q:Nat) x,v < q→q≤j0→l1[q]?=some x→A0b pv x=true)∧(i2≤v→∀ x,l1[v]?=some x→A0b pv x=false):=⟨_,rfl⟩
 refine A90 MF4 (by rfl) ?_ ?_
 ·refine A4b (fun m F' H9 => H2 = H9 ∧ ∃ v : Nat, m = v ∧ F'.get 0 = some (.slice (some ⟨g, 0, some k⟩) l.length cap) ∧ F'.get 1 = some (.int .i64 (a : Int)) ∧ F'.get 9 = some (.int .i64 ((i2 : Nat) : Int)) ∧ F'.get 10 = some (.int .i64 ((v : Nat) : Int)) ∧ i2 ≤ v + 1 ∧ v ≤ j0 ∧ (∀ (q : Nat) x, v < q → q ≤ j0 → l1[q]? = some x → A0b pv x = true)) (m := j0)
    ⟨rfl, j0, rfl, by simp only [↓Sh.dn, sx, Nat.reduceBEq, reduceCtorEq, Nat.reduceEqDiff, u0], by simp only [↓Sh.dn, sx, Nat.reduceBEq, reduceCtorEq, Nat.reduceEqDiff, u1], by simp only [↓Sh.dn, sx, Nat.reduceBEq, reduceCtorEq, Nat.reduceEqDiff, ui], by simp only [↓Sh.dn, sx, Nat.reduceBEq, reduceCtorEq, Nat.reduceEqDiff, uj], by omega, by omega, fun q x h1 h2 => by omega⟩ ?_
  rintro v F' H9 ⟨rfl, _, rfl, g0, g1, gi, gj, h1, h2, h3⟩ k2
  simp only [↓Sh.dn, sx, Nat.reduceBEq, reduceCtorEq, Nat.reduceEqDiff]
  refine (A1b (by kernel_rfl)).2 ?_
  by_cases hle : i2 ≤ v
  · have jv : v < l1.length := by omega
    have iv := A8c (g := g) (k := k) (cap := cap) (m := l.length) (i := v) (j := .i64) (by omega)
    have xv := A5c hv1 jv
    have qv : l1[v]? = some l1[v] := List.getElem?_eq_getElem jv
    have wv : IntKind.wrap .i64 ((v : Int) - 1) = ((v - 1 : Nat) : Int) := by rw [wrap64 (by omega) (by omega)]; omega
    simp only [↓Sh.dn, sx, Nat.reduceBEq, reduceCtorEq, Nat.reduceEqDiff, g0, g1, gi, gj, A7l, hle, decide_true, iv, ia, xv, xa]
    refine ⟨_, _, A7d, ?_⟩
    cases hlt : A0b pv l1[v] with
    | true =>
      simp only [↓Sh.dn, sx, Nat.reduceBEq, reduceCtorEq, Nat.reduceEqDiff, g0, g1, gi, gj, wv]
      refine k2 ((v - 1)) _ _ (by omega) ⟨rfl, v - 1, rfl, by simp only [↓Sh.dn, sx, Nat.reduceBEq, reduceCtorEq, Nat.reduceEqDiff, g0], by simp only [↓Sh.dn, sx, Nat.reduceBEq, reduceCtorEq, Nat.reduceEqDiff, g1], by simp only [↓Sh.dn, sx, Nat.reduceBEq, reduceCtorEq, Nat.reduceEqDiff, gi], by simp only [↓Sh.dn, sx, Nat.reduceBEq, reduceCtorEq, Nat.reduceEqDiff, gj], by omega, by omega, fun q x hq1 hq2 hx => ?_⟩
      · by_cases hq : q = v
        · subst hq; rw [qv] at hx; rw [← Option.some.inj hx]; exact hlt
        · exact h3 q x (by omega) (by omega) hx
    | false =>
      simp only [↓Sh.dn, sx, Nat.reduceBEq, reduceCtorEq, Nat.reduceEqDiff, hMF4, g0, g1, gi, gj]
      exact ⟨v, rfl, h1, h2, h3, fun _ x hx => by rw [qv] at hx; rw [← Option.some.inj hx]; exact hlt⟩
  · simp only [↓Sh.dn, sx, Nat.reduceBEq, reduceCtorEq, Nat.reduceEqDiff, hMF4, g0, g1, gi, gj, A7l, hle, decide_false]
    exact ⟨v, rfl, h1, h2, h3, fun h => absurd h hle⟩
 intro F4 H9 h9
 rw [hMF4] at h9
 obtain ⟨rfl,j2,w0,w1,wi,wj,w5,w6,w7,w8⟩:=h9
 have hA2:∀ (q:Nat) x,a+1≤q→q < i2→l1[q]?=some x→A0b pv x=false:=by
  intro q x h1 h2 hx
  by_cases h:q < i0
  ·exact hA q x h1 h hx
  ·exact u7 q x (by omega) h2 hx
 have hB2:∀ (q:Nat) x,j2 < q→q < b→l1[q]?=some x→A0b pv x=true:=by
  intro q x h1 h2 hx
  by_cases h:j0 < q
  ·exact hB q x h h2 hx
  ·exact w7 q x h1 (by omega) hx
 simp only [↓Sh.dn,sx,Nat.reduceBEq,reduceCtorEq,Nat.reduceEqDiff,wi,wj,A1a]
 by_cases hgt:j2 < i2
 ·simp only [↓Sh.dn,sx,Nat.reduceBEq,reduceCtorEq,Nat.reduceEqDiff,hgt,decide_true,wi,hres]
  refine ⟨i2,rfl,by omega,by omega,l1,hm1,fun q x h1 h2 hx=>?_,fun q x h1 h2 hx=>hB2 q x (by omega) h2 hx,hv1,hc1⟩
  by_cases h:q=a
  ·subst h; rw [hpa] at hx; rw [← Option.some.inj hx]; exact hTO.irrefl pv
  ·exact hA2 q x (by omega) h2 hx
 simp only [↓Sh.dn,sx,Nat.reduceBEq,reduceCtorEq,Nat.reduceEqDiff,hgt,decide_false]
 have hij2:i2 < j2:=by
  by_cases h:i2=j2
  ·have h1:=u8 (by omega)
   have h2:=w8 (by omega)
   obtain ⟨x,hx⟩:∃ x,l1[i2]?=some x:=⟨_,List.getElem?_eq_getElem (by omega)⟩
   have a1:=h1 x hx
   have a2:=h2 x (by rw [← h]; exact hx)
   rw [a1] at a2; cases a2
  ·omega
 have ji1:i2 < l1.length:=by omega
 have jj1:j2 < l1.length:=by omega
 have ii2:=A8c (g:=g) (k:=k) (cap:=cap) (m:=l.length) (i:=i2) (j:=.i64) (by omega)
 have ij2:=A8c (g:=g) (k:=k) (cap:=cap) (m:=l.length) (i:=j2) (j:=.i64) (by omega)
 have xi:=A5c hv1 ji1
 have xj:=A5c hv1 jj1
 have yi2:IntKind.wrap .i64 ((i2:Int)+1)=((i2+1:Nat):Int):=by rw [wrap64 (by omega) (by omega)]; rfl
 have yj2:IntKind.wrap .i64 ((j2:Int) - 1)=((j2 - 1:Nat):Int):=by rw [wrap64 (by omega) (by omega)]; omega
 obtain ⟨L3,L4,d1,d2,hv2,hc2,d5⟩:=A5j hv1 hc1.wf ji1 jj1
 obtain ⟨s1,s2,s3⟩:=pair l1 i2 j2 (by omega) hpa (by omega) hij2 (by omega) hA2 hB2 (u8 (by omega)) (w8 (by omega))
 refine (A1b (by kernel_rfl)).2 ?_
 simp only [↓Sh.dn,sx,Nat.reduceBEq,reduceCtorEq,Nat.reduceEqDiff,w0,w1,wi,wj,ii2,ij2,xi,xj,A7m,d1,d2,yi2,yj2]
 exact kk (j2 - 1+1 - (i2+1)) _ _ (by omega) ⟨i2+1,j2 - 1,swp l1 i2 j2,rfl,by omega,by omega,by omega,hm1.swap (by omega) (by omega) (by omega) (by omega),s1,s2,s3,hv2,hc1.trans hc2,by simp only [↓Sh.dn,sx,Nat.reduceBEq,reduceCtorEq,Nat.reduceEqDiff,w0],by simp only [↓Sh.dn,sx,Nat.reduceBEq,reduceCtorEq,Nat.reduceEqDiff,w1],by simp only [↓Sh.dn,sx,Nat.reduceBEq,reduceCtorEq,Nat.reduceEqDiff],by simp only [↓Sh.dn,sx,Nat.reduceBEq,reduceCtorEq,Nat.reduceEqDiff]⟩
end
end Go.Proofs.YtcgbiedfbacgpaaGreat
/- partialInsertionSortOrdered. -/
namespace Go.Proofs.YtcgbiedfbacgpaaGreat
open Go Go.Proofs Go.Proofs.Sh
def B7g (a i:Nat) (m:List ByteArray):Prop:=∀ (p:Nat) x y,a≤p→p+1 < i→m[p]?=some x→m[p+1]?=some y→A0b y x=false
def PreStr (a b:Nat) (l:List ByteArray):Prop:=∀ (q:Nat) x y,0 < a→l[a - 1]?=some y→a≤q→q < b→l[q]?=some x→A0b x y=false
theorem PreStr.mix {a b:Nat} {l m:List ByteArray} (h:PreStr a b l) (hm:Mix a b l m) (hb:b≤l.length):PreStr a b m:=by
 intro q x y h0 hy h1 h2 hx
 rw [hm.out (.inl (by omega))] at hy
 exact hm.all (p:=fun x=>A0b x y=false) hb (fun i z hi1 hi2 hz=>h i z y h0 hy hi1 hi2 hz) q x h1 h2 hx
theorem A41 {H:AH} {g k n cap a b:Nat} {l:List ByteArray} (hv:A4e H g k n l) (hw:Wf H) (hl:l.length≤1048576) (hab:a < b) (hb:b≤l.length) (hpre:PreStr a b l):
  Sh.Call Tryz.prog (knows 7) 134 [.slice (some ⟨g,0,some k⟩) l.length cap,.int .i64 (a:Int),.int .i64 (b:Int)] H
   (fun r H'=>∃ bb:Bool,r=.bool bb∧∃ l',Mix a b l l'∧(bb=true→Srt A0b a b l')∧A4e H' g k n l'∧Chg (fun y=>y=g) H H'):=by
 refine A3a rfl Tryz.func134 rfl (Nat.le_of_ble_eq_true rfl) ?_
 have hres:Tryz.f134.results.toList=[.tmp 6]:=rfl
 have hTO:=strTO
 have w1:IntKind.wrap .i64 ((a:Int)+1)=((a+1:Nat):Int):=by rw [wrap64 (by omega) (by omega)]; rfl
 have wba:IntKind.wrap .i64 ((b:Int) - (a:Int))=((b - a:Nat):Int):=by rw [wrap64 (by omega) (by omega)]; omega
 simp only [↓Sh.dn,sx,Nat.reduceBEq,reduceCtorEq,Nat.reduceEqDiff,w1]
 refine A4b (fun m F H' => ∃ (c i : Nat) (l1 : List ByteArray), m = 5 - c ∧ c ≤ 5 ∧ a + 1 ≤ i ∧ i ≤ b ∧ Mix a b l l1 ∧ B7g a i l1 ∧ A4e H' g k n l1 ∧ Chg (fun y => y = g) H H' ∧
     F.get 0 = some (.slice (some ⟨g, 0, some k⟩) l.length cap) ∧ F.get 1 = some (.int .i64 (a : Int)) ∧ F.get 2 = some (.int .i64 (b : Int)) ∧ F.get 7 = some (.int .i64 (i : Int)) ∧ F.get 8 = some (.int .i64 (c : Int))) (m := 5)
   ⟨0, a + 1, l, rfl, by omega, by omega, by omega, .refl l, fun p x y h1 h2 => by omega, hv, Chg.refl hw, by simp only [↓Sh.dn, sx, Nat.reduceBEq, reduceCtorEq, Nat.reduceEqDiff], by simp only [↓Sh.dn, sx, Nat.reduceBEq, reduceCtorEq, Nat.reduceEqDiff], by simp only [↓Sh.dn, sx, Nat.reduceBEq, reduceCtorEq, Nat.reduceEqDiff], by simp only [↓Sh.dn, sx, Nat.reduceBEq, reduceCtorEq, Nat.reduceEqDiff], by simp only [↓Sh.dn, sx, Nat.reduceBEq, reduceCtorEq, Nat.reduceEqDiff]; rfl⟩ ?_
 rintro m F H' ⟨c,i,l1,rfl,hc5,hai,hib,hm,hadj,hv1,hc1,f0,f1,f2,f7,f8⟩ kk
 have hlen:=hm.length
 by_cases hlt:c < 5
 case neg=>
  have d:decide ((c:Int) < 5)=false:=by simp; omega
  simp only [↓Sh.dn,sx,Nat.reduceBEq,reduceCtorEq,Nat.reduceEqDiff,f8,d,hres]
  exact ⟨l1,hm,hv1,hc1⟩
 have d:decide ((c:Int) < 5)=true:=by simp; omega
 simp only [↓Sh.dn,sx,Nat.reduceBEq,reduceCtorEq,Nat.reduceEqDiff,f8,d]
 obtain ⟨M1, hM1⟩ : ∃ M : Fr → AH → Prop, M = fun F' H9 => H' = H9 ∧ ∃ v : Nat, F'.get 0 = some (.slice (some ⟨g, 0, some k⟩) l.length cap) ∧ F'.get 1 = some (.int .i64 (a : Int)) ∧ F'.get 2 = some (.int .i64 (b : Int)) ∧ F'.get 7 = some (.int .i64 (v : Int)) ∧ F'.get 8 = some (.int .i64 (c : Int)) ∧
     i ≤ v ∧ v ≤ b ∧ B7g a v l1 := ⟨_, rfl⟩
 refine A90 M1 (by rfl) ?_ ?_
 ·refine A4b (fun m F' H9 => H' = H9 ∧ ∃ v : Nat, m = b - v ∧ F'.get 0 = some (.slice (some ⟨g, 0, some k⟩) l.length cap) ∧ F'.get 1 = some (.int .i64 (a : Int)) ∧ F'.get 2 = some (.int .i64 (b : Int)) ∧ F'.get 7 = some (.int .i64 (v : Int)) ∧ F'.get 8 = some (.int .i64 (c : Int)) ∧
    i ≤ v ∧ v ≤ b ∧ B7g a v l1) (m := b - i)
    ⟨rfl, i, rfl, by simp only [↓Sh.dn, sx, Nat.reduceBEq, reduceCtorEq, Nat.reduceEqDiff, f0], by simp only [↓Sh.dn, sx, Nat.reduceBEq, reduceCtorEq, Nat.reduceEqDiff, f1], by simp only [↓Sh.dn, sx, Nat.reduceBEq, reduceCtorEq, Nat.reduceEqDiff, f2], by simp only [↓Sh.dn, sx, Nat.reduceBEq, reduceCtorEq, Nat.reduceEqDiff, f7], by simp only [↓Sh.dn, sx, Nat.reduceBEq, reduceCtorEq, Nat.reduceEqDiff, f8], Nat.le_refl _, hib, hadj⟩ ?_
  rintro m F' H9 ⟨rfl, v, rfl, g0, g1, g2, g7, g8, h1, h2, h3⟩ k2
  simp only [↓Sh.dn, sx, Nat.reduceBEq, reduceCtorEq, Nat.reduceEqDiff]
  refine (A1b (by kernel_rfl)).2 ?_
  by_cases hvb : v < b
  · have jv : v < l1.length := by omega
    have jw : v - 1 < l1.length := by omega
    have iv := A8c (g := g) (k := k) (cap := cap) (m := l.length) (i := v) (j := .i64) (by omega)
    have iw := A8c (g := g) (k := k) (cap := cap) (m := l.length) (i := v - 1) (j := .i64) (by omega)
    have xv := A5c hv1 jv
    have xw := A5c hv1 jw
    have wv : IntKind.wrap .i64 ((v : Int) - 1) = ((v - 1 : Nat) : Int) := by rw [wrap64 (by omega) (by omega)]; omega
    have wv2 : IntKind.wrap .i64 ((v : Int) + 1) = ((v + 1 : Nat) : Int) := by rw [wrap64 (by omega) (by omega)]; rfl
    simp only [↓Sh.dn, sx, Nat.reduceBEq, reduceCtorEq, Nat.reduceEqDiff, g0, g1, g2, g7, A1a, hvb, decide_true, wv, iv, iw, xv, xw]
    refine ⟨_, _, A7d, ?_⟩
    cases hq : A0b l1[v] l1[v - 1] with
    | false =>
      simp only [↓Sh.dn, sx, Nat.reduceBEq, reduceCtorEq, Nat.reduceEqDiff, g7, wv2]
      refine k2 (b - (v + 1)) _ _ (by omega) ⟨rfl, v + 1, rfl, by simp only [↓Sh.dn, sx, Nat.reduceBEq, reduceCtorEq, Nat.reduceEqDiff, g0], by simp only [↓Sh.dn, sx, Nat.reduceBEq, reduceCtorEq, Nat.reduceEqDiff, g1], by simp only [↓Sh.dn, sx, Nat.reduceBEq, reduceCtorEq, Nat.reduceEqDiff, g2], by simp only [↓Sh.dn, sx, Nat.reduceBEq, reduceCtorEq, Nat.reduceEqDiff], by simp only [↓Sh.dn, sx, Nat.reduceBEq, reduceCtorEq, Nat.reduceEqDiff, g8], by omega, by omega, fun p x y hp1 hp2 hx hy => ?_⟩
      by_cases hpv : p + 1 = v
      · have e1 : l1[v]? = some l1[v] := List.getElem?_eq_getElem jv
        have e2 : l1[v - 1]? = some l1[v - 1] := List.getElem?_eq_getElem jw
        rw [hpv, e1] at hy
        rw [show p = v - 1 by omega, e2] at hx
        rw [← Option.some.inj hx, ← Option.some.inj hy]; exact hq
      · exact h3 p x y hp1 (by omega) hx hy
    | true =>
      simp only [↓Sh.dn, sx, Nat.reduceBEq, reduceCtorEq, Nat.reduceEqDiff, hM1, g0, g1, g2, g7, g8]
      exact ⟨v, rfl, h1, h2, h3⟩
  · simp only [↓Sh.dn, sx, Nat.reduceBEq, reduceCtorEq, Nat.reduceEqDiff, hM1, g0, g1, g2, g7, g8, A1a, hvb, decide_false]
    exact ⟨v, rfl, h1, h2, h3⟩
 intro F1 H9 h9
 rw [hM1] at h9
 obtain ⟨rfl,v,f0,f1,f2,f7,f8,hiv,hvb,hadj⟩:=h9
 by_cases hend:v=b
 ·have d:decide ((v:Int)=(b:Int))=true:=by simp [hend]
  simp only [↓Sh.dn,sx,Nat.reduceBEq,reduceCtorEq,Nat.reduceEqDiff,f2,f7,d,hres]
  exact ⟨l1,hm,B0b hTO (by rw [← hend]; exact hadj),hv1,hc1⟩
 have d:decide ((v:Int)=(b:Int))=false:=by simp; omega
 simp only [↓Sh.dn,sx,Nat.reduceBEq,reduceCtorEq,Nat.reduceEqDiff,f1,f2,f7,d,wba]
 by_cases h50:b - a < 50
 ·have d:decide (((b - a:Nat):Int) < 50)=true:=by simp; omega
  simp only [↓Sh.dn,sx,Nat.reduceBEq,reduceCtorEq,Nat.reduceEqDiff,d,hres]
  exact ⟨l1,hm,hv1,hc1⟩
 have d:decide (((b - a:Nat):Int) < 50)=false:=by simp; omega
 simp only [↓Sh.dn,sx,Nat.reduceBEq,reduceCtorEq,Nat.reduceEqDiff,d]
 have jv:v < l1.length:=by omega
 have jw:v - 1 < l1.length:=by omega
 have iv:=A8c (g:=g) (k:=k) (cap:=cap) (m:=l.length) (i:=v) (j:=.i64) (by omega)
 have iw:=A8c (g:=g) (k:=k) (cap:=cap) (m:=l.length) (i:=v - 1) (j:=.i64) (by omega)
 have xv:=A5c hv1 jv
 have xw:=A5c hv1 jw
 have wv:IntKind.wrap .i64 ((v:Int) - 1)=((v - 1:Nat):Int):=by rw [wrap64 (by omega) (by omega)]; omega
 have wv2:IntKind.wrap .i64 ((v:Int)+1)=((v+1:Nat):Int):=by rw [wrap64 (by omega) (by omega)]; rfl
 have wva:IntKind.wrap .i64 ((v:Int) - (a:Int))=((v - a:Nat):Int):=by rw [wrap64 (by omega) (by omega)]; omega
 have wbv:IntKind.wrap .i64 ((b:Int) - (v:Int))=((b - v:Nat):Int):=by rw [wrap64 (by omega) (by omega)]; omega
 have wc:IntKind.wrap .i64 ((c:Int)+1)=((c+1:Nat):Int):=by rw [wrap64 (by omega) (by omega)]; rfl
 obtain ⟨L1,L2,d1,d2,hv2,hc2,d5⟩:=A5j hv1 hc1.wf jv jw
 have hm2:Mix a b l (swp l1 v (v - 1)):=hm.swap (by omega) (by omega) (by omega) (by omega)
 refine (A1b (by kernel_rfl)).2 ?_
 simp only [↓Sh.dn,sx,Nat.reduceBEq,reduceCtorEq,Nat.reduceEqDiff,f0,f1,f7,wv,iv,iw,xv,xw,A7m,d1,d2,wva]
 have hA2:∀ (p:Nat) x y,a≤p→p+1 < v→p+1≠v - 1→(swp l1 v (v - 1))[p]?=some x→(swp l1 v (v - 1))[p+1]?=some y→A0b y x=false:=by
  intro p x y h1 h2 h3 hx hy
  rw [swp_get jv jw,if_neg (by omega),if_neg (by omega)] at hx hy
  exact hadj p x y h1 (by omega) hx hy
 have hc12:=hc1.trans hc2
 generalize swp l1 v (v - 1)=l2 at hv2 hm2 hA2
 obtain ⟨M2,hM2⟩:∃ M:Fr→AH→Prop,M=fun F' H9=>∃ l3:List ByteArray,Mix a b l l3∧B7g a v l3∧A4e H9 g k n l3∧Chg (fun y=>y=g) H H9∧F'.get 0=some (.slice (some ⟨g,0,some k⟩) l.length cap)∧F'.get 1=some (.int .i64 (a:Int))∧F'.get 2=some (.int .i64 (b:Int))∧F'.get 7=some (.int .i64 (v:Int))∧F'.get 8=some (.int .i64 (c:Int)):=⟨_,rfl⟩
 refine B6j M2 (by rfl) ?_ ?_
 ·by_cases hva:2≤v - a
  case neg=>
   have d:decide ((2:Int)≤((v - a:Nat):Int))=false:=by simp; omega
   simp only [↓Sh.dn,sx,Nat.reduceBEq,reduceCtorEq,Nat.reduceEqDiff,d,hM2,f0,f1,f2,f7,f8]
   exact ⟨l2,hm2,fun p x y h1 h2 hx hy=>by omega,hv2,hc12⟩
  have d:decide ((2:Int)≤((v - a:Nat):Int))=true:=by simp; omega
  simp only [↓Sh.dn,sx,Nat.reduceBEq,reduceCtorEq,Nat.reduceEqDiff,d,f7,wv]
  refine A4b (fun j F' H9 => ∃ l3 : List ByteArray, a ≤ j ∧ j ≤ v - 1 ∧ Mix a b l l3 ∧ (∀ (p : Nat) x y, a ≤ p → p + 1 < v → p + 1 ≠ j → l3[p]? = some x → l3[p + 1]? = some y → A0b y x = false) ∧ (∀ x y, a < j → j + 1 < v → l3[j - 1]? = some x → l3[j + 1]? = some y → A0b y x = false) ∧ A4e H9 g k n l3 ∧ Chg (fun y => y = g) H H9 ∧
      F'.get 0 = some (.slice (some ⟨g, 0, some k⟩) l.length cap) ∧ F'.get 1 = some (.int .i64 (a : Int)) ∧ F'.get 2 = some (.int .i64 (b : Int)) ∧ F'.get 7 = some (.int .i64 (v : Int)) ∧ F'.get 8 = some (.int .i64 (c : Int)) ∧ F'.get 9 = some (.int .i64 (j : Int))) (m := v - 1)
    ⟨l2, by omega, Nat.le_refl _, hm2, hA2, fun x y h1 h2 => by omega, hv2, hc12, by simp only [↓Sh.dn, sx, Nat.reduceBEq, reduceCtorEq, Nat.reduceEqDiff, f0], by simp only [↓Sh.dn, sx, Nat.reduceBEq, reduceCtorEq, Nat.reduceEqDiff, f1], by simp only [↓Sh.dn, sx, Nat.reduceBEq, reduceCtorEq, Nat.reduceEqDiff, f2], by simp only [↓Sh.dn, sx, Nat.reduceBEq, reduceCtorEq, Nat.reduceEqDiff, f7], by simp only [↓Sh.dn, sx, Nat.reduceBEq, reduceCtorEq, Nat.reduceEqDiff, f8], by simp only [↓Sh.dn, sx, Nat.reduceBEq, reduceCtorEq, Nat.reduceEqDiff]⟩ ?_
  rintro j F' H9 ⟨l3,haj,hjv,hm3,hA,hB,hv3,hc3,g0,g1,g2,g7,g8,g9⟩ k2
  have hlen3:=hm3.length
  have hall:j=a→B7g a v l3:=fun h p x y h1 h2 hx hy=>hA p x y h1 h2 (by omega) hx hy
  by_cases hj0:1≤j
  case neg=>
   have d:decide ((1:Int)≤(j:Int))=false:=by simp; omega
   simp only [↓Sh.dn,sx,Nat.reduceBEq,reduceCtorEq,Nat.reduceEqDiff,g9,d,hM2,g0,g1,g2,g7,g8]
   exact ⟨l3,hm3,hall (by omega),hv3,hc3⟩
  have d:decide ((1:Int)≤(j:Int))=true:=by simp; omega
  have jj:j < l3.length:=by omega
  have jj1:j - 1 < l3.length:=by omega
  have ij:=A8c (g:=g) (k:=k) (cap:=cap) (m:=l.length) (i:=j) (j:=.i64) (by omega)
  have ij1:=A8c (g:=g) (k:=k) (cap:=cap) (m:=l.length) (i:=j - 1) (j:=.i64) (by omega)
  have xj:=A5c hv3 jj
  have xj1:=A5c hv3 jj1
  have q1:l3[j]?=some l3[j]:=List.getElem?_eq_getElem jj
  have q2:l3[j - 1]?=some l3[j - 1]:=List.getElem?_eq_getElem jj1
  have wj:IntKind.wrap .i64 ((j:Int) - 1)=((j - 1:Nat):Int):=by rw [wrap64 (by omega) (by omega)]; omega
  simp only [↓Sh.dn,sx,Nat.reduceBEq,reduceCtorEq,Nat.reduceEqDiff,g9,d]
  refine (A1b (by kernel_rfl)).2 ?_
  simp only [↓Sh.dn,sx,Nat.reduceBEq,reduceCtorEq,Nat.reduceEqDiff,g0,g9,wj,ij,ij1,xj,xj1]
  refine ⟨_,_,A7d,?_⟩
  cases hq:A0b l3[j] l3[j - 1] with
  | false=>
   simp only [↓Sh.dn,sx,Nat.reduceBEq,reduceCtorEq,Nat.reduceEqDiff,hM2,g0,g1,g2,g7,g8]
   refine ⟨l3,hm3,fun p x y h1 h2 hx hy=>?_,hv3,hc3⟩
   by_cases hp:p+1=j
   ·rw [hp,q1] at hy
    rw [show p=j - 1 by omega,q2] at hx
    rw [← Option.some.inj hx,← Option.some.inj hy]; exact hq
   ·exact hA p x y h1 h2 hp hx hy
  | true=>
   have haj':a < j:=by
    by_cases h:j=a
    ·subst h
     have:=hpre.mix hm3 hb j _ _ (by omega) q2 (Nat.le_refl _) hab q1
     rw [this] at hq; cases hq
    ·omega
   obtain ⟨L3,L4,c1,c2,hv4,hc4,c5⟩:=A5j hv3 hc3.wf jj jj1
   simp only [↓Sh.dn,sx,Nat.reduceBEq,reduceCtorEq,Nat.reduceEqDiff]
   refine (A1b (by kernel_rfl)).2 ?_
   simp only [↓Sh.dn,sx,Nat.reduceBEq,reduceCtorEq,Nat.reduceEqDiff,g0,g9,wj,ij,ij1,xj,xj1,A7m,c1,c2]
   refine k2 (j - 1) _ _ (by omega) ⟨swp l3 j (j - 1),by omega,by omega,hm3.swap (by omega) (by omega) (by omega) (by omega),fun p x y h1 h2 h3 hx hy=>?_,fun x y h1 h2 hx hy=>?_,hv4,hc3.trans hc4,by simp only [↓Sh.dn,sx,Nat.reduceBEq,reduceCtorEq,Nat.reduceEqDiff,g0],by simp only [↓Sh.dn,sx,Nat.reduceBEq,reduceCtorEq,Nat.reduceEqDiff,g1],by simp only [↓Sh.dn,sx,Nat.reduceBEq,reduceCtorEq,Nat.reduceEqDiff,g2],by simp only [↓Sh.dn,sx,Nat.reduceBEq,reduceCtorEq,Nat.reduceEqDiff,g7],by simp only [↓Sh.dn,sx,Nat.reduceBEq,reduceCtorEq,Nat.reduceEqDiff,g8],by simp only [↓Sh.dn,sx,Nat.reduceBEq,reduceCtorEq,Nat.reduceEqDiff]⟩
   ·rw [swp_get jj jj1] at hx hy
    by_cases hp1:p+1=j
    ·have hp:p=j - 1:=by omega
     rw [if_pos hp,q1] at hx
     rw [if_neg (by omega),if_pos hp1,q2] at hy
     rw [← Option.some.inj hx,← Option.some.inj hy]
     exact hTO.asymm hq
    ·by_cases hp2:p=j
     ·rw [if_neg (by omega),if_pos hp2,q2] at hx
      rw [if_neg (by omega),if_neg (by omega)] at hy
      rw [← Option.some.inj hx]
      exact hB _ _ haj' (by omega) q2 (by rw [← hp2]; exact hy)
     ·rw [if_neg (by omega),if_neg hp2] at hx
      rw [if_neg (by omega),if_neg (by omega)] at hy
      exact hA p x y h1 h2 hp1 hx hy
   ·rw [swp_get jj jj1] at hx hy
    rw [if_neg (by omega),if_neg (by omega)] at hx
    rw [if_neg (by omega),if_pos (by omega),q2] at hy
    rw [← Option.some.inj hy]
    exact hA (j - 2) _ _ (by omega) (by omega) (by omega) (by rw [show j - 2=j - 1 - 1 by omega]; exact hx) (by rw [show j - 2+1=j - 1 by omega]; exact q2)
 intro F2 H9 h9
 rw [hM2] at h9
 obtain ⟨l3,hm3,hadj3,hv3,hc3,f0,f1,f2,f7,f8⟩:=h9
 simp only [↓Sh.dn,sx,Nat.reduceBEq,reduceCtorEq,Nat.reduceEqDiff,f2,f7,wbv]
 obtain ⟨M3,hM3⟩:∃ M:Fr→AH→Prop,M=fun F' H9=>∃ l3:List ByteArray,Mix a b l l3∧B7g a v l3∧A4e H9 g k n l3∧Chg (fun y=>y=g) H H9∧F'.get 0=some (.slice (some ⟨g,0,some k⟩) l.length cap)∧F'.get 1=some (.int .i64 (a:Int))∧F'.get 2=some (.int .i64 (b:Int))∧F'.get 7=some (.int .i64 (v:Int))∧F'.get 8=some (.int .i64 (c:Int)):=⟨_,rfl⟩
 refine B6j M3 (by rfl) ?_ ?_
 ·by_cases hbv:2≤b - v
  case neg=>
   have d:decide ((2:Int)≤((b - v:Nat):Int))=false:=by simp; omega
   simp only [↓Sh.dn,sx,Nat.reduceBEq,reduceCtorEq,Nat.reduceEqDiff,d,hM3,f0,f1,f2,f7,f8]
   exact ⟨l3,hm3,hadj3,hv3,hc3⟩
  have d:decide ((2:Int)≤((b - v:Nat):Int))=true:=by simp; omega
  simp only [↓Sh.dn,sx,Nat.reduceBEq,reduceCtorEq,Nat.reduceEqDiff,d,f7,wv2]
  refine A4b (fun m F' H9 => ∃ (j : Nat) (l3 : List ByteArray), m = b - j ∧ v + 1 ≤ j ∧ j ≤ b ∧ Mix a b l l3 ∧ B7g a v l3 ∧ A4e H9 g k n l3 ∧ Chg (fun y => y = g) H H9 ∧
      F'.get 0 = some (.slice (some ⟨g, 0, some k⟩) l.length cap) ∧ F'.get 1 = some (.int .i64 (a : Int)) ∧ F'.get 2 = some (.int .i64 (b : Int)) ∧ F'.get 7 = some (.int .i64 (v : Int)) ∧ F'.get 8 = some (.int .i64 (c : Int)) ∧ F'.get 10 = some (.int .i64 (j : Int))) (m := b - (v + 1))
    ⟨v + 1, l3, rfl, Nat.le_refl _, by omega, hm3, hadj3, hv3, hc3, by simp only [↓Sh.dn, sx, Nat.reduceBEq, reduceCtorEq, Nat.reduceEqDiff, f0], by simp only [↓Sh.dn, sx, Nat.reduceBEq, reduceCtorEq, Nat.reduceEqDiff, f1], by simp only [↓Sh.dn, sx, Nat.reduceBEq, reduceCtorEq, Nat.reduceEqDiff, f2], by simp only [↓Sh.dn, sx, Nat.reduceBEq, reduceCtorEq, Nat.reduceEqDiff, f7], by simp only [↓Sh.dn, sx, Nat.reduceBEq, reduceCtorEq, Nat.reduceEqDiff, f8], by simp only [↓Sh.dn, sx, Nat.reduceBEq, reduceCtorEq, Nat.reduceEqDiff]⟩ ?_
  rintro m F' H9 ⟨j,l4,rfl,hvj,hjb,hm4,hadj4,hv4,hc4,g0,g1,g2,g7,g8,g10⟩ k2
  have hlen4:=hm4.length
  by_cases hjb':j < b
  case neg=>
   simp only [↓Sh.dn,sx,Nat.reduceBEq,reduceCtorEq,Nat.reduceEqDiff,g2,g10,A1a,hjb',decide_false,hM3,g0,g1,g7,g8]
   exact ⟨l4,hm4,hadj4,hv4,hc4⟩
  have jj:j < l4.length:=by omega
  have jj1:j - 1 < l4.length:=by omega
  have ij:=A8c (g:=g) (k:=k) (cap:=cap) (m:=l.length) (i:=j) (j:=.i64) (by omega)
  have ij1:=A8c (g:=g) (k:=k) (cap:=cap) (m:=l.length) (i:=j - 1) (j:=.i64) (by omega)
  have xj:=A5c hv4 jj
  have xj1:=A5c hv4 jj1
  have wj:IntKind.wrap .i64 ((j:Int) - 1)=((j - 1:Nat):Int):=by rw [wrap64 (by omega) (by omega)]; omega
  have wj2:IntKind.wrap .i64 ((j:Int)+1)=((j+1:Nat):Int):=by rw [wrap64 (by omega) (by omega)]; rfl
  simp only [↓Sh.dn,sx,Nat.reduceBEq,reduceCtorEq,Nat.reduceEqDiff,g2,g10,A1a,hjb',decide_true]
  refine (A1b (by kernel_rfl)).2 ?_
  simp only [↓Sh.dn,sx,Nat.reduceBEq,reduceCtorEq,Nat.reduceEqDiff,g0,g10,wj,ij,ij1,xj,xj1]
  refine ⟨_,_,A7d,?_⟩
  cases hq:A0b l4[j] l4[j - 1] with
  | false=>
   simp only [↓Sh.dn,sx,Nat.reduceBEq,reduceCtorEq,Nat.reduceEqDiff,hM3,g0,g1,g2,g7,g8]
   exact ⟨l4,hm4,hadj4,hv4,hc4⟩
  | true=>
   obtain ⟨L3,L4,c1,c2,hv5,hc5',c5⟩:=A5j hv4 hc4.wf jj jj1
   simp only [↓Sh.dn,sx,Nat.reduceBEq,reduceCtorEq,Nat.reduceEqDiff]
   refine (A1b (by kernel_rfl)).2 ?_
   simp only [↓Sh.dn,sx,Nat.reduceBEq,reduceCtorEq,Nat.reduceEqDiff,g0,g10,wj,ij,ij1,xj,xj1,A7m,c1,c2,wj2]
   refine k2 (b - (j+1)) _ _ (by omega) ⟨j+1,swp l4 j (j - 1),rfl,by omega,by omega,hm4.swap (by omega) (by omega) (by omega) (by omega),fun p x y h1 h2 hx hy=>?_,hv5,hc4.trans hc5',by simp only [↓Sh.dn,sx,Nat.reduceBEq,reduceCtorEq,Nat.reduceEqDiff,g0],by simp only [↓Sh.dn,sx,Nat.reduceBEq,reduceCtorEq,Nat.reduceEqDiff,g1],by simp only [↓Sh.dn,sx,Nat.reduceBEq,reduceCtorEq,Nat.reduceEqDiff,g2],by simp only [↓Sh.dn,sx,Nat.reduceBEq,reduceCtorEq,Nat.reduceEqDiff,g7],by simp only [↓Sh.dn,sx,Nat.reduceBEq,reduceCtorEq,Nat.reduceEqDiff,g8],by simp only [↓Sh.dn,sx,Nat.reduceBEq,reduceCtorEq,Nat.reduceEqDiff]⟩
   rw [swp_get jj jj1,if_neg (by omega),if_neg (by omega)] at hx hy
   exact hadj4 p x y h1 h2 hx hy
 intro F3 H10 h10
 rw [hM3] at h10
 obtain ⟨l5,hm5,hadj5,hv5,hc5',f0,f1,f2,f7,f8⟩:=h10
 simp only [↓Sh.dn,sx,Nat.reduceBEq,reduceCtorEq,Nat.reduceEqDiff,f8,wc]
 exact kk (5 - (c+1)) _ _ (by omega) ⟨c+1,v,l5,rfl,by omega,by omega,by omega,hm5,hadj5,hv5,hc5',by simp only [↓Sh.dn,sx,Nat.reduceBEq,reduceCtorEq,Nat.reduceEqDiff,f0],by simp only [↓Sh.dn,sx,Nat.reduceBEq,reduceCtorEq,Nat.reduceEqDiff,f1],by simp only [↓Sh.dn,sx,Nat.reduceBEq,reduceCtorEq,Nat.reduceEqDiff,f2],by simp only [↓Sh.dn,sx,Nat.reduceBEq,reduceCtorEq,Nat.reduceEqDiff,f7],by simp only [↓Sh.dn,sx,Nat.reduceBEq,reduceCtorEq,Nat.reduceEqDiff]⟩
end Go.Proofs.YtcgbiedfbacgpaaGreat
/- pdqsortOrdered. -/
namespace Go.Proofs.YtcgbiedfbacgpaaGreat
open Go Go.Proofs Go.Proofs.Sh
theorem pdqStr {g k n cap:Nat}:∀ (sz:Nat) {H:AH} {a b:Nat} {l:List ByteArray} {lim:Int},b - a≤sz→A4e H g k n l→Wf H→l.length≤1048576→a≤b→b≤l.length→PreStr a b l→
  Sh.Call Tryz.prog (knows 7) 117 [.slice (some ⟨g,0,some k⟩) l.length cap,.int .i64 (a:Int),.int .i64 (b:Int),.int .i64 lim] H
   (fun r H'=>∃ l',Mix a b l l'∧Srt A0b a b l'∧A4e H' g k n l'∧Chg (fun y=>y=g) H H'):=by
 intro sz
 induction sz using Nat.strongRecOn with
 | _ sz ih=>
 intro H a b l lim hsz hv hw hl hab hb hpre
 refine A3a rfl Tryz.func117 rfl (Nat.le_of_ble_eq_true rfl) ?_
 have hres:Tryz.f117.results.toList=[]:=rfl
 have hTO:=strTO
 simp only [↓Sh.dn,sx,Nat.reduceBEq,reduceCtorEq,Nat.reduceEqDiff]
 refine A4b (fun m F H' => ∃ (a' b' : Nat) (l1 : List ByteArray) (lm : Int) (x8 x9 : Bool), m = b' - a' ∧ a ≤ a' ∧ a' ≤ b' ∧ b' ≤ b ∧ Mix a b l l1 ∧ P3 A0b a a' b' b l1 ∧ PreStr a' b' l1 ∧ A4e H' g k n l1 ∧ Chg (fun y => y = g) H H' ∧
     F.get 0 = some (.slice (some ⟨g, 0, some k⟩) l.length cap) ∧ F.get 1 = some (.int .i64 (a' : Int)) ∧ F.get 2 = some (.int .i64 (b' : Int)) ∧ F.get 3 = some (.int .i64 lm) ∧ F.get 8 = some (.bool x8) ∧ F.get 9 = some (.bool x9)) (m := b - a)
   ⟨a, b, l, lim, true, true, rfl, Nat.le_refl _, hab, Nat.le_refl _, .refl l, fun p q x y h1 h2 h3 h4 => absurd ⟨h1, h3⟩ h4, hpre, hv, Chg.refl hw, by simp only [↓Sh.dn, sx, Nat.reduceBEq, reduceCtorEq, Nat.reduceEqDiff], by simp only [↓Sh.dn, sx, Nat.reduceBEq, reduceCtorEq, Nat.reduceEqDiff], by simp only [↓Sh.dn, sx, Nat.reduceBEq, reduceCtorEq, Nat.reduceEqDiff], by simp only [↓Sh.dn, sx, Nat.reduceBEq, reduceCtorEq, Nat.reduceEqDiff], by simp only [↓Sh.dn, sx, Nat.reduceBEq, reduceCtorEq, Nat.reduceEqDiff], by simp only [↓Sh.dn, sx, Nat.reduceBEq, reduceCtorEq, Nat.reduceEqDiff]⟩ ?_
 rintro m F H' ⟨a',b',l1,lm,x8,x9,rfl,ha',hab',hb',hm,h3,hpr,hv1,hc1,f0,f1,f2,f3,f8,f9⟩ kk
 have hlen:=hm.length
 have hvl:l1.length=l.length:=hlen
 have wba:IntKind.wrap .i64 ((b':Int) - (a':Int))=((b' - a':Nat):Int):=by rw [wrap64 (by omega) (by omega)]; omega
 have fin:∀ {H2:AH} {l2:List ByteArray},Mix a' b' l1 l2→Srt A0b a' b' l2→Mix a b l l2∧Srt A0b a b l2:=fun {H2 l2} h1 h2=>⟨hm.trans (h1.wide ha' hb'),(h3.mix ha' hb' h1 (by omega)).srt hTO h2⟩
 simp only [↓Sh.dn,sx,Nat.reduceBEq,reduceCtorEq,Nat.reduceEqDiff,f1,f2,wba]
 by_cases h12:b' - a'≤12
 ·have d:decide (((b' - a':Nat):Int)≤12)=true:=by simp; omega
  obtain ⟨r,H2,hd,l2,q1,q2,q3,q4⟩:=B0a (cap:=cap) hv1 hc1.wf (by omega) hab' (by omega)
  rw [hvl] at hd
  simp only [↓Sh.dn,sx,Nat.reduceBEq,reduceCtorEq,Nat.reduceEqDiff,d,f0,f1,f2]
  refine ⟨_,_,hd,?_⟩
  simp only [↓Sh.dn,sx,Nat.reduceBEq,reduceCtorEq,Nat.reduceEqDiff,hres]
  exact ⟨l2,(fin (H2:=H2) q1 q2).1,(fin (H2:=H2) q1 q2).2,q3,hc1.trans q4⟩
 have d:decide (((b' - a':Nat):Int)≤12)=false:=by simp; omega
 simp only [↓Sh.dn,sx,Nat.reduceBEq,reduceCtorEq,Nat.reduceEqDiff,d,f3]
 by_cases hlm:lm=0
 ·obtain ⟨r,H2,hd,l2,q1,q2,q3,q4⟩:=B56 (cap:=cap) hv1 hc1.wf (by omega) (by omega:a' < b') (by omega)
  rw [hvl] at hd
  simp only [↓Sh.dn,sx,Nat.reduceBEq,reduceCtorEq,Nat.reduceEqDiff,hlm,decide_true,f0,f1,f2]
  refine ⟨_,_,hd,?_⟩
  simp only [↓Sh.dn,sx,Nat.reduceBEq,reduceCtorEq,Nat.reduceEqDiff,hres]
  exact ⟨l2,(fin (H2:=H2) q1 q2).1,(fin (H2:=H2) q1 q2).2,q3,hc1.trans q4⟩
 simp only [↓Sh.dn,sx,Nat.reduceBEq,reduceCtorEq,Nat.reduceEqDiff,hlm,decide_false,f8]
 obtain ⟨M1,hM1⟩:∃ M:Fr→AH→Prop,M=fun F' H9=>∃ l2:List ByteArray,Mix a' b' l1 l2∧A4e H9 g k n l2∧Chg (fun y=>y=g) H H9∧F'.get 0=some (.slice (some ⟨g,0,some k⟩) l.length cap)∧F'.get 1=some (.int .i64 (a':Int))∧F'.get 2=some (.int .i64 (b':Int))∧F'.get 8=some (.bool x8)∧F'.get 9=some (.bool x9)∧F'.get 10=some (.int .i64 ((b' - a':Nat):Int))∧∃ lm,F'.get 3=some (.int .i64 lm):=⟨_,rfl⟩
 refine B6j M1 (by rfl) ?_ ?_
 ·cases x8 with
  | true=>
   simp only [↓Sh.dn,sx,Nat.reduceBEq,reduceCtorEq,Nat.reduceEqDiff,hM1,f0,f1,f2,f3,f8,f9]
   exact ⟨l1,.refl l1,hv1,hc1,lm,rfl⟩
  | false=>
   obtain ⟨r,H2,hd,l2,q1,q3,q4⟩:=A79 (cap:=cap) hv1 hc1.wf (by omega) (by omega:a'+12 < b') (by omega)
   rw [hvl] at hd
   simp only [↓Sh.dn,sx,Nat.reduceBEq,reduceCtorEq,Nat.reduceEqDiff,f0,f1,f2]
   refine ⟨_,_,hd,?_⟩
   simp only [↓Sh.dn,sx,Nat.reduceBEq,reduceCtorEq,Nat.reduceEqDiff,hM1,f0,f1,f2,f3,f8,f9]
   exact ⟨l2,q1,q3,hc1.trans q4,_,rfl⟩
 intro F1 H1 h9
 rw [hM1] at h9
 obtain ⟨l2,hm2,hv2,hc2,f0,f1,f2,f8,f9,f10,lm2,f3⟩:=h9
 have hlen2:l2.length=l.length:=by rw [hm2.length]; exact hlen
 obtain ⟨r,H2,hd,q,hint,rfl,hq1,hq2,hv2',hk2⟩:=B5i (cap:=cap) hv2 hc2.wf (by omega) (by omega:a'+12 < b') (by omega)
 have hc2':Chg (fun y=>y=g) H H2:=hc2.trans hk2.chg
 rw [hlen2] at hd
 simp only [↓Sh.dn,sx,Nat.reduceBEq,reduceCtorEq,Nat.reduceEqDiff,f0,f1,f2]
 refine ⟨_,_,hd,?_⟩
 simp only [↓Sh.dn,sx,Nat.reduceBEq,reduceCtorEq,Nat.reduceEqDiff]
 obtain ⟨M2,hM2⟩:∃ M:Fr→AH→Prop,M=fun F' H9=>∃ l2:List ByteArray,Mix a' b' l1 l2∧A4e H9 g k n l2∧Chg (fun y=>y=g) H H9∧F'.get 0=some (.slice (some ⟨g,0,some k⟩) l.length cap)∧F'.get 1=some (.int .i64 (a':Int))∧F'.get 2=some (.int .i64 (b':Int))∧F'.get 3=some (.int .i64 lm2)∧F'.get 8=some (.bool x8)∧F'.get 9=some (.bool x9)∧F'.get 10=some (.int .i64 ((b' - a':Nat):Int))∧∃ q:Nat,a'≤q∧q < b'∧F'.get 11=some (.int .i64 (q:Int))∧∃ hint,F'.get 12=some (.int .i64 hint):=⟨_,rfl⟩
 refine B6j M2 (by rfl) ?_ ?_
 ·by_cases hh:hint=2
  ·have e1:IntKind.wrap .i64 ((b':Int) - 1)=((b' - 1:Nat):Int):=by rw [wrap64 (by omega) (by omega)]; omega
   have e2:IntKind.wrap .i64 ((q:Int) - (a':Int))=((q - a':Nat):Int):=by rw [wrap64 (by omega) (by omega)]; omega
   have e3:IntKind.wrap .i64 (((b' - 1:Nat):Int) - ((q - a':Nat):Int))=((b' - 1 - (q - a'):Nat):Int):=by rw [wrap64 (by omega) (by omega)]; omega
   obtain ⟨r,H3,hd3,l3,p1,p2,p3⟩:=B7d (cap:=cap) hv2' hk2.wf (by omega) (by omega:a' < b') (by omega)
   rw [hlen2] at hd3
   simp only [↓Sh.dn,sx,Nat.reduceBEq,reduceCtorEq,Nat.reduceEqDiff,hh,decide_true,f0,f1,f2]
   refine ⟨_,_,hd3,?_⟩
   simp only [↓Sh.dn,sx,Nat.reduceBEq,reduceCtorEq,Nat.reduceEqDiff,hM2,f0,f1,f2,f3,f8,f9,f10,e1,e2,e3]
   exact ⟨l3,hm2.trans p1,p2,hc2'.trans p3,b' - 1 - (q - a'),by omega,by omega,rfl,1,rfl⟩
  ·simp only [↓Sh.dn,sx,Nat.reduceBEq,reduceCtorEq,Nat.reduceEqDiff,hh,decide_false,hM2,f0,f1,f2,f3,f8,f9,f10]
   exact ⟨l2,hm2,hv2',hc2',q,hq1,hq2,rfl,hint,rfl⟩
 intro F2 H3 h9
 rw [hM2] at h9
 obtain ⟨l3,hm3,hv3,hc3,f0,f1,f2,f3,f8,f9,f10,q,hq1,hq2,f11,hint,f12⟩:=h9
 have hlen3:l3.length=l.length:=by rw [hm3.length]; exact hlen
 obtain ⟨M3,hM3⟩:∃ M:Fr→AH→Prop,M=fun F' H9=>H3=H9∧F'.get 0=some (.slice (some ⟨g,0,some k⟩) l.length cap)∧F'.get 1=some (.int .i64 (a':Int))∧F'.get 2=some (.int .i64 (b':Int))∧F'.get 3=some (.int .i64 lm2)∧F'.get 8=some (.bool x8)∧F'.get 9=some (.bool x9)∧F'.get 10=some (.int .i64 ((b' - a':Nat):Int))∧F'.get 11=some (.int .i64 (q:Int))∧∃ bb,F'.get 68=some (.bool bb):=⟨_,rfl⟩
 simp only [↓Sh.wp_seq]
 refine B4g M3 (by rfl) ?_ ?_
 ·cases x8 with
  | false=>
   simp only [↓Sh.dn,sx,Nat.reduceBEq,reduceCtorEq,Nat.reduceEqDiff,hM3,f0,f1,f2,f3,f8,f9,f10,f11,f12]
  | true=>
   cases x9 with
   | false=>
    simp only [↓Sh.dn,sx,Nat.reduceBEq,reduceCtorEq,Nat.reduceEqDiff,hM3,f0,f1,f2,f3,f8,f9,f10,f11,f12]
   | true=>
    simp only [↓Sh.dn,sx,Nat.reduceBEq,reduceCtorEq,Nat.reduceEqDiff,hM3,f0,f1,f2,f3,f8,f9,f10,f11,f12]
 intro F3 H4 h9
 rw [hM3] at h9
 obtain ⟨rfl,f0,f1,f2,f3,f8,f9,f10,f11,bb,f68⟩:=h9
 obtain ⟨N,hN⟩:∃ N:Fr→AH→Prop,N=fun F' H9=>∃ l4:List ByteArray,Mix a' b' l1 l4∧A4e H9 g k n l4∧Chg (fun y=>y=g) H H9∧F'.get 0=some (.slice (some ⟨g,0,some k⟩) l.length cap)∧F'.get 1=some (.int .i64 (a':Int))∧F'.get 2=some (.int .i64 (b':Int))∧F'.get 3=some (.int .i64 lm2)∧F'.get 8=some (.bool x8)∧F'.get 9=some (.bool x9)∧F'.get 10=some (.int .i64 ((b' - a':Nat):Int))∧F'.get 11=some (.int .i64 (q:Int)):=⟨_,rfl⟩
 refine wp_cut N (fun F4 H5 h9=>?_) (fun kont=>?_)
 case refine_2=>
  cases bb with
  | false=>
   refine (A3v (by rw [C8a,f68])).2 (Sh.wp_skip.2 (kont _ _ ?_))
   rw [hN]
   exact ⟨l3,hm3,hv3,hc3,f0,f1,f2,f3,f8,f9,f10,f11⟩
  | true=>
   obtain ⟨r,H5,hd5,b5,rfl,l4,p1,p2,p3,p4⟩:=A41 (cap:=cap) hv3 hc3.wf (by omega) (by omega:a' < b') (by omega) (hpr.mix hm3 (by omega))
   rw [hlen3] at hd5
   simp only [↓Sh.dn,sx,Nat.reduceBEq,reduceCtorEq,Nat.reduceEqDiff,f68,f0,f1,f2]
   refine ⟨_,_,hd5,?_⟩
   cases b5 with
   | true=>
    simp only [↓Sh.dn,sx,Nat.reduceBEq,reduceCtorEq,Nat.reduceEqDiff,hres]
    exact ⟨l4,(fin (H2:=H5) (hm3.trans p1) (p2 rfl)).1,(fin (H2:=H5) (hm3.trans p1) (p2 rfl)).2,p3,hc3.trans p4⟩
   | false=>
    refine (A3v ?_).2 (Sh.wp_skip.2 (kont _ _ ?_))
    ·simp only [↓Sh.dn,sx,Nat.reduceBEq,reduceCtorEq,Nat.reduceEqDiff]
    rw [hN]
    exact ⟨l4,hm3.trans p1,p3,hc3.trans p4,by simp only [↓Sh.dn,sx,Nat.reduceBEq,reduceCtorEq,Nat.reduceEqDiff,f0],by simp only [↓Sh.dn,sx,Nat.reduceBEq,reduceCtorEq,Nat.reduceEqDiff,f1],by simp only [↓Sh.dn,sx,Nat.reduceBEq,reduceCtorEq,Nat.reduceEqDiff,f2],by simp only [↓Sh.dn,sx,Nat.reduceBEq,reduceCtorEq,Nat.reduceEqDiff,f3],by simp only [↓Sh.dn,sx,Nat.reduceBEq,reduceCtorEq,Nat.reduceEqDiff,f8],by simp only [↓Sh.dn,sx,Nat.reduceBEq,reduceCtorEq,Nat.reduceEqDiff,f9],by simp only [↓Sh.dn,sx,Nat.reduceBEq,reduceCtorEq,Nat.reduceEqDiff,f10],by simp only [↓Sh.dn,sx,Nat.reduceBEq,reduceCtorEq,Nat.reduceEqDiff,f11]⟩
 rw [hN] at h9
 clear hN
 obtain ⟨l4,hm4,hv4,hc4,f0,f1,f2,f3,f8,f9,f10,f11⟩:=h9
 have hlen4:l4.length=l.length:=by rw [hm4.length]; exact hlen
 have jq:q < l4.length:=by omega
 have iq:=A8c (g:=g) (k:=k) (cap:=cap) (m:=l.length) (i:=q) (j:=.i64) (by omega)
 have xq:=A5c hv4 jq
 have eq4:l4[q]?=some l4[q]:=List.getElem?_eq_getElem jq
 have hpr4:PreStr a' b' l4:=hpr.mix hm4 (by omega)
 have h34:P3 A0b a a' b' b l4:=h3.mix ha' hb' hm4 (by omega)
 have hm04:Mix a b l l4:=hm.trans (hm4.wide ha' hb')
 obtain ⟨M4,hM4⟩:∃ M:Fr→AH→Prop,M=fun F' H9=>H5=H9∧F'.get 0=some (.slice (some ⟨g,0,some k⟩) l.length cap)∧F'.get 1=some (.int .i64 (a':Int))∧F'.get 2=some (.int .i64 (b':Int))∧F'.get 3=some (.int .i64 lm2)∧F'.get 8=some (.bool x8)∧F'.get 9=some (.bool x9)∧F'.get 10=some (.int .i64 ((b' - a':Nat):Int))∧F'.get 11=some (.int .i64 (q:Int))∧∃ bb,F'.get 87=some (.bool bb)∧(bb=true→0 < a'∧∀ y,l4[a' - 1]?=some y→A0b y l4[q]=false):=⟨_,rfl⟩
 simp only [↓Sh.wp_seq]
 refine B4g M4 (by rfl) ?_ ?_
 ·refine (A1b (by kernel_rfl)).2 ?_
  by_cases h0:0 < a'
  ·have d:decide ((0:Int) < (a':Int))=true:=by simp; omega
   have wa1:IntKind.wrap .i64 ((a':Int) - 1)=((a' - 1:Nat):Int):=by rw [wrap64 (by omega) (by omega)]; omega
   have ja:a' - 1 < l4.length:=by omega
   have ia:=A8c (g:=g) (k:=k) (cap:=cap) (m:=l.length) (i:=a' - 1) (j:=.i64) (by omega)
   have xa:=A5c hv4 ja
   have ea:l4[a' - 1]?=some l4[a' - 1]:=List.getElem?_eq_getElem ja
   simp only [↓Sh.dn,sx,Nat.reduceBEq,reduceCtorEq,Nat.reduceEqDiff,f0,f1,f11,d,wa1,ia,iq,xa,xq]
   refine ⟨_,_,A7d,?_⟩
   cases hq:A0b l4[a' - 1] l4[q] with
   | true=>
    simp only [↓Sh.dn,sx,Nat.reduceBEq,reduceCtorEq,Nat.reduceEqDiff,hM4,f0,f1,f2,f3,f8,f9,f10,f11]
   | false=>
    simp only [↓Sh.dn,sx,Nat.reduceBEq,reduceCtorEq,Nat.reduceEqDiff,hM4,f0,f1,f2,f3,f8,f9,f10,f11]
    refine ⟨h0,fun y hy=>?_⟩
    rw [ea] at hy; rw [← Option.some.inj hy]; exact hq
  ·have d:decide ((0:Int) < (a':Int))=false:=by simp; omega
   simp only [↓Sh.dn,sx,Nat.reduceBEq,reduceCtorEq,Nat.reduceEqDiff,hM4,f0,f1,f2,f3,f8,f9,f10,f11,d]
 intro F5 H6 h9
 rw [hM4] at h9
 obtain ⟨rfl,f0,f1,f2,f3,f8,f9,f10,f11,bb,f87,hbb⟩:=h9
 cases bb with
 | true=>
  obtain ⟨hpos,hy⟩:=hbb rfl
  obtain ⟨r,H7,hd7,m,rfl,hm1,hm2',l5,p1,p2,p3,p4,p5⟩:=A67 (cap:=cap) (p:=q) hv4 hc4.wf (by omega) hq1 hq2 (by omega)
  rw [hlen4] at hd7
  simp only [↓Sh.dn,sx,Nat.reduceBEq,reduceCtorEq,Nat.reduceEqDiff,f87,f0,f1,f2,f11]
  refine ⟨_,_,hd7,?_⟩
  try simp only [↓Sh.dn,sx,Nat.reduceBEq,reduceCtorEq,Nat.reduceEqDiff]
  have hge4:∀ (i:Nat) x,a'≤i→i < b'→l4[i]?=some x→A0b x l4[q]=false:=by
   intro i x h1 h2 hx
   have ja:a' - 1 < l4.length:=by omega
   have ea:l4[a' - 1]?=some l4[a' - 1]:=List.getElem?_eq_getElem ja
   exact hTO.le_trans (hy _ ea) (hpr4 i x _ hpos ea h1 h2 hx)
  have hge:∀ (i:Nat) x,a'≤i→i < b'→l5[i]?=some x→A0b x l4[q]=false:=p1.all (p:=fun x=>A0b x l4[q]=false) (by omega) hge4
  have heq:∀ (i:Nat) x,a'≤i→i < m→l5[i]?=some x→x=l4[q]:=by
   intro i x h1 h2 hx
   rcases hTO.tri x l4[q] with h | h | h
   ·rw [hge i x h1 (by omega) hx] at h; cases h
   ·exact h
   ·rw [p2 i x h1 h2 hx] at h; cases h
  have h35:=h34.mix ha' hb' p1 (by omega)
  refine kk (b' - m) _ _ (by omega) ⟨m,b',l5,lm2,x8,x9,rfl,by omega,by omega,hb',hm04.trans (p1.wide ha' hb'),fun i j x z h1 h2 h3' h4 hx hz=>?_,fun i x y h0 hy' h1 h2 hx=>?_,p4,hc4.trans p5,by simp only [↓Sh.dn,sx,Nat.reduceBEq,reduceCtorEq,Nat.reduceEqDiff,f0],by simp only [↓Sh.dn,sx,Nat.reduceBEq,reduceCtorEq,Nat.reduceEqDiff],by simp only [↓Sh.dn,sx,Nat.reduceBEq,reduceCtorEq,Nat.reduceEqDiff,f2],by simp only [↓Sh.dn,sx,Nat.reduceBEq,reduceCtorEq,Nat.reduceEqDiff,f3],by simp only [↓Sh.dn,sx,Nat.reduceBEq,reduceCtorEq,Nat.reduceEqDiff,f8],by simp only [↓Sh.dn,sx,Nat.reduceBEq,reduceCtorEq,Nat.reduceEqDiff,f9]⟩
  ·by_cases hin:a'≤i∧j < b'
   ·have hx':=heq i x hin.1 (by omega) hx
    by_cases hj:j < m
    ·have hz':=heq j z (by omega) hj hz
     rw [hx',hz']; exact hTO.irrefl _
    ·rw [hx']; exact hTO.asymm (p3 j z (by omega) hin.2 hz)
   ·exact h35 i j x z h1 h2 h3' hin hx hz
  ·have hy2:=heq (m - 1) y (by omega) (by omega) hy'
   rw [hy2]; exact hTO.asymm (p3 i x h1 h2 hx)
 | false=>
  obtain ⟨r,H7,hd7,m,al,rfl,hm1,hm2',l5,p1,y,py,p2,p3,p4,p5⟩:=B5w (cap:=cap) (p:=q) hv4 hc4.wf (by omega) hq1 hq2 (by omega)
  rw [hlen4] at hd7
  have hlen5:l5.length=l.length:=by rw [p1.length]; exact hlen4
  have s1:IntKind.wrap .i64 ((m:Int) - (a':Int))=((m - a':Nat):Int):=by rw [wrap64 (by omega) (by omega)]; omega
  have s2:IntKind.wrap .i64 ((b':Int) - (m:Int))=((b' - m:Nat):Int):=by rw [wrap64 (by omega) (by omega)]; omega
  have s3:Int.tdiv ((b' - a':Nat):Int) 8=(((b' - a') / 8:Nat):Int):=by rw [Int.tdiv_eq_ediv_of_nonneg (by omega)]; rfl
  have s4:IntKind.wrap .i64 (((b' - a') / 8:Nat):Int)=(((b' - a') / 8:Nat):Int):=wrap64 (by omega) (by omega)
  have s5:IntKind.wrap .i64 ((m:Int)+1)=((m+1:Nat):Int):=by rw [wrap64 (by omega) (by omega)]; rfl
  simp only [↓Sh.dn,sx,Nat.reduceBEq,reduceCtorEq,Nat.reduceEqDiff,f87,f0,f1,f2,f11]
  refine ⟨_,_,hd7,?_⟩
  simp only [↓Sh.dn,sx,Nat.reduceBEq,reduceCtorEq,Nat.reduceEqDiff,f1,f2,f10,s1,s2,A80 (show (8:Int)≠0 by decide),s3,s4,A1a]
  have hpr5:PreStr a' b' l5:=hpr4.mix p1 (by omega)
  have h35:=h34.mix ha' hb' p1 (by omega)
  have hm05:=hm04.trans (p1.wide ha' hb')
  have hc5:=hc4.trans p5
  by_cases hlr:m - a' < b' - m
  ·obtain ⟨r,H8,hd8,l6,u1,u2,u3,u4⟩:=ih (m - a') (by omega) (lim:=lm2) (a:=a') (b:=m) (Nat.le_refl _) p4 p5.wf (by omega) hm1 (by omega) (fun i x z h0 hz h1 h2 hx=>hpr5 i x z h0 hz h1 (by omega) hx)
   rw [hlen5] at hd8
   have py6:l6[m]?=some y:=by rw [u1.out (.inr (Nat.le_refl _))]; exact py
   have hpart:=P3.part hTO (h35.mix ha' hb' (u1.wide (Nat.le_refl _) (by omega)) (by omega)) hm1 hm2' py6 (u1.all (p:=fun x=>A0b x y=true) (by omega) (fun i x h1 h2 hx=>p2 i x h1 h2 hx)) (fun i x h1 h2 hx=>p3 i x h1 h2 (by rw [← u1.out (.inr (by omega))]; exact hx))
   simp only [↓Sh.dn,sx,Nat.reduceBEq,reduceCtorEq,Nat.reduceEqDiff,hlr,decide_true,f0,f1,f3]
   refine ⟨_,_,hd8,?_⟩
   try simp only [↓Sh.dn,sx,Nat.reduceBEq,reduceCtorEq,Nat.reduceEqDiff,s5]
   exact kk (b' - (m + 1)) _ _ (by omega) ⟨m + 1, b', l6, lm2, _, al, rfl, by omega, by omega, hb', hm05.trans (u1.wide ha' (by omega)), hpart.1 u2, fun i x z h0 hz h1 h2 hx => by
       rw [show m + 1 - 1 = m by omega, py6] at hz
       rw [← Option.some.inj hz]
       exact p3 i x (by omega) h2 (by rw [← u1.out (.inr (by omega))]; exact hx), u3, hc5.trans u4, by simp only [↓Sh.dn, sx, Nat.reduceBEq, reduceCtorEq, Nat.reduceEqDiff, f0], by simp only [↓Sh.dn, sx, Nat.reduceBEq, reduceCtorEq, Nat.reduceEqDiff], by simp only [↓Sh.dn, sx, Nat.reduceBEq, reduceCtorEq, Nat.reduceEqDiff, f2], by simp only [↓Sh.dn, sx, Nat.reduceBEq, reduceCtorEq, Nat.reduceEqDiff, f3], by simp only [↓Sh.dn, sx, Nat.reduceBEq, reduceCtorEq, Nat.reduceEqDiff]; rfl, by simp only [↓Sh.dn, sx, Nat.reduceBEq, reduceCtorEq, Nat.reduceEqDiff]⟩
  ·obtain ⟨r, H8, hd8, l6, u1, u2, u3, u4⟩ := ih (b' - (m + 1)) (by omega) (lim := lm2) (a := m + 1) (b := b') (Nat.le_refl _) p4 p5.wf (by omega) (by omega) (by omega) (fun i x z h0 hz h1 h2 hx => by
     rw [show m + 1 - 1 = m by omega, py] at hz
     rw [← Option.some.inj hz]
     exact p3 i x (by omega) h2 hx)
   rw [hlen5] at hd8
   have py6 : l6[m]? = some y := by rw [u1.out (.inl (by omega))]; exact py
   have hpart := P3.part hTO (h35.mix ha' hb' (u1.wide (by omega) (Nat.le_refl _)) (by omega)) hm1 hm2' py6 (fun i x h1 h2 hx => p2 i x h1 h2 (by rw [← u1.out (.inl (by omega))]; exact hx)) (fun i x h1 h2 hx => u1.all (p := fun x => A0b x y = false) (by omega) (fun i x h1 h2 hx => p3 i x (by omega) h2 hx) i x (by omega) h2 hx)
   simp only [↓Sh.dn, sx, Nat.reduceBEq, reduceCtorEq, Nat.reduceEqDiff, hlr, decide_false, f0, f1, f2, f3, s5]
   refine ⟨_, _, hd8, ?_⟩
   try simp only [↓Sh.dn, sx, Nat.reduceBEq, reduceCtorEq, Nat.reduceEqDiff]
   exact kk (m - a') _ _ (by omega) ⟨a', m, l6, lm2, _, al, rfl, ha', hm1, by omega, hm05.trans (u1.wide (by omega) hb'), hpart.2 u2, fun i x z h0 hz h1 h2 hx => by
       rw [u1.out (.inl (by omega))] at hz
       rw [u1.out (.inl (by omega))] at hx
       exact hpr5 i x z h0 hz h1 (by omega) hx, u3, hc5.trans u4, by simp only [↓Sh.dn, sx, Nat.reduceBEq, reduceCtorEq, Nat.reduceEqDiff, f0], by simp only [↓Sh.dn, sx, Nat.reduceBEq, reduceCtorEq, Nat.reduceEqDiff, f1], by simp only [↓Sh.dn, sx, Nat.reduceBEq, reduceCtorEq, Nat.reduceEqDiff], by simp only [↓Sh.dn, sx, Nat.reduceBEq, reduceCtorEq, Nat.reduceEqDiff, f3], by simp only [↓Sh.dn, sx, Nat.reduceBEq, reduceCtorEq, Nat.reduceEqDiff]; rfl, by simp only [↓Sh.dn, sx, Nat.reduceBEq, reduceCtorEq, Nat.reduceEqDiff]⟩
end Go.Proofs.YtcgbiedfbacgpaaGreat
/- slices.Sort. -/
namespace Go.Proofs.YtcgbiedfbacgpaaGreat
open Go Go.Proofs Go.Proofs.Sh
theorem B4j {H:AH} {v:Value}:Sh.Call Tryz.prog (knows 7) 129 [v,.int .i64 0,.int .i64 0] H (fun r H'=>H'=H):=by
 refine A3a rfl Tryz.func129 rfl (Nat.le_of_ble_eq_true rfl) ?_
 have hres:Tryz.f129.results.toList=[]:=rfl
 have w1:IntKind.wrap .i64 ((0:Int)+1)=1:=rfl
 simp only [↓Sh.dn,sx,Nat.reduceBEq,reduceCtorEq,Nat.reduceEqDiff,w1]
 refine A4b (fun m F H'=>H'=H∧F.get 2=some (.int .i64 0)∧F.get 6=some (.int .i64 1)) (m:=0) ⟨rfl,by simp only [↓Sh.dn,sx,Nat.reduceBEq,reduceCtorEq,Nat.reduceEqDiff],by simp only [↓Sh.dn,sx,Nat.reduceBEq,reduceCtorEq,Nat.reduceEqDiff]⟩ ?_
 rintro m F H' ⟨rfl,f2,f6⟩ kk
 have d:decide ((1:Int) < 0)=false:=rfl
 simp only [↓Sh.dn,sx,Nat.reduceBEq,reduceCtorEq,Nat.reduceEqDiff,f2,f6,d,hres]
theorem B1k {H:AH} {v:Value} {lim:Int}:Sh.Call Tryz.prog (knows 7) 117 [v,.int .i64 0,.int .i64 0,.int .i64 lim] H (fun r H'=>H'=H):=by
 refine A3a rfl Tryz.func117 rfl (Nat.le_of_ble_eq_true rfl) ?_
 have hres:Tryz.f117.results.toList=[]:=rfl
 obtain ⟨r,H1,hd,rfl⟩:=B4j (H:=H) (v:=v)
 have w1:IntKind.wrap .i64 ((0:Int) - 0)=0:=rfl
 have d:decide ((0:Int)≤12)=true:=rfl
 simp only [↓Sh.dn,sx,Nat.reduceBEq,reduceCtorEq,Nat.reduceEqDiff]
 refine A4b (fun m F H'=>H'=H1∧F.get 0=some v∧F.get 1=some (.int .i64 0)∧F.get 2=some (.int .i64 0)) (m:=0) ⟨rfl,by simp only [↓Sh.dn,sx,Nat.reduceBEq,reduceCtorEq,Nat.reduceEqDiff],by simp only [↓Sh.dn,sx,Nat.reduceBEq,reduceCtorEq,Nat.reduceEqDiff],by simp only [↓Sh.dn,sx,Nat.reduceBEq,reduceCtorEq,Nat.reduceEqDiff]⟩ ?_
 rintro m F H' ⟨rfl,f0,f1,f2⟩ kk
 simp only [↓Sh.dn,sx,Nat.reduceBEq,reduceCtorEq,Nat.reduceEqDiff,f0,f1,f2,w1,d]
 refine ⟨_,_,hd,?_⟩
 simp only [↓Sh.dn,sx,Nat.reduceBEq,reduceCtorEq,Nat.reduceEqDiff,hres]
theorem B05 {H:AH} {v:Value} {l:List ByteArray} {ob:Option Nat} (hb:Buf H 1 v (l.map fun x=>[Value.string x]) ob) (hl:l.length≤1048576) (hw:Wf H):
  Sh.Call Tryz.prog (knows 7) 114 [v] H (fun r H'=>∃ l':List ByteArray,l'.Perm l∧Srt A0b 0 l'.length l'∧Buf H' 1 v (l'.map fun x=>[Value.string x]) ob∧Chg (fun y=>ob=some y) H H'):=by
 refine A3a rfl Tryz.func114 rfl (Nat.le_of_ble_eq_true rfl) ?_
 have hres:Tryz.f114.results.toList=[]:=rfl
 have hlen:=hb.toSl.len Tryz.underlying22 H
 rw [List.length_map] at hlen
 have wu:IntKind.wrap .u64 (l.length:Int)=(l.length:Int):=A3w (by omega) (by omega)
 obtain ⟨r,H1,hd,rfl,c,rfl,_⟩:=bitsLen (H:=H) (x:=l.length) (by omega)
 simp only [↓Sh.dn,sx,Nat.reduceBEq,reduceCtorEq,Nat.reduceEqDiff,hlen,wu]
 refine ⟨_,_,hd,?_⟩
 cases ob with
 | none=>
  have hl0:l=[]:=by
   generalize hL:(l.map fun x=>[Value.string x])=L at hb
   cases hb
   simpa using hL
  subst hl0
  obtain ⟨r,H2,hd2,rfl⟩:=B1k (H:=H1) (v:=v) (lim:=(c:Int))
  simp only [↓Sh.dn,sx,Nat.reduceBEq,reduceCtorEq,Nat.reduceEqDiff,List.length_nil,Int.ofNat_zero]
  refine ⟨_,_,hd2,?_⟩
  simp only [↓Sh.dn,sx,Nat.reduceBEq,reduceCtorEq,Nat.reduceEqDiff,hres]
  exact ⟨[],List.Perm.refl _,fun i j x y h1 h2 h3=>by simp at h3,hb,Chg.refl hw⟩
 | some g=>
  obtain ⟨k,cap,n,rfl,hc,hback⟩:=hb.cells
  obtain ⟨r,H2,hd2,l',q1,q2,q3,q4⟩:=pdqStr (cap:=cap) l.length (a:=0) (b:=l.length) (lim:=(c:Int)) (by omega) hc hw hl (Nat.zero_le _) (Nat.le_refl _) (fun q x y h=>absurd h (Nat.lt_irrefl 0))
  simp only [↓Sh.dn,sx,Nat.reduceBEq,reduceCtorEq,Nat.reduceEqDiff]
  refine ⟨_,_,hd2,?_⟩
  simp only [↓Sh.dn,sx,Nat.reduceBEq,reduceCtorEq,Nat.reduceEqDiff,hres]
  exact ⟨l',q1.perm,by rw [q1.length]; exact q2,hback H2 l' q1.length q3,q4.weak fun x hx=>by rw [hx]⟩
end Go.Proofs.YtcgbiedfbacgpaaGreat
/- sort.Strings. -/
namespace Go.Proofs.YtcgbiedfbacgpaaGreat
open Go Go.Proofs Go.Proofs.Sh
theorem B75 {H:AH} {v:Value} {l:List ByteArray} {ob:Option Nat} (hb:Buf H 1 v (l.map fun x=>[.string x]) ob) (hl:l.length≤1048576) (hw:Wf H):
  Sh.Call Tryz.prog (knows 7) 110 [v] H (fun r H'=>∃ l':List ByteArray,l'.Perm l∧Srt A0b 0 l'.length l'∧Buf H' 1 v (l'.map fun x=>[.string x]) ob∧Chg (fun y=>ob=some y) H H'):=by
 refine A3a rfl Tryz.func110 rfl (Nat.le_of_ble_eq_true rfl) ?_
 have hres:Tryz.f110.results.toList=[]:=rfl
 obtain ⟨r,H1,hd,hq⟩:=B05 hb hl hw
 simp only [↓Sh.dn,sx,Nat.reduceBEq,reduceCtorEq,Nat.reduceEqDiff]
 refine ⟨_,_,hd,?_⟩
 simp only [↓Sh.dn,sx,Nat.reduceBEq,reduceCtorEq,Nat.reduceEqDiff,hres]
 exact hq
end Go.Proofs.YtcgbiedfbacgpaaGreat
/- The reference's Symbols: the symbols that lead on from a set, ascending. -/
namespace Go.Proofs.YtcgbiedfbacgpaaGreat
open Go Go.Proofs Go.Proofs.Sh
def rowLen (E:List (List (ByteArray×Nat))) (s:Nat):Nat:=(E.getD s []).length
theorem sum_perm {l m:List Nat} (h:l.Perm m):l.sum=m.sum:=by
 induction h with
 | nil=>rfl
 | cons x _ ih=>simp [ih]
 | swap x y l=>simp; omega
 | trans _ _ ih1 ih2=>rw [ih1,ih2]
theorem C8p (f:Nat→Nat):∀ {L M:List Nat},L.Nodup→(∀ x∈L,x∈M)→(L.map f).sum≤(M.map f).sum
 | [],M,_,_=>Nat.zero_le _
 | s :: L,M,hn,hs=>by
  have hm:=hs s List.mem_cons_self
  have hp:=List.perm_cons_erase hm
  have e:=sum_perm (hp.map f)
  rw [e]
  simp only [List.map_cons,List.sum_cons]
  have hn':=List.nodup_cons.1 hn
  refine Nat.add_le_add_left (C8p f hn'.2 fun x hx=>?_) _
  have hxs:x≠s:=fun e=>hn'.1 (e ▸ hx)
  exact (List.mem_erase_of_ne hxs).2 (hs x (List.mem_cons_of_mem _ hx))
theorem sum_rows {E:List (List (ByteArray×Nat))} {L:List Nat} (hn:L.Nodup) (hl:∀ s∈L,s < E.length):(L.map (rowLen E)).sum≤(E.map List.length).sum:=by
 have h:=C8p (rowLen E) hn (M:=List.range E.length) fun x hx=>List.mem_range.2 (hl x hx)
 have e:(List.range E.length).map (rowLen E)=E.map List.length:=by
  refine List.ext_getElem? fun i=>?_
  by_cases hi:i < E.length
  ·simp [hi,rowLen,List.getD]
  ·rw [List.getElem?_eq_none (by simp; omega),List.getElem?_eq_none (by simp; omega)]
 rw [e] at h; exact h
theorem B16 {H:AH} {v u ev bv:Value} {vals:List Value} {n:Nat} {E:List (List (ByteArray×Nat))} {ends:List Bool} {L:List Nat} (h:RG H v n E ends ev bv vals) (hL:Sl H u 1 (L.map natC)) (hlt:∀ t∈L,t < n) (hnd:L.Nodup) (htot:(E.map List.length).sum≤1048576) (hw:Wf H):
  Sh.Call Tryz.prog (knows 7) 95 [v,u] H (fun r H'=>Kept H H'∧∃ l b,Buf H' 1 r (l.map A5a) b∧Asc l∧l.length≤1048576∧(∀ y,b=some y→H.next≤y)∧∀ x,x∈l↔x≠A2b∧∃ s∈L,∃ t,A1e E x s t):=by
 refine A3a rfl Tryz.func95 rfl (Nat.le_of_ble_eq_true rfl) ?_
 have hres:Tryz.f95.results.toList=[.tmp 4]:=rfl
 have hrb:=RBox.of h hw
 have hk1:Kept H (H.new 3 [.int .i64 0,ev,bv]).2:=Kept.new hw 3 _
 have hE:=h.ed.sl.isCell
 have hB:=h.en.isCell
 rw [h.eq]
 simp only [↓Sh.dn,sx,Nat.reduceBEq,reduceCtorEq,Nat.reduceEqDiff,B0u hE hB]
 generalize (H.new 3 [.int .i64 0,ev,bv]).2=H1 at hrb hk1 ⊢
 generalize hgb:H.next=gb at hrb ⊢
 have hn2:=h.n2
 have hll:=B9a hnd hlt
 have hsum:=sum_rows hnd (fun s hs=>by rw [h.le]; exact hlt s hs)
 have hpart:∀ i,((L.take i).map (rowLen E)).sum≤1048576:=fun i=>by
  have h1:((L.take i).map (rowLen E)).sum+((L.drop i).map (rowLen E)).sum=(L.map (rowLen E)).sum:=by
   rw [← List.sum_append,← List.map_append,List.take_append_drop]
  omega
 refine A9e L.length 6 (List.range' 5 4++List.range' 11 37) (fun i F H'=>Kept H1 H'∧∃ z,F.get 5=some z∧∃ out ob,LS H' H1.next z out ob∧out.length≤((L.take i).map (rowLen E)).sum∧∀ x,x∈out↔x≠A2b∧∃ s∈L.take i,∃ t,A1e E x s t) (by simp only [↓Sh.dn,sx,Nat.reduceBEq,reduceCtorEq,Nat.reduceEqDiff]) ⟨Kept.refl hk1.wf,_,by simp only [↓Sh.dn,sx,Nat.reduceBEq,reduceCtorEq,Nat.reduceEqDiff],[],none,LS.void _ _,Nat.zero_le _,fun x=>by simp⟩ ?_ ?_
 ·rintro i F H' hi hF f6 ⟨hk,z,f5,out,ob,hl,hol,hiff⟩ k
  have f1:=hF 1 rfl
  have f2:=hF 2 rfl
  simp only [↓Sh.dn,sx,Nat.reduceBEq,reduceCtorEq,Nat.reduceEqDiff] at f1 f2
  have hL':=fun {H'} (hk:Kept H1 H')=>hL.grow ((hk1.trans hk).grow hw)
  have hlen:=(hL' hk).len Tryz.underlying69 H'
  rw [List.length_map] at hlen
  obtain ⟨p,hia,hc⟩:=B5j Tryz.underlying69 A2f (hL' (Kept.refl hk1.wf)) hi
  have hc':=fun {H'} (hk:Kept H1 H')=>A7f (hk.grow hk1.wf) hc
  have htn:L[i] < n:=hlt _ (List.getElem_mem hi)
  have htake:L.take (i+1)=L.take i++[L[i]]:=by rw [List.take_add_one,List.getElem?_eq_getElem hi]; rfl
  clear hc
  generalize L[i]=s at hc' htn htake
  obtain ⟨r,hr⟩:∃ r,E[s]?=some r:=⟨E[s]'(by rw [h.le]; exact htn),List.getElem?_eq_getElem _⟩
  have hr':(A8h E)[s]?=some (r.map A3i):=by unfold A8h; rw [List.getElem?_map,hr]; rfl
  have hrln:rowLen E s=r.length:=by unfold rowLen; rw [List.getD_eq_getElem?_getD,hr]; rfl
  have hsum1:((L.take (i+1)).map (rowLen E)).sum=((L.take i).map (rowLen E)).sum+r.length:=by rw [htake]; simp [hrln]
  have hp1:=hpart (i+1)
  obtain ⟨hrl,hrt⟩:=h.to s r hr
  obtain ⟨ga,oa,ka,wr,hia2,hca,hsr⟩:=(h.ed.grow (hk1.grow hw)).at Tryz.underlying57 A0q hr'
  have hro:∀ {H'},Kept H1 H'→H'.cell ⟨ga,oa,some ka⟩=some wr∧Sl H' wr 2 (r.map A3i)∧A2a Tryz.prog .len [97] [wr] H'=some (.int .i64 (r.length:Int),H'):=fun hk=>by
   have h2:=hsr.grow (hk.grow hk1.wf)
   refine ⟨A7f (hk.grow hk1.wf) hca,h2,?_⟩
   rw [h2.len Tryz.underlying97,List.length_map]
  simp only [↓Sh.dn,sx,Nat.reduceBEq,reduceCtorEq,Nat.reduceEqDiff,f1,f6,A1a,hi,decide_true,hlen]
  refine A9e r.length 7 (List.range' 17 31++[5,7,8]) (fun q F'' H''=>Kept H1 H''∧∃ z',F''.get 5=some z'∧∃ out' ob',LS H'' H1.next z' out' ob'∧out'.length≤((L.take i).map (rowLen E)).sum+q∧∀ x,x∈out'↔x≠A2b∧((∃ s∈L.take i,∃ t,A1e E x s t)∨∃ e∈r.take q,e.1=x)) (by simp only [↓Sh.dn,sx,Nat.reduceBEq,reduceCtorEq,Nat.reduceEqDiff]) ⟨hk,z,by simp only [↓Sh.dn,sx,Nat.reduceBEq,reduceCtorEq,Nat.reduceEqDiff,f5],out,ob,hl,Nat.le_trans hol (Nat.le_add_right _ _),fun x=>by rw [hiff x]; simp⟩ ?_ ?_
  ·rintro q F'' H'' hq hF'' f7 ⟨hk'',z',f5',out',ob',hl',hol',hiff'⟩ k2
   have g1:=hF'' 1 rfl
   have g2:=hF'' 2 rfl
   have g6:=hF'' 6 rfl
   simp only [↓Sh.dn,sx,Nat.reduceBEq,reduceCtorEq,Nat.reduceEqDiff,f1,f2,f6] at g1 g2 g6
   obtain ⟨hc1,hs1,hl1⟩:=hro hk''
   have hcc:=hc' hk''
   have hb1:=hrb.kept hk1.wf hk''
   obtain ⟨g',o',k',hia3,_,hcs2⟩:=hs1.at Tryz.underlying97 A6s (i:=q) (x:=A3i r[q]) (by simp [hq]) .i64
   have hce:H''.cell ⟨g',o',some k'⟩=some (.string r[q].1):=by simpa using hcs2 0 _ rfl
   have hrq:r[q]∈r:=List.getElem_mem hq
   have htk:r.take (q+1)=r.take q++[r[q]]:=by rw [List.take_add_one,List.getElem?_eq_getElem hq]; rfl
   clear hcs2
   generalize r[q]=e at hce hrq htk
   have hj:∀ x,(∃ e'∈r.take (q+1),e'.1=x)↔(∃ e'∈r.take q,e'.1=x)∨e.1=x:=fun x=>by
    rw [htk]
    simp only [List.mem_append,List.mem_singleton]
    constructor
    ·rintro ⟨e',h1 | h1,h2⟩
     ·exact .inl ⟨e',h1,h2⟩
     ·subst h1; exact .inr h2
    ·rintro (⟨e',h1,h2⟩ | h2)
     ·exact ⟨e',.inl h1,h2⟩
     ·exact ⟨e,.inr rfl,h2⟩
   simp only [↓Sh.dn,sx,Nat.reduceBEq,reduceCtorEq,Nat.reduceEqDiff,f7,g1,g2,g6,hb1.c1,hia,hcc,hia2,hc1,hl1,A1a,hq,decide_true,hia3,hce]
   by_cases he:e.1=⟨#[]⟩
   ·simp only [↓Sh.dn,sx,Nat.reduceBEq,reduceCtorEq,Nat.reduceEqDiff,he,decide_true,f7,A9a hq (Nat.le_trans hrl (by decide))]
    refine k2 _ _ (by repeat (first | refine Same.put ?_ rfl | exact Same.rfl' _)) (by simp only [↓Sh.dn,sx,Nat.reduceBEq,reduceCtorEq,Nat.reduceEqDiff]) ⟨hk'',z',by simp only [↓Sh.dn,sx,Nat.reduceBEq,reduceCtorEq,Nat.reduceEqDiff,f5'],out',ob',hl',by omega,fun x=>?_⟩
    rw [hiff',hj]
    constructor
    ·rintro ⟨h1,h2 | h2⟩
     ·exact ⟨h1,.inl h2⟩
     ·exact ⟨h1,.inr (.inl h2)⟩
    ·rintro ⟨h1,h2 | h2 | h2⟩
     ·exact ⟨h1,.inl h2⟩
     ·exact ⟨h1,.inr h2⟩
     ·exact absurd (h2.symm.trans he) h1
   ·obtain ⟨a,cap,w',H4,ob2,rfl,e1,e2,e3,e4⟩:=C1n e.1 hk''.next hk''.wf hl' (by omega)
    simp only [↓Sh.dn,sx,Nat.reduceBEq,reduceCtorEq,Nat.reduceEqDiff,he,decide_false,f5',f7,e1,e2,A9a hq (Nat.le_trans hrl (by decide))]
    refine k2 _ _ (by repeat (first | refine Same.put ?_ rfl | exact Same.rfl' _)) (by simp only [↓Sh.dn,sx,Nat.reduceBEq,reduceCtorEq,Nat.reduceEqDiff]) ⟨hk''.then (Nat.le_refl _) (e4.weak hl'.fr),w',by simp only [↓Sh.dn,sx,Nat.reduceBEq,reduceCtorEq,Nat.reduceEqDiff],out'++[e.1],ob2,e3,by simp only [List.length_append,List.length_singleton]; omega,fun x=>?_⟩
    rw [hj,List.mem_append,List.mem_singleton,hiff' x]
    constructor
    ·rintro (⟨h1,h2 | h2⟩ | h1)
     ·exact ⟨h1,.inl h2⟩
     ·exact ⟨h1,.inr (.inl h2)⟩
     ·subst h1; exact ⟨he,.inr (.inr rfl)⟩
    ·rintro ⟨h1,h2 | h2 | h2⟩
     ·exact .inl ⟨h1,.inl h2⟩
     ·exact .inl ⟨h1,.inr h2⟩
     ·exact .inr h2.symm
  ·rintro F'' H'' hF'' f7 ⟨hk'',z',f5',out',ob',hl',hol',hiff'⟩
   have g1:=hF'' 1 rfl
   have g2:=hF'' 2 rfl
   have g6:=hF'' 6 rfl
   simp only [↓Sh.dn,sx,Nat.reduceBEq,reduceCtorEq,Nat.reduceEqDiff,f1,f2,f6] at g1 g2 g6
   obtain ⟨hc1,hs1,hl1⟩:=hro hk''
   have hcc:=hc' hk''
   have hb1:=hrb.kept hk1.wf hk''
   simp only [↓Sh.dn,sx,Nat.reduceBEq,reduceCtorEq,Nat.reduceEqDiff,f7,g1,g2,g6,hb1.c1,hia,hcc,hia2,hc1,hl1,A1a,Nat.lt_irrefl,decide_false,A9a hi (Nat.le_trans hll (Nat.le_trans hn2 (by decide)))]
   refine k _ _ ?_ (by simp only [↓Sh.dn,sx,Nat.reduceBEq,reduceCtorEq,Nat.reduceEqDiff]) ⟨hk'',z',by simp only [↓Sh.dn,sx,Nat.reduceBEq,reduceCtorEq,Nat.reduceEqDiff,f5'],out',ob',hl',by rw [hsum1]; exact hol',fun x=>?_⟩
   ·repeat refine Same.put ?_ rfl
    exact Same.trans (by repeat (first | refine Same.put ?_ rfl | exact Same.rfl' _)) (hF''.sub rfl)
   ·rw [hiff' x,htake,List.take_length]
    simp only [List.mem_append,List.mem_singleton]
    constructor
    ·rintro ⟨h0,⟨s',h1,h2⟩ | ⟨e,h1,h2⟩⟩
     ·exact ⟨h0,s',.inl h1,h2⟩
     ·exact ⟨h0,s,.inr rfl,e.2,r,hr,by rw [← h2]; exact h1⟩
    ·rintro ⟨h0,s',h1 | h1,t,h2⟩
     ·exact ⟨h0,.inl ⟨s',h1,t,h2⟩⟩
     ·subst h1
      obtain ⟨r',h3,h4⟩:=h2
      rw [hr] at h3
      rw [← Option.some.inj h3] at h4
      exact ⟨h0,.inr ⟨_,h4,rfl⟩⟩
 ·rintro F H' hF f6 ⟨hk,z,f5,out,ob,hl,hol,hiff⟩
  have f1:=hF 1 rfl
  simp only [↓Sh.dn,sx,Nat.reduceBEq,reduceCtorEq,Nat.reduceEqDiff] at f1
  have hL':=hL.grow ((hk1.trans hk).grow hw)
  have hlen:=hL'.len Tryz.underlying69 H'
  rw [List.length_map] at hlen
  rw [List.take_length] at hiff hol
  have hol2:out.length≤1048576:=by omega
  obtain ⟨rr,H3,hd3,l',hperm,hsrt,hb3,hc3⟩:=B75 (l:=out) hl.bf hol2 hk.wf
  simp only [↓Sh.dn,sx,Nat.reduceBEq,reduceCtorEq,Nat.reduceEqDiff,f1,f5,f6,A1a,Nat.lt_irrefl,decide_false,hlen]
  refine ⟨_,_,hd3,?_⟩
  have hk3:Kept H1 H3:=hk.then (Nat.le_refl _) (hc3.weak hl.fr)
  have hs5:Sl H3 z 1 (l'.map A5a):=hb3.toSl
  have hl'l:l'.length≤1048576:=by rw [hperm.length_eq]; exact hol2
  refine A9e l'.length 10 (List.range' 9 2++List.range' 50 27) (fun i F H'=>Kept H3 H'∧∃ z2,F.get 9=some z2∧∃ st ob2,LS H' H3.next z2 st ob2∧st.length≤i∧Asc st∧∀ x,x∈st↔x∈l'.take i) (by simp only [↓Sh.dn,sx,Nat.reduceBEq,reduceCtorEq,Nat.reduceEqDiff]) ⟨Kept.refl hk3.wf,_,by simp only [↓Sh.dn,sx,Nat.reduceBEq,reduceCtorEq,Nat.reduceEqDiff],[],none,LS.void _ _,Nat.zero_le _,fun i j x y _ hx=>by simp at hx,fun x=>by simp⟩ ?_ ?_
  ·rintro i F' H' hi hF' f10 ⟨hk4,z2,f9,st,ob2,hst,hstl,hasc,hmem⟩ k
   have g5:=hF' 5 rfl
   simp only [↓Sh.dn,sx,Nat.reduceBEq,reduceCtorEq,Nat.reduceEqDiff,f5] at g5
   have hs6:=hs5.grow (hk4.grow hk3.wf)
   have hlen5:=hs6.len Tryz.underlying22 H'
   rw [List.length_map] at hlen5
   obtain ⟨p,hia,hc⟩:=Sl.elem (s:=1) Tryz.underlying22 A6h hs6 (i:=i) (u:=.string l'[i]) (by rw [List.getElem?_map,List.getElem?_eq_getElem hi]; rfl)
   have hgi:l'[i]?=some l'[i]:=List.getElem?_eq_getElem hi
   have htk:l'.take (i+1)=l'.take i++[l'[i]]:=by rw [List.take_add_one,hgi]; rfl
   obtain ⟨x,hx⟩:∃ x,l'[i]=x:=⟨_,rfl⟩
   rw [hx] at hc hgi htk
   have more : (∀ y ∈ st, A0b y x = true) → ∃ a cap w' H4 ob', z2 = .slice a st.length cap ∧ A4a Tryz.prog 22 1 [(0, .string x)] H' = some (.slice (some ⟨H'.next, 0, some 0⟩) 1 1, (H'.new 1 [.string x]).2) ∧
       A2a Tryz.prog .append [22, 22] [.slice a st.length cap, .slice (some ⟨H'.next, 0, some 0⟩) 1 1] (H'.new 1 [.string x]).2 = some (w', H4) ∧ Kept H3 H4 ∧ LS H4 H3.next w' (st ++ [x]) ob' ∧ Asc (st ++ [x]) := by
     intro hall
     obtain ⟨a, cap, w', H4, ob', e0, e1, e2, e3, e4⟩ := C1n x hk4.next hk4.wf hst (by omega)
     refine ⟨a, cap, w', H4, ob', e0, e1, e2, hk4.then (Nat.le_refl _) (e4.weak hst.fr), e3, fun p q a b hpq ha hb => ?_⟩
     by_cases hq : q < st.length
     · rw [List.getElem?_append_left (by omega)] at ha
       rw [List.getElem?_append_left hq] at hb
       exact hasc p q a b hpq ha hb
     · have hqe : q = st.length := by
         have := (List.getElem?_eq_some_iff.1 hb).1
         simp at this; omega
       subst hqe
       rw [List.getElem?_append_left (by omega)] at ha
       simp at hb
       subst hb
       exact hall a (List.mem_of_getElem? ha)
   by_cases h0:i=0
   ·subst h0
    have hst0:st=[]:=List.length_eq_zero_iff.1 (by omega)
    subst hst0
    obtain ⟨a,cap,w',H4,ob',rfl,e1,e2,e3,e4,e5⟩:=more (fun y hy=>by cases hy)
    have d0:decide (((0:Nat):Int)=0)=true:=rfl
    simp only [↓Sh.dn,sx,Nat.reduceBEq,reduceCtorEq,Nat.reduceEqDiff,g5,f9,f10,hlen5,A1a,hi,decide_true,d0,hia,hc,e1,e2,wrap_succ hi hl'l]
    refine k _ _ (by repeat (first | refine Same.put ?_ rfl | exact Same.rfl' _)) (by simp only [↓Sh.dn,sx,Nat.reduceBEq,reduceCtorEq,Nat.reduceEqDiff]) ⟨e3,w',by simp only [↓Sh.dn,sx,Nat.reduceBEq,reduceCtorEq,Nat.reduceEqDiff],[]++[x],ob',e4,by simp,e5,fun y=>by rw [htk]; simp⟩
   ·have d0:decide ((i:Int)=0)=false:=by simp; omega
    have hi1:i - 1 < l'.length:=by omega
    obtain ⟨p1,hia1,hc1⟩:=Sl.elem (s:=1) Tryz.underlying22 A6h hs6 (i:=i - 1) (u:=.string l'[i - 1]) (by rw [List.getElem?_map,List.getElem?_eq_getElem hi1]; rfl)
    have w1:IntKind.wrap .i64 ((i:Int) - 1)=((i - 1:Nat):Int):=by rw [wrap64 (by omega) (by omega)]; omega
    have hgp:l'[i - 1]?=some l'[i - 1]:=List.getElem?_eq_getElem hi1
    obtain ⟨y,hy⟩:∃ y,l'[i - 1]=y:=⟨_,rfl⟩
    rw [hy] at hc1 hgp
    have hyin:y∈st:=(hmem y).2 (List.mem_of_getElem? (i:=i - 1) (by rw [List.getElem?_take,if_pos (by omega)]; exact hgp))
    by_cases hxy:x=y
    ·simp only [↓Sh.dn,sx,Nat.reduceBEq,reduceCtorEq,Nat.reduceEqDiff,g5,f9,f10,hlen5,A1a,hi,decide_true,d0,hia,hc,w1,hia1,hc1,hxy,wrap_succ hi hl'l]
     refine k _ _ (by repeat (first | refine Same.put ?_ rfl | exact Same.rfl' _)) (by simp only [↓Sh.dn,sx,Nat.reduceBEq,reduceCtorEq,Nat.reduceEqDiff]) ⟨hk4,z2,by simp only [↓Sh.dn,sx,Nat.reduceBEq,reduceCtorEq,Nat.reduceEqDiff,f9],st,ob2,hst,by omega,hasc,fun a=>?_⟩
     rw [hmem,htk,List.mem_append,List.mem_singleton]
     constructor
     ·exact .inl
     ·rintro (h1 | h1)
      ·exact h1
      ·subst h1; rw [hxy]; exact (hmem y).1 hyin
    ·have hall : ∀ a ∈ st, A0b a x = true := by
       intro a ha
       obtain ⟨j, hj⟩ := List.mem_iff_getElem?.1 ((hmem a).1 ha)
       rw [List.getElem?_take] at hj
       split at hj
       · rename_i hji
         have h1 := hsrt j (i - 1) a y (Nat.zero_le _) (by omega) hi1 hj hgp
         have h2 := hsrt (i - 1) i y x (Nat.zero_le _) (by omega) hi hgp hgi
         have h3 : A0b y x = true := by
           rcases A74 y x with h | h | h
           · exact h
           · exact absurd h.symm hxy
           · rw [h2] at h; cases h
         rcases A74 a y with h | h | h
         · exact A6k h h3
         · rw [h]; exact h3
         · rw [h1] at h; cases h
       · cases hj
     obtain ⟨a, cap, w', H4, ob', rfl, e1, e2, e3, e4, e5⟩ := more hall
     simp only [↓Sh.dn, sx, Nat.reduceBEq, reduceCtorEq, Nat.reduceEqDiff, g5, f9, f10, hlen5, A1a, hi, decide_true, decide_false, d0, hia, hc, w1, hia1, hc1, hxy, e1, e2, wrap_succ hi hl'l]
     refine k _ _ (by repeat (first | refine Same.put ?_ rfl | exact Same.rfl' _)) (by simp only [↓Sh.dn, sx, Nat.reduceBEq, reduceCtorEq, Nat.reduceEqDiff]) ⟨e3, w', by simp only [↓Sh.dn, sx, Nat.reduceBEq, reduceCtorEq, Nat.reduceEqDiff], st ++ [x], ob', e4, by simp; omega, e5, fun a => ?_⟩
     rw [htk, List.mem_append, List.mem_append, hmem]
  ·rintro F' H' hF' f10 ⟨hk4,z2,f9,st,ob2,hst,hstl,hasc,hmem⟩
   have g5:=hF' 5 rfl
   simp only [↓Sh.dn,sx,Nat.reduceBEq,reduceCtorEq,Nat.reduceEqDiff,f5] at g5
   have hlen5:=(hs5.grow (hk4.grow hk3.wf)).len Tryz.underlying22 H'
   rw [List.length_map] at hlen5
   rw [List.take_length] at hmem
   simp only [↓Sh.dn,sx,Nat.reduceBEq,reduceCtorEq,Nat.reduceEqDiff,g5,f9,f10,hlen5,A1a,Nat.lt_irrefl,decide_false,hres]
   refine ⟨(hk1.trans hk3).trans hk4,st,ob2,hst.bf,hasc,by omega,fun y hy=>by have:=hst.fr y hy; have:=(hk1.trans hk3).next; omega,fun x=>?_⟩
   rw [hmem,hperm.mem_iff,hiff]
end Go.Proofs.YtcgbiedfbacgpaaGreat
/- (*graph.Graph).Steps: what a set becomes by each symbol. -/
namespace Go.Proofs.YtcgbiedfbacgpaaGreat
open Go Go.Proofs Go.Proofs.Sh
def SetAt (H:AH) (v:Value) (n:Nat) (Q:Nat→Prop):Prop:=∃ out:List Nat,Sl H v 1 (out.map natC)∧out.Nodup∧(∀ t∈out,t < n)∧∀ t,t∈out↔Q t
theorem SetAt.kept {H H':AH} {v:Value} {n:Nat} {Q:Nat→Prop} (h:SetAt H v n Q) (hw:Wf H) (hk:Kept H H'):SetAt H' v n Q:=by
 obtain ⟨out,h1,h2⟩:=h
 exact ⟨out,h1.grow (hk.grow hw),h2⟩
end Go.Proofs.YtcgbiedfbacgpaaGreat
/- (*graph.Graph).more: from where a symbol leads to what is marked. -/
namespace Go.Proofs.YtcgbiedfbacgpaaGreat
open Go Go.Proofs Go.Proofs.Sh
end Go.Proofs.YtcgbiedfbacgpaaGreat
/- What is reached without a symbol: the closure of Alive. -/
namespace Go.Proofs.YtcgbiedfbacgpaaGreat
open Go Go.Proofs Go.Proofs.Sh
end Go.Proofs.YtcgbiedfbacgpaaGreat
/- What is reached without a symbol: the closure of Beyond. -/
namespace Go.Proofs.YtcgbiedfbacgpaaGreat
open Go Go.Proofs Go.Proofs.Sh
end Go.Proofs.YtcgbiedfbacgpaaGreat
/- (*graph.Graph).alive, Beyond. -/
namespace Go.Proofs.YtcgbiedfbacgpaaGreat
open Go Go.Proofs Go.Proofs.Sh
def AliveL (H:AH) (base n:Nat) (z:Value) (ob:Option Nat) (Q:Nat→Nat→Prop) (k:Nat):Prop:=
 (∀ y,ob=some y→base≤y)∧∃ vals:List Value,Buf H 1 z (vals.map fun x=>[x]) ob∧vals.length=k∧∀ (j:Nat) v,vals[j]?=some v→∃ (B:List Bool) (o:Option Nat),Buf H 1 v (B.map A5p) o∧(∀ y,o=some y→base≤y∧ob≠some y)∧B.length=n∧∀ t:Nat,B[t]?=some true↔Q j t
theorem AliveL.kept {H H':AH} {base n:Nat} {z:Value} {ob:Option Nat} {Q:Nat→Nat→Prop} {k:Nat} (h:AliveL H base n z ob Q k) (hw:Wf H) (hk:Kept H H'):AliveL H' base n z ob Q k:=by
 obtain ⟨h0,vals,h1,h2,h3⟩:=h
 refine ⟨h0,vals,h1.kept hw hk,h2,fun j v hv=>?_⟩
 obtain ⟨B,o,h4,h5⟩:=h3 j v hv
 exact ⟨B,o,h4.kept hw hk,h5⟩
theorem AliveL.push {H:AH} {base n:Nat} {z v:Value} {ob o:Option Nat} {Q:Nat→Nat→Prop} {k:Nat} {B:List Bool} (h:AliveL H base n z ob Q k) (hw:Wf H) (hb:base≤H.next) (hB:Buf H 1 v (B.map A5p) o) (ho:∀ y,o=some y→base≤y∧ob≠some y) (hBl:B.length=n) (hQ:∀ t:Nat,B[t]?=some true↔Q k t) (hk:k≤1073741823):
  ∃ a cap w' H4 ob',z=.slice a k cap∧A4a Tryz.prog 103 1 [(0,v)] H=some (.slice (some ⟨H.next,0,some 0⟩) 1 1,(H.new 1 [v]).2)∧A2a Tryz.prog .append [103,103] [.slice a k cap,.slice (some ⟨H.next,0,some 0⟩) 1 1] (H.new 1 [v]).2=some (w',H4)∧AliveL H4 base n w' ob' Q (k+1)∧Chg (fun y=>ob=some y) H H4:=by
 obtain ⟨h0,vals,h1,h2,h3⟩:=h
 obtain ⟨a,cap,w',H4,ob',e1,e2,e3,e4,e5⟩:=h1.push hw (x:=[v]) rfl
 have hv:=hB.isCell
 have hbs:=B9l (H:=H) (x:=v) (by rw [A8a hv]; rfl) (by rw [A8a hv]; simp [hv])
 rw [A8a hv] at hbs
 rw [List.length_map,h2] at e1 e2
 have ha:=C1c (H:=H) (base:=a) (len:=k) (cap:=cap) (x:=[v]) rfl hk
 rw [e2] at ha
 have hfar:∀ y,o=some y→ob'≠some y:=fun y hy hy2=>by
  rcases e5 y hy2 with h4 | h4
  ·exact (ho y hy).2 h4
  ·have:=hB.lt hw y hy; omega
 refine ⟨a,cap,w',H4,ob',e1,hbs,ha,⟨fun y hy=>?_,vals++[v],by rw [List.map_append]; exact e3,by simp [h2],fun j w hj=>?_⟩,e4⟩
 ·rcases e5 y hy with h4 | h4
  ·exact h0 y h4
  ·omega
 ·rcases Nat.lt_or_ge j vals.length with hj1 | hj1
  ·rw [List.getElem?_append_left hj1] at hj
   obtain ⟨B',o',k1,k2,k3⟩:=h3 j w hj
   refine ⟨B',o',k1.chg hw e4 fun y hy hy2=>(k2 y hy).2 hy2,fun y hy=>⟨(k2 y hy).1,fun hy2=>?_⟩,k3⟩
   rcases e5 y hy2 with h4 | h4
   ·exact (k2 y hy).2 h4
   ·have:=k1.lt hw y hy; omega
  ·rw [List.getElem?_append_right hj1] at hj
   have hj0:j - vals.length=0:=by
    have:=(List.getElem?_eq_some_iff.1 hj).1
    simp at this; omega
   have hjk:j=k:=by omega
   rw [hj0] at hj
   have:v=w:=by simpa using hj
   subst this hjk
   exact ⟨B,o,hB.chg hw e4 fun y hy hy2=>(ho y hy).2 hy2,fun y hy=>⟨(ho y hy).1,hfar y hy⟩,hBl,hQ⟩
theorem AliveL.at {H:AH} {base n:Nat} {z:Value} {ob:Option Nat} {Q:Nat→Nat→Prop} {k j:Nat} (h:AliveL H base n z ob Q k) (hj:j < k):
  ∃ p v,A7b Tryz.prog 103 z (.int .i64 (j:Int))=some (.pointer (some p))∧H.cell p=some v∧∃ B:List Bool,Sl H v 1 (B.map A5p)∧B.length=n∧∀ t:Nat,B[t]?=some true↔Q j t:=by
 obtain ⟨h0,vals,h1,h2,h3⟩:=h
 have hv:vals[j]?=some (vals[j]'(by rw [h2]; exact hj)):=List.getElem?_eq_getElem _
 obtain ⟨B,o,k1,k2,k3⟩:=h3 j _ hv
 obtain ⟨p,i1,i2⟩:=Sl.elem (s:=1) Tryz.underlying103 B7c h1.toSl (i:=j) (u:=vals[j]'(by rw [h2]; exact hj)) (by rw [List.getElem?_map,hv]; rfl)
 exact ⟨p,_,i1,i2,B,k1.toSl,k3⟩
theorem AliveL.len {H:AH} {base n:Nat} {z:Value} {ob:Option Nat} {Q:Nat→Nat→Prop} {k:Nat} (h:AliveL H base n z ob Q k) (H':AH):A2a Tryz.prog .len [103] [z] H'=some (.int .i64 (k:Int),H'):=by
 obtain ⟨h0,vals,h1,h2,h3⟩:=h
 rw [h1.toSl.len Tryz.underlying103,List.length_map,h2]
end Go.Proofs.YtcgbiedfbacgpaaGreat
/- The search of (*graph.Graph).First: the words that go on from a set. -/
namespace Go.Proofs.YtcgbiedfbacgpaaGreat
open Go Go.Proofs Go.Proofs.Sh
end Go.Proofs.YtcgbiedfbacgpaaGreat
/- The search of (*graph.Graph).First. -/
namespace Go.Proofs.YtcgbiedfbacgpaaGreat
open Go Go.Proofs Go.Proofs.Sh
end Go.Proofs.YtcgbiedfbacgpaaGreat
/- (*graph.Graph).First. -/
namespace Go.Proofs.YtcgbiedfbacgpaaGreat
open Go Go.Proofs Go.Proofs.Sh
end Go.Proofs.YtcgbiedfbacgpaaGreat
/- (*graph.Graph).Beyond. -/
namespace Go.Proofs.YtcgbiedfbacgpaaGreat
open Go Go.Proofs Go.Proofs.Sh
end Go.Proofs.YtcgbiedfbacgpaaGreat
/- graph.Texts. -/
namespace Go.Proofs.YtcgbiedfbacgpaaGreat
open Go Go.Proofs Go.Proofs.Sh
end Go.Proofs.YtcgbiedfbacgpaaGreat
/- (*graph.Graph).Words. -/
namespace Go.Proofs.YtcgbiedfbacgpaaGreat
open Go Go.Proofs Go.Proofs.Sh
def strRow (u:List ByteArray):List (List Value):=u.map A5a
theorem B43 {H:AH} {G:Nat→Prop} {z v:Value} {oo o:Option Nat} {out:List (List ByteArray)} {u:List ByteArray} (h:RowsB strRow H G z oo out) (hw:Wf H) (hb:∀ y,H.next≤y→G y) (hv:Buf H 1 v (strRow u) o) (ho:∀ y,o=some y→G y∧oo≠some y) (hol:out.length≤1073741823):
  ∃ a cap w' H3 oo',z=.slice a out.length cap∧A4a Tryz.prog 29 1 [(0,v)] H=some (.slice (some ⟨H.next,0,some 0⟩) 1 1,(H.new 1 [v]).2)∧A2a Tryz.prog .append [29,29] [.slice a out.length cap,.slice (some ⟨H.next,0,some 0⟩) 1 1] (H.new 1 [v]).2=some (w',H3)∧RowsB strRow H3 G w' oo' (out++[u])∧Chg (fun y=>oo=some y) H H3∧∀ y,oo'=some y→oo=some y∨H.next≤y:=by
 obtain ⟨a,cap,w',H3,oo',e1,e2,e3,e4,e5⟩:=h.push hw hb hv ho
 have hvc:=hv.isCell
 have hbs:=B0e (H:=H) (x:=v) (by rw [A8a hvc]; rfl) (by rw [A8a hvc]; simp [hvc])
 rw [A8a hvc] at hbs
 have ha:=C6n (H:=H) (base:=a) (len:=out.length) (cap:=cap) (x:=[v]) rfl hol
 rw [e2] at ha
 exact ⟨a,cap,w',H3,oo',e1,hbs,ha,e3,e4,e5⟩
noncomputable def B8a (all:List (List ByteArray)) (more:Prop) (most:Nat):List (List ByteArray)×Bool×Int:=
 if most < all.length then (all.take most,true,0) else if tB more=true then (if all.length < most then ([],false,3) else (all,true,0)) else (all,false,0)
end Go.Proofs.YtcgbiedfbacgpaaGreat
/- The reference's lister: the words that go on from a set. -/
namespace Go.Proofs.YtcgbiedfbacgpaaGreat
open Go Go.Proofs Go.Proofs.Sh
def symE (E:List (List (ByteArray×Nat))) (x:ByteArray) (s t:Nat):Prop:=x≠A2b∧A1e E x s t
def B6x (E:List (List (ByteArray×Nat))) (Q:Nat→Prop) (x:ByteArray):Nat→Prop:=Clo (A1e E A2b) fun t=>∃ s,Q s∧symE E x s t
noncomputable def A6l (sigma:List ByteArray) (E:List (List (ByteArray×Nat))) (ends:List Bool) (Q:Nat→Prop) (m:Nat):List (List ByteArray):=lexW sigma (accS (A1e E A2b) (symE E) (fun s=>ends[s]?=some true) Q) m
theorem B04 (sigma:List ByteArray) (E:List (List (ByteArray×Nat))) (ends:List Bool) (Q:Nat→Prop) (m:Nat):A6l sigma E ends Q (m+1)=sigma.flatMap fun x=>(A6l sigma E ends (B6x E Q x) m).map (x :: ·):=C2p _ _ _
theorem B3p {E:List (List (ByteArray×Nat))} (x:ByteArray) (s t:Nat) (h:symE E x s t):anyE E s t:=⟨x,h.1,h.2⟩
theorem B8g {sigma:List ByteArray} {E:List (List (ByteArray×Nat))} {ends:List Bool} {Q:Nat→Prop} {m:Nat} (h:∀ s,Q s→¬exE E ends m s):A6l sigma E ends Q m=[]:=C7p fun u hu ha=>by
 obtain ⟨s,h1,h2⟩:=A8w (any:=anyE E) B3p ha
 rw [hu] at h2
 exact h s h1 h2
theorem B26 {sigma:List ByteArray} {E:List (List (ByteArray×Nat))} {ends:List Bool} {Q:Nat→Prop} (hQ:∀ a b,Q a→A1e E A2b a b→Q b) (h:∃ s,Q s∧exE E ends 0 s):A6l sigma E ends Q 0=[[]]:=by
 unfold A6l
 rw [C7m,if_pos]
 rw [B2t]
 obtain ⟨s,h1,h2⟩:=h
 obtain ⟨t,h3,h4⟩:=A7u.1 h2
 exact ⟨t,(A50 hQ).1 (A2p.2 ⟨s,h1,h3⟩),h4⟩
theorem B64 {sigma:List ByteArray} {E:List (List (ByteArray×Nat))} {ends:List Bool} {Q:Nat→Prop} {m:Nat}:A6l sigma E ends Q m=A6l sigma E ends (fun s=>Q s∧exE E ends m s) m:=B1n fun u hu _=>by
 have:=acc_keep (E:=A1e E A2b) (A:=symE E) (any:=anyE E) (end_:=fun s=>ends[s]?=some true) B3p (w:=u) (S:=Q)
 rw [hu] at this
 exact this
theorem B3i {α:Type} {f:ByteArray→List α} {l:List ByteArray}:∀ {sigma:List ByteArray},(∀ x∈sigma,x∉l→f x=[])→(sigma.filter fun x=>A9n l x).flatMap f=sigma.flatMap f
 | [],_=>rfl
 | x :: sigma,h=>by
  have ih:=B3i (sigma:=sigma) fun y hy=>h y (List.mem_cons_of_mem _ hy)
  rw [List.filter_cons]
  cases hx:A9n l x with
  | true=>rw [if_pos rfl,List.flatMap_cons,List.flatMap_cons,ih]
  | false=>
   have hn:x∉l:=fun h2=>by rw [A0g.2 h2] at hx; cases hx
   rw [if_neg (by simp),List.flatMap_cons,h x List.mem_cons_self hn,List.nil_append,ih]
theorem C4i {l:List ByteArray} (h:Asc l) (p:ByteArray→Bool):Asc (l.filter p):=by
 have h0:l.Pairwise fun a b=>A0b a b=true:=by
  rw [List.pairwise_iff_getElem]
  intro i j hi hj hij
  exact h i j _ _ hij (List.getElem?_eq_getElem hi) (List.getElem?_eq_getElem hj)
 have:=List.pairwise_iff_getElem.1 (h0.filter p)
 intro i j x y hij hx hy
 obtain ⟨h1,h2⟩:=List.getElem?_eq_some_iff.1 hx
 obtain ⟨h3,h4⟩:=List.getElem?_eq_some_iff.1 hy
 rw [← h2,← h4]
 exact this i j h1 h3 hij
structure LisAt (H:AH) (G:Nat→Prop) (gx:Nat) (ev bv xv:Value) (most:Nat) (zo:Value) (oo:Option Nat) (out:List (List ByteArray)):Prop where
 cell:Arr H gx 0 6 [.int .i64 0,ev,bv,xv,.int .i64 (most:Int),zo]
 rows:RowsB strRow H G zo oo out
 ng:¬G gx
theorem LisAt.kept {H H':AH} {G:Nat→Prop} {gx:Nat} {ev bv xv zo:Value} {most:Nat} {oo:Option Nat} {out:List (List ByteArray)} (h:LisAt H G gx ev bv xv most zo oo out) (hw:Wf H) (hk:Kept H H'):LisAt H' G gx ev bv xv most zo oo out:=⟨h.cell.keep (hk.old gx (h.cell.lt hw)),h.rows.kept hw hk,h.ng⟩
theorem B13 {H:AH} {G:Nat→Prop} {z:Value} {oo:Option Nat} {out:List (List ByteArray)} (h:RowsB strRow H G z oo out) (H':AH):A2a Tryz.prog .len [29] [z] H'=some (.int .i64 (out.length:Int),H'):=by
 obtain ⟨vals,h1,h2,h3⟩:=h.ex
 rw [h1.toSl.len Tryz.underlying29,List.length_map,h2]
theorem B6b {H:AH} {G:Nat→Prop} {z:Value} {oo:Option Nat} {out:List (List ByteArray)} (h:RowsB strRow H G z oo out):veq z z=true∧isCell z=true∧∀ y,Wf H→oo=some y→y < H.next:=by
 obtain ⟨vals,h1,h2,h3⟩:=h.ex
 exact ⟨h1.veq,h1.isCell,fun y hw hy=>h1.lt hw y hy⟩
theorem B28 {H:AH} {u:Value} {w:List ByteArray} (hu:Sl H u 1 (w.map A5a)) (hwl:w.length≤1000000) (hw:Wf H):
  ∃ v' H' b',A2a Tryz.prog .append [22,22] [.slice none 0 0,u] H=some (v',H')∧Buf H' 1 v' (w.map A5a) b'∧Kept H H'∧∀ y,b'=some y→H.next≤y:=by
 obtain ⟨v',H',b',e1,e2,e3,e4⟩:=(Buf.void (H:=H) (s:=1) none).append hw (xs:=w.map A5a) (by intro x hx; obtain ⟨b,_,rfl⟩:=List.mem_map.1 hx; rfl)
 have happ:=C6g (base:=none) (len:=0) (cap:=0) (hu.srcKind Tryz.underlying22) hu.newCells (by rw [List.length_map]; omega)
 rw [e1] at happ
 have hk:Kept H H':=e3.kept fun g hg h=>by cases h
 rw [List.nil_append] at e2
 refine ⟨v',H',b',happ,e2,hk,fun y hy=>?_⟩
 rcases e4 with h4 | ⟨h4,h5⟩
 ·rw [h4] at hy; cases hy
 ·rw [h4] at hy; rw [← Option.some.inj hy]; exact Nat.le_refl _
end Go.Proofs.YtcgbiedfbacgpaaGreat
/- The reference's lister: its search. -/
namespace Go.Proofs.YtcgbiedfbacgpaaGreat
open Go Go.Proofs Go.Proofs.Sh
theorem refWalk {H0:AH} {G:Nat→Prop} {base gx n most long:Nat} {oo0:Option Nat} {E:List (List (ByteArray×Nat))} {ends:List Bool} {sigma:List ByteArray} {ev bv xv:Value} {vals:List Value}
  (hrg:∀ H,Chg (fun y=>y=gx∨oo0=some y∨base≤y) H0 H→RG H (.agg #[.int .i64 0,ev,bv]) n E ends ev bv vals)
  (hA:∀ H,Chg (fun y=>y=gx∨oo0=some y∨base≤y) H0 H→∀ j,j≤long→∃ p v,A7b Tryz.prog 103 xv (.int .i64 (j:Int))=some (.pointer (some p))∧H.cell p=some v∧∃ B:List Bool,Sl H v 1 (B.map A5p)∧B.length=n∧∀ t:Nat,B[t]?=some true↔exE E ends j t)
  (htot:(E.map List.length).sum≤1048576) (hasc:Asc sigma) (hsy:∀ x s t,A1e E x s t→x=A2b∨x∈sigma) (hno:A2b∉sigma) (hmost:most≤900) (hlong:long≤900) (hb0:∀ y,base≤y→G y) (hgx:gx < base):
  ∀ (m:Nat) (H:AH) (Q:Nat→Prop) (sv wv:Value) (w:List ByteArray) (wb:Option Nat) (out:List (List ByteArray)) (zo:Value) (oo:Option Nat),Chg (fun y=>y=gx∨oo0=some y∨base≤y) H0 H→base≤H.next→SetAt H sv n Q→(∀ a b,Q a→A1e E A2b a b→Q b)→Buf H 1 wv (w.map A5a) wb→(∀ y,wb=some y→y≠gx∧oo≠some y)→LisAt H G gx ev bv xv most zo oo out→(∀ y,oo=some y→oo0=some y∨base≤y)→out.length≤most+1→w.length+m≤long→
   Sh.Call Tryz.prog (knows 7) 63 [.pointer (some ⟨gx,0,some 0⟩),sv,wv,.int .i64 (m:Int)] H
    (fun _ H'=>Chg (fun y=>y=gx∨oo=some y) H H'∧∃ zo' oo',LisAt H' G gx ev bv xv most zo' oo' ((out++(A6l sigma E ends Q m).map (w++·)).take (most+1))∧∀ y,oo'=some y→oo=some y∨H.next≤y):=by
 intro m
 induction m using Nat.strongRecOn with
 | ind m ih=>
 intro H Q sv wv w wb out zo oo hc0 hbn hS hQ hwv hwb hO hoo hol hwl
 have hw:=hc0.wf
 refine A3a rfl Tryz.func63 rfl (Nat.le_of_ble_eq_true rfl) ?_
 have hres:Tryz.f63.results.toList=[]:=rfl
 obtain ⟨L,hL,hnd,hlt,hLQ⟩:=hS
 have hRG:=hrg H hc0
 have hn2:=hRG.n2
 have hLl:=B9a hnd hlt
 have c3:=hO.cell.cell 3
 have c4:=hO.cell.cell 4
 have c5:=hO.cell.cell 5
 simp only [List.getElem?_cons_succ,List.getElem?_cons_zero] at c3 c4 c5
 obtain ⟨p,v,i1,i2,B,hB,hBl,hBi⟩:=hA H hc0 m (by omega)
 obtain ⟨r2,H2,hd2,hk2,kb,hKb,hKf⟩:=refKeptB hL hB hBl hlt (by omega) hw
 have c02:Chg (fun y=>y=gx∨oo0=some y∨base≤y) H0 H2:=hc0.trans hk2.chg
 have hO2:=hO.kept hw hk2
 obtain ⟨hzv,hzc,hzl⟩:=B6b hO.rows
 have hlO:=B13 hO.rows
 have d4:=hO2.cell.cell 4
 have d5:=hO2.cell.cell 5
 simp only [List.getElem?_cons_succ,List.getElem?_cons_zero] at d4 d5
 simp only [↓Sh.dn,sx,Nat.reduceBEq,reduceCtorEq,Nat.reduceEqDiff,c3,i1,i2]
 refine ⟨_,_,hd2,?_⟩
 generalize hK:L.filter (fun t=>decide (B[t]?=some true))=Kl at hKb
 have hKm:∀ t,t∈Kl↔Q t∧exE E ends m t:=fun t=>by
  rw [← hK,List.mem_filter,hLQ,decide_eq_true_eq,hBi]
 have hKnd:Kl.Nodup:=by rw [← hK]; exact List.Pairwise.filter _ hnd
 have hKlt:∀ t∈Kl,t < n:=fun t ht=>hlt t ((hLQ t).2 ((hKm t).1 ht).1)
 have hKl:=B9a hKnd hKlt
 have hlK:=fun H'=>hKb.toSl.len Tryz.underlying69 H'
 simp only [List.length_map] at hlK
 have skip:(A6l sigma E ends Q m=[]∨most < out.length)→Chg (fun y=>y=gx∨oo=some y) H H2∧∃ zo' oo',LisAt H2 G gx ev bv xv most zo' oo' ((out++(A6l sigma E ends Q m).map (w++·)).take (most+1))∧∀ y,oo'=some y→oo=some y∨H.next≤y:=fun hh=>by
  have ho:(out++(A6l sigma E ends Q m).map (w++·)).take (most+1)=out:=by
   rcases hh with h1 | h1
   ·rw [h1,List.map_nil,List.append_nil]; exact List.take_of_length_le hol
   ·rw [List.take_append_of_le_length (by omega),List.take_of_length_le hol]
  rw [ho]
  exact ⟨hk2.chg,zo,oo,hO2,fun y hy=>.inl hy⟩
 by_cases hKn:Kl=[]
 ·have hz:decide ((Kl.length:Int)=0)=true:=by rw [hKn]; rfl
  have hnone:A6l sigma E ends Q m=[]:=B8g fun s hs he=>by
   have:=(hKm s).2 ⟨hs,he⟩
   rw [hKn] at this; cases this
  simp only [↓Sh.dn,sx,Nat.reduceBEq,reduceCtorEq,Nat.reduceEqDiff,hlK,hz,hres]
  exact skip (.inl hnone)
 have hz:decide ((Kl.length:Int)=0)=false:=by
  have:=List.length_pos_iff.2 hKn
  simp; omega
 simp only [↓Sh.dn,sx,Nat.reduceBEq,reduceCtorEq,Nat.reduceEqDiff,hlK,hz,d4,d5,hlO,A1a]
 by_cases hfull:most < out.length
 ·simp only [↓Sh.dn,sx,Nat.reduceBEq,reduceCtorEq,Nat.reduceEqDiff,hfull,decide_true,hres]
  exact skip (.inr hfull)
 simp only [↓Sh.dn,sx,Nat.reduceBEq,reduceCtorEq,Nat.reduceEqDiff,hfull,decide_false]
 have hsome:∃ s,Q s∧exE E ends m s:=by
  cases hKe:Kl with
  | nil=>exact absurd hKe hKn
  | cons s K'=>exact ⟨s,(hKm s).1 (by rw [hKe]; exact List.mem_cons_self)⟩
 have hw2:=hwv.kept hw hk2
 cases m with
 | zero=>
  have h00:decide (((0:Nat):Int)=0)=true:=rfl
  simp only [↓Sh.dn,sx,Nat.reduceBEq,reduceCtorEq,Nat.reduceEqDiff,h00]
  obtain ⟨v3,H3,b3,e1,hb3,hk3,hf3⟩:=B28 hw2.toSl (by omega) hk2.wf
  have hO3:=hO2.kept hk2.wf hk3
  have k03:=hk2.trans hk3
  have hn3:=k03.next
  obtain ⟨a,cap,w',H4,oo',rfl,e2,e3,hR4,hc4,hf4⟩:=B43 (u:=w) hO3.rows hk3.wf (fun y hy=>hb0 y (by omega)) hb3 (fun y hy=>⟨hb0 y (by have:=hf3 y hy; have:=hk2.next; omega),fun hy2=>by have:=hzl y hw hy2; have:=hf3 y hy; have:=hk2.next; omega⟩) (by omega)
  have hgo:oo≠some gx:=fun hy=>hO.ng (hO.rows.ob gx hy)
  have a4:=hO3.cell.keep (hc4.old gx (hO3.cell.lt hk3.wf) hgo)
  obtain ⟨H5,s1,s2,s3,s4⟩:=a4.write hc4.wf (i:=5) (vs:=[w']) (by simp)
  have hw'c:=(B6b hR4).2.1
  have st:A3e Tryz.prog 29 H4 w' (.pointer (some ⟨gx,5,some 0⟩))=some H5:=by rw [A4d C1m hw'c]; exact s1
  have d53:=hO3.cell.cell 5
  simp only [List.getElem?_cons_succ,List.getElem?_cons_zero] at d53
  refine A46 (fl:=[(0,[]),(1,[]),(2,[]),(3,[]),(4,[]),(5,[]),(6,[4]),(7,[]),(8,[]),(9,[]),(10,[]),(11,[])]) (by kernel_rfl) (by kernel_rfl) (by kernel_rfl) ?_
  simp only [↓Sh.dn,sx,Nat.reduceBEq,reduceCtorEq,Nat.reduceEqDiff,wpr,again,A6d,A2l,A1i,A9j,A4i,A6g,A8f,forall_eq,forall_eq',d5,e1,d53,hzv,e2,e3,st,hres]
  have hW:A6l sigma E ends Q 0=[[]]:=B26 hQ hsome
  have ho:(out++(A6l sigma E ends Q 0).map (w++·)).take (most+1)=out++[w]:=by
   rw [hW]
   simp only [List.map_cons,List.map_nil,List.append_nil]
   exact List.take_of_length_le (by rw [List.length_append,List.length_singleton]; omega)
  rw [ho]
  refine ⟨((k03.chg).trans (hc4.weak fun y hy=>.inr hy)).trans (s4.weak fun y hy=>.inl hy),w',oo',⟨s2,?_,hO.ng⟩,fun y hy=>?_⟩
  ·exact hR4.move hc4.wf (fun y hy hyl=>s4.old y hyl fun hyx=>hO.ng (hyx ▸ hy)) fun y hy _=>hy
  ·rcases hf4 y hy with h1 | h1
   ·exact .inl h1
   ·exact .inr (by omega)
 | succ m=>
  have h00:decide (((m+1:Nat):Int)=0)=false:=by simp; omega
  have hRG2:=hrg H2 c02
  have hcells:∀ {H'},Arr H' gx 0 6 [.int .i64 0,ev,bv,xv,.int .i64 (most:Int),zo]→H'.cells ⟨gx,0,some 0⟩ 3=some [.int .i64 0,ev,bv]:=fun h=>by
   rw [h.cells (by simp)]; rfl
  obtain ⟨r3,H3,hd3,hk3,l,lb,hlb,hlasc,hll,hlf,hlm⟩:=B16 hRG2 hKb.toSl hKlt hKnd htot hk2.wf
  have k03:=hk2.trans hk3
  have hn2':=hk2.next
  have hn3:=hk3.next
  have hlsub:∀ x∈l,x∈sigma∧x≠A2b:=fun x hx=>by
   obtain ⟨h1,s,_,t,h2⟩:=(hlm x).1 hx
   exact ⟨(hsy x s t h2).resolve_left h1,h1⟩
  have hcell2:H2.cells ⟨gx,0,some 0⟩ 3=some [.int .i64 0,ev,bv]:=hcells hO2.cell
  have hlen3:∀ H',A2a Tryz.prog .len [22] [r3] H'=some (.int .i64 (l.length:Int),H'):=fun H'=>by
   rw [hlb.toSl.len Tryz.underlying22,List.length_map]
  simp only [↓Sh.dn,sx,Nat.reduceBEq,reduceCtorEq,Nat.reduceEqDiff,h00,hcell2,Option.map_some]
  refine ⟨_,_,hd3,?_⟩
  have hZ:∀ y,(y=gx∨oo=some y)→y < H.next:=fun y hy=>by
   rcases hy with hy | hy
   ·omega
   ·exact hzl y hw hy
  have hZX:∀ y,(y=gx∨oo=some y)→(y=gx∨oo0=some y∨base≤y):=fun y hy=>by
   rcases hy with hy | hy
   ·exact .inl hy
   ·exact .inr (hoo y hy)
  have ho0:out.take (most+1)=out:=List.take_of_length_le hol
  have c03:Chg (fun y=>y=gx∨oo0=some y∨base≤y) H0 H3:=hc0.trans k03.chg
  have hK3:=hKb.kept hk2.wf hk3
  have hw3:=hw2.kept hk2.wf hk3
  refine A9e l.length 9 (List.range' 53 28++[9]) (fun k F H'=>Chg (fun y=>y=gx∨oo=some y) H3 H'∧∃ zo' oo',LisAt H' G gx ev bv xv most zo' oo' ((out++((l.take k).flatMap fun x=>(A6l sigma E ends (B6x E (fun s=>s∈Kl) x) m).map (fun u=>w++x :: u))).take (most+1))∧∀ y,oo'=some y→oo=some y∨H3.next≤y) (by simp only [↓Sh.dn,sx,Nat.reduceBEq,reduceCtorEq,Nat.reduceEqDiff])
   ⟨Chg.refl hk3.wf,zo,oo,by simpa [ho0] using hO2.kept hk2.wf hk3,fun y hy=>.inl hy⟩ ?_ ?_
  ·rintro k F H' hi hF f9 ⟨hc,zo',oo',hO',hof⟩ kk
   have f0:=hF 0 rfl
   have f1:=hF 1 rfl
   have f2:=hF 2 rfl
   have f3:=hF 3 rfl
   have f8:=hF 8 rfl
   simp only [↓Sh.dn,sx,Nat.reduceBEq,reduceCtorEq,Nat.reduceEqDiff] at f0 f1 f2 f3 f8
   have ch:Chg (fun y=>y=gx∨oo0=some y∨base≤y) H0 H':=c03.then hc fun y hy _=>hZX y hy
   have hnZ:∀ {y},H.next≤y→¬(y=gx∨oo=some y):=fun hy h=>by have:=hZ _ h; omega
   have hKs:Buf H' 1 r2 (Kl.map natC) kb:=hK3.chg hk3.wf hc fun y hy=>hnZ (hKf y hy)
   have hls:Buf H' 1 r3 (l.map A5a) lb:=hlb.chg hk3.wf hc fun y hy=>hnZ (by have:=hlf y hy; omega)
   have hws:Buf H' 1 wv (w.map A5a) wb:=hw3.chg hk3.wf hc fun y hy h=>by
    obtain ⟨h1,h2⟩:=hwb y hy
    rcases h with h | h
    ·exact h1 h
    ·exact h2 h
   obtain ⟨p8,i8,c8⟩:=Sl.elem (s:=1) Tryz.underlying22 A6h hls.toSl (i:=k) (u:=.string l[k]) (by rw [List.getElem?_map,List.getElem?_eq_getElem hi]; rfl)
   have hlk:l[k]∈l:=List.getElem_mem hi
   have htake:l.take (k+1)=l.take k++[l[k]]:=by rw [List.take_add_one,List.getElem?_eq_getElem hi]; rfl
   generalize l[k]=x at c8 hlk htake
   have kn:=Kept.new hc.wf 1 [.string x]
   have hbs:=B0v (H:=H') (x:=.string x) rfl rfl
   have mq:=fun H2=>B5a (H:=H') (H2:=H2) (s:=1) (vals:=[.string x]) (by simp only [A3y,A94,A9j,Bool.and_self])
   have hSm:Buf (H'.new 1 [.string x]).2 1 (.slice (some ⟨H'.next,0,some 0⟩) 1 1) [A5a x] (some H'.next):=Buf.fresh (H:=H') (s:=1) (xs:=[A5a x]) hc.wf (by intro x hx; rw [List.mem_singleton.1 hx]; rfl) (by simp) 1 rfl
   have hxa:H'.next < (H'.new 1 [.string x]).2.next:=Nat.lt_succ_self _
   have cha:=ch.trans kn.chg
   have hKa:=hKs.kept hc.wf kn
   have hwa:=hws.kept hc.wf kn
   have c8a:=A7f (kn.grow hc.wf) c8
   have ga:(H'.new 1 [.string x]).2.cells ⟨gx,0,some 0⟩ 3=some [.int .i64 0,ev,bv]:=by rw [(hO'.kept hc.wf kn).cell.cells (by simp)]; rfl
   generalize hHa:(H'.new 1 [.string x]).2=Ha at kn mq hSm hxa cha hKa hwa c8a ga
   obtain ⟨r4,H4,hd4,hk4,S4,b4,hb4,hf4,hnd4,hlt4,hi4⟩:=refStep (x:=x) (hrg Ha cha) hKa.toSl hKlt (by omega) kn.wf
   obtain ⟨v5,H5,b5,e5,hb5,hk5,hf5⟩:=B28 (hwa.toSl.grow (hk4.grow kn.wf)) (by omega) hk4.wf
   have k45:=hk4.trans hk5
   have k5':=kn.trans k45
   have hSm5:=hSm.kept kn.wf k45
   obtain ⟨a6,cap6,hv6⟩:=hb5.shape
   subst hv6
   rw [List.length_map] at hb5 e5
   obtain ⟨w6,H6,b6,h6b,h6c,h6d,h6e⟩:=hb5.append hk5.wf (xs:=[A5a x]) (by intro y hy; rw [List.mem_singleton.1 hy]; rfl)
   have ha:=C6g (base:=a6) (len:=w.length) (cap:=cap6) (hSm5.toSl.srcKind Tryz.underlying22) hSm5.toSl.newCells (by rw [List.length_singleton]; omega)
   rw [h6b] at ha
   have hcn:=hc.next
   have hn4:=hk4.next
   have hn5:=hk5.next
   have k46:Kept H' H6:=k5'.then (base:=H'.next) (Nat.le_refl _) (h6d.weak fun y hy=>by have:=hf5 y hy; omega)
   have hO6:=hO'.kept hc.wf k46
   have ch6:Chg (fun y=>y=gx∨oo0=some y∨base≤y) H0 H6:=ch.trans k46.chg
   have hlO':=(B6b hO'.rows).2.2
   have hf6:∀ y,b6=some y→H'.next≤y:=fun y hy=>by
    rcases h6e with h1 | ⟨h1,_⟩
    ·rw [h1] at hy; have:=hf5 y hy; omega
    ·rw [h1] at hy; have:=Option.some.inj hy; omega
   have hS6:SetAt H6 r4 n (B6x E (fun s=>s∈Kl) x):=by
    have hb46:Buf H6 1 r4 (S4.map natC) b4:=(hb4.kept hk4.wf hk5).chg hk5.wf h6d fun y hy hy2=>by have:=hb4.lt hk4.wf y hy; have:=hf5 y hy2; omega
    refine ⟨S4,hb46.toSl,hnd4,hlt4,fun t=>?_⟩
    rw [hi4]
    have:(fun t=>∃ s,s∈Kl∧A1e E x s t)=fun t=>∃ s,s∈Kl∧symE E x s t:=by
     funext t
     apply propext
     unfold symE
     constructor
     ·rintro ⟨s,h1,h2⟩; exact ⟨s,h1,(hlsub x hlk).2,h2⟩
     ·rintro ⟨s,h1,h2⟩; exact ⟨s,h1,h2.2⟩
    rw [this]
    rfl
   obtain ⟨r7,H7,hd7,hc7,zo7,oo7,hO7,hof7⟩:=ih m (Nat.lt_succ_self m) H6 (B6x E (fun s=>s∈Kl) x) r4 w6 (w++[x]) b6 _ zo' oo' ch6 (by have:=k46.next; omega) hS6 (fun a b h1 h2=>.step h1 h2) (by rw [List.map_append]; exact h6c) (fun y hy=>⟨by have:=hf6 y hy; have:=hZ gx (.inl rfl); omega,fun hy2=>by have:=hlO' y hc.wf hy2; have:=hf6 y hy; omega⟩) hO6 (fun y hy=>by
    rcases hof y hy with h1 | h1
    ·exact hoo y h1
    ·exact .inr (by omega)) (by rw [List.length_take]; omega) (by rw [List.length_append,List.length_singleton]; omega)
   have c84:=A7f (hk4.grow kn.wf) c8a
   have c85:=A7f (k45.grow kn.wf) c8a
   have wl:IntKind.wrap .i64 (((m+1:Nat):Int) - 1)=(m:Int):=by rw [wrap64 (by omega) (by omega)]; omega
   have wi:IntKind.wrap .i64 ((k:Int)+1)=((k+1:Nat):Int):=A9a hi (by omega)
   have g0:H'.cells ⟨gx,0,some 0⟩ 3=some [.int .i64 0,ev,bv]:=by rw [hO'.cell.cells (by simp)]; rfl
   have u4:B66 H'.next Ha H4:=mq H4 (hk4.old _ hxa)
   have u5:B66 H'.next Ha H5:=mq H5 (k45.old _ hxa)
   simp only [↓Sh.dn,sx,Nat.reduceBEq,reduceCtorEq,Nat.reduceEqDiff,f8,f9,hlen3,A1a,hi,decide_true]
   refine C3o (fl:=[(0,[],[],[]),(1,[],[],[]),(2,[],[],[]),(3,[],[],[]),(4,[],[],[]),(5,[],[],[]),(6,[],[],[]),(7,[],[],[]),(8,[],[],[]),(9,[],[],[]),(11,[],[],[]),(13,[],[],[]),(14,[],[],[]),(15,[],[],[]),(16,[],[],[]),(17,[],[],[]),(19,[],[],[]),(20,[],[],[]),(10,[16],[true],[true]),(12,[16],[true],[true]),(18,[],[false],[false]),(21,[],[],[])]) (by kernel_rfl) (by kernel_rfl) (by kernel_rfl) ?_
   simp only [↓Sh.dn,sx,Nat.reduceBEq,reduceCtorEq,Nat.reduceEqDiff,wpm,B4c,B6s,A63,again,isEff,A6d,A2l,A1i,A9j,A4i,A6g,A8f,forall_eq,forall_eq',f0,f1,f2,f3,f8,f9,Option.map_some,i8,c8,wl,hbs,A7a,hHa,g0,ga,c8a]
   refine ⟨_,_,hd4,?_⟩
   simp only [↓Sh.dn,sx,Nat.reduceBEq,reduceCtorEq,Nat.reduceEqDiff,wpm,B4c,B6s,A63,again,isEff,A6d,A2l,A1i,A9j,A4i,A6g,A8f,forall_eq,forall_eq',u4,c84,i8,e5,u5,c85,ha]
   refine ⟨_,_,by first | exact hd7 | simpa using hd7,?_⟩
   simp only [↓Sh.dn,sx,Nat.reduceBEq,reduceCtorEq,Nat.reduceEqDiff,wpm,B4c,B6s,A63,again,isEff,A6d,A2l,A1i,A9j,A4i,A6g,A8f,forall_eq,forall_eq',f9,wi]
   refine kk _ _ (by repeat (first | refine Same.put ?_ rfl | exact Same.rfl' _)) (by simp only [↓Sh.dn,sx,Nat.reduceBEq,reduceCtorEq,Nat.reduceEqDiff]) ⟨(hc.trans k46.chg).then hc7 fun y hy hlt3=>?_,zo7,oo7,?_,fun y hy=>?_⟩
   ·rcases hy with h1 | h1
    ·exact .inl h1
    ·rcases hof y h1 with h2 | h2
     ·exact .inr h2
     ·omega
   ·have he : (out ++ (l.take (k + 1)).flatMap fun x => (A6l sigma E ends (B6x E (fun s => s ∈ Kl) x) m).map (fun u => w ++ x :: u)).take (most + 1) = ((out ++ (l.take k).flatMap fun x => (A6l sigma E ends (B6x E (fun s => s ∈ Kl) x) m).map (fun u => w ++ x :: u)).take (most + 1) ++ (A6l sigma E ends (B6x E (fun s => s ∈ Kl) x) m).map (w ++ [x] ++ ·)).take (most + 1) := by
      rw [take_app, htake, List.flatMap_append, ← List.append_assoc]
      congr 2
      simp
    rw [he]
    exact hO7
   ·rcases hof7 y hy with h1 | h1
    ·exact hof y h1
    ·have:=k46.next
     exact .inr (by omega)
  ·rintro F H' hF f9 ⟨hc,zo',oo',hO',hof⟩
   have f8:=hF 8 rfl
   simp only [↓Sh.dn,sx,Nat.reduceBEq,reduceCtorEq,Nat.reduceEqDiff] at f8
   rw [List.take_length] at hO'
   simp only [↓Sh.dn,sx,Nat.reduceBEq,reduceCtorEq,Nat.reduceEqDiff,f8,f9,hlen3,A1a,Nat.lt_irrefl,decide_false,hres]
   have hKQ:(fun s=>s∈Kl)=fun s=>Q s∧exE E ends (m+1) s:=funext fun s=>propext (hKm s)
   have hfl:l=sigma.filter fun x=>A9n l x:=by
    refine C6q hlasc (C4i hasc _) fun x=>?_
    rw [List.mem_filter,A0g]
    exact ⟨fun hx=>⟨(hlsub x hx).1,hx⟩,fun h=>h.2⟩
   have he:(A6l sigma E ends Q (m+1)).map (w++·)=l.flatMap fun x=>(A6l sigma E ends (B6x E (fun s=>s∈Kl) x) m).map (fun u=>w++x :: u):=by
    rw [B64,← hKQ,B04,List.map_flatMap]
    rw [← B3i (l:=l) (fun x hx hxl=>by
     rw [B8g,List.map_nil,List.map_nil]
     intro s hs _
     refine hs.of (Q:=fun _=>False) (fun t ⟨s',h1,h2⟩=>hxl ((hlm x).2 ⟨h2.1,s',h1,t,h2.2⟩)) fun _ _ h _=>h),← hfl]
    congr 1
    funext x
    rw [List.map_map]
    rfl
   rw [he]
   refine ⟨k03.chg.trans hc,zo',oo',hO',fun y hy=>?_⟩
   rcases hof y hy with h1 | h1
   ·exact .inl h1
   ·exact .inr (by omega)
end Go.Proofs.YtcgbiedfbacgpaaGreat
/- The reference's Shortlex. -/
namespace Go.Proofs.YtcgbiedfbacgpaaGreat
open Go Go.Proofs Go.Proofs.Sh
def AliveP (H:AH) (P:Nat→Prop) (n:Nat) (z:Value) (ob:Option Nat) (Q:Nat→Nat→Prop) (k:Nat):Prop:=
 (∀ y,ob=some y→P y)∧∃ vals:List Value,Buf H 1 z (vals.map fun x=>[x]) ob∧vals.length=k∧∀ (j:Nat) v,vals[j]?=some v→∃ (B:List Bool) (o:Option Nat),Buf H 1 v (B.map A5p) o∧(∀ y,o=some y→P y∧ob≠some y)∧B.length=n∧∀ t:Nat,B[t]?=some true↔Q j t
theorem AliveP.move {H H':AH} {P P':Nat→Prop} {n:Nat} {z:Value} {ob:Option Nat} {Q:Nat→Nat→Prop} {k:Nat} (h:AliveP H P n z ob Q k) (hw:Wf H) (hk:∀ y,P y→y < H.next→H'.objs.get y=H.objs.get y) (hP:∀ y,P y→y < H.next→P' y):AliveP H' P' n z ob Q k:=by
 obtain ⟨h0,vals,h1,h2,h3⟩:=h
 refine ⟨fun y hy=>hP y (h0 y hy) (h1.lt hw y hy),vals,h1.keep fun y hy=>hk y (h0 y hy) (h1.lt hw y hy),h2,fun j v hv=>?_⟩
 obtain ⟨B,o,h4,h5,h6⟩:=h3 j v hv
 exact ⟨B,o,h4.keep fun y hy=>hk y (h5 y hy).1 (h4.lt hw y hy),fun y hy=>⟨hP y (h5 y hy).1 (h4.lt hw y hy),(h5 y hy).2⟩,h6⟩
theorem B95 {H:AH} {P:Nat→Prop} {n:Nat} {z v:Value} {ob o:Option Nat} {Q:Nat→Nat→Prop} {k:Nat} {B:List Bool} (h:AliveP H P n z ob Q k) (hw:Wf H) (hb:∀ y,H.next≤y→P y) (hB:Buf H 1 v (B.map A5p) o) (ho:∀ y,o=some y→P y∧ob≠some y) (hBl:B.length=n) (hQ:∀ t:Nat,B[t]?=some true↔Q k t) (hk:k≤1073741823):
  ∃ a cap w' H4 ob',z=.slice a k cap∧A4a Tryz.prog 103 1 [(0,v)] H=some (.slice (some ⟨H.next,0,some 0⟩) 1 1,(H.new 1 [v]).2)∧A2a Tryz.prog .append [103,103] [.slice a k cap,.slice (some ⟨H.next,0,some 0⟩) 1 1] (H.new 1 [v]).2=some (w',H4)∧AliveP H4 P n w' ob' Q (k+1)∧Chg (fun y=>ob=some y) H H4∧∀ y,ob'=some y→ob=some y∨H.next≤y:=by
 obtain ⟨h0,vals,h1,h2,h3⟩:=h
 obtain ⟨a,cap,w',H4,ob',e1,e2,e3,e4,e5⟩:=h1.push hw (x:=[v]) rfl
 have hv:=hB.isCell
 have hbs:=B9l (H:=H) (x:=v) (by rw [A8a hv]; rfl) (by rw [A8a hv]; simp [hv])
 rw [A8a hv] at hbs
 rw [List.length_map,h2] at e1 e2
 have ha:=C1c (H:=H) (base:=a) (len:=k) (cap:=cap) (x:=[v]) rfl hk
 rw [e2] at ha
 have hfar:∀ y,o=some y→ob'≠some y:=fun y hy hy2=>by
  rcases e5 y hy2 with h4 | h4
  ·exact (ho y hy).2 h4
  ·have:=hB.lt hw y hy; omega
 refine ⟨a,cap,w',H4,ob',e1,hbs,ha,⟨fun y hy=>?_,vals++[v],by rw [List.map_append]; exact e3,by simp [h2],fun j w hj=>?_⟩,e4,e5⟩
 ·rcases e5 y hy with h4 | h4
  ·exact h0 y h4
  ·exact hb y h4
 ·rcases Nat.lt_or_ge j vals.length with hj1 | hj1
  ·rw [List.getElem?_append_left hj1] at hj
   obtain ⟨B',o',k1,k2,k3⟩:=h3 j w hj
   refine ⟨B',o',k1.chg hw e4 fun y hy hy2=>(k2 y hy).2 hy2,fun y hy=>⟨(k2 y hy).1,fun hy2=>?_⟩,k3⟩
   rcases e5 y hy2 with h4 | h4
   ·exact (k2 y hy).2 h4
   ·have:=k1.lt hw y hy; omega
  ·rw [List.getElem?_append_right hj1] at hj
   have hj0:j - vals.length=0:=by
    have:=(List.getElem?_eq_some_iff.1 hj).1
    simp at this; omega
   have hjk:j=k:=by omega
   rw [hj0] at hj
   have:v=w:=by simpa using hj
   subst this hjk
   exact ⟨B,o,hB.chg hw e4 fun y hy hy2=>(ho y hy).2 hy2,fun y hy=>⟨(ho y hy).1,hfar y hy⟩,hBl,hQ⟩
theorem C1p {H:AH} {P:Nat→Prop} {n:Nat} {z:Value} {ob:Option Nat} {Q:Nat→Nat→Prop} {k j:Nat} (h:AliveP H P n z ob Q k) (hj:j < k):
  ∃ p v,A7b Tryz.prog 103 z (.int .i64 (j:Int))=some (.pointer (some p))∧H.cell p=some v∧∃ B:List Bool,Sl H v 1 (B.map A5p)∧B.length=n∧∀ t:Nat,B[t]?=some true↔Q j t:=by
 obtain ⟨h0,vals,h1,h2,h3⟩:=h
 have hv:vals[j]?=some (vals[j]'(by rw [h2]; exact hj)):=List.getElem?_eq_getElem _
 obtain ⟨B,o,k1,k2,k3⟩:=h3 j _ hv
 obtain ⟨p,i1,i2⟩:=Sl.elem (s:=1) Tryz.underlying103 B7c h1.toSl (i:=j) (u:=vals[j]'(by rw [h2]; exact hj)) (by rw [List.getElem?_map,hv]; rfl)
 exact ⟨p,_,i1,i2,B,k1.toSl,k3⟩
noncomputable def A9i (sigma:List ByteArray) (E:List (List (ByteArray×Nat))) (ends:List Bool) (k:Nat):List (List ByteArray):=(List.range k).flatMap fun m=>A6l sigma E ends (Clo (A1e E A2b) fun s=>s=0) m
theorem B2g (sigma:List ByteArray) (E:List (List (ByteArray×Nat))) (ends:List Bool) (k:Nat):A9i sigma E ends (k+1)=A9i sigma E ends k++A6l sigma E ends (Clo (A1e E A2b) fun s=>s=0) k:=by
 unfold A9i
 rw [List.range_succ,List.flatMap_append]
 simp
theorem B17 (sigma:List ByteArray) (E:List (List (ByteArray×Nat))) (ends:List Bool) {i n:Nat} (h:i≤n):∃ t,A9i sigma E ends n=A9i sigma E ends i++t:=by
 induction n with
 | zero=>exact ⟨[],by rw [show i=0 by omega]; simp⟩
 | succ n ih=>
  by_cases hin:i=n+1
  ·exact ⟨[],by rw [hin]; simp⟩
  obtain ⟨t,ht⟩:=ih (by omega)
  exact ⟨t++A6l sigma E ends (Clo (A1e E A2b) fun s=>s=0) n,by rw [B2g,ht,List.append_assoc]⟩
noncomputable def A5g (all:List (List ByteArray)) (more:Prop) (most:Nat):List (List ByteArray)×Bool×Bool:=
 if most < all.length then (all.take most,true,false) else if tB more=true then (if all.length < most then ([],false,true) else (all,true,false)) else (all,false,false)
theorem B82 {H:AH} {v ev bv:Value} {vals:List Value} {n most:Nat} {E:List (List (ByteArray×Nat))} {ends:List Bool} {sigma:List ByteArray} (h:RG H v n E ends ev bv vals) (htot:(E.map List.length).sum≤1048576) (hasc:Asc sigma) (hsy:∀ x s t,A1e E x s t→x=A2b∨x∈sigma) (hno:A2b∉sigma) (hmost:most≤900) (h1m:1≤most) (hw:Wf H):
  Sh.Call Tryz.prog (knows 7) 29 [v,.int .i64 (most:Int)] H (fun r H'=>Kept H H'∧∃ lv,r=.tuple #[lv,.bool (A5g (A9i sigma E ends 61) (A1o (A1e E A2b) (anyE E) (fun s=>ends[s]?=some true) 61 0) most).2.1,.bool (A5g (A9i sigma E ends 61) (A1o (A1e E A2b) (anyE E) (fun s=>ends[s]?=some true) 61 0) most).2.2]∧∃ vs,JagR H' lv 1 ((A5g (A9i sigma E ends 61) (A1o (A1e E A2b) (anyE E) (fun s=>ends[s]?=some true) 61 0) most).1.map strRow) vs):=by
 refine A3a rfl Tryz.func29 rfl (Nat.le_of_ble_eq_true rfl) ?_
 have hres:Tryz.f29.results.toList=[.tmp 4,.tmp 5,.tmp 6]:=rfl
 have hn1:=h.n1
 have hn2:=h.n2
 have hrb:=RBox.of h hw
 have hk1:Kept H (H.new 3 [.int .i64 0,ev,bv]).2:=Kept.new hw 3 _
 have hE:=h.ed.sl.isCell
 have hB:=h.en.isCell
 rw [h.eq]
 simp only [↓Sh.dn,sx,Nat.reduceBEq,reduceCtorEq,Nat.reduceEqDiff,B0u hE hB]
 generalize (H.new 3 [.int .i64 0,ev,bv]).2=H1 at hrb hk1 ⊢
 generalize hgb:H.next=gb at hrb ⊢
 have hlE:∀ H',A2a Tryz.prog .len [57] [ev] H'=some (.int .i64 (n:Int),H'):=fun H'=>by
  rw [h.ed.sl.len Tryz.underlying57,List.length_map,h.ed.len]; unfold A8h; rw [List.length_map,h.le]
 have hz:decide ((n:Int)=0)=false:=by simp; omega
 obtain ⟨rv,H3,hd3,hk3,R,ot,vs,obs,hJ,hin,hRl,hRr,hRg⟩:=A61 hrb.rg hk1.wf
 have hrb3:=hrb.kept hk1.wf hk3
 simp only [↓Sh.dn,sx,Nat.reduceBEq,reduceCtorEq,Nat.reduceEqDiff,hrb.c1,hlE,hz,hrb.ca,Option.map_some]
 refine ⟨_,_,hd3,?_⟩
 have hs3:=hrb3.rg.en
 obtain ⟨mv,H4,os,a1,a2,a3,a4⟩:=(Buf.void (H:=H3) (s:=1) none).append hk3.wf (xs:=ends.map A5p) (by intro x hx; obtain ⟨b,_,rfl⟩:=List.mem_map.1 hx; rfl)
 have happ:=app_58 (base:=none) (len:=0) (cap:=0) (hs3.srcKind Tryz.underlying58) hs3.newCells (by rw [List.length_map,h.ln]; omega)
 rw [a1] at happ
 have hk4:Kept H3 H4:=a3.kept fun g hg h=>by cases h
 rw [List.nil_append] at a2
 have hos:∀ y,os=some y→H3.next≤y∧y < H4.next:=by
  intro y hy
  rcases a4 with h4 | ⟨h4,h5⟩
  ·rw [h4] at hy; cases hy
  ·rw [h4] at hy; rw [← Option.some.inj hy]; exact ⟨Nat.le_refl _,h5⟩
 have hJ4:=hJ.kept hk3.wf hk4
 have hJn:=hJ.lt hk3.wf
 obtain ⟨rr,H5,hd5,hc5,seen,hb5,hsl5,hi5⟩:=B6d (em:=true) (hk3.trans hk4) hJ4 hRl hRr a2 (fun y hy=>by have:=(hos y hy).1; have:=hk3.next; omega) (fun y hy hj=>by have:=hJn y hj; have:=(hos y hy).1; omega) h.ln hn2
 have hk35:Kept H3 H5:=hk4.then (Nat.le_refl _) (hc5.weak fun y hy=>(hos y hy).1)
 have hJ5:=hJ.kept hk3.wf hk35
 have hrb5:=hrb3.kept hk3.wf hk35
 have hX0:∀ t:Nat,seen[t]?=some true↔exE E ends 0 t:=fun t=>by rw [hi5,B4d hRg]; rfl
 simp only [↓Sh.dn,sx,Nat.reduceBEq,reduceCtorEq,Nat.reduceEqDiff,hrb3.c2,happ]
 refine ⟨_,_,hd5,?_⟩
 have va:∀ xs:Array Value,A7a (.agg xs)=xs.toList:=fun _=>rfl
 have vi:∀ n:Int,A7a (.int .i64 n)=[.int .i64 n]:=fun _=>rfl
 have ci:∀ n:Int,isCell (.int .i64 n)=true:=fun _=>rfl
 have cs:isCell (.slice none 0 0)=true:=rfl
 have bl:A7j Tryz.prog 105 [(0,.agg #[.int .i64 0,ev,bv]),(2,.int .i64 (most:Int))]=some (.agg #[.int .i64 0,ev,bv,.slice none 0 0,.int .i64 (most:Int),.slice none 0 0]):=by
  refine A1f (pl:=[(0,3),(3,1),(4,1),(5,1)]) Tryz.underlying105 B1r (by kernel_rfl) ?_
  simp [A1s,va,vi,ci,hE,hB,setCells,A6a,A1c]
 have nl:∀ (H:AH),anew Tryz.prog 105 H (.agg #[.int .i64 0,ev,bv,.slice none 0 0,.int .i64 (most:Int),.slice none 0 0])=some (.pointer (some ⟨H.next,0,some 0⟩),(H.new 6 [.int .i64 0,ev,bv,.slice none 0 0,.int .i64 (most:Int),.slice none 0 0]).2):=
  fun H=>A9p B49 rfl (by simp [hE,hB,ci,cs])
 have k6:=Kept.new hc5.wf 6 [.int .i64 0,ev,bv,.slice none 0 0,.int .i64 (most:Int),.slice none 0 0]
 have o6:=(Sh.Obj.new (H:=H5) 6 [.int .i64 0,ev,bv,.slice none 0 0,.int .i64 (most:Int),.slice none 0 0]).arr
 have x6:H5.next < (H5.new 6 [.int .i64 0,ev,bv,.slice none 0 0,.int .i64 (most:Int),.slice none 0 0]).2.next:=Nat.lt_succ_self _
 have hrb6:=hrb5.kept hc5.wf k6
 simp only [↓Sh.dn,sx,Nat.reduceBEq,reduceCtorEq,Nat.reduceEqDiff,hrb5.ca,Option.map_some,bl,nl,hrb6.ca]
 generalize hgx:H5.next=gx at o6 x6 ⊢
 generalize (H5.new 6 [.int .i64 0,ev,bv,.slice none 0 0,.int .i64 (most:Int),.slice none 0 0]).2=H6 at k6 o6 x6 hrb6 ⊢
 obtain ⟨r7,H7,hd7,hk7,S0,b7,hb7,hf7,hnd7,hlt7,hi7⟩:=refStart hrb6.rg k6.wf
 refine ⟨_,_,hd7,?_⟩
 have hb0:gx < H7.next:=Nat.lt_of_lt_of_le x6 hk7.next
 have hk57:=k6.trans hk7
 have o7:=o6.keep (hk7.old gx x6)
 have hQ0:(fun t=>t∈S0)=Clo (A1e E A2b) fun s=>s=0:=funext fun t=>propext (hi7 t)
 have hk07:=(hk1.trans hk3).trans (hk35.trans hk57)
 have h67:=hk7.next
 have h13:=hk1.next
 have h33:=hk3.next
 have h35:=hk35.next
 have far:∀ y,y < H5.next→y≠gx:=fun y hy=>by omega
 have hlL:LisAt H7 (fun y=>H7.next≤y∧(none:Option Nat)≠some y) gx ev bv (.slice none 0 0) most (.slice none 0 0) none []:=⟨o7,RowsB.void _ _,fun h=>by omega⟩
 have hA0:AliveP H7 (fun y=>y≠gx∧(none:Option Nat)≠some y) n (.slice none 0 0) none (exE E ends) 0:=⟨fun y hy=>(by cases hy),[],.void none,rfl,fun j v hj=>by simp at hj⟩
 have f0e:A9i sigma E ends 0=[]:=rfl
 have hK5:∀ {H'},Chg (fun y=>y=gx∨H7.next≤y) H7 H'→Kept H5 H':=fun hc=>hk57.then (Nat.le_refl _) (hc.weak fun y hy=>by have:=hk57.next; omega)
 refine A9e 61 11 (List.range' 31 35++[8,11]) (fun i F H'=>Chg (fun y=>y=gx∨H7.next≤y) H7 H'∧(A9i sigma E ends i).length≤most∧∃ zm,F.get 8=some zm∧∃ (X:List Bool) (om:Option Nat) (xv:Value) (ob:Option Nat) (zo:Value) (oo:Option Nat),Buf H' 1 zm (X.map A5p) om∧(∀ y,om=some y→y≠gx∧oo≠some y∧ob≠some y)∧X.length=n∧(∀ t:Nat,X[t]?=some true↔exE E ends i t)∧(∀ y,ob=some y→H7.next≤y)∧LisAt H' (fun y=>H7.next≤y∧ob≠some y) gx ev bv xv most zo oo (A9i sigma E ends i)∧AliveP H' (fun y=>y≠gx∧oo≠some y) n xv ob (exE E ends) i) (by simp only [↓Sh.dn,sx,Nat.reduceBEq,reduceCtorEq,Nat.reduceEqDiff])
  ⟨Chg.refl hk7.wf,by rw [f0e]; exact Nat.zero_le _,mv,by simp only [↓Sh.dn,sx,Nat.reduceBEq,reduceCtorEq,Nat.reduceEqDiff],seen,os,_,none,_,none,hb5.kept hc5.wf hk57,fun y hy=>⟨far y (by have:=(hos y hy).2; have:=hc5.next; omega),(fun h=>by cases h),fun h=>by cases h⟩,hsl5,hX0,(fun y hy=>by cases hy),hlL,hA0⟩ ?_ ?_
 ·rintro i F H' hi hF f11 ⟨hc,hfl,zm,f8,X,om,xv,ob,zo,oo,hX,hom,hXl,hXi,hob,hL,hA⟩ k
  have g1:=hF 1 rfl
  have g7:=hF 7 rfl
  have g9:=hF 9 rfl
  have g10:=hF 10 rfl
  simp only [↓Sh.dn,sx,Nat.reduceBEq,reduceCtorEq,Nat.reduceEqDiff] at g1 g7 g9 g10
  have hgl:=hL.ng
  have hcn:=hc.next
  have hool:=(B6b hL.rows).2.2
  have hoog:∀ y,oo=some y→H7.next≤y:=fun y hy=>(hL.rows.ob y hy).1
  obtain ⟨a,cap,xv2,Ha,ob2,rfl,e1,e2,hA2,hca,hob2⟩:=B95 hA hc.wf (fun y hy=>⟨by omega,fun h=>by have:=hool y hc.wf h; omega⟩) hX (fun y hy=>⟨⟨(hom y hy).1,(hom y hy).2.1⟩,(hom y hy).2.2⟩) hXl hXi (by omega)
  have hobn:∀ y,ob=some y→y≠gx∧oo≠some y:=hA.1
  have ca:=hL.cell.keep (hca.old gx (hL.cell.lt hc.wf) fun h=>(hobn gx h).1 rfl)
  obtain ⟨Hb,s1,s2,s3,s4⟩:=ca.write hca.wf (i:=3) (vs:=[xv2]) (by simp)
  have hx2c:isCell xv2=true:=by
   obtain ⟨_,_,hb,_⟩:=hA2
   exact hb.isCell
  have st:A3e Tryz.prog 103 Ha xv2 (.pointer (some ⟨gx,3,some 0⟩))=some Hb:=by rw [A4d B89 hx2c]; exact s1
  have hcab:Chg (fun y=>ob=some y∨y=gx) H' Hb:=(hca.weak fun y hy=>.inl hy).trans (s4.weak fun y hy=>.inr hy)
  have hcb:Chg (fun y=>y=gx∨H7.next≤y) H7 Hb:=hc.trans (hcab.weak fun y hy=>by
   rcases hy with h1 | h1
   ·exact .inr (hob y h1)
   ·exact .inl h1)
  have hbn:=hcab.next
  have hob2l:∀ y,ob2=some y→y < Ha.next:=fun y hy=>by
   obtain ⟨_,vz,hz1,_⟩:=hA2
   exact hz1.lt hca.wf y hy
  have hHa:Ha.next=Hb.next:=s3.symm
  have hLb : LisAt Hb (fun y => H7.next ≤ y ∧ ob2 ≠ some y) gx ev bv xv2 most zo oo (A9i sigma E ends i) := ⟨s2, hL.rows.move hc.wf (fun y hy hyl => hcab.old y hyl fun h => by
      rcases h with h1 | h1
      · exact hy.2 h1
      · have := hy.1; omega) (fun y hy hyl => ⟨hy.1, fun h => by
      rcases hob2 y h with h1 | h1
      · exact hy.2 h1
      · omega⟩), fun h => by omega⟩
  have hAb:=hA2.move (H':=Hb) (P':=fun y=>y≠gx∧oo≠some y) hca.wf (fun y hy hyl=>s4.old y hyl hy.1) fun y hy _=>hy
  have hXb:=hX.chg hc.wf hcab fun y hy h=>by
   rcases h with h1 | h1
   ·exact (hom y hy).2.2 h1
   ·exact (hom y hy).1 h1
  have hS0:SetAt Hb r7 n (Clo (A1e E A2b) fun s=>s=0):=⟨S0,(hb7.chg hk7.wf hcb fun y hy h=>by
   have h1:=hf7 y hy
   have h2:=hb7.lt hk7.wf y hy
   omega).toSl,hnd7,hlt7,hi7⟩
  obtain ⟨r8,Hc,hd8,hcc,zo2,oo2,hLc,hof⟩:=refWalk (H0:=Hb) (G:=fun y=>H7.next≤y∧ob2≠some y) (base:=Hb.next) (gx:=gx) (n:=n) (most:=most) (long:=i) (oo0:=oo) (E:=E) (ends:=ends) (sigma:=sigma) (ev:=ev) (bv:=bv) (xv:=xv2) (vals:=vals)
   (fun H8 hc8=>(hrb5.rg.kept hc5.wf ((hK5 hcb).then (Nat.le_refl _) (hc8.weak fun y hy=>by
    have:=(hK5 hcb).next
    rcases hy with h1 | h1 | h1
    ·omega
    ·have:=hoog y h1; omega
    ·omega))))
   (fun H8 hc8 j hj=>C1p (hAb.move (P':=fun _=>True) hcb.wf (fun y hy hyl=>hc8.old y hyl fun h=>by
    rcases h with h1 | h1 | h1
    ·exact hy.1 h1
    ·exact hy.2 h1
    ·omega) fun _ _ _=>trivial) (by omega))
   htot hasc hsy hno hmost (by omega) (fun y hy=>⟨by omega,fun h=>by have:=hob2l y h; omega⟩) (by omega)
   i Hb (Clo (A1e E A2b) fun s=>s=0) r7 (.slice none 0 0) [] none _ zo oo (Chg.refl hcb.wf) (Nat.le_refl _) hS0 (fun a b h1 h2=>.step h1 h2) (.void none) (fun y hy=>by cases hy) hLb (fun y hy=>.inl hy) (by omega) (by simp)
  have hlist:(A9i sigma E ends i++(A6l sigma E ends (Clo (A1e E A2b) fun s=>s=0) i).map ([]++·)).take (most+1)=(A9i sigma E ends (i+1)).take (most+1):=by
   rw [B2g]; simp
  rw [hlist] at hLc
  have hcc':Chg (fun y=>y=gx∨H7.next≤y) H7 Hc:=hcb.trans (hcc.weak fun y hy=>by
   rcases hy with h1 | h1
   ·exact .inl h1
   ·exact .inr (hoog y h1))
  have hccn:=hcc.next
  have c3:=hL.cell.cell 3
  have c5:=hLc.cell.cell 5
  simp only [List.getElem?_cons_succ,List.getElem?_cons_zero] at c3 c5
  have hlO:=B13 hLc.rows
  have h60:decide ((i:Int)≤60)=true:=by simp; omega
  simp only [↓Sh.dn,sx,Nat.reduceBEq,reduceCtorEq,Nat.reduceEqDiff,f11,h60,f8,g9,c3,e1,e2,st,g10]
  refine ⟨_,_,hd8,?_⟩
  simp only [↓Sh.dn,sx,Nat.reduceBEq,reduceCtorEq,Nat.reduceEqDiff,g9,c5,hlO,g1,A1a]
  by_cases hmo:most < (A9i sigma E ends (i+1)).length
  ·have h1:decide (most < ((A9i sigma E ends (i+1)).take (most+1)).length)=true:=by rw [decide_eq_true_eq,List.length_take]; omega
   obtain ⟨vz,hz1,hz2,hz3⟩:=hLc.rows.ex
   have hzl:((vz.map fun x=>[x]):List (List Value)).length=most+1:=by rw [List.length_map,hz2,List.length_take]; omega
   obtain ⟨lv,hcut,hsl⟩:=hz1.cut3 (k:=most) (by omega) (by unfold big; omega) (fun h=>by rw [h] at hzl; simp at hzl)
   have hcu:=hcut (P:=Tryz.prog) Tryz.underlying29 A5k
   obtain ⟨tl,htl⟩:=B17 sigma E ends (i:=i+1) (n:=61) (by omega)
   have ho:A5g (A9i sigma E ends 61) (A1o (A1e E A2b) (anyE E) (fun s=>ends[s]?=some true) 61 0) most=((A9i sigma E ends (i+1)).take most,true,false):=by
    unfold A5g
    rw [htl,if_pos (by rw [List.length_append]; omega),List.take_append_of_le_length (by omega)]
   simp only [↓Sh.dn,sx,Nat.reduceBEq,reduceCtorEq,Nat.reduceEqDiff,h1,g9,c5,g1,hcu,hres,ho]
   refine ⟨(hk1.trans (hk3.trans hk35)).trans (hK5 hcc'),lv,rfl,vz.take most,by rw [List.map_take]; exact hsl,by rw [List.length_take,List.length_map,List.length_take,hz2,List.length_take]; omega,fun j w r hw hr=>?_⟩
   rw [List.getElem?_take] at hw
   split at hw
   ·rename_i hj
    rw [List.getElem?_map,List.getElem?_take,if_pos hj] at hr
    obtain ⟨u,hu,rfl⟩:=Option.map_eq_some_iff.1 hr
    obtain ⟨o,h4,_⟩:=hz3 j w u hw (by rw [List.getElem?_take,if_pos (by omega)]; exact hu)
    exact h4.toSl
   ·cases hw
  ·have h1:decide (most < ((A9i sigma E ends (i+1)).take (most+1)).length)=false:=by rw [decide_eq_false_iff_not,List.length_take]; omega
   have htk:(A9i sigma E ends (i+1)).take (most+1)=A9i sigma E ends (i+1):=List.take_of_length_le (by omega)
   rw [htk] at hLc
   have hXc:=hXb.chg hcb.wf hcc fun y hy h=>by
    rcases h with h2 | h2
    ·exact (hom y hy).1 h2
    ·exact (hom y hy).2.1 h2
   obtain ⟨r9,Hd,hd9,hk9,X9,o9,hX9,hX9o,hX9l,hX9i⟩:=B2u (hJ5.kept hc5.wf (hK5 hcc')) hRl hRr hXc.toSl hXl hn1 hn2 hcc.wf
   have hool2:=(B6b hLc.rows).2.2
   simp only [↓Sh.dn,sx,Nat.reduceBEq,reduceCtorEq,Nat.reduceEqDiff,h1,g7,f8]
   refine ⟨_,_,hd9,?_⟩
   simp only [↓Sh.dn,sx,Nat.reduceBEq,reduceCtorEq,Nat.reduceEqDiff,f11,A9a hi (by omega)]
   have h7n:=hcb.next
   refine k _ _ (by repeat (first | refine Same.put ?_ rfl | exact Same.rfl' _)) (by simp only [↓Sh.dn,sx,Nat.reduceBEq,reduceCtorEq,Nat.reduceEqDiff]) ⟨hcc'.trans hk9.chg,by omega,r9,by simp only [↓Sh.dn,sx,Nat.reduceBEq,reduceCtorEq,Nat.reduceEqDiff],X9,o9,xv2,ob2,zo2,oo2,hX9,fun y hy=>?_,hX9l,fun t=>?_,fun y hy=>?_,hLc.kept hcc.wf hk9,?_⟩
   ·have h2:=hX9o y hy
    exact ⟨by omega,fun h=>by have:=hool2 y hcc.wf h; omega,fun h=>by have:=hob2l y h; omega⟩
   ·rw [hX9i,B9g hRg hXi]; rfl
   ·rcases hob2 y hy with h2 | h2
    ·exact hob y h2
    ·omega
   ·refine hAb.move hcb.wf (fun y hy hyl=>?_) fun y hy hyl=>⟨hy.1,fun h=>?_⟩
    ·rw [hk9.old y (by omega),hcc.old y hyl fun h=>?_]
     rcases h with h2 | h2
     ·exact hy.1 h2
     ·exact hy.2 h2
    ·rcases hof y h with h2 | h2
     ·exact hy.2 h2
     ·omega
 ·rintro F H' hF f11 ⟨hc,hfl,zm,f8,X,om,xv,ob,zo,oo,hX,hom,hXl,hXi,hob,hL,hA⟩
  have g1:=hF 1 rfl
  have g2:=hF 2 rfl
  have g9:=hF 9 rfl
  simp only [↓Sh.dn,sx,Nat.reduceBEq,reduceCtorEq,Nat.reduceEqDiff] at g1 g2 g9
  have hrb':=hrb5.kept hc5.wf (hK5 hc)
  obtain ⟨r8,H8,hd8,hk8,rfl⟩:=C2o (m:=61) hrb'.rg (by omega) hc.wf
  have hL8:=hL.kept hc.wf hk8
  have c5:=hL8.cell.cell 5
  simp only [List.getElem?_cons_succ,List.getElem?_cons_zero] at c5
  have hlO:=B13 hL8.rows
  have h61:decide (((61:Nat):Int)≤60)=false:=rfl
  have hkk:=((hk1.trans (hk3.trans hk35)).trans (hK5 hc)).trans hk8
  simp only [↓Sh.dn,sx,Nat.reduceBEq,reduceCtorEq,Nat.reduceEqDiff,f11,h61,g2,hrb'.ca,Option.map_some]
  refine ⟨_,_,by exact hd8,?_⟩
  have hno':¬(most < (A9i sigma E ends 61).length):=by omega
  cases hlo:tB (A1o (A1e E A2b) (anyE E) (fun s=>ends[s]?=some true) 61 0) with
  | false=>
   have ho:A5g (A9i sigma E ends 61) (A1o (A1e E A2b) (anyE E) (fun s=>ends[s]?=some true) 61 0) most=(A9i sigma E ends 61,false,false):=by
    unfold A5g; rw [if_neg hno',hlo,if_neg (by simp)]
   simp only [↓Sh.dn,sx,Nat.reduceBEq,reduceCtorEq,Nat.reduceEqDiff,g9,c5,hres,ho]
   exact ⟨hkk,_,rfl,hL8.rows.read⟩
  | true=>
   simp only [↓Sh.dn,sx,Nat.reduceBEq,reduceCtorEq,Nat.reduceEqDiff,g1,g9,c5,hlO,A1a]
   by_cases hfew:(A9i sigma E ends 61).length < most
   ·have ho : A5g (A9i sigma E ends 61) (A1o (A1e E A2b) (anyE E) (fun s => ends[s]? = some true) 61 0) most = ([], false, true) := by
      unfold A5g; rw [if_neg hno', hlo, if_pos rfl, if_pos hfew]
    simp only [↓Sh.dn, sx, Nat.reduceBEq, reduceCtorEq, Nat.reduceEqDiff, hfew, decide_true, hres, ho]
    exact ⟨hkk, _, rfl, [], Sl.nil _ _, rfl, fun i w r hi => by simp at hi⟩
   ·have ho : A5g (A9i sigma E ends 61) (A1o (A1e E A2b) (anyE E) (fun s => ends[s]? = some true) 61 0) most = (A9i sigma E ends 61, true, false) := by
      unfold A5g; rw [if_neg hno', hlo, if_pos rfl, if_neg hfew]
    simp only [↓Sh.dn, sx, Nat.reduceBEq, reduceCtorEq, Nat.reduceEqDiff, hfew, decide_false, g9, c5, hres, ho]
    exact ⟨hkk, _, rfl, hL8.rows.read⟩
end Go.Proofs.YtcgbiedfbacgpaaGreat
/- (*graph.Graph).Useful, Trim. -/
namespace Go.Proofs.YtcgbiedfbacgpaaGreat
open Go Go.Proofs Go.Proofs.Sh
def C6l (E:List (List (Nat×Int×Int×Int))) (ends:List Int) (t:Nat):Prop:=Clo (B73 E fun _=>True) (fun s=>s=0) t∧Clo (fun s t=>B73 E (fun _=>True) t s) (fun s=>0 < ends.getD s 0) t
end Go.Proofs.YtcgbiedfbacgpaaGreat
/- (*graph.Graph).Trim. -/
namespace Go.Proofs.YtcgbiedfbacgpaaGreat
open Go Go.Proofs Go.Proofs.Sh
def C5x (U:List Bool) (r:List (Nat×Int×Int×Int)):List (Nat×Int×Int×Int):=(r.filter fun e=>decide (U[e.1]?=some true)).map fun e=>(numU U e.1,e.2)
structure TrimI (E:List (List (Nat×Int×Int×Int))) (ends:List Int) (U:List Bool) (m i:Nat) (R:List (List (Nat×Int×Int×Int))) (es:List Int):Prop where
 lr:R.length=m
 le:es.length=m
 row:∀ s r,s < i→U[s]?=some true→E[s]?=some r→R[numU U s]?=some (C5x U r)
 non:∀ a,a < m→(∀ s,s < i→U[s]?=some true→numU U s≠a)→R[a]?=some []
 fin:∀ s,s < i→U[s]?=some true→es.getD (numU U s) 0=ends.getD s 0
 nof:∀ a,(∀ s,s < i→U[s]?=some true→numU U s≠a)→es.getD a 0=0
theorem TrimI.none (E:List (List (Nat×Int×Int×Int))) (ends:List Int) (U:List Bool) (m:Nat):TrimI E ends U m 0 (List.replicate m []) (List.replicate m 0):=
 ⟨by simp,by simp,fun s r hs=>absurd hs (Nat.not_lt_zero s),fun a ha _=>by rw [List.getElem?_replicate,if_pos ha],fun s hs=>absurd hs (Nat.not_lt_zero s),fun a _=>by
  rw [List.getD_eq_getElem?_getD,List.getElem?_replicate]; split <;> rfl⟩
section
variable {E:List (List (Nat×Int×Int×Int))} {ends:List Int} {U:List Bool} {m i:Nat} {R:List (List (Nat×Int×Int×Int))} {es:List Int}
theorem TrimI.skip (h:TrimI E ends U m i R es) (hi:U[i]?≠some true):TrimI E ends U m (i+1) R es:=by
 have key:∀ s,s < i+1→U[s]?=some true→s < i:=fun s hs hu=>by
  rcases Nat.lt_or_ge s i with h1 | h1
  ·exact h1
  ·have:s=i:=by omega
   subst this; exact absurd hu hi
 exact ⟨h.lr,h.le,fun s r hs hu=>h.row s r (key s hs hu) hu,fun a ha hn=>h.non a ha fun s hs=>hn s (by omega),fun s hs hu=>h.fin s (key s hs hu) hu,fun a hn=>h.nof a fun s hs=>hn s (by omega)⟩
theorem TrimI.add (h:TrimI E ends U m i R es) (hi:U[i]?=some true) (hm:numU U i < m) {r:List (Nat×Int×Int×Int)} (hr:E[i]?=some r) {x:Int} (hx:ends.getD i 0=x):TrimI E ends U m (i+1) (R.set (numU U i) (C5x U r)) (es.set (numU U i) x):=by
 have hne:∀ s,s < i→U[s]?=some true→numU U i≠numU U s:=fun s hs hu he=>by have:=B88 (.inl hi) (.inl hu) he; omega
 refine ⟨by simp [h.lr],by simp [h.le],fun s r' hs hu hr'=>?_,fun a ha hn=>?_,fun s hs hu=>?_,fun a hn=>?_⟩
 ·rw [List.getElem?_set,h.lr]
  by_cases hsi:s=i
  ·subst hsi
   rw [hr] at hr'
   rw [if_pos rfl,if_pos hm,Option.some.inj hr']
  ·rw [if_neg (hne s (by omega) hu)]
   exact h.row s r' (by omega) hu hr'
 ·rw [List.getElem?_set,if_neg (hn i (by omega) hi)]
  exact h.non a ha fun s hs=>hn s (by omega)
 ·rw [List.getD_eq_getElem?_getD,List.getElem?_set,h.le]
  by_cases hsi:s=i
  ·subst hsi
   rw [if_pos rfl,if_pos hm,hx]; rfl
  ·rw [if_neg (hne s (by omega) hu),← List.getD_eq_getElem?_getD]
   exact h.fin s (by omega) hu
 ·rw [List.getD_eq_getElem?_getD,List.getElem?_set,if_neg (hn i (by omega) hi),← List.getD_eq_getElem?_getD]
  exact h.nof a fun s hs=>hn s (by omega)
theorem TrimI.of {n:Nat} (h:TrimI E ends U (1+B52 U n) n R es) (hE:E.length=n) (hU:U.length=n) (hto:∀ (s:Nat) r,E[s]?=some r→∀ e∈r,e.1 < n) (hu:∀ t:Nat,U[t]?=some true↔C6l E ends t):
  TrimOf (fun x s t=>B73 E (fun k=>k=x) s t) (fun x s t=>B73 R (fun k=>k=x) s t) (fun s=>U[s]?=some true) (numU U) (fun s=>0 < ends.getD s 0) (fun s=>0 < es.getD s 0):=by
 have hlt:∀ s,U[s]?=some true→s < n:=fun s hs=>by rw [← hU]; exact (List.getElem?_eq_some_iff.1 hs).1
 refine ⟨fun x a b=>?_,fun a=>?_,C3u U,fun s t hs ht he=>B88 hs ht he,fun s=>?_⟩
 ·constructor
  ·rintro ⟨r',h1,e',h2,h3,h4⟩
   by_cases hex:∃ s,U[s]?=some true∧numU U s=a
   ·obtain ⟨s,hs,rfl⟩:=hex
    have hsn:=hlt s hs
    have hr:E[s]?=some (E[s]'(by rw [hE]; exact hsn)):=List.getElem?_eq_getElem _
    generalize E[s]'(by rw [hE]; exact hsn)=r at hr
    rw [h.row s r hsn hs hr] at h1
    rw [← Option.some.inj h1] at h2
    obtain ⟨e,h5,h6⟩:=List.mem_map.1 h2
    obtain ⟨h7,h8⟩:=List.mem_filter.1 h5
    subst h6
    exact ⟨s,e.1,hs,of_decide_eq_true h8,rfl,h3.symm,r,hr,e,h7,rfl,h4⟩
   ·have ha:a < 1+B52 U n:=by rw [← h.lr]; exact (List.getElem?_eq_some_iff.1 h1).1
    rw [h.non a ha fun s _ hs he=>hex ⟨s,hs,he⟩] at h1
    rw [← Option.some.inj h1] at h2
    cases h2
  ·rintro ⟨s,t,hs,ht,rfl,rfl,r,h1,e,h2,h3,h4⟩
   refine ⟨_,h.row s r (hlt s hs) hs h1,(numU U e.1,e.2),List.mem_map.2 ⟨e,List.mem_filter.2 ⟨h2,decide_eq_true (by rw [h3]; exact ht)⟩,rfl⟩,by rw [h3],h4⟩
 ·constructor
  ·intro ha
   by_cases hex:∃ s,U[s]?=some true∧numU U s=a
   ·obtain ⟨s,hs,rfl⟩:=hex
    exact ⟨s,hs,rfl,by rw [← h.fin s (hlt s hs) hs]; exact ha⟩
   ·rw [h.nof a fun s _ hs he=>hex ⟨s,hs,he⟩] at ha
    exact absurd ha (Int.lt_irrefl 0)
  ·rintro ⟨s,hs,rfl,h1⟩
   rw [h.fin s (hlt s hs) hs]; exact h1
 ·rw [hu]
  unfold C6l
  have e1:(B73 E fun _=>True)=fun s t=>∃ x,B73 E (fun k=>k=x) s t:=by
   funext s t
   apply propext
   unfold B73
   constructor
   ·rintro ⟨r,h1,e,h2,h3,_⟩; exact ⟨_,r,h1,e,h2,h3,rfl⟩
   ·rintro ⟨x,r,h1,e,h2,h3,_⟩; exact ⟨r,h1,e,h2,h3,trivial⟩
  rw [e1]
end
end Go.Proofs.YtcgbiedfbacgpaaGreat
/- auto.Words. -/
namespace Go.Proofs.YtcgbiedfbacgpaaGreat
open Go Go.Proofs Go.Proofs.Sh
noncomputable def A5l (N:NetD):List (List ByteArray):=B8y N.sigma (A16 N) 60
def B9q (N:NetD):Prop:=∃ w:List ByteArray,60 < w.length∧(∀ x∈w,x∈N.sigma)∧A16 N w
noncomputable def A6q (N:NetD) (most:Int):List (List ByteArray)×Bool×Int:=
 if A2t N≠0 then ([],false,A2t N) else if most < 1∨200 < most then ([],false,1) else B8a (A5l N) (B9q N) most.toNat
section
variable {N:NetD} {R:List (List (Nat×Int×Int×Int))} {es:List Int} {us:Nat→Prop} {f:Nat→Nat}
end
end Go.Proofs.YtcgbiedfbacgpaaGreat
/- The reference's Words; lists of lists of texts are held against each other. -/
namespace Go.Proofs.YtcgbiedfbacgpaaGreat
open Go Go.Proofs Go.Proofs.Sh
section
variable {N:NetD}
theorem B42 (hok:B3a N) {u:List ByteArray} (hu:∀ x∈u,x∈N.sigma):
  accS (A1e (A3k N) A2b) (symE (A3k N)) (fun s=>(marksOf EndD.state N.states.toNat N.ends)[s]?=some true) (Clo (A1e (A3k N) A2b) fun s=>s=0) u↔A16 N u:=by
 have hne:∀ x∈u,x≠A2b:=fun x hx h0=>B1m hok (h0 ▸ hu x hx)
 unfold accS A16 NetD.run NetD.clo
 rw [A85 hok]
 have hrun:∀ t,RunS (N.goes A2b) (symE (A3k N)) (Clo (N.goes A2b) fun s=>s=0) u t↔RunS (N.goes A2b) N.goes (Clo (N.goes A2b) fun s=>s=0) u t:=fun t=>by
  have:=RunS.congr (f:=id) (E:=N.goes A2b) (E':=N.goes A2b) (A:=symE (A3k N)) (B:=N.goes) (fun _ _=>Iff.rfl) (w:=u) (S:=Clo (N.goes A2b) fun s=>s=0) (fun _=>Iff.rfl) (fun x hx s t=>by
   unfold symE
   rw [A85 hok]
   exact ⟨fun h=>h.2,fun h=>⟨hne x hx,h⟩⟩) t
  rw [List.map_id] at this
  exact this
 constructor
 ·rintro ⟨t,h1,h2⟩; exact ⟨hne,t,(hrun t).1 h1,(B7o hok t).1 h2⟩
 ·rintro ⟨_,t,h1,h2⟩; exact ⟨t,(hrun t).2 h1,(B7o hok t).2 h2⟩
theorem ref_all (hok:B3a N):A9i N.sigma (A3k N) (marksOf EndD.state N.states.toNat N.ends) 61=A5l N:=
 B63 fun u hu=>B42 hok hu
theorem C4n (hok:B3a N) (x:ByteArray) (s t:Nat) (h:A1e (A3k N) x s t):x=A2b∨x∈N.sigma:=by
 rw [A85 hok] at h
 obtain ⟨a,ha,_,h2,_⟩:=h
 rw [← h2]
 exact (hok.arc a ha).2.2.2.2.1
theorem ref_long (hok:B3a N):A1o (A1e (A3k N) A2b) (anyE (A3k N)) (fun s=>(marksOf EndD.state N.states.toNat N.ends)[s]?=some true) 61 0↔B9q N:=by
 rw [A31]
 constructor
 ·rintro ⟨j,hj⟩
  obtain ⟨w,⟨h1,h2⟩,h3⟩:=B8b (A:=symE (A3k N)) (q:=fun x=>x∈N.sigma) (fun s t ⟨x,hx,h⟩=>⟨x,(C4n hok x s t h).resolve_left hx,hx,h⟩) (S:=Clo (A1e (A3k N) A2b) fun s=>s=0) (fun a b h1 h2=>.step h1 h2) ⟨0,.base rfl,hj⟩
  exact ⟨w,by omega,h2,(B42 hok h2).1 h3⟩
 ·rintro ⟨w,h1,h2,h3⟩
  obtain ⟨s,h4,h5⟩:=A8w (any:=anyE (A3k N)) B3p ((B42 hok h2).2 h3)
  exact ⟨w.length - 61,by rw [show 61+(w.length - 61)=w.length by omega]; exact A2y h4 h5⟩
end
theorem B93 (all:List (List ByteArray)) (P:Prop) (most:Nat):
  B8a all P most=((A5g all P most).1,(A5g all P most).2.1,if (A5g all P most).2.2=true then 3 else 0)∧((A5g all P most).2.2=true→(A5g all P most).1=[]∧(A5g all P most).2.1=false):=by
 unfold B8a A5g
 split
 ·exact ⟨rfl,fun h=>by cases h⟩
 ·split
  ·split
   ·exact ⟨rfl,fun _=>⟨rfl,rfl⟩⟩
   ·exact ⟨rfl,fun h=>by cases h⟩
  ·exact ⟨rfl,fun h=>by cases h⟩
theorem refWords {H:AH} {v:Value} {N:NetD} {most:Int} (h:B2a H v N) (hsm:A6z N) (hw:Wf H):
  Sh.Call Tryz.prog (knows 7) 9 [v,.int .i64 most] H (fun r H'=>Kept H H'∧∃ lv,r=.tuple #[lv,.bool (A6q N most).2.1,.int .i64 (A6q N most).2.2]∧∃ vs,JagR H' lv 1 ((A6q N most).1.map strRow) vs):=by
 refine A3a rfl Tryz.func9 rfl (Nat.le_of_ble_eq_true rfl) ?_
 have hres:Tryz.f9.results.toList=[.tmp 4,.tmp 5,.tmp 6]:=rfl
 obtain ⟨sg,ar,en,rfl,hsg,har,hen⟩:=h
 have hb1:=NetBox.of (N:=N) hw hsg har hen
 have hk1:Kept H (H.new 4 [sg,.int .i64 N.states,ar,en]).2:=Kept.new hw 4 _
 simp only [↓Sh.dn,sx,Nat.reduceBEq,reduceCtorEq,Nat.reduceEqDiff,B5m hsg.isCell har.isCell hen.isCell]
 generalize H.next=gg at hb1 ⊢
 generalize (H.new 4 [sg,.int .i64 N.states,ar,en]).2=H1 at hb1 hk1 ⊢
 obtain ⟨r,H2,hd2,hk2,rfl⟩:=B1g hb1.netAt hsm hk1.wf
 have hb2:=hb1.kept hk1.wf hk2
 simp only [↓Sh.dn,sx,Nat.reduceBEq,reduceCtorEq,Nat.reduceEqDiff,hb1.c0,hb1.c1,hb1.c2,hb1.c3,hb1.ca,A8b hb1,A9b hb1,A0c hb1,Option.map_some]
 refine ⟨_,_,hd2,?_⟩
 have hk12:=hk1.trans hk2
 have nil:∀ {H':AH},∃ vs,JagR H' (.slice none 0 0) 1 (([]:List (List ByteArray)).map strRow) vs:=fun {H'}=>⟨[],Sl.nil _ _,rfl,fun i w r hi=>by simp at hi⟩
 by_cases hA:A2t N=0
 case neg=>
  have ho:A6q N most=([],false,A2t N):=by unfold A6q; rw [if_pos hA]
  simp only [↓Sh.dn,sx,Nat.reduceBEq,reduceCtorEq,Nat.reduceEqDiff,hA,decide_false,hres,ho]
  exact ⟨hk12,_,rfl,nil⟩
 simp only [↓Sh.dn,sx,Nat.reduceBEq,reduceCtorEq,Nat.reduceEqDiff,hA,decide_true]
 by_cases h1:most < 1
 ·have ho:A6q N most=([],false,1):=by unfold A6q; rw [if_neg (by simpa using hA),if_pos (.inl h1)]
  simp only [↓Sh.dn,sx,Nat.reduceBEq,reduceCtorEq,Nat.reduceEqDiff,h1,decide_true,hres,ho]
  exact ⟨hk12,_,rfl,nil⟩
 by_cases h2:200 < most
 ·have ho:A6q N most=([],false,1):=by unfold A6q; rw [if_neg (by simpa using hA),if_pos (.inr h2)]
  simp only [↓Sh.dn,sx,Nat.reduceBEq,reduceCtorEq,Nat.reduceEqDiff,h1,h2,decide_false,decide_true,hres,ho]
  exact ⟨hk12,_,rfl,nil⟩
 have hok:=C9t hA
 obtain ⟨r,H3,hd3,hk3,ev,bv,vals,hR⟩:=C4j hb2.netAt hok hsm hk2.wf
 obtain ⟨mm,rfl⟩:∃ mm:Nat,most=(mm:Int):=⟨most.toNat,by omega⟩
 have htot:((A3k N).map List.length).sum≤1048576:=Nat.le_trans C6h (Nat.le_trans hok.ar (by decide))
 obtain ⟨r,H4,hd4,hk4,lv,rfl,vs,hJ⟩:=B82 (most:=mm) hR htot hok.asc (C4n hok) (B1m hok) (by omega) (by omega) hk3.wf
 rw [ref_all hok,propext (ref_long hok)] at hJ hd4
 obtain ⟨ho1,ho2⟩:=B93 (A5l N) (B9q N) mm
 have ho:A6q N (mm:Int)=((A5g (A5l N) (B9q N) mm).1,(A5g (A5l N) (B9q N) mm).2.1,if (A5g (A5l N) (B9q N) mm).2.2=true then 3 else 0):=by
  rw [← ho1]; unfold A6q; rw [if_neg (by simpa using hA),if_neg (by omega),Int.toNat_natCast]
 simp only [↓Sh.dn,sx,Nat.reduceBEq,reduceCtorEq,Nat.reduceEqDiff,h1,h2,decide_false,hb2.c0,hb2.c1,hb2.c2,hb2.c3,hb2.ca,A8b hb2,A9b hb2,A0c hb2,Option.map_some]
 refine ⟨_,_,hd3,?_⟩
 refine ⟨_,_,hd4,?_⟩
 have hkk:=(hk12.trans hk3).trans hk4
 cases hlg:(A5g (A5l N) (B9q N) mm).2.2 with
 | true=>
  obtain ⟨e1,e2⟩:=ho2 hlg
  rw [hlg,e1,e2,if_pos rfl] at ho
  simp only [↓Sh.dn,sx,Nat.reduceBEq,reduceCtorEq,Nat.reduceEqDiff,hlg,hres,ho]
  exact ⟨hkk,_,rfl,nil⟩
 | false=>
  rw [hlg,if_neg (by simp)] at ho
  simp only [↓Sh.dn,sx,Nat.reduceBEq,reduceCtorEq,Nat.reduceEqDiff,hlg,hres,ho]
  exact ⟨hkk,lv,rfl,vs,hJ⟩
theorem B02 {H:AH} {v u:Value} {l:List (List ByteArray)} {vs ws:List Value} (hl:JagR H v 1 (l.map strRow) vs) (hm:JagR H u 1 (l.map strRow) ws) (hll:l.length≤1048576) (hx:∀ w∈l,w.length≤1048576) (hw:Wf H):
  Sh.Call Tryz.prog (knows 7) 10 [v,u] H (fun r H'=>H'=H∧r=.bool true):=by
 refine A3a rfl Tryz.func10 rfl (Nat.le_of_ble_eq_true rfl) ?_
 have hres:Tryz.f10.results.toList=[.tmp 4]:=rfl
 have l1:∀ H',A2a Tryz.prog .len [29] [v] H'=some (.int .i64 (l.length:Int),H'):=fun H'=>by
  rw [hl.sl.len Tryz.underlying29,List.length_map,hl.len,List.length_map]
 have l2:∀ H',A2a Tryz.prog .len [29] [u] H'=some (.int .i64 (l.length:Int),H'):=fun H'=>by
  rw [hm.sl.len Tryz.underlying29,List.length_map,hm.len,List.length_map]
 simp only [↓Sh.dn,sx,Nat.reduceBEq,reduceCtorEq,Nat.reduceEqDiff,l1,l2,eq_self,decide_true,Bool.not_true]
 refine A9e l.length 5 (List.range' 5 22) (fun i F H'=>H'=H) (by simp only [↓Sh.dn,sx,Nat.reduceBEq,reduceCtorEq,Nat.reduceEqDiff]) rfl ?_ ?_
 ·rintro i F H' hi hF f5 rfl k
  have f0:=hF 0 rfl
  have f1:=hF 1 rfl
  simp only [↓Sh.dn,sx,Nat.reduceBEq,reduceCtorEq,Nat.reduceEqDiff] at f0 f1
  obtain ⟨g1,o1,k1,w1,i1,c1,s1⟩:=hl.at Tryz.underlying29 A5k (i:=i) (r:=strRow l[i]) (by rw [List.getElem?_map,List.getElem?_eq_getElem hi]; rfl)
  obtain ⟨g2,o2,k2,w2,i2,c2,s2⟩:=hm.at Tryz.underlying29 A5k (i:=i) (r:=strRow l[i]) (by rw [List.getElem?_map,List.getElem?_eq_getElem hi]; rfl)
  have hli:=hx _ (List.getElem_mem hi)
  obtain ⟨r3,H3,hd3,e3,rfl⟩:=C9y (l:=l[i]) (m:=l[i]) s1 s2 hli hli hw
  rw [e3] at hd3
  have ht:decide (l[i]=l[i])=true:=decide_eq_true rfl
  rw [ht] at hd3
  simp only [↓Sh.dn,sx,Nat.reduceBEq,reduceCtorEq,Nat.reduceEqDiff,f0,f5,l1,A1a,hi,decide_true]
  refine (A1b (by kernel_rfl)).2 ?_
  simp only [↓Sh.dn,sx,Nat.reduceBEq,reduceCtorEq,Nat.reduceEqDiff,f0,f1,f5,i1,c1,i2,c2]
  refine ⟨_,_,hd3,?_⟩
  simp only [↓Sh.dn,sx,Nat.reduceBEq,reduceCtorEq,Nat.reduceEqDiff,f5,wrap_succ hi hll]
  exact k _ _ (by repeat (first | refine Same.put ?_ rfl | exact Same.rfl' _)) (by simp only [↓Sh.dn,sx,Nat.reduceBEq,reduceCtorEq,Nat.reduceEqDiff]) rfl
 ·rintro F H' hF f5 rfl
  have f0:=hF 0 rfl
  simp only [↓Sh.dn,sx,Nat.reduceBEq,reduceCtorEq,Nat.reduceEqDiff] at f0
  simp only [↓Sh.dn,sx,Nat.reduceBEq,reduceCtorEq,Nat.reduceEqDiff,f0,f5,l1,A1a,Nat.lt_irrefl,decide_false,hres]
end Go.Proofs.YtcgbiedfbacgpaaGreat
/- Nets that are alike are found alike. -/
namespace Go.Proofs.YtcgbiedfbacgpaaGreat
open Go Go.Proofs Go.Proofs.Sh
theorem sameNet {H:AH} {v u:Value} {N:NetD} (h:B2a H v N) (h':B2a H u N) (hsm:A6z N) (hw:Wf H):
  Sh.Call Tryz.prog (knows 7) 21 [v,u] H (fun r H'=>Kept H H'∧r=.bool true):=by
 refine A3a rfl Tryz.func21 rfl (Nat.le_of_ble_eq_true rfl) ?_
 have hres:Tryz.f21.results.toList=[.tmp 4]:=rfl
 obtain ⟨sg,ar,en,rfl,hsg,har,hen⟩:=h
 obtain ⟨sg',ar',en',rfl,hsg',har',hen'⟩:=h'
 have hb0:=NetBox.of (N:=N) hw hsg har hen
 have hk1:Kept H (H.new 4 [sg,.int .i64 N.states,ar,en]).2:=Kept.new hw 4 _
 have hg0:=hk1.grow hw
 have hc1:=NetBox.of (N:=N) hk1.wf (hsg'.grow hg0) (har'.grow hg0) (hen'.grow hg0)
 have hb1:=hb0.new hk1.wf 4 [sg',.int .i64 N.states,ar',en']
 have hk2:=hk1.news 4 [sg',.int .i64 N.states,ar',en']
 simp only [↓Sh.dn,sx,Nat.reduceBEq,reduceCtorEq,Nat.reduceEqDiff,B5m hsg.isCell har.isCell hen.isCell,B5m hsg'.isCell har'.isCell hen'.isCell]
 generalize ((H.new 4 [sg,.int .i64 N.states,ar,en]).2.new 4 [sg',.int .i64 N.states,ar',en']).2=H1 at hb1 hc1 hk2 ⊢
 generalize (H.new 4 [sg,.int .i64 N.states,ar,en]).2.next=g2 at hc1 ⊢
 generalize H.next=g1 at hb1 ⊢
 simp only [↓Sh.dn,sx,Nat.reduceBEq,reduceCtorEq,Nat.reduceEqDiff,hb1.c0,hb1.c1,hb1.c2,hb1.c3,hb1.ca,A8b hb1,A9b hb1,A0c hb1,hc1.c0,hc1.c1,hc1.c2,hc1.c3,hc1.ca,A8b hc1,A9b hc1,A0c hc1,decide_true]
 refine A9e N.sigma.length 5 (List.range' 40 18++[4,5]) (fun i F H'=>H'=H1) (by simp only [↓Sh.dn,sx,Nat.reduceBEq,reduceCtorEq,Nat.reduceEqDiff]) rfl ?_ ?_
 ·rintro i F H' hlt hF f5 rfl k
  have f2:=hF 2 rfl
  have f3:=hF 3 rfl
  simp only [↓Sh.dn,sx,Nat.reduceBEq,reduceCtorEq,Nat.reduceEqDiff] at f2 f3
  obtain ⟨g,o,kk,hia,hc,hcc⟩:=hb1.hsg.at Tryz.underlying22 A6h (i:=i) (x:=A5a N.sigma[i]) (by simp [hlt]) .i64
  obtain ⟨g',o',kk',hia',hc',hcc'⟩:=hc1.hsg.at Tryz.underlying22 A6h (i:=i) (x:=A5a N.sigma[i]) (by simp [hlt]) .i64
  have hy:=hcc 0 _ rfl
  have hy':=hcc' 0 _ rfl
  simp only [Nat.add_zero] at hy hy'
  simp only [↓Sh.dn,sx,Nat.reduceBEq,reduceCtorEq,Nat.reduceEqDiff,hb1.c0,hb1.c1,hb1.c2,hb1.c3,hb1.ca,A8b hb1,A9b hb1,A0c hb1,hc1.c0,hc1.c1,hc1.c2,hc1.c3,hc1.ca,A8b hc1,A9b hc1,A0c hc1,f2,f3,A1a,hlt,decide_true,f5,hia,hia',hy,hy',wrap_succ hlt hsm.sg]
  exact k _ _ (by repeat (first | refine Same.put ?_ rfl | exact Same.rfl' _)) (by simp only [↓Sh.dn,sx,Nat.reduceBEq,reduceCtorEq,Nat.reduceEqDiff]) rfl
 rintro F H' hF f5 rfl
 have f2:=hF 2 rfl
 have f3:=hF 3 rfl
 clear hF
 simp only [↓Sh.dn,sx,Nat.reduceBEq,reduceCtorEq,Nat.reduceEqDiff] at f2 f3
 simp only [↓Sh.dn,sx,Nat.reduceBEq,reduceCtorEq,Nat.reduceEqDiff,hb1.c0,hb1.c1,hb1.c2,hb1.c3,hb1.ca,A8b hb1,A9b hb1,A0c hb1,hc1.c0,hc1.c1,hc1.c2,hc1.c3,hc1.ca,A8b hc1,A9b hc1,A0c hc1,f2,f3,f5,A1a,Nat.lt_irrefl,decide_false]
 refine A9e N.arcs.length 6 (List.range' 58 18++[4,6]) (fun i F H''=>H''=H') (by simp only [↓Sh.dn,sx,Nat.reduceBEq,reduceCtorEq,Nat.reduceEqDiff]) rfl ?_ ?_
 ·rintro i F' H'' hlt hF f6 rfl k
  have f2:=(hF 2 rfl)
  have f3:=(hF 3 rfl)
  simp only [↓Sh.dn,sx,Nat.reduceBEq,reduceCtorEq,Nat.reduceEqDiff, *] at f2 f3
  obtain ⟨g,o,kk,hia,hc,hcc⟩:=hb1.har.at Tryz.underlying23 A9r (i:=i) (x:=N.arcs[i].cells) (by simp [hlt]) .i64
  obtain ⟨g',o',kk',hia',hc',hcc'⟩:=hc1.har.at Tryz.underlying23 A9r (i:=i) (x:=N.arcs[i].cells) (by simp [hlt]) .i64
  clear hcc hcc'
  simp only [↓Sh.dn,sx,Nat.reduceBEq,reduceCtorEq,Nat.reduceEqDiff,hb1.c0,hb1.c1,hb1.c2,hb1.c3,hb1.ca,A8b hb1,A9b hb1,A0c hb1,hc1.c0,hc1.c1,hc1.c2,hc1.c3,hc1.ca,A8b hc1,A9b hc1,A0c hc1,f2,f3,A1a,hlt,decide_true,f6,hia,hia',hc,hc',Option.map_some,eqArc,wrap_succ hlt hsm.ar]
  exact k _ _ (by repeat (first | refine Same.put ?_ rfl | exact Same.rfl' _)) (by simp only [↓Sh.dn,sx,Nat.reduceBEq,reduceCtorEq,Nat.reduceEqDiff]) rfl
 rintro F' H'' hF f6 rfl
 have g2':=(hF 2 rfl)
 have g3':=(hF 3 rfl)
 clear hF
 simp only [↓Sh.dn,sx,Nat.reduceBEq,reduceCtorEq,Nat.reduceEqDiff,f2,f3] at g2' g3'
 simp only [↓Sh.dn,sx,Nat.reduceBEq,reduceCtorEq,Nat.reduceEqDiff,hb1.c0,hb1.c1,hb1.c2,hb1.c3,hb1.ca,A8b hb1,A9b hb1,A0c hb1,hc1.c0,hc1.c1,hc1.c2,hc1.c3,hc1.ca,A8b hc1,A9b hc1,A0c hc1,g2',g3',f6,A1a,Nat.lt_irrefl,decide_false]
 refine A9e N.ends.length 7 (List.range' 76 18++[4,7]) (fun i F H'=>H'=H'') (by simp only [↓Sh.dn,sx,Nat.reduceBEq,reduceCtorEq,Nat.reduceEqDiff]) rfl ?_ ?_
 ·rintro i F' H' hlt hF f7 rfl k
  have f2:=(hF 2 rfl)
  have f3:=(hF 3 rfl)
  simp only [↓Sh.dn,sx,Nat.reduceBEq,reduceCtorEq,Nat.reduceEqDiff, *] at f2 f3
  obtain ⟨g,o,kk,hia,hc,hcc⟩:=hb1.hen.at Tryz.underlying24 A3t (i:=i) (x:=N.ends[i].cells) (by simp [hlt]) .i64
  obtain ⟨g',o',kk',hia',hc',hcc'⟩:=hc1.hen.at Tryz.underlying24 A3t (i:=i) (x:=N.ends[i].cells) (by simp [hlt]) .i64
  clear hcc hcc'
  simp only [↓Sh.dn,sx,Nat.reduceBEq,reduceCtorEq,Nat.reduceEqDiff,hb1.c0,hb1.c1,hb1.c2,hb1.c3,hb1.ca,A8b hb1,A9b hb1,A0c hb1,hc1.c0,hc1.c1,hc1.c2,hc1.c3,hc1.ca,A8b hc1,A9b hc1,A0c hc1,f2,f3,A1a,hlt,decide_true,f7,hia,hia',hc,hc',Option.map_some,eqEnd,wrap_succ hlt hsm.en]
  exact k _ _ (by repeat (first | refine Same.put ?_ rfl | exact Same.rfl' _)) (by simp only [↓Sh.dn,sx,Nat.reduceBEq,reduceCtorEq,Nat.reduceEqDiff]) rfl
 rintro F' H' hF f7 rfl
 have f2:=(hF 2 rfl)
 have f3:=(hF 3 rfl)
 simp only [↓Sh.dn,sx,Nat.reduceBEq,reduceCtorEq,Nat.reduceEqDiff, *] at f2 f3
 simp only [↓Sh.dn,sx,Nat.reduceBEq,reduceCtorEq,Nat.reduceEqDiff,hb1.c0,hb1.c1,hb1.c2,hb1.c3,hb1.ca,A8b hb1,A9b hb1,A0c hb1,hc1.c0,hc1.c1,hc1.c2,hc1.c3,hc1.ca,A8b hc1,A9b hc1,A0c hc1,f2,f3,f7,A1a,Nat.lt_irrefl,decide_false,hres,hk2]
end Go.Proofs.YtcgbiedfbacgpaaGreat
/- Whether there is far more in a net than may be. -/
namespace Go.Proofs.YtcgbiedfbacgpaaGreat
open Go Go.Proofs Go.Proofs.Sh
def A7r (l:List ByteArray):Nat:=(l.map fun s=>s.size).sum
end Go.Proofs.YtcgbiedfbacgpaaGreat
/- Whether lists have far too many texts, or bytes. -/
namespace Go.Proofs.YtcgbiedfbacgpaaGreat
open Go Go.Proofs Go.Proofs.Sh
def A0s (ws:List (List ByteArray)):Nat:=(ws.map fun w=>A7r w+w.length).sum
theorem A88 (a b:List ByteArray):A7r (a++b)=A7r a+A7r b:=by simp [A7r]
theorem A59 (a b:List (List ByteArray)):A0s (a++b)=A0s a+A0s b:=by simp [A0s]
theorem B86 {ws:List (List ByteArray)} {i q:Nat} {w:List ByteArray} (h:ws[i]?=some w) (hq:q≤w.length):A0s (ws.take i)+(A7r (w.take q)+q)≤A0s ws:=by
 have hi:=(List.getElem?_eq_some_iff.1 h).1
 have e:ws=ws.take i++(w :: ws.drop (i+1)):=by
  conv=>lhs; rw [← List.take_append_drop i ws]
  congr 1
  rw [List.drop_eq_getElem_cons hi,(List.getElem?_eq_some_iff.1 h).2]
 have e2:A0s ws=A0s (ws.take i)+(A7r w+w.length+A0s (ws.drop (i+1))):=by
  conv=>lhs; rw [e]
  rw [A59]; rfl
 have e3:A7r w=A7r (w.take q)+A7r (w.drop q):=by rw [← A88,List.take_append_drop]
 omega
theorem isLong {H:AH} {v:Value} {vals:List Value} {ws:List (List ByteArray)} (h:JagR H v 1 (ws.map fun w=>w.map A5a) vals) (hl:ws.length≤1048576) (hw1:∀ w∈ws,w.length≤1048576∧∀ x∈w,x.size≤1048576) (hw:Wf H):
  Sh.Call Tryz.prog (knows 7) 18 [v] H (fun r H'=>H'=H∧r=.bool (decide (16384 < A0s ws))):=by
 refine A3a rfl Tryz.func18 rfl (Nat.le_of_ble_eq_true rfl) ?_
 have hres:Tryz.f18.results.toList=[.tmp 2]:=rfl
 have hlen:∀ H',A2a Tryz.prog .len [29] [v] H'=some (.int .i64 (ws.length:Int),H'):=fun H'=>by
  rw [h.sl.len Tryz.underlying29,List.length_map,h.len,List.length_map]
 have e1:∀ c:Nat,decide ((c:Int)≤16384)=decide (c≤16384):=fun c=>decide_eq_decide.2 (by omega)
 have e2:∀ c:Nat,decide ((16384:Int) < (c:Int))=decide (16384 < c):=fun c=>decide_eq_decide.2 (by omega)
 simp only [↓Sh.dn,sx,Nat.reduceBEq,reduceCtorEq,Nat.reduceEqDiff]
 refine A9e ws.length 4 (List.range' 3 37) (fun i F H'=>H'=H∧∃ c:Nat,F.get 3=some (.int .i64 (c:Int))∧c≤A0s ws∧(c≤16384→c=A0s (ws.take i))∧c≤2000000) (by simp only [↓Sh.dn,sx,Nat.reduceBEq,reduceCtorEq,Nat.reduceEqDiff]) ⟨rfl,0,by simp only [↓Sh.dn,sx,Nat.reduceBEq,reduceCtorEq,Nat.reduceEqDiff]; rfl,Nat.zero_le _,fun _=>by simp [A0s],by omega⟩ ?_ ?_
 ·rintro i F H' hi hF f4 ⟨rfl,c,f3,hct,hce,hcb⟩ k
  have f0:=hF 0 rfl
  simp only [↓Sh.dn,sx,Nat.reduceBEq,reduceCtorEq,Nat.reduceEqDiff] at f0
  have hget:ws[i]?=some ws[i]:=List.getElem?_eq_getElem hi
  obtain ⟨hwl,hwx⟩:=hw1 _ (List.getElem_mem hi)
  have htk:ws.take (i+1)=ws.take i++[ws[i]]:=by rw [List.take_add_one,List.getElem?_eq_getElem hi]; rfl
  generalize ws[i]=w at hget hwl hwx htk
  obtain ⟨ga,oa,ka,wv,hia,hca,hsl⟩:=h.at Tryz.underlying29 A5k (i:=i) (r:=w.map A5a) (by rw [List.getElem?_map,hget]; rfl)
  have hlw:∀ H',A2a Tryz.prog .len [22] [wv] H'=some (.int .i64 (w.length:Int),H'):=fun H'=>by rw [hsl.len Tryz.underlying22,List.length_map]
  have hfull:A0s (ws.take (i+1))=A0s (ws.take i)+(A7r w+w.length):=by rw [htk,A59]; simp [A0s]
  simp only [↓Sh.dn,sx,Nat.reduceBEq,reduceCtorEq,Nat.reduceEqDiff,f0,f3,f4,hlen,A1a,hi,decide_true,e1]
  by_cases hc:c≤16384
  case neg=>
   have hbig:decide (16384 < A0s ws)=true:=decide_eq_true (by omega)
   have hc':decide (16384 < c)=true:=decide_eq_true (by omega)
   simp only [↓Sh.dn,sx,Nat.reduceBEq,reduceCtorEq,Nat.reduceEqDiff,hc,decide_false,f3,e2,hres,hc',hbig]
  simp only [↓Sh.dn,sx,Nat.reduceBEq,reduceCtorEq,Nat.reduceEqDiff,hc,decide_true]
  have after:∀ (F2:Fr) (H2:AH) (c2:Nat),F2.get 3=some (.int .i64 (c2:Int))→c2≤A0s ws→(c2≤16384→c2=A0s (ws.take (i+1)))→c2≤2000000→True:=fun _ _ _ _ _ _ _=>trivial
  refine A9e w.length 5 (List.range' 16 24++[3,5]) (fun q F'' H''=>H''=H'∧∃ c:Nat,F''.get 3=some (.int .i64 (c:Int))∧c≤A0s ws∧(c≤16384→c=A0s (ws.take i)+(A7r (w.take q)+q))∧c≤2000000) (by simp only [↓Sh.dn,sx,Nat.reduceBEq,reduceCtorEq,Nat.reduceEqDiff]) ⟨rfl,c,by simp only [↓Sh.dn,sx,Nat.reduceBEq,reduceCtorEq,Nat.reduceEqDiff,f3],hct,fun h=>by rw [← hce h]; simp [A7r],hcb⟩ ?_ ?_
  ·rintro q F'' H'' hq hF'' f5 ⟨rfl,c,f3',hct,hce,hcb⟩ k2
   have g0:=hF'' 0 rfl
   have g4:=hF'' 4 rfl
   simp only [↓Sh.dn,sx,Nat.reduceBEq,reduceCtorEq,Nat.reduceEqDiff,f0,f4] at g0 g4
   obtain ⟨p2,hia2,hc2⟩:=Sl.elem (s:=1) Tryz.underlying22 A6h hsl (i:=q) (u:=.string w[q]) (by rw [List.getElem?_map,List.getElem?_eq_getElem hq]; rfl)
   have hmem:w[q]∈w:=List.getElem_mem hq
   have hqtk:A7r (w.take (q+1))=A7r (w.take q)+w[q].size:=by
    rw [List.take_add_one,List.getElem?_eq_getElem hq,Option.toList_some,A88]; simp [A7r]
   generalize w[q]=x at hc2 hmem hqtk
   have hxs:=hwx x hmem
   simp only [↓Sh.dn,sx,Nat.reduceBEq,reduceCtorEq,Nat.reduceEqDiff,f3',f5,g0,g4,hia,hca,hlw,A1a,hq,decide_true,e1]
   by_cases hc:c≤16384
   case neg=>
    simp only [↓Sh.dn,sx,Nat.reduceBEq,reduceCtorEq,Nat.reduceEqDiff,hc,decide_false,f3',g4,wrap_succ hi hl]
    refine k _ _ ?_ (by simp only [↓Sh.dn,sx,Nat.reduceBEq,reduceCtorEq,Nat.reduceEqDiff]) ⟨rfl,c,by simp only [↓Sh.dn,sx,Nat.reduceBEq,reduceCtorEq,Nat.reduceEqDiff,f3'],hct,fun h=>absurd h hc,hcb⟩
    repeat refine Same.put ?_ rfl
    exact Same.trans (by repeat (first | refine Same.put ?_ rfl | exact Same.rfl' _)) (hF''.sub rfl)
   have hsp:=B86 (q:=q+1) hget hq
   have w1:IntKind.wrap .i64 (1+(x.size:Int))=((1+x.size:Nat):Int):=by rw [wrap64 (by omega) (by omega)]; omega
   have w2:IntKind.wrap .i64 ((c:Int)+((1+x.size:Nat):Int))=((c+(1+x.size):Nat):Int):=by rw [wrap64 (by omega) (by omega)]; omega
   simp only [↓Sh.dn,sx,Nat.reduceBEq,reduceCtorEq,Nat.reduceEqDiff,hc,decide_true,f3',f5,g0,g4,hia,hca,hia2,hc2,w1,w2,wrap_succ hq hwl]
   refine k2 _ _ (by repeat (first | refine Same.put ?_ rfl | exact Same.rfl' _)) (by simp only [↓Sh.dn,sx,Nat.reduceBEq,reduceCtorEq,Nat.reduceEqDiff]) ⟨rfl,c+(1+x.size),by simp only [↓Sh.dn,sx,Nat.reduceBEq,reduceCtorEq,Nat.reduceEqDiff],?_,fun _=>?_,by omega⟩
   ·have:=hce hc; omega
   ·have:=hce hc; omega
  ·rintro F'' H'' hF'' f5 ⟨rfl,c,f3',hct,hce,hcb⟩
   have g0:=hF'' 0 rfl
   have g4:=hF'' 4 rfl
   simp only [↓Sh.dn,sx,Nat.reduceBEq,reduceCtorEq,Nat.reduceEqDiff,f0,f4] at g0 g4
   rw [List.take_length] at hce
   simp only [↓Sh.dn,sx,Nat.reduceBEq,reduceCtorEq,Nat.reduceEqDiff,f3',f5,g0,g4,hia,hca,hlw,A1a,Nat.lt_irrefl,decide_false,wrap_succ hi hl]
   refine k _ _ ?_ (by simp only [↓Sh.dn,sx,Nat.reduceBEq,reduceCtorEq,Nat.reduceEqDiff]) ⟨rfl,c,by simp only [↓Sh.dn,sx,Nat.reduceBEq,reduceCtorEq,Nat.reduceEqDiff,f3'],hct,fun h=>by rw [hfull]; exact hce h,hcb⟩
   repeat refine Same.put ?_ rfl
   exact Same.trans (by repeat (first | refine Same.put ?_ rfl | exact Same.rfl' _)) (hF''.sub rfl)
 ·rintro F H' hF f4 ⟨rfl,c,f3,hct,hce,hcb⟩
  have f0:=hF 0 rfl
  simp only [↓Sh.dn,sx,Nat.reduceBEq,reduceCtorEq,Nat.reduceEqDiff] at f0
  rw [List.take_length] at hce
  have:decide (16384 < c)=decide (16384 < A0s ws):=decide_eq_decide.2 (by
   by_cases h:c≤16384
   ·rw [hce h]
   ·omega)
  simp only [↓Sh.dn,sx,Nat.reduceBEq,reduceCtorEq,Nat.reduceEqDiff,f0,f3,f4,hlen,A1a,Nat.lt_irrefl,decide_false,e2,hres,this]
end Go.Proofs.YtcgbiedfbacgpaaGreat
