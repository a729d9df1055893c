/- A part of the proof: GraphSpread, RefSpots, RefReach, RefPair, RelPairs, SymsSmall, IndexFuncStr, SymsValidate, GraphCheck, Priced, RelVal, GraphPut, GraphEither, Sides, SideFns, TurnRows, RelTurned, GraphImage, GraphTrim, GraphTrim2. -/
import Derived.Test.YtjjgodccecehlaaGreatMClose2RelDowns7
import Derived.Test.YtjjgodccecehlaaGreatMClose2RelDowns10
import Derived.Test.YtjjgodccecehlaaGreatMClose2RelDowns4
import Derived.Test.YtjjgodccecehlaaGreatMClose2RelDowns5
import Derived.Test.YtjjgodccecehlaaGreatMClose2RelDowns9
import Derived.Test.YtjjgodccecehlaaGreatMClose2RelDowns3
import Derived.Test.YtjjgodccecehlaaGreatMClose2RelDowns2
set_option linter.unusedVariables false
set_option linter.unusedSimpArgs false
/- (*graph.Graph).spread and the step of Holds: places of all states, as bits. -/
set_option maxHeartbeats 4000000
set_option maxRecDepth 20000
namespace Go.Proofs.YtjjgodccecehlaaGreat
open Go Go.Proofs Go.Proofs.Sh
def A8m(E:List (List (Nat×Int×Int×Int))):Arcs Nat Nat:=fun s a b t=>∃r,E[s]?=some r∧∃e∈r,e.1=t∧labN e.2.1=a∧labN e.2.2.1=b
def sCell(p:Nat×Nat):List Value:=[.int .i64 (p.1:Int),.int .i64 (p.2:Int)]
def C5u(p:Nat×Nat×Nat):List Value:=[.int .i64 (p.1:Int),.int .i64 (p.2.1:Int),.int .i64 (p.2.2:Int)]
section
variable {H:AH} {p:Nat×Nat×Nat} {q:Nat×Nat}
end
structure WBox(H:AH)(g:Nat)(p:Nat×Nat×Nat):Prop where
 ar:Arr H g 0 3 (C5u p)
theorem WBox.new{H:AH}{p:Nat×Nat×Nat}:WBox (H.new 3 (C5u p)).2 H.next p:=⟨(Sh.Obj.new (H:=H) 3 (C5u p)).arr⟩
theorem WBox.chg{H H':AH}{g:Nat}{p:Nat×Nat×Nat}{X:Nat→Prop}(h:WBox H g p)(hw:Wf H)(hc:Chg X H H')(hx:¬X g):WBox H' g p:=⟨h.ar.keep (hc.old g (h.ar.lt hw) hx)⟩
theorem WBox.kept{H H':AH}{g:Nat}{p:Nat×Nat×Nat}(h:WBox H g p)(hw:Wf H)(hk:Kept H H'):WBox H' g p:=⟨h.ar.keep (hk.old g (h.ar.lt hw))⟩
section
variable {H:AH} {g:Nat} {p:Nat×Nat×Nat} (h:WBox H g p)
include h
theorem WBox.c0:H.cell ⟨g,0,some 0⟩=some (.int .i64 (p.1:Int)):=h.ar.cell 0
theorem WBox.c1:H.cell ⟨g,1,some 0⟩=some (.int .i64 (p.2.1:Int)):=h.ar.cell 1
theorem WBox.c2:H.cell ⟨g,2,some 0⟩=some (.int .i64 (p.2.2:Int)):=h.ar.cell 2
theorem WBox.ca:H.cells ⟨g,0,some 0⟩ 3=some (C5u p):=h.ar.cells (i:=0) (n:=3) (by simp[C5u])
theorem WBox.cs:H.cells ⟨g,1,some 0⟩ 2=some (sCell p.2):=h.ar.cells (i:=1) (n:=2) (by simp[C5u])
end
def A78(N:NetD):Arcs Nat ByteArray:=fun s a b t=>∃c∈N.arcs,c.fr=(s:Int)∧labT c.inn=a∧labT c.out=b∧c.to=(t:Int)
def A3k(N:NetD)(x y:List ByteArray):Prop:=RelP (A78 N) N.isEnd x y
theorem B9o{N:NetD}(hok:A1q N){x:ByteArray}(hx:x=⟨#[]⟩∨x∈N.sigma):labN (A0m N.sigma x)=(labT x).map (ixN N.sigma)∧∀s,labT x=some s→s∈N.sigma:=by
 have e0:(⟨#[]⟩:ByteArray)=A0b:=rfl;rw[e0]at hx;by_cases h:x=A0b
 ·subst h
  have:=(C0l hok.asc).2 (B0r hok);unfold labN labT;rw[if_pos this,if_pos rfl];exact⟨rfl,fun s hs=>by cases hs⟩
 ·have hm:=hx.resolve_left h
  obtain⟨k,_,h2,h3⟩:=B5z hok.asc hm;unfold labN labT;rw[if_neg (by omega),if_neg h,h2];exact⟨by rw[Option.map_some,h3];rfl,fun s hs=>by rw[←Option.some.inj hs];exact hm⟩
theorem B4b{N:NetD}(hok:A1q N){x:ByteArray}(hx:x=⟨#[]⟩∨x∈N.sigma):A0m N.sigma x<(N.sigma.length:Int):=by
 by_cases h:x∈N.sigma
 ·obtain⟨k,h1,h2,_⟩:=B5z hok.asc h
  have:=(List.getElem?_eq_some_iff.1 h1).1;omega
 ·have:=(C0l hok.asc).2 h
  omega
theorem B03{N:NetD}(hok:A1q N)(s:Nat)(a b:Option Nat)(t:Nat):A8m (A1l N) s a b t↔∃c d,A78 N s c d t∧a=c.map (ixN N.sigma)∧b=d.map (ixN N.sigma):=by
 unfold A8m A78;constructor
 ·rintro⟨r,hr,e,he,h1,h2,h3⟩
  obtain⟨c,hc,h4,rfl⟩:=(A1p hr e).1 he;obtain⟨_,_,h5,_,h6,h7⟩:=hok.arc c hc;simp only at h1 h2 h3;exact⟨_,_,⟨c,hc,h4,rfl,rfl,by omega⟩,by rw[←h2,(B9o hok h6).1],by rw[←h3,(B9o hok h7).1]⟩
 ·rintro⟨_,_,⟨c,hc,h1,rfl,rfl,h4⟩,rfl,rfl⟩
  obtain⟨h7,h8,h5,_,h6,h9⟩:=hok.arc c hc;have hs:s<N.states.toNat:=by omega
  unfold A1l;exact⟨_,A8h hs,(c.to.toNat,A0m N.sigma c.inn,A0m N.sigma c.out,c.cost),(A1p (A8h hs) _).2 ⟨c,hc,h1,rfl⟩,by simp only;omega,(B9o hok h6).1,(B9o hok h9).1⟩
theorem C1i{N:NetD}(hok:A1q N){s t:Nat}{x y:List ByteArray}(h:Sh.Way (A78 N) s x y t):(∀z∈x,z∈N.sigma)∧∀z∈y,z∈N.sigma:=by
 induction h with
 | nil s=>exact⟨fun z hz=>(by cases hz),fun z hz=>by cases hz⟩
 | @cons s t u a b x y h1 _ ih=>
  obtain⟨c,hc,_,rfl,rfl,_⟩:=h1;obtain⟨_,_,_,_,h6,h7⟩:=hok.arc c hc;have key:∀{o:Option ByteArray} {w:List ByteArray},(∀s,o=some s→s∈N.sigma)→(∀z∈w,z∈N.sigma)→∀z∈o.toList++w,z∈N.sigma:=fun{o w} ho hw z hz=>by
   rcases List.mem_append.1 hz with h|h
   ·exact ho z (by cases o with
      | none => cases h
      | some s => rw[List.mem_singleton.1 h])
   ·exact hw z h
  exact⟨key (B9o hok h6).2 ih.1,key (B9o hok h7).2 ih.2⟩
theorem A87{α β:Type}{f:α→β}{S:α→Prop}(hf:∀x y,S x→S y→f x=f y→x=y):∀{l m:List α},(∀x∈l,S x)→(∀x∈m,S x)→l.map f=m.map f→l=m
 | [],[],_,_,_=>rfl
 | [],_ :: _,_,_,h=>by simp at h
 | _ :: _,[],_,_,h=>by simp at h
 | a :: l,b :: m,hl,hm,h=>by
  simp only[List.map_cons,List.cons.injEq]at h;rw[hf a b (hl a List.mem_cons_self) (hm b List.mem_cons_self) h.1,A87 hf (fun x hx=>hl x (List.mem_cons_of_mem _ hx)) (fun x hx=>hm x (List.mem_cons_of_mem _ hx)) h.2]
theorem way_rows{N:NetD}(hok:A1q N){x y:List ByteArray}(hx:∀z∈x,z∈N.sigma)(hy:∀z∈y,z∈N.sigma)(s t:Nat):Sh.Way (A8m (A1l N)) s (x.map (ixN N.sigma)) (y.map (ixN N.sigma)) t↔Sh.Way (A78 N) s x y t:=by
 constructor
 ·intro h
  have key:∀{s t:Nat} {u v:List Nat},Sh.Way (A8m (A1l N)) s u v t→∃x y,Sh.Way (A78 N) s x y t∧u=x.map (ixN N.sigma)∧v=y.map (ixN N.sigma):=by
   intro s t u v k
   induction k with
   | nil s=>exact⟨[],[],.nil s,rfl,rfl⟩
   | @cons s t w a b u v h1 _ ih=>
    obtain⟨c,d,h2,rfl,rfl⟩:=(B03 hok _ _ _ _).1 h1;obtain⟨x,y,h3,rfl,rfl⟩:=ih;have e:∀o:Option ByteArray,(o.map (ixN N.sigma)).toList=o.toList.map (ixN N.sigma):=fun o=>by cases o<;>rfl
    exact⟨c.toList++x,d.toList++y,.cons h2 h3,by rw[List.map_append,e],by rw[List.map_append,e]⟩
  obtain⟨x',y',h1,h2,h3⟩:=key h;obtain⟨h4,h5⟩:=C1i hok h1;rw[A87 (S:=fun z=>z∈N.sigma) (C2w hok.asc) hx h4 h2,A87 (S:=fun z=>z∈N.sigma) (C2w hok.asc) hy h5 h3];exact h1
 ·intro h
  exact h.map (f:=ixN N.sigma) fun s a b t hs=>(B03 hok _ _ _ _).2 ⟨a,b,hs,rfl,rfl⟩
theorem B6z{N:NetD}(hok:A1q N){x y:List ByteArray}(hx:∀z∈x,z∈N.sigma)(hy:∀z∈y,z∈N.sigma):(∃t,0<(A8j N N.ends).getD t 0∧Sh.Way (A8m (A1l N)) 0 (x.map (ixN N.sigma)) (y.map (ixN N.sigma)) t)↔A3k N x y:=by
 unfold A3k RelP;refine exists_congr fun t=>and_congr (ends_gr hok t) (way_rows hok hx hy 0 t)
theorem B7f{N:NetD}(hok:A1q N){x y:List ByteArray}(h:A3k N x y):(∀z∈x,z∈N.sigma)∧∀z∈y,z∈N.sigma:=by
 obtain⟨t,_,h2⟩:=h;exact C1i hok h2
theorem B1u{H:AH}{x:ByteArray}:Sh.Call Tryz.prog (knows 7) 70 [.string x] H (fun r H'=>H'=H∧r=.bool (decide (16<x.size))):=by
 refine A3a rfl Tryz.func70 rfl (Nat.le_of_ble_eq_true rfl) ?_;have hres:Tryz.f70.results.toList=[.tmp 2]:=rfl;have e:decide ((16:Int)<(x.size:Int))=decide (16<x.size):=decide_eq_decide.2 (by omega);simp only[↓Sh.dn,sx,reduceCtorEq,hres,e]
def chOk(s:ByteArray):Bool:=!s.data.toList.any badByte&&decide (1≤s.size)
theorem B9q(s:ByteArray):A5u s=(chOk s&&decide (s.size≤16)):=rfl
theorem C0u{x:ByteArray}:decide (x=⟨#[]⟩)=!decide (1≤x.size):=by
 by_cases h:x=⟨#[]⟩
 ·subst h;rfl
 ·have : 1 ≤ x.size := by
    refine Nat.one_le_iff_ne_zero.2 fun h0 => h (ByteArray.ext ?_);exact Array.eq_empty_of_size_eq_zero h0
  simp[h, this]
theorem B4a{H:AH}{x:ByteArray}(hl:x.size≤1048576):
  Sh.Call Tryz.prog (knows 7) 72 [.string x] H (fun r H'=>H'=H∧r=.bool (chOk x)):=by
 refine A3a rfl Tryz.func72 rfl (Nat.le_of_ble_eq_true rfl) ?_;have hres:Tryz.f72.results.toList=[.tmp 2]:=rfl;have hsz:x.data.toList.length=x.size:=by rw[Array.length_toList];rfl
 simp only[↓Sh.dn,sx,reduceCtorEq];refine A5c x.size 6 (List.range' 6 26++[2,3]) (fun i F H'=>H'=H∧(x.data.toList.take i).any badByte=false) (by simp only[sx]) ⟨rfl,rfl⟩ ?_ ?_
 ·rintro i F H' hlt hF f6 ⟨rfl,hall⟩ k
  have f0:=hF 0 rfl;have f5:=hF 5 rfl;simp only[sx,reduceCtorEq,Nat.reduceEqDiff]at f0 f5;obtain⟨u,hu⟩:∃u,x.data.toList[i]?=some u:=⟨x.data.toList[i]'(by omega),List.getElem?_eq_getElem (by omega)⟩
  have hix:=B3m (P:=Tryz.prog) (j:=.i64) Tryz.underlying9 hu;have e33:decide ((u.toNat:Int)<33)=decide (u.toNat<33):=decide_eq_decide.2 (by omega);have e126:decide (126<(u.toNat:Int))=decide (126<u.toNat):=decide_eq_decide.2 (by omega);have e60:decide ((u.toNat:Int)=60)=decide (u.toNat=60):=decide_eq_decide.2 (by omega);have e62:decide ((u.toNat:Int)=62)=decide (u.toNat=62):=decide_eq_decide.2 (by omega);have hbad:badByte u=true→chOk x=false:=by
   intro h;have:x.data.toList.any badByte=true:=List.any_eq_true.2 ⟨_,List.mem_of_getElem? hu,h⟩;simp[chOk,this]
  simp only[↓Sh.dn,sx,reduceCtorEq,Nat.reduceEqDiff,f0,f5,f6,hix,A1a,hlt,e33,decide_true];by_cases h1:u.toNat<33
  ·simp only[↓Sh.dn,sx,Nat.reduceEqDiff,h1,decide_true,hres,hbad (by simp[badByte,h1])]
  simp only[↓Sh.dn,sx,reduceCtorEq,Nat.reduceEqDiff,f0,hix,h1,e126,decide_false];by_cases h2:126<u.toNat
  ·simp only[↓Sh.dn,sx,Nat.reduceEqDiff,h2,decide_true,hres,hbad (by simp[badByte,h2])]
  simp only[↓Sh.dn,sx,reduceCtorEq,Nat.reduceEqDiff,f0,hix,h2,e60,decide_false];by_cases h3:u.toNat=60
  ·simp only[↓Sh.dn,sx,Nat.reduceEqDiff,h3,decide_true,hres,hbad (by simp[badByte,h3])]
  simp only[↓Sh.dn,sx,reduceCtorEq,Nat.reduceEqDiff,f0,hix,h3,e62,decide_false];by_cases h4:u.toNat=62
  ·simp only[↓Sh.dn,sx,h4,decide_true,hres,hbad (by simp[badByte,h4])]
  simp only[↓Sh.dn,sx,Nat.reduceEqDiff,f6,h4,decide_false,wrap_succ hlt hl];refine k _ _ (by repeat (first|refine Same.put ?_ rfl|exact Same.rfl' _)) (by simp only[sx]) ⟨rfl,?_⟩;rw[List.take_add_one,hu];simp only[Option.toList,List.any_append,hall,List.any_cons,List.any_nil,Bool.or_false,badByte,h1,h2,h3,h4,decide_false]
 ·rintro F H' hF f6 ⟨rfl,hall⟩
  have f0:=hF 0 rfl;have f5:=hF 5 rfl;simp only[sx,reduceCtorEq,Nat.reduceEqDiff]at f0 f5;rw[←hsz,List.take_length]at hall;simp only[↓Sh.dn,sx,reduceCtorEq,f0,f5,f6,A1a,Nat.lt_irrefl,decide_false,hres,chOk,hall,C0u]
theorem B48{H:AH}{v:Value}{l:List ByteArray}{fid:Nat}{caps:List Value}(p:ByteArray→Bool)(hs:Sl H v 1 (l.map A7a))(hl:l.length≤1048576)(hw:Wf H)
  (hp:∀H',Kept H H'→∀x∈l,Sh.Call Tryz.prog (knows 7) fid ((fun s=>Value.string s) x :: caps) H' (fun r H''=>Kept H' H''∧r=.bool (p x))):
  Sh.Call Tryz.prog (knows 7) 97 [v,.func (.func fid) #[] caps.toArray] H (fun r H'=>Kept H H'∧∃k:Int,r=.int .i64 k∧decide (0≤k)=l.any p):=by
 refine A3a rfl Tryz.func97 rfl (Nat.le_of_ble_eq_true rfl) ?_;have hres:Tryz.f97.results.toList=[.tmp 4]:=rfl;have hlen:=hs.len Tryz.underlying22 H;simp only[↓Sh.dn,sx,reduceCtorEq,hlen,List.length_map];refine A5c l.length 8 [5,8,9,10,11,12,13,14,15,16,18] (fun i F H'=>Kept H H'∧(l.take i).any p=false) (by simp only[sx]) ⟨Kept.refl hw,rfl⟩ ?_ ?_
 ·rintro i F H' hlt hF f8 ⟨hk,hall⟩ k
  have hs1:=hs.grow (hk.grow hw);obtain⟨g,o,kk,hia,hc,hcc⟩:=hs1.at Tryz.underlying22 A4i (i:=i) (x:=A7a l[i]) (by simp[hlt]) .i64;have hld:=hcc 0 _ rfl;simp only[Nat.add_zero]at hld;have f0:=hF 0 rfl;have f1:=hF 1 rfl;have f7:=hF 7 rfl;simp only[sx,reduceCtorEq,Nat.reduceEqDiff]at f0 f1 f7;obtain⟨r,H2,hd,hk2,rfl⟩:=hp H' hk l[i] (List.getElem_mem hlt);simp only[↓Sh.dn,sx,reduceCtorEq,Nat.reduceEqDiff,f0,f1,f7,f8,A1a,hlt,decide_true,hia,hld,reduceCtorEq];refine⟨_,_,hd,?_⟩;cases hpv:p l[i] with
  | true=>
   simp only[↓Sh.dn,sx,Nat.reduceEqDiff,hres];refine⟨hk.trans hk2,_,rfl,?_⟩;rw[List.any_eq_true.2 ⟨_,List.getElem_mem hlt,hpv⟩];simp
  | false=>
   simp only[↓Sh.dn,sx,Nat.reduceEqDiff,hres,f8,wrap_succ hlt hl];refine k _ _ (by repeat (first|refine Same.put ?_ rfl|exact Same.rfl' _)) (by simp only[sx]) ⟨hk.trans hk2,?_⟩;rw[List.take_add_one,List.getElem?_eq_getElem hlt];simp only[Option.toList,List.any_append,hall,List.any_cons,List.any_nil,hpv,Bool.or_false]
 ·rintro F H' hF f8 ⟨hk,hall⟩
  have f7:=hF 7 rfl;simp only[sx,Nat.reduceEqDiff]at f7;rw[List.take_length]at hall;simp only[↓Sh.dn,sx,f7,f8,A1a,Nat.lt_irrefl,decide_false,hres];exact⟨hk,_,rfl,by rw[hall];rfl⟩
theorem A2u{H:AH}{v:Value}{l:List ByteArray}{fid:Nat}{caps:List Value}(p:ByteArray→Bool)(hs:Sl H v 1 (l.map A7a))(hl:l.length≤1048576)(hw:Wf H)
  (hp:∀H',Kept H H'→∀x∈l,Sh.Call Tryz.prog (knows 7) fid ((fun s=>Value.string s) x :: caps) H' (fun r H''=>Kept H' H''∧r=.bool (p x))):
  Sh.Call Tryz.prog (knows 7) 69 [v,.func (.func fid) #[] caps.toArray] H (fun r H'=>Kept H H'∧r=.bool (l.any p)):=by
 refine A3a rfl Tryz.func69 rfl (Nat.le_of_ble_eq_true rfl) ?_;have hres:Tryz.f69.results.toList=[.tmp 4]:=rfl;obtain⟨r,H2,hd,hk,k,rfl,hk0⟩:=B48 p hs hl hw hp;simp only[↓Sh.dn,sx,reduceCtorEq,Nat.reduceEqDiff];refine⟨_,_,hd,?_⟩;simp only[sx,hres,hk0];exact hk
theorem B11{H:AH}{v:Value}{l:List ByteArray}(hs:Sl H v 1 (l.map A7a))(hl:l.length≤1048576)(hlx:∀x∈l,x.size≤1048576)(hw:Wf H):
  Sh.Call Tryz.prog (knows 7) 95 [v] H (fun r H'=>Kept H H'∧r=.int .i64 (A0l l)):=by
 refine A3a rfl Tryz.func95 rfl (Nat.le_of_ble_eq_true rfl) ?_;have hres:Tryz.f95.results.toList=[.tmp 2]:=rfl;have hlen:=hs.len Tryz.underlying22 H;have e40:decide ((40:Int)<((l.length:Nat):Int))=decide (40<l.length):=decide_eq_decide.2 (by omega);simp only[↓Sh.dn,sx,reduceCtorEq,hlen,List.length_map,e40];by_cases h40:40<l.length
 ·simp only[↓Sh.dn,sx,Nat.reduceEqDiff,h40,decide_true,hres,A0l,Kept.refl hw]
 simp only[↓Sh.dn,sx,reduceCtorEq,Nat.reduceEqDiff,h40,decide_false];obtain⟨r1,H1,hd1,hk1,rfl⟩:=A2u (caps:=[]) (fid:=70) (fun s=>decide (16<s.size)) hs hl hw (fun H' hk x hx=>(B1u (H:=H') (x:=x)).mono fun r H'' h=>by rcases h with⟨rfl,h⟩;exact⟨Kept.refl hk.wf,h⟩);refine⟨_,_,hd1,?_⟩;cases hL:(l.any fun s=>decide (16<s.size)) with
 | true=>simp only[↓Sh.dn,sx,hres,hL,A0l,A6k,h40,decide_false,hk1]
 | false=>
  have hs1:=hs.grow (hk1.grow hw);have hlen1:=hs1.len Tryz.underlying22 H1;simp only[↓Sh.dn,sx,reduceCtorEq,hlen1,List.length_map];have h16:∀x∈l,decide (x.size≤16)=true:=by
   intro x hx;have:=List.any_eq_false.1 hL x hx;simp only[decide_eq_true_eq,Nat.not_lt]at this
   simpa using this
  have e1:(l.all A5u&&ascB l)=false→A0l l=1:=by intro h;simp[A0l,A6k,h40,hL];simpa using h
  have e0:(l.all A5u&&ascB l)=true→A0l l=0:=by intro h;simp[A0l,A6k,h40,hL];simpa using h
  have hsy:∀x∈l,A5u x=chOk x:=by intro x hx;rw[B9q,h16 x hx,Bool.and_true]
  refine A5c l.length 14 (List.range' 14 22++[2,3,4]) (fun i F H'=>H'=H1∧(∀(j:Nat) x,j<i→l[j]?=some x→chOk x=true)∧(∀(j:Nat) x y,j+1<i→l[j]?=some x→l[j+1]?=some y→A3b x y=true)) (by simp only[sx]) ⟨rfl,fun j x h=>by omega,fun j x y h=>by omega⟩ ?_ ?_
  ·rintro i F H' hlt hF f14 ⟨rfl,hall,hasc⟩ k
   have f0:=hF 0 rfl;have f12:=hF 12 rfl;have f13:=hF 13 rfl;simp only[sx,reduceCtorEq,Nat.reduceEqDiff]at f0 f12 f13;obtain⟨g,o,kk,hia,hc,hcc⟩:=hs1.at Tryz.underlying22 A4i (i:=i) (x:=A7a l[i]) (by simp[hlt]) .i64;have hy:=hcc 0 _ rfl;simp only[Nat.add_zero]at hy;have hget:l[i]?=some l[i]:=List.getElem?_eq_getElem hlt;obtain⟨r,H2,hd2,rfl,rfl⟩:=B4a (H:=H') (x:=l[i]) (hlx _ (List.getElem_mem hlt));simp only[↓Sh.dn,sx,Nat.reduceEqDiff,f12,f13,f14,A1a,hlt,decide_true,hia,hy];refine⟨_,_,hd2,?_⟩;cases hch:chOk l[i] with
   | false=>
    have hbad:A0l l=1:=e1 (by
     rw[Bool.and_eq_false_iff];left;exact List.all_eq_false.2 ⟨_,List.getElem_mem hlt,by rw[hsy _ (List.getElem_mem hlt),hch];simp⟩)
    simp only[↓Sh.dn,sx,Nat.reduceEqDiff,hres,hbad,hk1]
   | true=>
    have hall':∀(j:Nat) x,j<i+1→l[j]?=some x→chOk x=true:=by
     intro j x hj hx;by_cases he:j=i
     ·subst he;rw[hget]at hx;rw[←Option.some.inj hx];exact hch
     ·exact hall j x (by omega) hx
    by_cases hi0:0<i
    ·have hlt1:i-1<l.length:=by omega
     obtain⟨g',o',kk',hia',hc',hcc'⟩:=hs1.at Tryz.underlying22 A4i (i:=i-1) (x:=A7a l[i-1]) (by simp[hlt1]) .i64;have hy':=hcc' 0 _ rfl;simp only[Nat.add_zero]at hy';have hw1:IntKind.wrap .i64 ((i:Int)-1)=((i-1:Nat):Int):=by rw[wrap64 (by omega) (by omega)];omega
     have ei:decide ((0:Int)<(i:Int))=true:=by simpa using hi0
     have hget':l[i-1]?=some l[i-1]:=List.getElem?_eq_getElem hlt1;simp only[↓Sh.dn,sx,reduceCtorEq,Nat.reduceEqDiff,f0,ei,hw1,hia',hy'];cases hq:A3b l[i-1] l[i] with
     | false=>
      have hbad:A0l l=1:=e1 (by
       rw[Bool.and_eq_false_iff];right;cases hb:ascB l with
       | false=>rfl
       | true=>
        have:=A41.1 hb (i-1) _ _ hget' (by rw[show i-1+1=i by omega];exact hget);rw[this]at hq;cases hq)
      simp only[↓Sh.dn,sx,hres,hbad,hk1]
     | true=>
      simp only[↓Sh.dn,sx,Nat.reduceEqDiff,f14,wrap_succ hlt hl];refine k _ _ (by repeat (first|refine Same.put ?_ rfl|exact Same.rfl' _)) (by simp only[sx]) ⟨rfl,hall',fun j x y hj hx hy=>?_⟩;by_cases he:j+1=i
      ·have:j=i-1:=by omega
       subst this;rw[he,hget]at hy;rw[hget']at hx;rw[←Option.some.inj hx,←Option.some.inj hy];exact hq
      ·exact hasc j x y (by omega) hx hy
    ·have ei:decide ((0:Int)<(i:Int))=false:=by simpa using hi0
     simp only[↓Sh.dn,sx,Nat.reduceEqDiff,f14,ei,wrap_succ hlt hl];exact k _ _ (by repeat (first|refine Same.put ?_ rfl|exact Same.rfl' _)) (by simp only[sx]) ⟨rfl,hall',fun j x y hj hx hy=>by omega⟩
  ·rintro F H' hF f14 ⟨rfl,hall,hasc⟩
   have f13:=hF 13 rfl;simp only[sx,Nat.reduceEqDiff]at f13;have hgood:A0l l=0:=e0 (by
    rw[Bool.and_eq_true];refine⟨List.all_eq_true.2 fun x hx=>?_,A41.2 fun j x y hx hy=>hasc j x y (List.getElem?_eq_some_iff.1 hy).1 hx hy⟩;obtain⟨j,hj⟩:=List.mem_iff_getElem?.1 hx;rw[hsy x hx];exact hall j x (List.getElem?_eq_some_iff.1 hj).1 hj)
   simp only[↓Sh.dn,sx,f13,f14,A1a,Nat.lt_irrefl,decide_false,hres,hgood,hk1]
theorem C29{H:AH}{gg:Nat}{sg ar en:Value}{N:NetD}{s:ByteArray}(hb:NetBox H gg sg ar en N)(ha:Asc N.sigma)(hl:N.sigma.length≤1048576):
  Sh.Call Tryz.prog (knows 7) 96 [.string s,.pointer (some ⟨gg,0,some 0⟩)] H (fun r H'=>H'=H∧r=.bool (!A5j N s)):=by
 refine A3a rfl Tryz.func96 rfl (Nat.le_of_ble_eq_true rfl) ?_;have hres:Tryz.f96.results.toList=[.tmp 3]:=rfl;obtain⟨r,H1,hd,rfl,k,rfl,_,_⟩:=B2b (x:=s) hb.hsg ha hl;simp only[↓Sh.dn,sx,reduceCtorEq,Nat.reduceEqDiff,hb.c0];refine⟨_,_,hd,?_⟩;simp only[sx];by_cases h:s=⟨#[]⟩
 ·simp only[↓Sh.dn,sx,Nat.reduceEqDiff,h,decide_true,hres,A5j]
 ·simp only[↓Sh.dn,sx,Nat.reduceEqDiff,h,decide_false,hres,A5j]
theorem C9s{H:AH}{v:Value}{N:NetD}(h:A8v H v N)(hsm:A3g N)(hw:Wf H):
  Sh.Call Tryz.prog (knows 7) 67 [v] H (fun r H'=>Kept H H'∧r=.int .i64 (A2g N)):=by
 refine A3a rfl Tryz.func67 rfl (Nat.le_of_ble_eq_true rfl) ?_;have hres:Tryz.f67.results.toList=[.tmp 2]:=rfl;obtain⟨sg,ar,en,rfl,hsg,har,hen⟩:=h;have hb1:=NetBox.of (N:=N) hw hsg har hen;have hk1:Kept H (H.new 4 [sg,.int .i64 N.states,ar,en]).2:=Kept.new hw 4 _;have eA:decide ((60000:Int)<(N.arcs.length:Int))=decide (60000<N.arcs.length):=decide_eq_decide.2 (by omega);have eE:decide ((60000:Int)<(N.ends.length:Int))=decide (60000<N.ends.length):=decide_eq_decide.2 (by omega);simp only[↓Sh.dn,sx,Nat.reduceEqDiff,A3u hsg.isCell har.isCell hen.isCell];generalize H.next=gg at hb1 ⊢;generalize (H.new 4 [sg,.int .i64 N.states,ar,en]).2=H1 at hb1 hk1 ⊢;simp only[sx,hb1.c1];by_cases hA:3000<N.states
 ·simp only[↓Sh.dn,sx,Nat.reduceEqDiff,hA,decide_true,hres,A2g,A2n,hk1]
 by_cases hB:60000<N.arcs.length
 ·simp only[↓Sh.dn,sx,Nat.reduceEqDiff,hb1.c2,A2o hb1,hA,eA,hB,decide_true,decide_false,hres,A2g,A2n,hk1]
 by_cases hC:60000<N.ends.length
 ·simp only[↓Sh.dn,sx,Nat.reduceEqDiff,hb1.c2,hb1.c3,A2o hb1,A4t hb1,hA,eA,eE,hB,hC,decide_true,decide_false,hres,A2g,A2n,hk1]
 have hT:A2n N=false:=by simp[A2n,hA,hB,hC]
 simp only[↓Sh.dn,sx,Nat.reduceEqDiff,hb1.c0,hb1.c2,hb1.c3,A2o hb1,A4t hb1,hA,eA,eE,hB,hC,decide_false,hres];obtain⟨r,H2,hd,hk2,rfl⟩:=B11 hb1.hsg hsm.sg hsm.sx hk1.wf;refine⟨_,_,hd,?_⟩;have hb2:=hb1.kept hk1.wf hk2;have hk12:=hk1.trans hk2;by_cases hS:A0l N.sigma=0
 case neg=>simp only[↓Sh.dn,sx,Nat.reduceEqDiff,hS,decide_false,A2g,hT,hk12]
 have hasc:=A58 hS;simp only[↓Sh.dn,sx,Nat.reduceEqDiff,hS,decide_true,hb2.c1];by_cases hst:N.states<1
 ·simp only[↓Sh.dn,sx,hst,decide_true,A2g,hT,hS,hk12]
 simp only[↓Sh.dn,sx,Nat.reduceEqDiff,hst,decide_false,hb2.c2,A2o hb2];have e1:N.arcs.any (A2h N)=true→A2g N=1:=by intro h;simp[A2g,hT,hS,hst,h]
 have e2:N.ends.any (A1s N)=true→A2g N=1:=by intro h;simp[A2g,hT,hS,hst,h]
 have e3:N.arcs.any (A2h N)=false→N.ends.any (A1s N)=false→A2g N=0:=by intro h h';simp[A2g,hT,hS,hst,h,h']
 refine A5c N.arcs.length 37 (List.range' 37 41++[2,6]) (fun i F H'=>Kept H2 H'∧(N.arcs.take i).any (A2h N)=false) (by simp only[sx]) ⟨Kept.refl hk12.wf,rfl⟩ ?_ ?_
 ·rintro i F H' hlt hF f37 ⟨hk,hall⟩ k
  have f1:=hF 1 rfl;have f4:=hF 4 rfl;have f35:=hF 35 rfl;have f36:=hF 36 rfl;simp only[sx,Nat.reduceEqDiff]at f1 f4 f35 f36;have hb':=hb2.kept hk12.wf hk;have hb3:=hb'.new hk.wf 5 (N.arcs[i].cells);have hk3:=hk.news 5 (N.arcs[i].cells);obtain⟨g,o,kk,hia,hc,hcc⟩:=hb'.har.at Tryz.underlying23 A7q (i:=i) (x:=N.arcs[i].cells) (by simp[hlt]) .i64;clear hcc;have hin:N.arcs[i]∈N.arcs:=List.getElem_mem hlt;have hnext:A2h N N.arcs[i]=false→(N.arcs.take (i+1)).any (A2h N)=false:=by
   intro h;rw[List.take_add_one,List.getElem?_eq_getElem hlt];simp only[Option.toList,List.any_append,hall,List.any_cons,List.any_nil,h,Bool.or_false]
  have hbad:A2h N N.arcs[i]=true→A2g N=1:=fun h=>e1 (List.any_eq_true.2 ⟨_,hin,h⟩);generalize N.arcs[i]=a at hb3 hk3 hc hnext hbad;simp only[↓Sh.dn,sx,Nat.reduceEqDiff,A18,A51,A67,arc0,f35,f36,f37,A1a,hlt,decide_true,hia,hc];by_cases h1:a.fr<0
  ·simp only[↓Sh.dn,sx,Nat.reduceEqDiff,h1,decide_true,hbad (by simp[A2h,h1]),hk12.trans hk3]
  simp only[↓Sh.dn,sx,Nat.reduceEqDiff,hb3.c1,arc0,f1,h1,decide_false];by_cases h2:N.states≤a.fr
  ·simp only[↓Sh.dn,sx,Nat.reduceEqDiff,h2,decide_true,hbad (by simp[A2h,h2]),hk12.trans hk3]
  simp only[↓Sh.dn,sx,Nat.reduceEqDiff,arc3,h2,decide_false];by_cases h3:a.to<0
  ·simp only[↓Sh.dn,sx,Nat.reduceEqDiff,h3,decide_true,hbad (by simp[A2h,h3]),hk12.trans hk3]
  simp only[↓Sh.dn,sx,Nat.reduceEqDiff,hb3.c1,arc3,f1,h3,decide_false];by_cases h4:N.states≤a.to
  ·simp only[↓Sh.dn,sx,Nat.reduceEqDiff,h4,decide_true,hbad (by simp[A2h,h4]),hk12.trans hk3]
  obtain⟨r,H4,hd4,rfl,rfl⟩:=C29 (s:=a.inn) hb3 hasc hsm.sg;simp only[↓Sh.dn,sx,Nat.reduceEqDiff,arc1,f4,h4,decide_false];refine⟨_,_,hd4,?_⟩;have hb4:=hb3;cases hI:A5j N a.inn with
  | true=>simp only[↓Sh.dn,sx,Nat.reduceEqDiff,hbad (by simp[A2h,hI]),hk12.trans hk3]
  | false=>
   obtain⟨r,H5,hd5,rfl,rfl⟩:=C29 (s:=a.out) hb3 hasc hsm.sg;simp only[↓Sh.dn,sx,Nat.reduceEqDiff,arc2,f4];refine⟨_,_,hd5,?_⟩;cases hO:A5j N a.out with
   | true=>simp only[↓Sh.dn,sx,hbad (by simp[A2h,hO]),hk12.trans hk3]
   | false=>
    simp only[↓Sh.dn,sx,Nat.reduceEqDiff,f37,wrap_succ hlt hsm.ar];exact k _ _ (by repeat (first|refine Same.put ?_ rfl|exact Same.rfl' _)) (by simp only[sx]) ⟨hk3,hnext (by simp[A2h,h1,h2,h3,h4,hI,hO])⟩
 ·rintro F H' hF f37 ⟨hk,hall⟩
  have f1:=hF 1 rfl;have f36:=hF 36 rfl;simp only[sx,Nat.reduceEqDiff]at f1 f36;rw[List.take_length]at hall;have hb':=hb2.kept hk12.wf hk;simp only[↓Sh.dn,sx,Nat.reduceEqDiff,hb'.c3,A4t hb',f1,f36,f37,A1a,Nat.lt_irrefl,decide_false];refine A5c N.ends.length 81 (List.range' 81 15++[2,8]) (fun i F H''=>Kept H' H''∧(N.ends.take i).any (A1s N)=false) (by simp only[sx]) ⟨Kept.refl hk.wf,rfl⟩ ?_ ?_
  ·rintro i F2 H'' hlt hF2 f81 ⟨hk2',hall2⟩ k
   have g1:=hF2 1 rfl;have g79:=hF2 79 rfl;have g80:=hF2 80 rfl;simp only[sx,Nat.reduceEqDiff,f1]at g1 g79 g80;have hbx:=hb'.kept hk.wf hk2';have hb3:=hbx.new hk2'.wf 2 (N.ends[i].cells);have hk3:=hk2'.news 2 (N.ends[i].cells);have hkk:=(hk12.trans hk).trans hk3;obtain⟨g,o,kk,hia,hc,hcc⟩:=hbx.hen.at Tryz.underlying24 A7v (i:=i) (x:=N.ends[i].cells) (by simp[hlt]) .i64;clear hcc;have hbad:A1s N N.ends[i]=true→A2g N=1:=fun h=>e2 (List.any_eq_true.2 ⟨_,List.getElem_mem hlt,h⟩);simp only[↓Sh.dn,sx,Nat.reduceEqDiff,C9a,B2w,C0d,end0,g79,g80,f81,A1a,hlt,decide_true,hia,hc];by_cases h1:N.ends[i].state<0
   ·simp only[↓Sh.dn,sx,Nat.reduceEqDiff,h1,decide_true,hbad (by simp[A1s,h1]),hkk]
   simp only[↓Sh.dn,sx,Nat.reduceEqDiff,hb3.c1,end0,g1,h1,decide_false];by_cases h2:N.states≤N.ends[i].state
   ·simp only[↓Sh.dn,sx,h2,decide_true,hbad (by simp[A1s,h2]),hkk]
   simp only[↓Sh.dn,sx,Nat.reduceEqDiff,f81,h2,decide_false,wrap_succ hlt hsm.en];refine k _ _ (by repeat (first|refine Same.put ?_ rfl|exact Same.rfl' _)) (by simp only[sx]) ⟨hk3,?_⟩;rw[List.take_add_one,List.getElem?_eq_getElem hlt];simp only[Option.toList,List.any_append,hall2,List.any_cons,List.any_nil,Bool.or_false,A1s,h1,h2,decide_false]
  ·rintro F2 H'' hF2 f81 ⟨hk2',hall2⟩
   have g80:=hF2 80 rfl;simp only[sx,Nat.reduceEqDiff]at g80;rw[List.take_length]at hall2;simp only[↓Sh.dn,sx,g80,f81,A1a,Nat.lt_irrefl,decide_false,e3 hall hall2,(hk12.trans hk).trans hk2']
def A30(N:NetD)(m:Int):Bool:=N.arcs.any (fun a=>decide (a.cost<0)||decide (m<a.cost))||N.ends.any (fun a=>decide (a.cost<0)||decide (m<a.cost))
theorem priced{H:AH}{v:Value}{N:NetD}{m:Int}(h:A8v H v N)(hsm:A3g N)(hw:Wf H):
  Sh.Call Tryz.prog (knows 7) 68 [v,.int .i64 m] H (fun r H'=>Kept H H'∧r=.bool (A30 N m)):=by
 refine A3a rfl Tryz.func68 rfl (Nat.le_of_ble_eq_true rfl) ?_;have hres:Tryz.f68.results.toList=[.tmp 4]:=rfl;obtain⟨sg,ar,en,rfl,hsg,har,hen⟩:=h;have hb1:=NetBox.of (N:=N) hw hsg har hen;have hk1:Kept H (H.new 4 [sg,.int .i64 N.states,ar,en]).2:=Kept.new hw 4 _;simp only[↓Sh.dn,sx,Nat.reduceEqDiff,A3u hsg.isCell har.isCell hen.isCell];generalize H.next=gg at hb1 ⊢;generalize (H.new 4 [sg,.int .i64 N.states,ar,en]).2=H1 at hb1 hk1 ⊢;simp only[sx,hb1.c2,A2o hb1];refine A5c N.arcs.length 12 (List.range' 12 14++[4,6]) (fun i F H'=>Kept H1 H'∧(N.arcs.take i).any (fun a=>decide (a.cost<0)||decide (m<a.cost))=false) (by simp only[sx]) ⟨Kept.refl hk1.wf,rfl⟩ ?_ ?_
 ·rintro i F H' hlt hF f12 ⟨hk,hall⟩ k
  have f1:=hF 1 rfl;have f10:=hF 10 rfl;have f11:=hF 11 rfl;simp only[sx,Nat.reduceEqDiff]at f1 f10 f11;have hb':=hb1.kept hk1.wf hk;have hb3:=hb'.new hk.wf 5 (N.arcs[i].cells);have hk3:=hk.news 5 (N.arcs[i].cells);obtain⟨g,o,kk,hia,hc,hcc⟩:=hb'.har.at Tryz.underlying23 A7q (i:=i) (x:=N.arcs[i].cells) (by simp[hlt]) .i64;clear hcc;have hbad:(decide (N.arcs[i].cost<0)||decide (m<N.arcs[i].cost))=true→A30 N m=true:=fun h=>by
   rw[A30,List.any_eq_true.2 ⟨_,List.getElem_mem hlt,h⟩];rfl
  simp only[↓Sh.dn,sx,Nat.reduceEqDiff,A18,A51,A67,arc4,f10,f11,f12,A1a,hlt,decide_true,hia,hc,hres];by_cases h1:N.arcs[i].cost<0
  ·simp only[↓Sh.dn,sx,Nat.reduceEqDiff,h1,decide_true,hbad (by simp[h1]),hk1.trans hk3]
  simp only[↓Sh.dn,sx,Nat.reduceEqDiff,arc4,f1,h1,decide_false];by_cases h2:m<N.arcs[i].cost
  ·simp only[↓Sh.dn,sx,h2,decide_true,hbad (by simp[h2]),hk1.trans hk3]
  simp only[↓Sh.dn,sx,Nat.reduceEqDiff,f12,h2,decide_false,wrap_succ hlt hsm.ar];refine k _ _ (by repeat (first|refine Same.put ?_ rfl|exact Same.rfl' _)) (by simp only[sx]) ⟨hk3,?_⟩;rw[List.take_add_one,List.getElem?_eq_getElem hlt];simp only[Option.toList,List.any_append,hall,List.any_cons,List.any_nil,Bool.or_false,h1,h2,decide_false]
 ·rintro F H' hF f12 ⟨hk,hall⟩
  have f2:=hF 2 rfl;have f11:=hF 11 rfl;simp only[sx,Nat.reduceEqDiff]at f2 f11;rw[List.take_length]at hall;have hb':=hb1.kept hk1.wf hk;simp only[↓Sh.dn,sx,Nat.reduceEqDiff,hb'.c3,A4t hb',f2,f11,f12,A1a,Nat.lt_irrefl,decide_false];refine A5c N.ends.length 29 (List.range' 29 14++[4,8]) (fun i F H''=>Kept H' H''∧(N.ends.take i).any (fun a=>decide (a.cost<0)||decide (m<a.cost))=false) (by simp only[sx]) ⟨Kept.refl hk.wf,rfl⟩ ?_ ?_
  ·rintro i F2 H'' hlt hF2 f29 ⟨hk2',hall2⟩ k
   have g1:=hF2 1 rfl;have h1':=hF 1 rfl;have g27:=hF2 27 rfl;have g28:=hF2 28 rfl;simp only[sx,Nat.reduceEqDiff]at g1 g27 g28 h1';have hbx:=hb'.kept hk.wf hk2';have hb3:=hbx.new hk2'.wf 2 (N.ends[i].cells);have hk3:=hk2'.news 2 (N.ends[i].cells);have hkk:=(hk1.trans hk).trans hk3;obtain⟨g,o,kk,hia,hc,hcc⟩:=hbx.hen.at Tryz.underlying24 A7v (i:=i) (x:=N.ends[i].cells) (by simp[hlt]) .i64;clear hcc;have hbad:(decide (N.ends[i].cost<0)||decide (m<N.ends[i].cost))=true→A30 N m=true:=fun h=>by
    rw[A30,List.any_eq_true.2 ⟨_,List.getElem_mem hlt,h⟩,Bool.or_true]
   simp only[↓Sh.dn,sx,Nat.reduceEqDiff,C9a,B2w,C0d,end1,g27,g28,f29,A1a,hlt,decide_true,hia,hc];by_cases h1:N.ends[i].cost<0
   ·simp only[↓Sh.dn,sx,Nat.reduceEqDiff,h1,decide_true,hres,hbad (by simp[h1]),hkk]
   simp only[↓Sh.dn,sx,Nat.reduceEqDiff,end1,g1,h1',h1,decide_false];by_cases h2:m<N.ends[i].cost
   ·simp only[↓Sh.dn,sx,h2,decide_true,hres,hbad (by simp[h2]),hkk]
   simp only[↓Sh.dn,sx,Nat.reduceEqDiff,f29,h2,decide_false,wrap_succ hlt hsm.en];refine k _ _ (by repeat (first|refine Same.put ?_ rfl|exact Same.rfl' _)) (by simp only[sx]) ⟨hk3,?_⟩;rw[List.take_add_one,List.getElem?_eq_getElem hlt];simp only[Option.toList,List.any_append,hall2,List.any_cons,List.any_nil,Bool.or_false,h1,h2,decide_false]
  ·rintro F2 H'' hF2 f29 ⟨hk2',hall2⟩
   have g28:=hF2 28 rfl;simp only[sx,Nat.reduceEqDiff]at g28;rw[List.take_length]at hall2;simp only[↓Sh.dn,sx,g28,f29,A1a,Nat.lt_irrefl,decide_false,hres,A30,hall,hall2,(hk1.trans hk).trans hk2']
def A9j(N:NetD):Int:=if A2g N≠0 then A2g N else if NetD.free N=true then 0 else 6
theorem A3t{N:NetD}(h:A9j N=0):A1q N∧A2g N=0∧NetD.free N=true:=by
 unfold A9j at h;split at h
 ·rename_i h1;exact absurd h h1
 ·rename_i h1
  split at h
  ·rename_i h2
   exact⟨netOk (by simpa using h1),by simpa using h1,h2⟩
  ·cases h
theorem B6d(N:NetD):A30 N 0=!NetD.free N:=by
 unfold A30 NetD.free;rw[Bool.not_and,List.not_all_eq_any_not,List.not_all_eq_any_not];have e:∀c:Int,(decide (c<0)||decide (0<c))=!decide (c=0):=fun c=>by
  by_cases h:c=0
  ·subst h;rfl
  ·rw[decide_eq_false h,Bool.not_false,Bool.or_eq_true,decide_eq_true_eq,decide_eq_true_eq];omega
 simp only[e]
theorem C0a{H:AH}{v:Value}{N:NetD}(h:A8v H v N)(hsm:A3g N)(hw:Wf H):
  Sh.Call Tryz.prog (knows 7) 31 [v] H (fun r H'=>Kept H H'∧r=.int .i64 (A9j N)):=by
 refine A3a rfl Tryz.func31 rfl (Nat.le_of_ble_eq_true rfl) ?_;have hres:Tryz.f31.results.toList=[.tmp 2]:=rfl;obtain⟨sg,ar,en,rfl,hsg,har,hen⟩:=h;have hb1:=NetBox.of (N:=N) hw hsg har hen;have hk1:Kept H (H.new 4 [sg,.int .i64 N.states,ar,en]).2:=Kept.new hw 4 _;simp only[↓Sh.dn,sx,Nat.reduceEqDiff,A3u hsg.isCell har.isCell hen.isCell];generalize H.next=gg at hb1 ⊢;generalize (H.new 4 [sg,.int .i64 N.states,ar,en]).2=H1 at hb1 hk1 ⊢;simp only[sx,hb1.ca];obtain⟨r,H2,hd,hk2,rfl⟩:=C9s hb1.netAt hsm hk1.wf;refine⟨_,_,hd,?_⟩;have hb2:=hb1.kept hk1.wf hk2;have hk12:=hk1.trans hk2;by_cases hE:A2g N=0
 case neg=>simp only[↓Sh.dn,sx,Nat.reduceEqDiff,hE,decide_false,hres,A9j,hk12]
 simp only[↓Sh.dn,sx,Nat.reduceEqDiff,hE,decide_true,hb2.ca];obtain⟨r,H4,hd4,hk4,rfl⟩:=priced (m:=0) hb2.netAt hsm hk12.wf;refine⟨_,_,hd4,?_⟩;cases hp:NetD.free N with
 | true=>simp only[↓Sh.dn,sx,hres,A9j,hE,hp,B6d,hk12.trans hk4]
 | false=>simp only[↓Sh.dn,sx,hres,A9j,hE,hp,B6d,hk12.trans hk4]
theorem C34{H:AH}{v:Value}{N:NetD}(h:A8v H v N)(hsm:A3g N)(hw:Wf H):
  Sh.Call Tryz.prog (knows 7) 19 [v] H (fun r H'=>Kept H H'∧r=.int .i64 (A9j N)):=by
 refine A3a rfl Tryz.func19 rfl (Nat.le_of_ble_eq_true rfl) ?_;have hres:Tryz.f19.results.toList=[.tmp 2]:=rfl;obtain⟨sg,ar,en,rfl,hsg,har,hen⟩:=h;have hb1:=NetBox.of (N:=N) hw hsg har hen;have hk1:Kept H (H.new 4 [sg,.int .i64 N.states,ar,en]).2:=Kept.new hw 4 _;simp only[↓Sh.dn,sx,Nat.reduceEqDiff,A3u hsg.isCell har.isCell hen.isCell];generalize H.next=gg at hb1 ⊢;generalize (H.new 4 [sg,.int .i64 N.states,ar,en]).2=H1 at hb1 hk1 ⊢;simp only[sx,hb1.ca];obtain⟨r,H2,hd,hk2,rfl⟩:=C7a hb1.netAt hsm hk1.wf;refine⟨_,_,hd,?_⟩;have hb2:=hb1.kept hk1.wf hk2;have hk12:=hk1.trans hk2;by_cases hE:A2g N=0
 case neg=>simp only[↓Sh.dn,sx,Nat.reduceEqDiff,hE,decide_false,hres,A9j,hk12]
 simp only[↓Sh.dn,sx,Nat.reduceEqDiff,hE,decide_true,hb2.ca];obtain⟨r,H4,hd4,rfl,hk4⟩:=isFree hb2.netAt hk12.wf hsm.ar hsm.en;refine⟨_,_,hd4,?_⟩;cases hp:NetD.free N with
 | true=>simp only[↓Sh.dn,sx,hres,A9j,hE,hp,hk12.trans hk4]
 | false=>simp only[↓Sh.dn,sx,hres,A9j,hE,hp,hk12.trans hk4]
theorem grNow{H:AH}{X:Nat→Prop}{g:Nat}{sigma:List ByteArray}{rows:List (List (List Value))}{ends costs:List Int}(h:GrX H X g sigma rows ends costs)(hw:Wf H):GrX H (fun y=>X y∧y<H.next) g sigma rows ends costs:=by
 obtain⟨sv,av,ev,cv,os,ot,oe,oc,vals,obs,h,ho⟩:=h;refine⟨sv,av,ev,cv,os,ot,oe,oc,vals,obs,h,fun y hy=>⟨ho y hy,?_⟩⟩;rcases hy with rfl|hy|hy|hy|hy
 ·exact h.arr.lt hw
 ·exact h.sg.lt hw y hy
 ·exact h.jag.lt hw y hy
 ·exact h.en.lt hw y hy
 ·exact h.co.lt hw y hy
section
variable {sigma:List ByteArray} {E:List (List GE)} {ends costs:List Int} {n:Nat} {M:NetD}
def endP(ends:List Int)(t:Nat):Prop:=0<ends.getD t 0
end
theorem B9s{N:NetD}(hok:A1q N)(x y:List ByteArray):A3k N x y↔((∀z∈x,z∈N.sigma)∧∀z∈y,z∈N.sigma)∧RelP (A8m (A1l N)) (endP (A8j N N.ends)) (x.map (ixN N.sigma)) (y.map (ixN N.sigma)):=by
 constructor
 ·intro h
  have hsy:=B7f hok h;exact⟨hsy,(B6z hok hsy.1 hsy.2).2 h⟩
 ·rintro⟨h1,h2⟩
  exact(B6z hok h1.1 h1.2).1 h2
theorem B7m{H:AH}{v:Value}(hv:isCell v=true):anew Tryz.prog 52 H (.agg #[v])=some (.pointer (some ⟨H.next,0,some 0⟩),(H.new 1 [v]).2):=A3q (vs:=[v]) C3b rfl (by simp[hv])
theorem B96{H:AH}{v:Value}{p:Addr}(hv:isCell v=true):A0e Tryz.prog 52 H (.agg #[v]) (.pointer (some p))=H.write p [v]:=A0s (vs:=[v]) C3b rfl (by simp[hv])
theorem C8p{H:AH}{a b:Value}:(H.new 1 [a]).2.write ⟨H.next,0,some 0⟩ [b]=some (H.new 1 [b]).2:=A3m rfl
theorem B68{v:Value}(hv:isCell v=true):A3s Tryz.prog 52 [(0,v)]=some (.agg #[v]):=bld_52 hv
def B4k(f:GE→Int×Int)(e:GE):GE:=(e.1,(f e).1,(f e).2,e.2.2.2)
def A2p(f:GE→Int×Int)(E:List (List GE)):List (List GE):=E.map fun r=>r.map (B4k f)
def C09(e:GE):Int×Int:=(e.2.2.1,e.2.1)
theorem C74(f:GE→Int×Int)(E:List (List GE)):(A2p f E).length=E.length:=by unfold A2p;rw[List.length_map]
theorem B5r{f:GE→Int×Int}{E:List (List GE)}{s:Nat}{a b:Option Nat}{t:Nat}:A8m (A2p f E) s a b t↔∃r,E[s]?=some r∧∃e∈r,e.1=t∧labN (f e).1=a∧labN (f e).2=b:=by
 unfold A8m A2p;constructor
 ·rintro⟨r,h1,e,h2,h3⟩
  rw[List.getElem?_map]at h1;obtain⟨r0,h4,rfl⟩:=Option.map_eq_some_iff.1 h1;obtain⟨e0,h5,rfl⟩:=List.mem_map.1 h2;exact⟨r0,h4,e0,h5,h3⟩
 ·rintro⟨r,h1,e,h2,h3⟩
  exact⟨_,by rw[List.getElem?_map,h1];rfl,B4k f e,List.mem_map.2 ⟨e,h2,rfl⟩,h3⟩
theorem C4y{f:GE→Int×Int}{E:List (List GE)}{n:Nat}(h:∀r∈E,∀e∈r,e.1<n):∀r∈A2p f E,∀e∈r,e.1<n:=by
 intro r hr e he;obtain⟨r0,h1,rfl⟩:=List.mem_map.1 hr;obtain⟨e0,h2,rfl⟩:=List.mem_map.1 he;exact h r0 h1 e0 h2
theorem turn_ok{f:GE→Int×Int}{E:List (List GE)}{n:Nat}{m:Int}(hf:∀e:GE,e.2.1<m→e.2.2.1<m→(f e).1<m∧(f e).2<m)(h:∀r∈E,∀e∈r,e.1<n∧e.2.1<m∧e.2.2.1<m∧e.2.2.2=0):∀r∈A2p f E,∀e∈r,e.1<n∧e.2.1<m∧e.2.2.1<m∧e.2.2.2=0:=by
 intro r hr e he;obtain⟨r0,h1,rfl⟩:=List.mem_map.1 hr;obtain⟨e0,h2,rfl⟩:=List.mem_map.1 he;obtain⟨q1,q2,q3,q4⟩:=h r0 h1 e0 h2;obtain⟨p1,p2⟩:=hf e0 q2 q3;exact⟨q1,p1,p2,q4⟩
theorem turn_sum(f:GE→Int×Int)(E:List (List GE)):((A2p f E).map List.length).sum=(E.map List.length).sum:=by
 unfold A2p;rw[List.map_map]
 congr 1
 exact List.map_congr_left fun r _=>by simp
theorem turn_row{f:GE→Int×Int}{E:List (List GE)}{n k:Nat}(h:∀r∈E,r.length≤k∧∀e∈r,e.1<n):∀r∈A2p f E,r.length≤k∧∀e∈r,e.1<n:=by
 intro r hr;refine⟨?_,C4y (fun r hr=>(h r hr).2) r hr⟩;obtain⟨r0,h1,rfl⟩:=List.mem_map.1 hr;rw[List.length_map];exact(h r0 h1).1
theorem set_mid{α:Type}(A C:List α)(x y:α):(A++x :: C).set A.length y=A++y :: C:=by
 rw[List.set_append_right _ _ (Nat.le_refl _),Nat.sub_self];rfl
theorem C92{α:Type}(A C:List α)(x:α):(A++x :: C)[A.length]?=some x:=by
 rw[List.getElem?_append_right (Nat.le_refl _),Nat.sub_self];rfl
theorem B8c{α:Type}{n i:Nat}(h:i<n)(x:α):List.replicate (n-i) x=x :: List.replicate (n-(i+1)) x:=by
 rw[show n-i=(n-(i+1))+1 by omega];rfl
theorem C87{H:AH}{Y:Nat→Prop}{g2 n fid:Nat}{sigma:List ByteArray}{E:List (List GE)}{ends costs:List Int}(f:GE→Int×Int)(h2:GrX H Y g2 sigma (A9d E) ends costs)
  (hp:∀{H:AH} (e:GE),Wf H→Sh.Call Tryz.prog (knows 7) fid [.agg (A6c e).toArray] H (fun r H'=>Kept H H'∧r=.tuple #[.int .i64 (f e).1,.int .i64 (f e).2]))
  (hE:E.length=n) (he2:ends.length=n) (hc2:costs.length=n) (hn1:1≤n) (hn:n≤3000) (hsl:sigma.length≤1048576) (hto:∀r∈E,r.length≤60000∧∀e∈r,e.1<n) (hw:Wf H):
  Sh.Call Tryz.prog (knows 7) 39 [.agg #[.func (.func fid) #[] #[]],.pointer (some ⟨g2,0,some 0⟩)] H (fun r H'=>Kept H H'∧∃g,∃X:Nat→Prop,r=.pointer (some ⟨g,0,some 0⟩)∧GrX H' X g sigma (A9d (A2p f E)) ends costs):=by
 refine A3a rfl Tryz.func39 rfl (Nat.le_of_ble_eq_true rfl) ?_;have hres:Tryz.f39.results.toList=[.tmp 4]:=rfl;have hc:isCell (Value.func (.func fid) #[] #[])=true:=rfl;have k1:=Kept.new hw 1 [Value.func (.func fid) #[] #[]];have cs:(H.new 1 [Value.func (.func fid) #[] #[]]).2.cells ⟨H.next,0,some 0⟩ 1=some [Value.func (.func fid) #[] #[]]:=(Sh.Obj.new (H:=H) 1 _).cells (i:=0) (n:=1) (by simp);have cs1:(H.new 1 [Value.func (.func fid) #[] #[]]).2.cell ⟨H.next,0,some 0⟩=some (Value.func (.func fid) #[] #[]):=A3i _ _ _;have h4:=(grNow h2 hw).kept hw k1;have hy1:∀y,Y y∧y<H.next→y<(H.new 1 [Value.func (.func fid) #[] #[]]).2.next:=fun y hy=>Nat.lt_of_lt_of_le hy.2 k1.next;simp only[↓Sh.dn,sx,B7m hc];generalize H.next=gs at cs cs1 h4 hy1 ⊢;generalize (H.new 1 [Value.func (.func fid) #[] #[]]).2=H1 at cs cs1 k1 h4 hy1 ⊢;obtain⟨Z,hZ⟩:∃Z:Nat→Prop,(fun y=>H1.next≤y)=Z:=⟨_,rfl⟩
 have hZi:∀{y},Z y↔H1.next≤y:=fun{y}=>by rw[←hZ]
 obtain⟨sv,av,ev,cv,vals,hst⟩:=GrX.steady (X:=Z) h4 k1.wf fun y hy h=>by
  have:=hy1 y hy;rw[hZi]at h;omega
 have hR0:=hst H1 (Chg.refl k1.wf);have c0:=hR0.arr.cell 0;have c1:=hR0.arr.cell 1;have hlen:∀{H'},Chg Z H1 H'→∀H'',A4a Tryz.prog .len [101] [av] H''=some (.int .i64 (n:Int),H''):=fun hc H''=>by
  rw[(hst _ hc).jag.sl.len Tryz.underlying101,List.length_map,(hst _ hc).jag.len];unfold A9d;rw[List.length_map,hE]
 have hlen1:=hlen (Chg.refl k1.wf) H1;have qv0:=hR0.sg.veq;obtain⟨r3,H3,hd3,hk3,g,rfl,hG3⟩:=A56 (n:=n) hR0.sg hsl (by omega) k1.wf;have hc3:Chg Z H1 H3:=hk3.chg (X:=Z);have c13:=(hst H3 hc3).arr.cell 1;have hlen3:=hlen hc3 H3;have hX3:GrX H3 Z g sigma (List.replicate n []) (List.replicate n 0) (List.replicate n 0):=(hG3.own hk3.wf).mono fun y hy=>hZi.2 hy.1;have hNZ:∀{H'},Chg Z H1 H'→∀y,Z y∨H'.next≤y→Z y:=fun hc y hy=>by
  rcases hy with hy|hy
  ·exact hy
  ·exact hZi.2 (Nat.le_trans hc.next hy)
 have hpg:∀{H'},Chg Z H1 H'→PG H' g2 n 60000 E ends sv av ev cv vals sigma costs:=fun hc=>⟨hst _ hc,hE,he2,hn1,Nat.le_trans hn (by decide),fun s r hr=>hto r (List.mem_of_getElem? hr)⟩
 have hcs:∀{H'},Chg Z H1 H'→H'.cells ⟨gs,0,some 0⟩ 1=some [Value.func (.func fid) #[] #[]]∧H'.cell ⟨gs,0,some 0⟩=some (Value.func (.func fid) #[] #[]):=fun{H'} hc=>by
  have hk:Kept H1 H':=(Kept.refl k1.wf).then (Nat.le_refl _) (hc.weak fun y hy=>hZi.1 hy);exact⟨A0n (hk.grow k1.wf) cs,A8b (hk.grow k1.wf) cs1⟩
 refine(A9a (by kernel_rfl)).2 ?_;simp only[↓Sh.dn,sx,Nat.reduceEqDiff,c0,c1,hlen1];refine⟨_,_,hd3,?_⟩;simp only[sx,c13,hlen3];refine A5c n 27 (List.range' 27 60++[6,7,9,10,11]) (fun i F H'=>Chg Z H1 H'∧GrX H' Z g sigma (A9d (A2p f (E.take i))++List.replicate (n-i) []) (ends.take i++List.replicate (n-i) 0) (costs.take i++List.replicate (n-i) 0)) (by simp only[sx]) ⟨hc3,by simpa [A9d,A2p] using hX3⟩ ?_ ?_
 ·rintro i F H' hi hF f27 ⟨hc,hG⟩ k
  have f1:=hF 1 rfl;have f2:=hF 2 rfl;have f5:=hF 5 rfl;have f25:=hF 25 rfl;have f26:=hF 26 rfl;simp only[sx,Nat.reduceEqDiff]at f1 f2 f5 f25 f26;have hiE:i<E.length:=by omega
  have hr:E[i]?=some E[i]:=List.getElem?_eq_getElem hiE;obtain⟨hrl',hrt⟩:=hto E[i] (List.getElem_mem hiE);have htE:E.take (i+1)=E.take i++[E[i]]:=by rw[List.take_add_one,hr];rfl
  generalize E[i]=r at hr hrl' hrt htE;obtain⟨D,hD⟩:∃D,A9d (A2p f (E.take i))=D:=⟨_,rfl⟩
  have hDl:D.length=i:=by rw[←hD];simp[A9d,A2p];omega
  rw[hD,B8c hi,B8c hi]at hG;have hel':(ends.take i).length=i:=by rw[List.length_take];omega
  have hcl':(costs.take i).length=i:=by rw[List.length_take];omega
  obtain⟨pr,wr,hiar,hcr,hsr,hlr⟩:=PG.row (hpg hc) hr;have hvl:i<vals.length:=by rw[hR0.jag.len];unfold A9d;rw[List.length_map];omega
  have key:∀{Hx wx},Chg Z H1 Hx→Hx.cell pr=some wx→wx=vals[i]:=by
   intro Hx wx hcx hx;obtain⟨p',h1,h2⟩:=Sl.elem (s:=1) Tryz.underlying101 A2v (hst Hx hcx).jag.sl (i:=i) (u:=vals[i]) (by rw[List.getElem?_map,List.getElem?_eq_getElem hvl];rfl);rw[hiar]at h1;have e1:=Option.some.inj h1;injection e1 with e1;injection e1 with e1
   subst e1;rw[hx]at h2;exact Option.some.inj h2
  simp only[↓Sh.dn,sx,Nat.reduceEqDiff,f25,f26,f27,A1a,hi,decide_true,hiar,hcr,hlr];refine A5c r.length 34 (List.range' 34 21++[9,10,11]) (fun q F'' H''=>Chg Z H1 H''∧GrX H'' Z g sigma (D++(((r.take q).map (B4k f)).map A6c) :: List.replicate (n-(i+1)) []) (ends.take i++0 :: List.replicate (n-(i+1)) 0) (costs.take i++0 :: List.replicate (n-(i+1)) 0)) (by simp only[sx]) ⟨hc,by simpa using hG⟩ ?_ ?_
  ·rintro q F'' H'' hq hF'' f34 ⟨hc2,hG2⟩ k2
   have g2':=hF'' 2 rfl;have g5:=hF'' 5 rfl;have g6:=hF'' 6 rfl;have g32:=hF'' 32 rfl;have g33:=hF'' 33 rfl;simp only[sx,Nat.reduceEqDiff,f2,f5]at g2' g5 g6 g32 g33;obtain⟨pr2,wr2,hia2,hcr2,hsr2,hlr2⟩:=PG.row (hpg hc2) hr;rw[hiar]at hia2;have e1:=Option.some.inj hia2;injection e1 with e1;injection e1 with e1
   subst e1;have hwr:wr2=wr:=(key hc2 hcr2).trans (key hc hcr).symm;subst hwr;obtain⟨pe,hiae,hce⟩:=PG.edge hsr2 hq;have hrq:r[q]∈r:=List.getElem_mem hq;have htk:r.take (q+1)=r.take q++[r[q]]:=by rw[List.take_add_one,List.getElem?_eq_getElem hq];rfl
   generalize r[q]=e at hce hrq htk;have kn:=Kept.new hc2.wf 4 (A6c e);have hc3:=hc2.trans (kn.chg (X:=Z));have hG3:=hG2.kept hc2.wf kn;have hga:Sh.Obj (H''.new 4 (A6c e)).2 H''.next 4 (A6c e) true:=Sh.Obj.new (H:=H'') 4 (A6c e);obtain⟨rr,H5,hd5,hk5,rfl⟩:=hp e hc3.wf;have hc5:=hc3.trans (hk5.chg (X:=Z));have hG5:=hG3.kept hc3.wf hk5;have hga5:H5.cell ⟨H''.next,0,some 0⟩=some (.int .i64 (e.1:Int))∧H5.cell ⟨H''.next,3,some 0⟩=some (.int .i64 e.2.2.2):=⟨A8b (hk5.grow hc3.wf) ge0,A8b (hk5.grow hc3.wf) ge3⟩
   have hrow:(D++(((r.take q).map (B4k f)).map A6c) :: List.replicate (n-(i+1)) [])[i]?=some (((r.take q).map (B4k f)).map A6c):=by
    have:=C92 D (List.replicate (n-(i+1)) []) (((r.take q).map (B4k f)).map A6c)
    rwa [hDl]at this
   obtain⟨rr,H6,hd6,hc6,hG6⟩:=C57 (x0:=(e.1:Int)) (x1:=(f e).1) (x2:=(f e).2) (x3:=e.2.2.2) hG5 hrow (by rw[List.length_map,List.length_map,List.length_take];omega) hc5.wf;have hcs3:=hcs hc3;simp only[↓Sh.dn,sx,Nat.reduceEqDiff,f34,g2',g5,g6,g32,g33,hiae,hce,A1a,hq,decide_true,B7a,A1z,B2a,geAll,hcs3.2];refine⟨_,_,hd5,?_⟩;simp only[sx,hga5.1,hga5.2];refine⟨_,_,hd6,?_⟩;simp only[A2a hq (Nat.le_trans hrl' (by decide))];refine k2 _ _ (by repeat (first|refine Same.put ?_ rfl|exact Same.rfl' _)) (by simp only[sx]) ⟨hc5.trans hc6,?_⟩;have:=hG6.mono (hNZ hc5);have hs:=set_mid D (List.replicate (n-(i+1)) []) (((r.take q).map (B4k f)).map A6c) ((((r.take q).map (B4k f)).map A6c)++[[.int .i64 (e.1:Int),.int .i64 (f e).1,.int .i64 (f e).2,.int .i64 e.2.2.2]]);rw[hDl]at hs;rw[hs]at this;rw[htk]
   simpa [A6c,B4k] using this
  ·rintro F'' H'' hF'' f34 ⟨hc2,hG2⟩
   rw[List.take_length]at hG2;have g1:=hF'' 1 rfl;have g5:=hF'' 5 rfl;have g6:=hF'' 6 rfl;have g27:=hF'' 27 rfl;have g33:=hF'' 33 rfl;simp only[sx,Nat.reduceEqDiff,f1,f5,f27]at g1 g5 g6 g27 g33;have hi2:i<ends.length:=by omega
   have hi3:i<costs.length:=by omega
   have hR2:=hst H'' hc2;obtain⟨evg,cvg,p1,p2,H6,H7,z1,z2,z3,zq,i1,i2,s1,s2,ch1,ch2,hG3⟩:=GrX.setEC (s:=i) hG2 hc2.wf (by simp[hel']) (by simp[hcl']) ends[i] costs[i];have hR3:=hst H6 (hc2.trans ch1);have y1:=hR2.arr.cell 2;have y2:=hR2.arr.cell 3;have y3:=hR3.arr.cell 3;obtain⟨pa,ia,ca⟩:=Sl.elem (s:=1) Tryz.underlying71 A2c hR2.en (i:=i) (u:=.int .i64 ends[i]) (by rw[List.getElem?_map,List.getElem?_eq_getElem hi2];rfl);obtain⟨pb,ib,cb⟩:=Sl.elem (s:=1) Tryz.underlying71 A2c hR2.co (i:=i) (u:=.int .i64 costs[i]) (by rw[List.getElem?_map,List.getElem?_eq_getElem hi3];rfl);obtain⟨pb',ib',cb'⟩:=Sl.elem (s:=1) Tryz.underlying71 A2c hR3.co (i:=i) (u:=.int .i64 costs[i]) (by rw[List.getElem?_map,List.getElem?_eq_getElem hi3];rfl);rw[ib]at ib';have e1:=Option.some.inj ib';injection e1 with e1;injection e1 with e1
   subst e1;have qv:=hR2.co.veq;simp only[↓Sh.dn,sx,Nat.reduceBEq,f34,g33,A1a,Nat.lt_irrefl,decide_false];refine A1u (fl:=[(0,[]),(1,[]),(2,[]),(3,[]),(4,[]),(5,[]),(6,[]),(7,[]),(8,[]),(9,[]),(10,[]),(11,[]),(12,[]),(13,[]),(14,[]),(15,[]),(16,[]),(17,[]),(18,[]),(19,[]),(20,[]),(21,[]),(22,[]),(23,[]),(24,[]),(25,[]),(26,[]),(27,[])]) (by kernel_rfl) (by kernel_rfl) (by kernel_rfl) ?_;simp only[↓Sh.dn,sx,Nat.reduceEqDiff,wpr,again,g1,g5,g6,g27,z1,z2,i1,i2,s1,s2,y1,y2,ia,ca,ib,cb,A2a hi (Nat.le_trans hn (by decide))];refine k _ _ ?_ (by simp only[sx]) ⟨hc2.trans ch2,?_⟩
   ·repeat refine Same.put ?_ rfl
    exact Same.trans (by repeat (first|refine Same.put ?_ rfl|exact Same.rfl' _)) (hF''.sub rfl)
   ·have t1:ends.take (i+1)=ends.take i++[ends[i]]:=by rw[List.take_add_one,List.getElem?_eq_getElem hi2];rfl
    have t2:costs.take (i+1)=costs.take i++[costs[i]]:=by rw[List.take_add_one,List.getElem?_eq_getElem hi3];rfl
    have s3:=set_mid (ends.take i) (List.replicate (n-(i+1)) 0) 0 ends[i];rw[hel']at s3;have s4:=set_mid (costs.take i) (List.replicate (n-(i+1)) 0) 0 costs[i];rw[hcl']at s4;rw[s3,s4]at hG3;rw[t1,t2,htE];have e2:A9d (A2p f (E.take i++[r]))=D++[(r.map (B4k f)).map A6c]:=by rw[←hD];simp[A9d,A2p]
    rw[e2,List.append_assoc,List.append_assoc,List.append_assoc];exact hG3
 ·rintro F H' hF f27 ⟨hc,hG⟩
  have f5:=hF 5 rfl;have f26:=hF 26 rfl;simp only[sx,Nat.reduceEqDiff]at f5 f26;rw[Nat.sub_self,List.take_of_length_le (by omega),List.take_of_length_le (by omega),List.take_of_length_le (by omega)]at hG;simp only[List.replicate_zero,List.append_nil]at hG;simp only[↓Sh.dn,sx,Nat.reduceEqDiff,f5,f26,f27,A1a,Nat.lt_irrefl,decide_false,hres];exact⟨k1.then k1.next (hc.weak fun y hy=>hZi.1 hy),g,rfl,Z,hG⟩
def A2r(n:Nat)(w:List Nat)(i:Nat)(e:GE):List GE:=
 if e.2.1<0 then [(i*n+e.1,e.2.2.1,e.2.2.1,e.2.2.2)] else if (w[i]?).map (fun k:Nat=>(k:Int))=some e.2.1 then [((i+1)*n+e.1,e.2.2.1,e.2.2.1,e.2.2.2)] else []
def A6o(n:Nat)(w:List Nat)(i:Nat)(r:List GE):List GE:=r.flatMap (A2r n w i)
def C4e(n:Nat)(w:List Nat)(E:List (List GE))(k:Nat):List GE:=A6o n w (k/n) (E.getD (k % n) [])
def imgP(n:Nat)(w:List Nat)(E:List (List GE))(k:Nat):List (List GE):=(List.range k).map (C4e n w E)
def imgE(n:Nat)(w:List Nat)(E:List (List GE)):List (List GE):=imgP n w E ((w.length+1)*n)
theorem C2m(n:Nat)(w:List Nat)(E:List (List GE))(k:Nat):(imgP n w E k).length=k:=by simp[imgP]
theorem B94(n:Nat)(w:List Nat)(E:List (List GE))(k:Nat):imgP n w E (k+1)=imgP n w E k++[C4e n w E k]:=by unfold imgP;rw[List.range_succ,List.map_append];rfl
theorem B8m(n:Nat)(w:List Nat)(i:Nat)(r:List GE)(e:GE):A6o n w i (r++[e])=A6o n w i r++A2r n w i e:=by simp[A6o]
theorem B8k(n:Nat)(w:List Nat)(i:Nat)(r:List GE):(A6o n w i r).length≤r.length:=by
 have h1:∀e,(A2r n w i e).length≤1:=fun e=>by
  unfold A2r;split
  ·simp
  ·split<;>simp
 unfold A6o
 induction r with
 | nil=>simp
 | cons e r ih=>
  have:=h1 e;rw[List.flatMap_cons,List.length_append,List.length_cons];omega
theorem C9r{H:AH}{Y:Nat→Prop}{g2 n:Nat}{sigma:List ByteArray}{E:List (List GE)}{ends costs:List Int}{wv:Value}{w:List Nat}(h2:GrX H Y g2 sigma (A9d E) ends costs)(hwv:Sl H wv 1 (w.map natC))
  (hE:E.length=n) (he2:ends.length=n) (hc2:costs.length=n) (hn1:1≤n) (hn:n≤3000) (hN:(w.length+1)*n≤100000) (hsl:sigma.length≤1048576) (hto:∀r∈E,r.length≤60000∧∀e∈r,e.1<n) (hw:Wf H):
  Sh.Call Tryz.prog (knows 7) 80 [.pointer (some ⟨g2,0,some 0⟩),wv] H (fun r H'=>Kept H H'∧∃g,r=.pointer (some ⟨g,0,some 0⟩)∧∃X:Nat→Prop,GrX H' X g sigma (A9d (imgE n w E)) (List.replicate (w.length*n) 0++ends) (List.replicate (w.length*n) 0++costs)):=by
 refine A3a rfl Tryz.func80 rfl (Nat.le_of_ble_eq_true rfl) ?_;have hres:Tryz.f80.results.toList=[.tmp 4]:=rfl;have h4:=grNow h2 hw;obtain⟨Z,hZ⟩:∃Z:Nat→Prop,(fun y=>H.next≤y)=Z:=⟨_,rfl⟩
 have hZi:∀{y},Z y↔H.next≤y:=fun{y}=>by rw[←hZ]
 obtain⟨sv,av,ev,cv,vals,hst⟩:=GrX.steady (X:=Z) h4 hw fun y hy h=>by
  have:=hy.2;rw[hZi]at h;omega
 have hkz:∀{H'},Chg Z H H'→Kept H H':=fun hc=>(Kept.refl hw).then (Nat.le_refl _) (hc.weak fun y hy=>hZi.1 hy);have hR0:=hst H (Chg.refl hw);have c0:=hR0.arr.cell 0;have c1:=hR0.arr.cell 1;have hlen:∀H'',A4a Tryz.prog .len [101] [av] H''=some (.int .i64 (n:Int),H''):=fun H''=>by
  rw[hR0.jag.sl.len Tryz.underlying101,List.length_map,hR0.jag.len];unfold A9d;rw[List.length_map,hE]
 have hlenw:∀H'',A4a Tryz.prog .len [71] [wv] H''=some (.int .i64 (w.length:Int),H''):=fun H''=>by
  rw[hwv.len Tryz.underlying71,List.length_map]
 obtain⟨N,hNe⟩:∃N,(w.length+1)*n=N:=⟨_,rfl⟩
 rw[hNe]at hN;have hwl:w.length≤100000:=by
  have:(w.length+1)*1≤(w.length+1)*n:=Nat.mul_le_mul_left _ hn1;omega
 have hin:∀{i:Nat},i≤w.length→i*n+n≤N:=fun{i} hi=>by
  rw[←hNe,←Nat.succ_mul];exact Nat.mul_le_mul_right n (by omega)
 obtain⟨r3,H3,hd3,hk3,g,rfl,hG3⟩:=A56 (n:=N) hR0.sg hsl (by omega) hw;have hc3:Chg Z H H3:=hk3.chg (X:=Z);have c13:=(hst H3 hc3).arr.cell 1;have hX3:GrX H3 Z g sigma (List.replicate N []) (List.replicate N 0) (List.replicate N 0):=(hG3.own hk3.wf).mono fun y hy=>hZi.2 hy.1;have hNZ:∀{H'},Chg Z H H'→∀y,Z y∨H'.next≤y→Z y:=fun hc y hy=>by
  rcases hy with hy|hy
  ·exact hy
  ·exact hZi.2 (Nat.le_trans hc.next hy)
 have hpg:∀{H'},Chg Z H H'→PG H' g2 n 60000 E ends sv av ev cv vals sigma costs:=fun hc=>⟨hst _ hc,hE,he2,hn1,Nat.le_trans hn (by decide),fun s r hr=>hto r (List.mem_of_getElem? hr)⟩
 have wa:IntKind.wrap .i64 ((w.length:Int)+1)=((w.length+1:Nat):Int):=by rw[wrap64 (by omega) (by omega)];omega
 have wm:IntKind.wrap .i64 (((w.length+1:Nat):Int)*(n:Int))=(N:Int):=by rw[←Int.natCast_mul,hNe,wrap64 (by omega) (by omega)]
 simp only[↓Sh.dn,sx,reduceCtorEq,Nat.reduceEqDiff,c0,c1,hlen,hlenw,wa,wm];refine⟨_,_,hd3,?_⟩;refine A5c (w.length+1) 31 (List.range' 31 79++[7,8,9,11]) (fun i F H'=>Chg Z H H'∧GrX H' Z g sigma (A9d (imgP n w E (i*n))++List.replicate (N-i*n) []) (List.replicate N 0) (List.replicate N 0)) (by simp only[sx]) ⟨hc3,by simpa [A9d,imgP] using hX3⟩ ?_ ?_
 ·rintro i F H' hi hF f31 ⟨hc,hG⟩ k
  have f0:=hF 0 rfl;have f1:=hF 1 rfl;have f5:=hF 5 rfl;have f6:=hF 6 rfl;have f30:=hF 30 rfl;simp only[sx,reduceCtorEq,Nat.reduceEqDiff]at f0 f1 f5 f6 f30;have hi':i≤w.length:=by omega
  have hiN:=hin hi';have c1':=(hst H' hc).arr.cell 1;simp only[↓Sh.dn,sx,reduceCtorEq,Nat.reduceEqDiff,f0,f30,f31,A1a,hi,decide_true,c1',hlen];refine A5c n 39 (List.range' 39 70++[8,9,11]) (fun s F H'=>Chg Z H H'∧GrX H' Z g sigma (A9d (imgP n w E (i*n+s))++List.replicate (N-(i*n+s)) []) (List.replicate N 0) (List.replicate N 0)) (by simp only[sx]) ⟨hc,by simpa using hG⟩ ?_ ?_
  ·rintro s F2 H2 hs hF2 g39 ⟨hc2,hG2⟩ k2
   have g0:=hF2 0 rfl;have g1:=hF2 1 rfl;have g5:=hF2 5 rfl;have g6:=hF2 6 rfl;have g7:=hF2 7 rfl;have g31:=hF2 31 rfl;have g37:=hF2 37 rfl;have g38:=hF2 38 rfl;simp only[sx,reduceCtorEq,Nat.reduceEqDiff,f0,f1,f5,f6,f31]at g0 g1 g5 g6 g7 g31 g37 g38;have hsE:s<E.length:=by omega
   have hr:E[s]?=some E[s]:=List.getElem?_eq_getElem hsE;obtain⟨hrl',hrt⟩:=hto E[s] (List.getElem_mem hsE);have hat:C4e n w E (i*n+s)=A6o n w i E[s]:=by
    unfold C4e;have e1:(i*n+s)/n=i:=by rw[Nat.mul_comm,Nat.mul_add_div (by omega),Nat.div_eq_of_lt hs];omega
    have e2:(i*n+s) % n=s:=by rw[Nat.mul_comm,Nat.mul_add_mod,Nat.mod_eq_of_lt hs]
    rw[e1,e2,List.getD_eq_getElem?_getD,hr];rfl
   generalize E[s]=r at hr hrl' hrt hat;obtain⟨D,hD⟩:∃D,A9d (imgP n w E (i*n+s))=D:=⟨_,rfl⟩
   have hDl:D.length=i*n+s:=by rw[←hD];unfold A9d;rw[List.length_map,C2m]
   rw[hD,B8c (by omega)]at hG2;obtain⟨pr,wr,hiar,hcr,hsr,hlr⟩:=PG.row (hpg hc2) hr;have hvl:s<vals.length:=by rw[hR0.jag.len];unfold A9d;rw[List.length_map];omega
   have key:∀{Hx wx},Chg Z H Hx→Hx.cell pr=some wx→wx=vals[s]:=by
    intro Hx wx hcx hx;obtain⟨p',h1,h2⟩:=Sl.elem (s:=1) Tryz.underlying101 A2v (hst Hx hcx).jag.sl (i:=s) (u:=vals[s]) (by rw[List.getElem?_map,List.getElem?_eq_getElem hvl];rfl);rw[hiar]at h1;have e1:=Option.some.inj h1;injection e1 with e1;injection e1 with e1
    subst e1;rw[hx]at h2;exact Option.some.inj h2
   simp only[↓Sh.dn,sx,Nat.reduceEqDiff,g37,g38,g39,A1a,hs,decide_true,hiar,hcr,hlr];refine A5c r.length 46 (List.range' 46 62++[11]) (fun q F H'=>Chg Z H H'∧GrX H' Z g sigma (D++((A6o n w i (r.take q)).map A6c) :: List.replicate (N-(i*n+s+1)) []) (List.replicate N 0) (List.replicate N 0)) (by simp only[sx]) ⟨hc2,by simpa [A6o] using hG2⟩ ?_ ?_
   ·rintro q F3 H3 hq hF3 v46 ⟨hc3,hG3⟩ k3
    have v0:=hF3 0 rfl;have v1:=hF3 1 rfl;have v5:=hF3 5 rfl;have v6:=hF3 6 rfl;have v7:=hF3 7 rfl;have v8:=hF3 8 rfl;have v44:=hF3 44 rfl;have v45:=hF3 45 rfl;simp only[sx,reduceCtorEq,Nat.reduceEqDiff,g0,g1,g5,g6,g7]at v0 v1 v5 v6 v7 v8 v44 v45;obtain⟨pr2,wr2,hia2,hcr2,hsr2,hlr2⟩:=PG.row (hpg hc3) hr;rw[hiar]at hia2;have e1:=Option.some.inj hia2;injection e1 with e1;injection e1 with e1
    subst e1;have hwr:wr2=wr:=(key hc3 hcr2).trans (key hc2 hcr).symm;subst hwr;obtain⟨pe,hiae,hce⟩:=PG.edge hsr2 hq;have hrq:r[q]∈r:=List.getElem_mem hq;have htk:r.take (q+1)=r.take q++[r[q]]:=by rw[List.take_add_one,List.getElem?_eq_getElem hq];rfl
    generalize r[q]=e at hce hrq htk;have kn:=Kept.new hc3.wf 4 (A6c e);have hc4:=hc3.trans (kn.chg (X:=Z));have hG4:=hG3.kept hc3.wf kn;have het:=hrt e hrq;have hrow:(D++((A6o n w i (r.take q)).map A6c) :: List.replicate (N-(i*n+s+1)) [])[i*n+s]?=some ((A6o n w i (r.take q)).map A6c):=by
     have:=C92 D (List.replicate (N-(i*n+s+1)) []) ((A6o n w i (r.take q)).map A6c)
     rwa [hDl]at this
    have hrll:((A6o n w i (r.take q)).map A6c).length≤17179869183:=by
     rw[List.length_map];have:=B8k n w i (r.take q);rw[List.length_take]at this;omega
    have w1:IntKind.wrap .i64 ((i:Int)*(n:Int))=((i*n:Nat):Int):=by rw[←Int.natCast_mul,wrap64 (by omega) (by omega)]
    have w2:IntKind.wrap .i64 (((i*n:Nat):Int)+(s:Int))=((i*n+s:Nat):Int):=by rw[←Int.natCast_add,wrap64 (by omega) (by omega)]
    have w3:IntKind.wrap .i64 (((i*n:Nat):Int)+(e.1:Int))=((i*n+e.1:Nat):Int):=by rw[←Int.natCast_add,wrap64 (by omega) (by omega)]
    have put:∀x0:Nat,∃rr H5,Does Tryz.prog (knows 7) 63 [.pointer (some ⟨g,0,some 0⟩),.int .i64 ((i*n+s:Nat):Int),.int .i64 (x0:Int),.int .i64 e.2.2.1,.int .i64 e.2.2.1,.int .i64 e.2.2.2] (H3.new 4 (A6c e)).2 rr H5∧(A2r n w i e=[(x0,e.2.2.1,e.2.2.1,e.2.2.2)]→Chg Z H H5∧GrX H5 Z g sigma (D++((A6o n w i (r.take (q+1))).map A6c) :: List.replicate (N-(i*n+s+1)) []) (List.replicate N 0) (List.replicate N 0)):=fun x0=>by
     obtain⟨rr,H5,hd5,hc5,hG5⟩:=C57 (x0:=(x0:Int)) (x1:=e.2.2.1) (x2:=e.2.2.1) (x3:=e.2.2.2) hG4 hrow hrll hc4.wf;refine⟨rr,H5,hd5,fun he=>⟨hc4.trans hc5,?_⟩⟩;have:=hG5.mono (hNZ hc4);have hs':=set_mid D (List.replicate (N-(i*n+s+1)) []) ((A6o n w i (r.take q)).map A6c) ((A6o n w i (r.take q)).map A6c++[[.int .i64 (x0:Int),.int .i64 e.2.2.1,.int .i64 e.2.2.1,.int .i64 e.2.2.2]]);rw[hDl]at hs';rw[hs']at this;rw[htk,B8m,he]
     simpa [A6c] using this
    have skip:A2r n w i e=[]→Chg Z H (H3.new 4 (A6c e)).2∧GrX (H3.new 4 (A6c e)).2 Z g sigma (D++((A6o n w i (r.take (q+1))).map A6c) :: List.replicate (N-(i*n+s+1)) []) (List.replicate N 0) (List.replicate N 0):=fun he=>⟨hc4,by rw[htk,B8m,he,List.append_nil];exact hG4⟩
    simp only[↓Sh.dn,sx,Nat.reduceEqDiff,v46,v44,v45,hiae,hce,A1a,hq,decide_true,B7a,A1z,B2a,ge1];by_cases hneg:e.2.1<0
    ·obtain⟨rr,H5,hd5,h5⟩:=put (i*n+e.1)
     obtain⟨hc5,hG5⟩:=h5 (by unfold A2r;rw[if_pos hneg]);simp only[↓Sh.dn,sx,Nat.reduceEqDiff,hneg,decide_true,v5,v6,v7,v8,ge0,ge2,ge3,w1,w2,w3];refine⟨_,_,hd5,?_⟩;simp only[sx,v46,A2a hq (Nat.le_trans hrl' (by decide))];exact k3 _ _ (by repeat (first|refine Same.put ?_ rfl|exact Same.rfl' _)) (by simp only[sx]) ⟨hc5,hG5⟩
    ·simp only[↓Sh.dn,sx,Nat.reduceEqDiff,hneg,decide_false]
     by_cases hiw:i<w.length
     ·obtain⟨pw,iw,cw⟩:=A13 (P:=Tryz.prog) Tryz.underlying71 A2c (hwv.grow ((hkz hc4).grow hw)) hiw
      have hget:(w[i]?).map (fun k:Nat=>(k:Int))=some (w[i]:Int):=by rw[List.getElem?_eq_getElem hiw];rfl
      by_cases heq:e.2.1=(w[i]:Int)
      ·obtain⟨rr,H5,hd5,h5⟩:=put ((i+1)*n+e.1)
       obtain⟨hc5,hG5⟩:=h5 (by unfold A2r;rw[if_neg hneg,hget,heq,if_pos rfl]);have hiN2:=hin (i:=i+1) (by omega);have w4:IntKind.wrap .i64 ((i:Int)+1)=((i+1:Nat):Int):=by rw[wrap64 (by omega) (by omega)];omega
       have w5:IntKind.wrap .i64 (((i+1:Nat):Int)*(n:Int))=(((i+1)*n:Nat):Int):=by rw[←Int.natCast_mul,wrap64 (by omega) (by omega)]
       have w6:IntKind.wrap .i64 ((((i+1)*n:Nat):Int)+(e.1:Int))=(((i+1)*n+e.1:Nat):Int):=by rw[←Int.natCast_add,wrap64 (by omega) (by omega)]
       simp only[↓Sh.dn,sx,Nat.reduceEqDiff,v1,v5,v6,v7,v8,hlenw,A1a,hiw,decide_true,ge0,ge1,ge2,ge3,iw,cw,heq,w1,w2,w4,w5,w6];refine⟨_,_,hd5,?_⟩;simp only[sx,v46,A2a hq (Nat.le_trans hrl' (by decide))];exact k3 _ _ (by repeat (first|refine Same.put ?_ rfl|exact Same.rfl' _)) (by simp only[sx]) ⟨hc5,hG5⟩
      ·obtain⟨hc5,hG5⟩:=skip (by unfold A2r;rw[if_neg hneg,hget,if_neg (fun h=>heq (Option.some.inj h).symm)])
       simp only[↓Sh.dn,sx,Nat.reduceEqDiff,v1,v7,hlenw,A1a,hiw,decide_true,ge1,iw,cw,heq,decide_false,v46,A2a hq (Nat.le_trans hrl' (by decide))];exact k3 _ _ (by repeat (first|refine Same.put ?_ rfl|exact Same.rfl' _)) (by simp only[sx]) ⟨hc5,hG5⟩
     ·obtain⟨hc5,hG5⟩:=skip (by unfold A2r;rw[if_neg hneg,List.getElem?_eq_none (by omega)];rfl)
      simp only[↓Sh.dn,sx,Nat.reduceEqDiff,v1,v7,hlenw,A1a,hiw,decide_false,v46,A2a hq (Nat.le_trans hrl' (by decide))];exact k3 _ _ (by repeat (first|refine Same.put ?_ rfl|exact Same.rfl' _)) (by simp only[sx]) ⟨hc5,hG5⟩
   ·rintro F3 H3 hF3 v46 ⟨hc3,hG3⟩
    have v39:=hF3 39 rfl;have v45:=hF3 45 rfl;simp only[sx,Nat.reduceEqDiff,g39]at v39 v45;simp only[↓Sh.dn,sx,Nat.reduceBEq,Nat.reduceEqDiff,v39,v45,v46,A1a,Nat.lt_irrefl,decide_false,A2a hs (Nat.le_trans hn (by decide))];refine k2 _ _ ?_ (by simp only[sx]) ⟨hc3,?_⟩
    ·repeat refine Same.put ?_ rfl
     exact Same.trans (by repeat (first|refine Same.put ?_ rfl|exact Same.rfl' _)) (hF3.sub rfl)
    ·rw[List.take_length]at hG3
     rw[←Nat.add_assoc,B94,hat];have:A9d (imgP n w E (i*n+s)++[A6o n w i r])=D++[(A6o n w i r).map A6c]:=by rw[←hD];simp[A9d]
     rw[this,List.append_assoc];exact hG3
  ·rintro F2 H2 hF2 g39 ⟨hc2,hG2⟩
   have g31:=hF2 31 rfl;have g38:=hF2 38 rfl;simp only[sx,Nat.reduceEqDiff,f31]at g31 g38;have wi:IntKind.wrap .i64 ((i:Int)+1)=((i+1:Nat):Int):=by rw[wrap64 (by omega) (by omega)];omega
   simp only[↓Sh.dn,sx,Nat.reduceBEq,Nat.reduceEqDiff,g31,g38,g39,A1a,Nat.lt_irrefl,decide_false,wi];refine k _ _ ?_ (by simp only[sx]) ⟨hc2,?_⟩
   ·repeat refine Same.put ?_ rfl
    exact Same.trans (by repeat (first|refine Same.put ?_ rfl|exact Same.rfl' _)) (hF2.sub rfl)
   ·rw[Nat.succ_mul];exact hG2
 ·rintro F H' hF f31 ⟨hc,hG⟩
  have f0:=hF 0 rfl;have f1:=hF 1 rfl;have f5:=hF 5 rfl;have f6:=hF 6 rfl;have f30:=hF 30 rfl;simp only[sx,reduceCtorEq,Nat.reduceEqDiff]at f0 f1 f5 f6 f30;obtain⟨B,hB⟩:∃B,w.length*n=B:=⟨_,rfl⟩
  have hBN:B+n=N:=by rw[←hB,←hNe,Nat.succ_mul]
  rw[hNe,Nat.sub_self,List.replicate_zero,List.append_nil]at hG;have hGE:A9d (imgP n w E N)=A9d (imgE n w E):=by unfold imgE;rw[hNe]
  rw[hGE]at hG;rw[hB];simp only[↓Sh.dn,sx,Nat.reduceEqDiff,f5,f30,f31,A1a,Nat.lt_irrefl,decide_false];refine A5c n 111 (List.range' 111 40++[12]) (fun s F H'=>Chg Z H H'∧GrX H' Z g sigma (A9d (imgE n w E)) (List.replicate B 0++(ends.take s++List.replicate (n-s) 0)) (List.replicate B 0++(costs.take s++List.replicate (n-s) 0))) (by simp only[sx]) ⟨hc,by simpa [hBN] using hG⟩ ?_ ?_
  ·rintro s F2 H2 hs hF2 g111 ⟨hc2,hG2⟩ k2
   have g0:=hF2 0 rfl;have g1:=hF2 1 rfl;have g5:=hF2 5 rfl;have g6:=hF2 6 rfl;have g110:=hF2 110 rfl;simp only[sx,reduceCtorEq,Nat.reduceEqDiff,f0,f1,f5,f6]at g0 g1 g5 g6 g110;rw[B8c hs]at hG2;have hi2:s<ends.length:=by omega
   have hi3:s<costs.length:=by omega
   have hel':(ends.take s).length=s:=by rw[List.length_take];omega
   have hcl':(costs.take s).length=s:=by rw[List.length_take];omega
   have hR2:=hst H2 hc2;obtain⟨evg,cvg,p1,p2,H6,H7,z1,z2,z3,zq,i1,i2,s1,s2,ch1,ch2,hG3⟩:=GrX.setEC (s:=B+s) hG2 hc2.wf (by simp[hel']) (by simp[hcl']) ends[s] costs[s];have hR3:=hst H6 (hc2.trans ch1);have y1:=hR2.arr.cell 2;have y2:=hR2.arr.cell 3;obtain⟨pa,ia,ca⟩:=Sl.elem (s:=1) Tryz.underlying71 A2c hR2.en (i:=s) (u:=.int .i64 ends[s]) (by rw[List.getElem?_map,List.getElem?_eq_getElem hi2];rfl);obtain⟨pb,ib,cb⟩:=Sl.elem (s:=1) Tryz.underlying71 A2c hR2.co (i:=s) (u:=.int .i64 costs[s]) (by rw[List.getElem?_map,List.getElem?_eq_getElem hi3];rfl);have y3:=hR3.arr.cell 3;obtain⟨pb',ib',cb'⟩:=Sl.elem (s:=1) Tryz.underlying71 A2c hR3.co (i:=s) (u:=.int .i64 costs[s]) (by rw[List.getElem?_map,List.getElem?_eq_getElem hi3];rfl);rw[ib]at ib';have e1:=Option.some.inj ib';injection e1 with e1;injection e1 with e1
   subst e1;have qv:=hR2.co.veq;have w1:IntKind.wrap .i64 ((w.length:Int)*(n:Int))=(B:Int):=by rw[←Int.natCast_mul,hB,wrap64 (by omega) (by omega)]
   have w2:IntKind.wrap .i64 ((B:Int)+(s:Int))=((B+s:Nat):Int):=by rw[←Int.natCast_add,wrap64 (by omega) (by omega)]
   simp only[↓Sh.dn,sx,Nat.reduceEqDiff,g110,g111,A1a,hs,decide_true];refine A1u (fl:=[(0,[]),(1,[]),(2,[]),(3,[]),(4,[]),(5,[]),(6,[]),(7,[]),(8,[]),(9,[]),(10,[]),(11,[]),(12,[]),(13,[]),(14,[]),(15,[]),(16,[]),(17,[]),(18,[]),(19,[]),(20,[]),(21,[]),(22,[]),(23,[]),(24,[]),(25,[]),(26,[]),(27,[]),(28,[]),(29,[]),(30,[]),(31,[]),(32,[]),(33,[]),(34,[]),(35,[15]),(36,[]),(37,[])]) (by kernel_rfl) (by kernel_rfl) (by kernel_rfl) ?_;simp only[↓Sh.dn,sx,reduceCtorEq,Nat.reduceEqDiff,wpr,again,A2e,A9q,forall_eq',g0,g1,g5,g6,hlenw,w1,w2,g111,z1,z2,i1,i2,s1,s2,y1,y2,ia,ca,ib,cb,A2a hs (Nat.le_trans hn (by decide))];refine k2 _ _ (by repeat (first|refine Same.put ?_ rfl|exact Same.rfl' _)) (by simp only[sx]) ⟨hc2.trans ch2,?_⟩;have t1:ends.take (s+1)=ends.take s++[ends[s]]:=by rw[List.take_add_one,List.getElem?_eq_getElem hi2];rfl
   have t2:costs.take (s+1)=costs.take s++[costs[s]]:=by rw[List.take_add_one,List.getElem?_eq_getElem hi3];rfl
   have s3:=set_mid (List.replicate B 0++ends.take s) (List.replicate (n-(s+1)) 0) 0 ends[s];rw[List.length_append,List.length_replicate,hel',List.append_assoc,List.append_assoc]at s3;have s4:=set_mid (List.replicate B 0++costs.take s) (List.replicate (n-(s+1)) 0) 0 costs[s];rw[List.length_append,List.length_replicate,hcl',List.append_assoc,List.append_assoc]at s4;rw[s3,s4]at hG3;rw[t1,t2,List.append_assoc,List.append_assoc];exact hG3
  ·rintro F2 H2 hF2 g111 ⟨hc2,hG2⟩
   have g6:=hF2 6 rfl;have g110:=hF2 110 rfl;simp only[sx,Nat.reduceEqDiff,f6]at g6 g110;rw[Nat.sub_self,List.take_of_length_le (by omega),List.take_of_length_le (by omega)]at hG2;simp only[List.replicate_zero,List.append_nil]at hG2;simp only[↓Sh.dn,sx,Nat.reduceEqDiff,g6,g110,g111,A1a,Nat.lt_irrefl,decide_false,hres];exact⟨hkz hc2,g,rfl,Z,hG2⟩
def A72(E:List (List (Nat×Int×Int×Int)))(ends:List Int)(t:Nat):Prop:=Clo (A5e E fun _=>True) (fun s=>s=0) t∧Clo (fun s t=>A5e E (fun _=>True) t s) (fun s=>0<ends.getD s 0) t
theorem C3f{H:AH}{g n:Nat}{E:List (List (Nat×Int×Int×Int))}{ends:List Int}{sv av ev cv:Value}{vals:List Value}{sigma:List ByteArray}{costs:List Int}(h:PG H g n 60000 E ends sv av ev cv vals sigma costs)(hsg:sigma.length≤1048576)(hw:Wf H):
  Sh.Call Tryz.prog (knows 7) 100 [.pointer (some ⟨g,0,some 0⟩)] H (fun r H'=>Kept H H'∧∃U:List Bool,∃o,Buf H' 1 r (U.map A6l) o∧(∀y,o=some y→H.next≤y)∧U.length=n∧∀t:Nat,U[t]?=some true↔A72 E ends t):=by
 refine A3a rfl Tryz.func100 rfl (Nat.le_of_ble_eq_true rfl) ?_;have hres:Tryz.f100.results.toList=[.tmp 2]:=rfl;have hn1:=h.n1;have hn2:=h.n2;have hbs:=A4p (H:=H) (x:=.int .i64 0) rfl rfl;have k1:=Kept.new hw 1 [.int .i64 0];have hS:Sl (H.new 1 [.int .i64 0]).2 (.slice (some ⟨H.next,0,some 0⟩) 1 1) 1 (([0]:List Nat).map natC):=
  (Buf.fresh (H:=H) (s:=1) (xs:=[natC 0]) hw (by intro x hx;rw[List.mem_singleton.1 hx];rfl) (by simp) 1 rfl).toSl
 obtain⟨r1,H2,hd2,hk2,B1,o1,hb1,ho1,hl1,hi1⟩:=A91 (caps:=[]) (fid:=119) (fun _=>true) (h.kept hw k1) (by decide) hS (fun t ht=>by rw[List.mem_singleton.1 ht];exact hn1) (by decide) k1.wf (fun H' hk e=>B7p hk.wf);have hk12:=k1.trans hk2;obtain⟨r2,H3,hd3,hk3,B2,o2,hb2,ho2,hl2,hi2⟩:=B2u (h.kept hw hk12) hsg hk2.wf;have hb13:=hb1.kept hk2.wf hk3;have hsep:∀y,o1=some y→o2≠some y:=fun y h1 h2=>by have:=hb1.lt hk2.wf y h1;have:=ho2 y h2;omega
 simp only[↓Sh.dn,sx,reduceCtorEq,Nat.reduceEqDiff,hbs,A6a];refine⟨_,_,hd2,?_⟩;refine⟨_,_,hd3,?_⟩;have hlen:=hb13.toSl.len Tryz.underlying58 H3;rw[List.length_map,hl1]at hlen;have k0:=hk12.trans hk3;simp only[sx,hlen];refine A5c n 13 (List.range' 13 17++[5]) (fun i F H'=>Chg (fun y=>o1=some y) H3 H'∧∃C:List Bool,Buf H' 1 r1 (C.map A6l) o1∧C.length=n∧∀t:Nat,C[t]?=some true↔B1[t]?=some true∧(t<i→B2[t]?=some true)) (by simp only[sx]) ⟨Chg.refl hk3.wf,B1,hb13,hl1,fun t=>by simp⟩ ?_ ?_
 ·rintro i F H' hi hF f13 ⟨hc,C,hC,hCl,hCi⟩ k
  have f3:=hF 3 rfl;have f4:=hF 4 rfl;have f12:=hF 12 rfl;simp only[sx,Nat.reduceEqDiff]at f3 f4 f12;obtain⟨c,hcx⟩:∃c,C[i]?=some c:=⟨C[i]'(by rw[hCl];exact hi),List.getElem?_eq_getElem _⟩
  obtain⟨b,hbx⟩:∃b,B2[i]?=some b:=⟨B2[i]'(by rw[hl2];exact hi),List.getElem?_eq_getElem _⟩
  obtain⟨p,e1,e2,e3⟩:=hC.spot Tryz.underlying58 A1k hc.wf (i:=i) (u:=.bool c) (by rw[List.getElem?_map,hcx];rfl);obtain⟨q,e4,e5⟩:=Sl.elem (s:=1) Tryz.underlying58 A1k (hb2.chg hk3.wf hc fun y hy h1=>hsep y h1 hy).toSl (i:=i) (u:=.bool b) (by rw[List.getElem?_map,hbx];rfl);obtain⟨H4,w1,w2,w3,w4⟩:=e3 (.bool (c&&b));have st:A0e Tryz.prog 4 H' (.bool (c&&b)) (.pointer (some p))=some H4:=by rw[A0c A1k rfl];exact w1
  have hnew:∀t:Nat,(C.set i (c&&b))[t]?=some true↔B1[t]?=some true∧(t<i+1→B2[t]?=some true):=by
   intro t;rw[List.getElem?_set,hCl,if_pos hi];by_cases ht:i=t
   ·subst ht
    rw[if_pos rfl];have:=hCi i;rw[hcx]at this;simp only[Option.some.injEq,Nat.lt_irrefl,false_implies,and_true]at this;rw[hbx,←this];simp
   ·rw[if_neg ht,hCi t]
    constructor
    ·rintro⟨h1,h2⟩;exact⟨h1,fun h3=>h2 (by omega)⟩
    ·rintro⟨h1,h2⟩;exact⟨h1,fun h3=>h2 (by omega)⟩
  cases c with
  | true=>
   simp only[Bool.true_and]at st hnew w2;simp only[↓Sh.dn,sx,Nat.reduceEqDiff,f3,f4,f12,f13,A1a,hi,decide_true,e1,e2,e4,e5,st,A2a hi (Nat.le_trans hn2 (by decide))];exact k _ _ (by repeat (first|refine Same.put ?_ rfl|exact Same.rfl' _)) (by simp only[sx]) ⟨hc.trans w3,C.set i b,by rw[List.map_set];exact w2,by simp[hCl],hnew⟩
  | false=>
   simp only[Bool.false_and]at st hnew w2;simp only[↓Sh.dn,sx,Nat.reduceEqDiff,f3,f12,f13,A1a,hi,decide_true,e1,e2,st,A2a hi (Nat.le_trans hn2 (by decide))];exact k _ _ (by repeat (first|refine Same.put ?_ rfl|exact Same.rfl' _)) (by simp only[sx]) ⟨hc.trans w3,C.set i false,by rw[List.map_set];exact w2,by simp[hCl],hnew⟩
 ·rintro F H' hF f13 ⟨hc,C,hC,hCl,hCi⟩
  have f3:=hF 3 rfl;have f12:=hF 12 rfl;simp only[sx,Nat.reduceEqDiff]at f3 f12;simp only[↓Sh.dn,sx,Nat.reduceEqDiff,f3,f12,f13,A1a,Nat.lt_irrefl,decide_false,hres];have hfr:∀y,o1=some y→H.next≤y:=fun y hy=>Nat.le_trans k1.next (ho1 y hy);refine⟨k0.then (Nat.le_refl _) (hc.weak hfr),C,o1,hC,hfr,hCl,fun t=>?_⟩;rw[hCi];unfold A72;have e1:fitP E (fun _=>true)=A5e E fun _=>True:=by
   funext s t
   apply propext;unfold fitP A5e;simp
  have e2:(fun s=>s∈[0])=fun s=>s=0:=by funext s;simp
  rw[hi1,e1,e2,←hi2];constructor
  ·rintro⟨h1,h2⟩
   refine⟨h1,h2 ?_⟩;have:=(hi1 t).2 (by rw[e1,e2];exact h1);rw[←hl1];exact(List.getElem?_eq_some_iff.1 this).1
  ·rintro⟨h1,h2⟩;exact⟨h1,fun _=>h2⟩
def A1j(U:List Bool)(r:List (Nat×Int×Int×Int)):List (Nat×Int×Int×Int):=(r.filter fun e=>decide (U[e.1]?=some true)).map fun e=>(numU U e.1,e.2)
structure TrimI(E:List (List (Nat×Int×Int×Int)))(ends:List Int)(U:List Bool)(m i:Nat)(R:List (List (Nat×Int×Int×Int)))(es:List Int):Prop where
 lr:R.length=m
 le:es.length=m
 row:∀s r,s<i→U[s]?=some true→E[s]?=some r→R[numU U s]?=some (A1j U r)
 non:∀a,a<m→(∀s,s<i→U[s]?=some true→numU U s≠a)→R[a]?=some []
 fin:∀s,s<i→U[s]?=some true→es.getD (numU U s) 0=ends.getD s 0
 nof:∀a,(∀s,s<i→U[s]?=some true→numU U s≠a)→es.getD a 0=0
 sum:(R.map List.length).sum≤((E.take i).map List.length).sum
theorem B5l{α:Type}(r0:List α):∀{L:List (List α)} {i:Nat},L[i]?=some []→((L.set i r0).map List.length).sum=(L.map List.length).sum+r0.length
 | [],_,h=>by simp at h
 | q :: L,0,h=>by
  have:=Option.some.inj h;subst this;simp;omega
 | q :: L,i+1,h=>by
  have ih:=B5l r0 (L:=L) (i:=i) (by simpa using h);simp only[List.set_cons_succ,List.map_cons,List.sum_cons,ih];omega
theorem B5h{α:Type}:∀(L:List (List α)) (i:Nat),((L.take i).map List.length).sum≤((L.take (i+1)).map List.length).sum
 | [],_=>by simp
 | q :: L,0=>by simp
 | q :: L,i+1=>by
  have:=B5h L i;simp only[List.take_succ_cons,List.map_cons,List.sum_cons];omega
theorem C7u(U:List Bool)(r:List (Nat×Int×Int×Int)):(A1j U r).length≤r.length:=by
 unfold A1j;rw[List.length_map];exact List.length_filter_le _ _
theorem TrimI.none(E:List (List (Nat×Int×Int×Int)))(ends:List Int)(U:List Bool)(m:Nat):TrimI E ends U m 0 (List.replicate m []) (List.replicate m 0):=
 ⟨by simp,by simp,fun s r hs=>absurd hs (Nat.not_lt_zero s),fun a ha _=>by rw[List.getElem?_replicate,if_pos ha],fun s hs=>absurd hs (Nat.not_lt_zero s),fun a _=>by
  rw[List.getD_eq_getElem?_getD,List.getElem?_replicate];split<;>rfl,by simp⟩
section
variable {E:List (List (Nat×Int×Int×Int))} {ends:List Int} {U:List Bool} {m i:Nat} {R:List (List (Nat×Int×Int×Int))} {es:List Int}
theorem TrimI.skip(h:TrimI E ends U m i R es)(hi:U[i]?≠some true):TrimI E ends U m (i+1) R es:=by
 have key:∀s,s<i+1→U[s]?=some true→s<i:=fun s hs hu=>by
  rcases Nat.lt_or_ge s i with h1|h1
  ·exact h1
  ·have:s=i:=by omega
   subst this;exact absurd hu hi
 exact⟨h.lr,h.le,fun s r hs hu=>h.row s r (key s hs hu) hu,fun a ha hn=>h.non a ha fun s hs=>hn s (by omega),fun s hs hu=>h.fin s (key s hs hu) hu,fun a hn=>h.nof a fun s hs=>hn s (by omega),Nat.le_trans h.sum (B5h E i)⟩
theorem TrimI.add(h:TrimI E ends U m i R es)(hi:U[i]?=some true)(hm:numU U i<m){r:List (Nat×Int×Int×Int)}(hr:E[i]?=some r){x:Int}(hx:ends.getD i 0=x):TrimI E ends U m (i+1) (R.set (numU U i) (A1j U r)) (es.set (numU U i) x):=by
 have hne:∀s,s<i→U[s]?=some true→numU U i≠numU U s:=fun s hs hu he=>by have:=B1c (.inl hi) (.inl hu) he;omega
 refine⟨by simp[h.lr],by simp[h.le],fun s r' hs hu hr'=>?_,fun a ha hn=>?_,fun s hs hu=>?_,fun a hn=>?_,?_⟩
 ·rw[List.getElem?_set,h.lr]
  by_cases hsi:s=i
  ·subst hsi
   rw[hr]at hr';rw[if_pos rfl,if_pos hm,Option.some.inj hr']
  ·rw[if_neg (hne s (by omega) hu)]
   exact h.row s r' (by omega) hu hr'
 ·rw[List.getElem?_set,if_neg (hn i (by omega) hi)]
  exact h.non a ha fun s hs=>hn s (by omega)
 ·rw[List.getD_eq_getElem?_getD,List.getElem?_set,h.le]
  by_cases hsi:s=i
  ·subst hsi
   rw[if_pos rfl,if_pos hm,hx];rfl
  ·rw[if_neg (hne s (by omega) hu),←List.getD_eq_getElem?_getD]
   exact h.fin s (by omega) hu
 ·rw[List.getD_eq_getElem?_getD,List.getElem?_set,if_neg (hn i (by omega) hi),←List.getD_eq_getElem?_getD]
  exact h.nof a fun s hs=>hn s (by omega)
 ·have hnil:R[numU U i]?=some []:=h.non _ hm fun s hs hu he=>hne s hs hu he.symm
  have ht:E.take (i+1)=E.take i++[r]:=by rw[List.take_add_one,hr];rfl
  have h1:=h.sum;have h2:=C7u U r;rw[B5l _ hnil,ht,List.map_append,List.sum_append];simp only[List.map_cons,List.map_nil,List.sum_cons,List.sum_nil];omega
theorem TrimI.of{n:Nat}(h:TrimI E ends U (1+A2k U n) n R es)(hE:E.length=n)(hU:U.length=n)(hto:∀(s:Nat) r,E[s]?=some r→∀e∈r,e.1<n)(hu:∀t:Nat,U[t]?=some true↔A72 E ends t):
  TrimOf (fun x s t=>A5e E (fun k=>k=x) s t) (fun x s t=>A5e R (fun k=>k=x) s t) (fun s=>U[s]?=some true) (numU U) (fun s=>0<ends.getD s 0) (fun s=>0<es.getD s 0):=by
 have hlt:∀s,U[s]?=some true→s<n:=fun s hs=>by rw[←hU];exact(List.getElem?_eq_some_iff.1 hs).1
 refine⟨fun x a b=>?_,fun a=>?_,B9l U,fun s t hs ht he=>B1c hs ht he,fun s=>?_⟩
 ·constructor
  ·rintro⟨r',h1,e',h2,h3,h4⟩
   by_cases hex:∃s,U[s]?=some true∧numU U s=a
   ·obtain⟨s,hs,rfl⟩:=hex
    have hsn:=hlt s hs;have hr:E[s]?=some (E[s]'(by rw[hE];exact hsn)):=List.getElem?_eq_getElem _;generalize E[s]'(by rw[hE];exact hsn)=r at hr;rw[h.row s r hsn hs hr]at h1;rw[←Option.some.inj h1]at h2;obtain⟨e,h5,h6⟩:=List.mem_map.1 h2;obtain⟨h7,h8⟩:=List.mem_filter.1 h5;subst h6;exact⟨s,e.1,hs,of_decide_eq_true h8,rfl,h3.symm,r,hr,e,h7,rfl,h4⟩
   ·have ha:a<1+A2k U n:=by rw[←h.lr];exact(List.getElem?_eq_some_iff.1 h1).1
    rw[h.non a ha fun s _ hs he=>hex ⟨s,hs,he⟩]at h1;rw[←Option.some.inj h1]at h2;cases h2
  ·rintro⟨s,t,hs,ht,rfl,rfl,r,h1,e,h2,h3,h4⟩
   refine⟨_,h.row s r (hlt s hs) hs h1,(numU U e.1,e.2),List.mem_map.2 ⟨e,List.mem_filter.2 ⟨h2,decide_eq_true (by rw[h3];exact ht)⟩,rfl⟩,by rw[h3],h4⟩
 ·constructor
  ·intro ha
   by_cases hex:∃s,U[s]?=some true∧numU U s=a
   ·obtain⟨s,hs,rfl⟩:=hex
    exact⟨s,hs,rfl,by rw[←h.fin s (hlt s hs) hs];exact ha⟩
   ·rw[h.nof a fun s _ hs he=>hex ⟨s,hs,he⟩]at ha
    exact absurd ha (Int.lt_irrefl 0)
  ·rintro⟨s,hs,rfl,h1⟩
   rw[h.fin s (hlt s hs) hs];exact h1
 ·rw[hu]
  unfold A72;have e1:(A5e E fun _=>True)=fun s t=>∃x,A5e E (fun k=>k=x) s t:=by
   funext s t
   apply propext;unfold A5e;constructor
   ·rintro⟨r,h1,e,h2,h3,_⟩;exact⟨_,r,h1,e,h2,h3,rfl⟩
   ·rintro⟨x,r,h1,e,h2,h3,_⟩;exact⟨r,h1,e,h2,h3,trivial⟩
  rw[e1]
end
theorem C6t{H:AH}{g n:Nat}{E:List (List (Nat×Int×Int×Int))}{ends:List Int}{sv av ev cv:Value}{vals:List Value}{sigma:List ByteArray}{costs:List Int}(h:PG H g n 60000 E ends sv av ev cv vals sigma costs)(hsg:sigma.length≤1048576)(hcl:costs.length=n)(hw:Wf H):
  Sh.Call Tryz.prog (knows 7) 81 [.pointer (some ⟨g,0,some 0⟩)] H (fun r H'=>Kept H H'∧∃g',r=.pointer (some ⟨g',0,some 0⟩)∧∃U R es cs,∃X:Nat→Prop,(∀y,X y→H.next≤y)∧GrX H' X g' sigma (A9d R) es cs∧cs.length=1+A2k U n∧((∀c∈costs,c=0)→∀c∈cs,c=0)∧U.length=n∧(∀t:Nat,U[t]?=some true↔A72 E ends t)∧TrimI E ends U (1+A2k U n) n R es∧1+A2k U n≤n):=by
 refine A3a rfl Tryz.func81 rfl (Nat.le_of_ble_eq_true rfl) ?_;have hres:Tryz.f81.results.toList=[.tmp 2]:=rfl;have hn1:=h.n1;have hn2:=h.n2;have hc0:=h.gr.arr.cell 0;have hc1:=h.gr.arr.cell 1;have hc2:=h.gr.arr.cell 2;have hc3:=h.gr.arr.cell 3;have hlenA:∀H',A4a Tryz.prog .len [101] [av] H'=some (.int .i64 (n:Int),H'):=fun H'=>by
  rw[h.gr.jag.sl.len Tryz.underlying101,List.length_map,h.gr.jag.len];unfold A9d;rw[List.length_map,h.le]
 obtain⟨r1,H2,hd2,hk2,U,o1,hU,ho1,hUl,hUi⟩:=C3f h hsg hw;have hc1a:=A8b (hk2.grow hw) hc1;have hmk:=mk_71 (H:=H2) (l:=n) (c:=n) (Nat.le_refl _) (by omega);have k3:=Kept.new hk2.wf 1 (List.replicate n (.int .i64 0));have f3:=Buf.fill hk2.wf (.int .i64 0) (c:=n) (by omega);rw[if_neg (by omega)]at f3;have hU3:=hU.kept hk2.wf k3;have hrep:List.replicate n [Value.int .i64 0]=(numL U n 1).map natC:=by rw[numL_one,List.map_replicate];rfl
 rw[hrep]at f3;simp only[↓Sh.dn,sx,reduceCtorEq];refine⟨_,_,hd2,?_⟩;simp only[sx,hc1a,hlenA,hmk];obtain⟨on,hon⟩:∃on,some H2.next=on:=⟨_,rfl⟩
 have hon1:∀y,on=some y→y=H2.next:=fun y hy=>by rw[←hon]at hy;exact(Option.some.inj hy).symm
 have hx3:H2.next<(H2.new 1 (List.replicate n (.int .i64 0))).2.next:=Nat.lt_succ_self _;rw[hon]at f3;have hk3:=hk2.trans k3;have hlenN:=f3.toSl.len Tryz.underlying71 (H2.new 1 (List.replicate n (.int .i64 0))).2;generalize (Value.slice (some ⟨H2.next,0,some 0⟩) n n)=nv at f3 hlenN ⊢;generalize (H2.new 1 (List.replicate n (.int .i64 0))).2=H3 at f3 hU3 hk3 k3 hx3 ⊢;have hUs:∀y,on=some y→o1≠some y:=fun y h1 h2=>by have:=hU.lt hk2.wf y h2;have:=hon1 y h1;omega
 have hlenN:∀{H'} i,Buf H' 1 nv ((numL U n i).map natC) on→∀H'',A4a Tryz.prog .len [71] [nv] H''=some (.int .i64 (n:Int),H''):=fun i hb H''=>by
  rw[hb.toSl.len Tryz.underlying71];simp[numL]
 have ik:∀{H':AH},Chg (fun y=>on=some y) H3 H'→Kept H H':=fun hc=>hk3.then (Nat.le_refl _) (hc.weak fun y hy=>by have:=hon1 y hy;have:=hk2.next;omega);refine wp_from n 6 1 (List.range' 20 16++[5,6]) (fun i F H'=>Chg (fun y=>on=some y) H3 H'∧F.get 5=some (.int .i64 ((1+A2k U i:Nat):Int))∧Buf H' 1 nv ((numL U n i).map natC) on) hn1 (by simp only[sx];rfl) ⟨Chg.refl hk3.wf,by simp only[sx,Nat.reduceEqDiff];rfl,f3⟩ ?_ ?_
 ·rintro i F H' hi1 hi hF f6 ⟨hc,f5,hN⟩ k
  have f3':=hF 3 rfl;have f4:=hF 4 rfl;simp only[sx,Nat.reduceEqDiff]at f3' f4;have hl:=hlenN i hN;obtain⟨b,hbx⟩:∃b,U[i]?=some b:=⟨U[i]'(by rw[hUl];exact hi),List.getElem?_eq_getElem _⟩
  obtain⟨q,e4,e5⟩:=Sl.elem (s:=1) Tryz.underlying58 A1k (hU3.chg hk3.wf hc fun y hy h1=>hUs y h1 hy).toSl (i:=i) (u:=.bool b) (by rw[List.getElem?_map,hbx];rfl);have hrl:=C1o U i;simp only[↓Sh.dn,sx,Nat.reduceEqDiff,f3',f4,f6,hl,A1a,hi,decide_true,e4,e5];cases b with
  | true=>
   have hnu:numU U i=1+A2k U i:=by unfold numU;rw[if_pos ⟨hi1,hbx⟩]
   have hrk:A2k U (i+1)=A2k U i+1:=by rw[A2k,if_pos ⟨hi1,hbx⟩]
   obtain⟨p,e1,e2,e3⟩:=hN.spot Tryz.underlying71 A2c hc.wf (i:=i) (u:=.int .i64 ((0:Nat):Int)) (by rw[List.getElem?_map,A16 hi,if_neg (Nat.lt_irrefl i)];rfl);obtain⟨H4,w1,w2,w3,w4⟩:=e3 (.int .i64 ((1+A2k U i:Nat):Int));have st:A0e Tryz.prog 3 H' (.int .i64 ((1+A2k U i:Nat):Int)) (.pointer (some p))=some H4:=by rw[A0c A2c rfl];exact w1
   have wr:IntKind.wrap .i64 (((1+A2k U i:Nat):Int)+1)=((1+A2k U (i+1):Nat):Int):=by rw[wrap64 (by omega) (by omega)];omega
   simp only[↓Sh.dn,sx,Nat.reduceEqDiff,f4,f5,f6,e1,st,wr,A2a hi (Nat.le_trans hn2 (by decide))];refine k _ _ (by repeat (first|refine Same.put ?_ rfl|exact Same.rfl' _)) (by simp only[sx]) ⟨hc.trans w3,by simp only[sx,Nat.reduceEqDiff],?_⟩;have:(numL U n (i+1)).map natC=((numL U n i).map natC).set i [.int .i64 ((1+A2k U i:Nat):Int)]:=by rw[numL_set,List.map_set,hnu];rfl
   rw[this];exact w2
  | false=>
   have hnu:numU U i=0:=by unfold numU;rw[if_neg (by rw[hbx];simp)]
   have hrk:A2k U (i+1)=A2k U i:=by rw[A2k,if_neg (by rw[hbx];simp)];omega
   simp only[↓Sh.dn,sx,Nat.reduceEqDiff,f6,A2a hi (Nat.le_trans hn2 (by decide))];exact k _ _ (by repeat (first|refine Same.put ?_ rfl|exact Same.rfl' _)) (by simp only[sx]) ⟨hc,by simp only[sx,Nat.reduceEqDiff,f5,hrk],by rw[C4z hnu];exact hN⟩
 ·rintro F H4 hF f6 ⟨hc4,f5,hN⟩
  have f0:=hF 0 rfl;have f3':=hF 3 rfl;have f4:=hF 4 rfl;simp only[sx,reduceCtorEq,Nat.reduceEqDiff]at f0 f3' f4;have hl:=hlenN n hN;have hk4:=ik hc4;have hU4:=hU3.chg hk3.wf hc4 fun y hy h1=>hUs y h1 hy;have hrl:=C1o U n;have hm:1+A2k U n≤n:=by
   have:∀m,1+A2k U (m+1)≤m+1:=fun m=>by
    induction m with
    | zero=>simp[A2k]
    | succ m ih=>rw[A2k];split<;>omega
   have h1:=this (n-1);rw[show n-1+1=n by omega]at h1;exact h1
  obtain⟨M,hM⟩:∃M,1+A2k U n=M:=⟨_,rfl⟩
  rw[hM]at f5 hm;obtain⟨r5,H5,hd5,hk5,g1,rfl,hG1⟩:=A56 (n:=M) ((h.kept hw hk4).gr.sg) hsg (by omega) hk4.wf;have q0:=A8b (hk4.grow hw) hc0;have hk05:=hk4.trans hk5;have q1:=A8b (hk05.grow hw) hc1;have hGX:GrX H5 (fun y=>H4.next≤y) g1 sigma (A9d (List.replicate M [])) (List.replicate M 0) (List.replicate M 0):=by
   have:=(hG1.own hk5.wf).mono (Z:=fun y=>H4.next≤y) fun y hy=>hy.1
   simpa [A9d] using this
  have hU5:=hU4.kept hc4.wf hk5;have hN5:=hN.kept hc4.wf hk5;have hUb:=hU4.lt hc4.wf;have hNb:=hN.lt hc4.wf;have hb4:=hk4.next;simp only[↓Sh.dn,sx,reduceCtorEq,Nat.reduceEqDiff,f0,f4,f5,f6,hl,A1a,Nat.lt_irrefl,decide_false,q0];refine⟨_,_,hd5,?_⟩;simp only[sx,q1,hlenA];refine A5c n 47 (List.range' 47 72++[8,9,11]) (fun i F H'=>Chg (fun y=>H4.next≤y) H5 H'∧∃R es cs,GrX H' (fun y=>H4.next≤y) g1 sigma (A9d R) es cs∧cs.length=M∧TrimI E ends U M i R es∧((∀c∈costs,c=0)→∀c∈cs,c=0)) (by simp only[sx]) ⟨Chg.refl hk5.wf,_,_,_,hGX,by simp,TrimI.none E ends U M,fun _ c hc=>(List.mem_replicate.1 hc).2⟩ ?_ ?_
  ·rintro i F' H' hi hF' f47 ⟨hc,R,es,cs,hG,hcs,hT,hZ⟩ k
   have g0:=hF' 0 rfl;have g3:=hF' 3 rfl;have g4:=hF' 4 rfl;have g7:=hF' 7 rfl;have g45:=hF' 45 rfl;have g46:=hF' 46 rfl;simp only[sx,reduceCtorEq,Nat.reduceEqDiff,f0,f3',f4]at g0 g3 g4 g7 g45 g46;have hkH:Kept H H':=hk05.then hb4 hc;obtain⟨r,hr⟩:∃r,E[i]?=some r:=⟨E[i]'(by rw[h.le];exact hi),List.getElem?_eq_getElem _⟩
   obtain⟨hrl',hrt⟩:=h.to i r hr;obtain⟨pr,wr,hiar,hcr,hsr,hlr⟩:=PG.row h hr;have q2:=A8b (hkH.grow hw) hcr;obtain⟨b,hbx⟩:∃b,U[i]?=some b:=⟨U[i]'(by rw[hUl];exact hi),List.getElem?_eq_getElem _⟩
   obtain⟨qb,e4,e5⟩:=Sl.elem (s:=1) Tryz.underlying58 A1k (hU5.chg hk5.wf hc fun y hy h1=>by have:=hUb y hy;omega).toSl (i:=i) (u:=.bool b) (by rw[List.getElem?_map,hbx];rfl);simp only[↓Sh.dn,sx,Nat.reduceEqDiff,g3,g45,g46,f47,A1a,hi,decide_true,hiar,q2,e4,e5];cases b with
   | false=>
    simp only[↓Sh.dn,sx,Nat.reduceBEq,Nat.reduceEqDiff,f47,A2a hi (Nat.le_trans hn2 (by decide))];exact k _ _ (by repeat (first|refine Same.put ?_ rfl|exact Same.rfl' _)) (by simp only[sx]) ⟨hc,R,es,cs,hG,hcs,hT.skip (by rw[hbx];simp),hZ⟩
   | true=>
   have hnm:numU U i<M:=by rw[←hM];exact C35 hi
   have hnil:R[numU U i]?=some []:=hT.non _ hnm fun s hs hu he=>by have:=B1c (.inl hu) (.inl hbx) he;omega
   have hR0:R.set (numU U i) (A1j U (r.take 0))=R:=by
    refine List.ext_getElem? fun a=>?_;rw[List.getElem?_set];split
    ·rename_i ha;subst ha
     rw[hT.lr,if_pos hnm,hnil];rfl
    ·rfl
   have hnum:∀{H'':AH} {t:Nat},Chg (fun y=>H4.next≤y) H5 H''→t<n→∃p,A7b Tryz.prog 71 nv (.int .i64 (t:Int))=some (.pointer (some p))∧H''.cell p=some (.int .i64 ((numU U t:Nat):Int)):=fun{H'' t} hc ht=>
    Sl.elem (s:=1) Tryz.underlying71 A2c (hN5.chg hk5.wf hc fun y hy h1=>by have:=hNb y hy;omega).toSl (by rw[List.getElem?_map,A16 ht,if_pos ht];rfl)
   simp only[↓Sh.dn,sx,Nat.reduceEqDiff,hlr];refine A5c r.length 59 (List.range' 59 27++[11]) (fun q F'' H''=>Chg (fun y=>H4.next≤y) H5 H''∧GrX H'' (fun y=>H4.next≤y) g1 sigma (A9d (R.set (numU U i) (A1j U (r.take q)))) es cs) (by simp only[sx]) ⟨hc,by rw[hR0];exact hG⟩ ?_ ?_
   ·rintro q F'' H'' hq hF'' f59 ⟨hc',hG'⟩ k2
    have v3:=hF'' 3 rfl;have v4:=hF'' 4 rfl;have v7:=hF'' 7 rfl;have v8:=hF'' 8 rfl;have v57:=hF'' 57 rfl;have v58:=hF'' 58 rfl;simp only[sx,Nat.reduceEqDiff,g3,g4,g7]at v3 v4 v7 v8 v57 v58;have hkH2:Kept H H'':=hk05.then hb4 hc';obtain⟨pe,hiae,hce⟩:=PG.edge (hsr.grow (hkH2.grow hw)) hq;have hrq:r[q]∈r:=List.getElem_mem hq;have htk:r.take (q+1)=r.take q++[r[q]]:=by rw[List.take_add_one,List.getElem?_eq_getElem hq];rfl
    generalize r[q]=e at hce hrq htk;have kn:=Kept.new hc'.wf 4 (A6c e);have hc3:Chg (fun y=>H4.next≤y) H5 (H''.new 4 (A6c e)).2:=hc'.trans kn.chg;have hG3:=hG'.kept hc'.wf kn;obtain⟨be,hbe⟩:∃b,U[e.1]?=some b:=⟨U[e.1]'(by rw[hUl];exact hrt e hrq),List.getElem?_eq_getElem _⟩
    obtain⟨qe,e6,e7⟩:=Sl.elem (s:=1) Tryz.underlying58 A1k (hU5.chg hk5.wf hc3 fun y hy h1=>by have:=hUb y hy;omega).toSl (i:=e.1) (u:=.bool be) (by rw[List.getElem?_map,hbe];rfl);simp only[↓Sh.dn,sx,Nat.reduceEqDiff,f59,v3,v57,v58,hiae,hce,A1a,hq,decide_true,B7a,A1z,B2a,ge0,e6,e7];cases be with
    | false=>
     simp only[↓Sh.dn,sx,Nat.reduceEqDiff,f59,A2a hq (Nat.le_trans hrl' (by decide))];refine k2 _ _ (by repeat (first|refine Same.put ?_ rfl|exact Same.rfl' _)) (by simp only[sx]) ⟨hc3,?_⟩;have:A1j U (r.take (q+1))=A1j U (r.take q):=by rw[htk];unfold A1j;rw[List.filter_append];simp[hbe]
     rw[this];exact hG3
    | true=>
     obtain⟨p1,i1,c1⟩:=hnum hc3 hi;obtain⟨p2,i2,c2⟩:=hnum hc3 (hrt e hrq);have hrow:(A9d (R.set (numU U i) (A1j U (r.take q))))[numU U i]?=some ((A1j U (r.take q)).map A6c):=by
      unfold A9d;rw[List.getElem?_map,List.getElem?_set,if_pos rfl,hT.lr,if_pos hnm];rfl
     have hrll:((A1j U (r.take q)).map A6c).length≤17179869183:=by
      rw[List.length_map];unfold A1j;rw[List.length_map];refine Nat.le_trans (List.length_filter_le _ _) ?_;rw[List.length_take];omega
     obtain⟨rr,H6,hd6,hc6,hG6⟩:=C57 (x0:=((numU U e.1:Nat):Int)) (x1:=e.2.1) (x2:=e.2.2.1) (x3:=e.2.2.2) hG3 hrow hrll hc3.wf;simp only[↓Sh.dn,sx];refine(A9a (by kernel_rfl)).2 ?_;simp only[↓Sh.dn,sx,Nat.reduceEqDiff,f59,v4,v7,v8,ge0,ge1,ge2,ge3,i1,c1,i2,c2];refine⟨_,_,hd6,?_⟩;simp only[A2a hq (Nat.le_trans hrl' (by decide))];refine k2 _ _ (by repeat (first|refine Same.put ?_ rfl|exact Same.rfl' _)) (by simp only[sx]) ⟨hc3.trans hc6,?_⟩;have h5:=hc3.next;have h6:=hk5.next;have hrs:A9d (R.set (numU U i) (A1j U (r.take (q+1))))=(A9d (R.set (numU U i) (A1j U (r.take q)))).set (numU U i) ((A1j U (r.take q)).map A6c++[[.int .i64 ((numU U e.1:Nat):Int),.int .i64 e.2.1,.int .i64 e.2.2.1,.int .i64 e.2.2.2]]):=by
      have:A1j U (r.take (q+1))=A1j U (r.take q)++[(numU U e.1,e.2)]:=by rw[htk];unfold A1j;rw[List.filter_append];simp[hbe]
      rw[this];unfold A9d;rw[List.map_set,List.map_set,List.set_set];simp[A6c]
     rw[hrs];exact hG6.mono fun y hy=>by rcases hy with hy|hy<;>omega
   ·rintro F'' H'' hF'' f59 ⟨hc',hG'⟩
    have g0':=hF'' 0 rfl;have g4':=hF'' 4 rfl;have g7':=hF'' 7 rfl;have g8':=hF'' 8 rfl;have g47:=hF'' 47 rfl;have g58:=hF'' 58 rfl;simp only[sx,reduceCtorEq,Nat.reduceEqDiff,g0,g4,g7,f47]at g0' g4' g7' g8' g47 g58;rw[List.take_length]at hG';have hkH2:Kept H H'':=hk05.then hb4 hc';have hPG:=h.kept hw hkH2;have hie:i<ends.length:=by rw[h.ln];exact hi
    have hic:i<costs.length:=by rw[hcl];exact hi
    have z2:=hPG.gr.arr.cell 2;have z3:=hPG.gr.arr.cell 3;obtain⟨pa,ia,ca⟩:=Sl.elem (s:=1) Tryz.underlying71 A2c hPG.gr.en (i:=i) (u:=.int .i64 ends[i]) (by rw[List.getElem?_map,List.getElem?_eq_getElem hie];rfl);obtain⟨pb,ib,cb⟩:=Sl.elem (s:=1) Tryz.underlying71 A2c hPG.gr.co (i:=i) (u:=.int .i64 costs[i]) (by rw[List.getElem?_map,List.getElem?_eq_getElem hic];rfl);obtain⟨p1,i1,c1⟩:=hnum hc' hi;obtain⟨ev',cv',pe,pc,K1,K2,x1,x2,x3,x4,x5,x6,x7,x8,x9,x10,x11⟩:=GrX.setEC (s:=numU U i) hG' hc'.wf (by rw[hT.le];exact hnm) (by rw[hcs];exact hnm) ends[i] costs[i];simp only[↓Sh.dn,sx,Nat.reduceBEq,f59,g58,A1a,Nat.lt_irrefl,decide_false];refine(A9a (by kernel_rfl)).2 ?_;simp only[↓Sh.dn,sx,reduceCtorEq,Nat.reduceEqDiff,g0',g4',g7',g8',g47,z2,z3,ia,ca,ib,cb,i1,c1,x1,x2,x5,x6,x7,x8,A2a hi (Nat.le_trans hn2 (by decide))];refine k _ _ ?_ (by simp only[sx]) ⟨hc'.trans x10,_,_,_,x11,by rw[List.length_set];exact hcs,hT.add hbx hnm hr (by simp[List.getD,List.getElem?_eq_getElem hie]),fun h0 c hc=>(List.mem_or_eq_of_mem_set hc).elim (hZ h0 c) fun e=>by rw[e];exact h0 _ (List.getElem_mem hic)⟩
    ·repeat refine Same.put ?_ rfl
     exact Same.trans (by repeat (first|refine Same.put ?_ rfl|exact Same.rfl' _)) (hF''.sub rfl)
  ·rintro F' H' hF' f47 ⟨hc,R,es,cs,hG,hcs,hT,hZ⟩
   have g7:=hF' 7 rfl;have g46:=hF' 46 rfl;simp only[sx,Nat.reduceEqDiff]at g7 g46;simp only[↓Sh.dn,sx,Nat.reduceEqDiff,g7,g46,f47,A1a,Nat.lt_irrefl,decide_false,hres];subst hM;exact⟨hk05.then hb4 hc,g1,rfl,U,R,es,cs,_,fun y hy=>Nat.le_trans hb4 hy,hG,hcs,hZ,hUl,hUi,hT,hm⟩
theorem TrimI.to{E:List (List (Nat×Int×Int×Int))}{ends:List Int}{U:List Bool}{n:Nat}{R:List (List (Nat×Int×Int×Int))}{es:List Int}(hT:TrimI E ends U (1+A2k U n) n R es)(hE:E.length=n)(hU:U.length=n){k:Nat}{Q:Int×Int×Int→Prop}
  (ht:∀(s:Nat) r,E[s]?=some r→r.length≤k∧∀e∈r,e.1<n∧Q e.2) (s:Nat) (r:List (Nat×Int×Int×Int)) (hr:R[s]?=some r):r.length≤k∧∀e∈r,e.1<1+A2k U n∧Q e.2:=by
 by_cases hex:∃t,U[t]?=some true∧numU U t=s
 ·obtain⟨t,ht',rfl⟩:=hex
  have htn:t<n:=by rw[←hU];exact(List.getElem?_eq_some_iff.1 ht').1
  have hr0:E[t]?=some (E[t]'(by rw[hE];exact htn)):=List.getElem?_eq_getElem _;generalize E[t]'(by rw[hE];exact htn)=r0 at hr0;rw[hT.row t r0 htn ht' hr0]at hr;rw[←Option.some.inj hr];obtain⟨b1,b2⟩:=ht t r0 hr0;refine⟨by unfold A1j;rw[List.length_map];exact Nat.le_trans (List.length_filter_le _ _) b1,fun e he=>?_⟩;obtain⟨e0,he0,rfl⟩:=List.mem_map.1 he;have:=b2 e0 (List.mem_filter.1 he0).1;exact⟨C35 this.1,this.2⟩
 ·have hs:=(List.getElem?_eq_some_iff.1 hr).1
  rw[hT.lr]at hs;rw[hT.non s hs fun t _ ht he=>hex ⟨t,ht,he⟩]at hr;rw[←Option.some.inj hr];exact⟨Nat.zero_le _,fun e he=>by cases he⟩
end Go.Proofs.YtjjgodccecehlaaGreat
