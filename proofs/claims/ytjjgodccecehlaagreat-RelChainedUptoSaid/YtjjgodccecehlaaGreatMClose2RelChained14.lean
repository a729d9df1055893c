/- A part of the proof: RefPair, RelPairs, SymsSmall, IndexFuncStr, SymsValidate, GraphCheck, Priced, RelVal, GraphPut, RelSlot, JagTwo, LawRelKit, IsOver, DataIn. -/
import Derived.Test.YtjjgodccecehlaaGreatMClose2RelChained12
import Derived.Test.YtjjgodccecehlaaGreatMClose2RelChained13
import Derived.Test.YtjjgodccecehlaaGreatMClose2RelChained8
import Derived.Test.YtjjgodccecehlaaGreatMClose2RelChained10
import Derived.Test.YtjjgodccecehlaaGreatMClose2RelChained11
import Derived.Test.YtjjgodccecehlaaGreatMClose2RelChained2
import Derived.Test.YtjjgodccecehlaaGreatMClose2RelChained1
import Derived.Test.YtjjgodccecehlaaGreatMClose2RelChained9
import Derived.Test.YtjjgodccecehlaaGreatRows
set_option linter.unusedVariables false
set_option linter.unusedSimpArgs false
/- The reference's has and Pair: whether a net holds a pair. -/
set_option maxHeartbeats 4000000
set_option maxRecDepth 20000
namespace Go.Proofs.YtjjgodccecehlaaGreat
open Go Go.Proofs Go.Proofs.Sh
def A3j(N:NetD)(x y:List ByteArray):Prop:=RelP (B7b N) N.isEnd x y
theorem B2d{N:NetD}(hok:A0n N){x:ByteArray}(hx:x=⟨#[]⟩∨x∈N.sigma):labN (A1l N.sigma x)=(labT x).map (ixN N.sigma)∧∀s,labT x=some s→s∈N.sigma:=by
 have e0:(⟨#[]⟩:ByteArray)=A4n:=rfl;rw[e0]at hx;by_cases h:x=A4n
 ·subst h
  have:=(C1m hok.asc).2 (C0u hok);unfold labN labT;rw[if_pos this,if_pos rfl];exact⟨rfl,fun s hs=>by cases hs⟩
 ·have hm:=hx.resolve_left h
  obtain⟨k,_,h2,h3⟩:=B4s hok.asc hm;unfold labN labT;rw[if_neg (by omega),if_neg h,h2];exact⟨by rw[Option.map_some,h3];rfl,fun s hs=>by rw[←Option.some.inj hs];exact hm⟩
theorem A01{N:NetD}(hok:A0n N){x:ByteArray}(hx:x=⟨#[]⟩∨x∈N.sigma):A1l N.sigma x<(N.sigma.length:Int):=by
 by_cases h:x∈N.sigma
 ·obtain⟨k,h1,h2,_⟩:=B4s hok.asc h
  have:=(List.getElem?_eq_some_iff.1 h1).1;omega
 ·have:=(C1m hok.asc).2 h
  omega
theorem A50{N:NetD}(hok:A0n N)(s:Nat)(a b:Option Nat)(t:Nat):A5f (A8f N) s a b t↔∃c d,B7b N s c d t∧a=c.map (ixN N.sigma)∧b=d.map (ixN N.sigma):=by
 unfold A5f B7b;constructor
 ·rintro⟨r,hr,e,he,h1,h2,h3⟩
  obtain⟨c,hc,h4,rfl⟩:=(A1s hr e).1 he;obtain⟨_,_,h5,_,h6,h7⟩:=hok.arc c hc;simp only at h1 h2 h3;exact⟨_,_,⟨c,hc,h4,rfl,rfl,by omega⟩,by rw[←h2,(B2d hok h6).1],by rw[←h3,(B2d hok h7).1]⟩
 ·rintro⟨_,_,⟨c,hc,h1,rfl,rfl,h4⟩,rfl,rfl⟩
  obtain⟨h7,h8,h5,_,h6,h9⟩:=hok.arc c hc;have hs:s<N.states.toNat:=by omega
  unfold A8f;exact⟨_,A2k hs,(c.to.toNat,A1l N.sigma c.inn,A1l N.sigma c.out,c.cost),(A1s (A2k hs) _).2 ⟨c,hc,h1,rfl⟩,by simp only;omega,(B2d hok h6).1,(B2d hok h9).1⟩
theorem C2j{N:NetD}(hok:A0n N){s t:Nat}{x y:List ByteArray}(h:Sh.Way (B7b N) s x y t):(∀z∈x,z∈N.sigma)∧∀z∈y,z∈N.sigma:=by
 induction h with
 | nil s=>exact⟨fun z hz=>(by cases hz),fun z hz=>by cases hz⟩
 | @cons s t u a b x y h1 _ ih=>
  obtain⟨c,hc,_,rfl,rfl,_⟩:=h1;obtain⟨_,_,_,_,h6,h7⟩:=hok.arc c hc;have key:∀{o:Option ByteArray} {w:List ByteArray},(∀s,o=some s→s∈N.sigma)→(∀z∈w,z∈N.sigma)→∀z∈o.toList++w,z∈N.sigma:=fun{o w} ho hw z hz=>by
   rcases List.mem_append.1 hz with h|h
   ·exact ho z (by cases o with
      | none => cases h
      | some s => rw[List.mem_singleton.1 h])
   ·exact hw z h
  exact⟨key (B2d hok h6).2 ih.1,key (B2d hok h7).2 ih.2⟩
theorem A09{α β:Type}{f:α→β}{S:α→Prop}(hf:∀x y,S x→S y→f x=f y→x=y):∀{l m:List α},(∀x∈l,S x)→(∀x∈m,S x)→l.map f=m.map f→l=m
 | [],[],_,_,_=>rfl
 | [],_ :: _,_,_,h=>by simp at h
 | _ :: _,[],_,_,h=>by simp at h
 | a :: l,b :: m,hl,hm,h=>by
  simp only[List.map_cons,List.cons.injEq]at h;rw[hf a b (hl a List.mem_cons_self) (hm b List.mem_cons_self) h.1,A09 hf (fun x hx=>hl x (List.mem_cons_of_mem _ hx)) (fun x hx=>hm x (List.mem_cons_of_mem _ hx)) h.2]
theorem way_rows{N:NetD}(hok:A0n N){x y:List ByteArray}(hx:∀z∈x,z∈N.sigma)(hy:∀z∈y,z∈N.sigma)(s t:Nat):Sh.Way (A5f (A8f N)) s (x.map (ixN N.sigma)) (y.map (ixN N.sigma)) t↔Sh.Way (B7b N) s x y t:=by
 constructor
 ·intro h
  have key:∀{s t:Nat} {u v:List Nat},Sh.Way (A5f (A8f N)) s u v t→∃x y,Sh.Way (B7b N) s x y t∧u=x.map (ixN N.sigma)∧v=y.map (ixN N.sigma):=by
   intro s t u v k
   induction k with
   | nil s=>exact⟨[],[],.nil s,rfl,rfl⟩
   | @cons s t w a b u v h1 _ ih=>
    obtain⟨c,d,h2,rfl,rfl⟩:=(A50 hok _ _ _ _).1 h1;obtain⟨x,y,h3,rfl,rfl⟩:=ih;have e:∀o:Option ByteArray,(o.map (ixN N.sigma)).toList=o.toList.map (ixN N.sigma):=fun o=>by cases o<;>rfl
    exact⟨c.toList++x,d.toList++y,.cons h2 h3,by rw[List.map_append,e],by rw[List.map_append,e]⟩
  obtain⟨x',y',h1,h2,h3⟩:=key h;obtain⟨h4,h5⟩:=C2j hok h1;rw[A09 (S:=fun z=>z∈N.sigma) (B7g hok.asc) hx h4 h2,A09 (S:=fun z=>z∈N.sigma) (B7g hok.asc) hy h5 h3];exact h1
 ·intro h
  exact h.map (f:=ixN N.sigma) fun s a b t hs=>(A50 hok _ _ _ _).2 ⟨a,b,hs,rfl,rfl⟩
theorem A95{N:NetD}(hok:A0n N){x y:List ByteArray}(hx:∀z∈x,z∈N.sigma)(hy:∀z∈y,z∈N.sigma):(∃t,0<(A1h N N.ends).getD t 0∧Sh.Way (A5f (A8f N)) 0 (x.map (ixN N.sigma)) (y.map (ixN N.sigma)) t)↔A3j N x y:=by
 unfold A3j RelP;refine exists_congr fun t=>and_congr (B0u hok t) (way_rows hok hx hy 0 t)
theorem A5s{N:NetD}(hok:A0n N){x y:List ByteArray}(h:A3j N x y):(∀z∈x,z∈N.sigma)∧∀z∈y,z∈N.sigma:=by
 obtain⟨t,_,h2⟩:=h;exact C2j hok h2
theorem B2s{H:AH}{x:ByteArray}:Sh.Call Tryz.prog (knows 7) 70 [.string x] H (fun r H'=>H'=H∧r=.bool (decide (16<x.size))):=by
 refine A5a rfl Tryz.func70 rfl (Nat.le_of_ble_eq_true rfl) ?_;have hres:Tryz.f70.results.toList=[.tmp 2]:=rfl;have e:decide ((16:Int)<(x.size:Int))=decide (16<x.size):=decide_eq_decide.2 (by omega);simp only[↓Sh.dn,sx,reduceCtorEq,hres,e]
def chOk(s:ByteArray):Bool:=!s.data.toList.any badByte&&decide (1≤s.size)
theorem B4n(s:ByteArray):A92 s=(chOk s&&decide (s.size≤16)):=rfl
theorem C0s{x:ByteArray}:decide (x=⟨#[]⟩)=!decide (1≤x.size):=by
 by_cases h:x=⟨#[]⟩
 ·subst h;rfl
 ·have : 1 ≤ x.size := by
    refine Nat.one_le_iff_ne_zero.2 fun h0 => h (ByteArray.ext ?_);exact Array.eq_empty_of_size_eq_zero h0
  simp[h, this]
theorem B3c{H:AH}{x:ByteArray}(hl:x.size≤1048576):
  Sh.Call Tryz.prog (knows 7) 72 [.string x] H (fun r H'=>H'=H∧r=.bool (chOk x)):=by
 refine A5a rfl Tryz.func72 rfl (Nat.le_of_ble_eq_true rfl) ?_;have hres:Tryz.f72.results.toList=[.tmp 2]:=rfl;have hsz:x.data.toList.length=x.size:=by rw[Array.length_toList];rfl
 simp only[↓Sh.dn,sx,reduceCtorEq];refine A0d x.size 6 (List.range' 6 26++[2,3]) (fun i F H'=>H'=H∧(x.data.toList.take i).any badByte=false) (by simp only[sx]) ⟨rfl,rfl⟩ ?_ ?_
 ·rintro i F H' hlt hF f6 ⟨rfl,hall⟩ k
  have f0:=hF 0 rfl;have f5:=hF 5 rfl;simp only[sx,reduceCtorEq,Nat.reduceEqDiff]at f0 f5;obtain⟨u,hu⟩:∃u,x.data.toList[i]?=some u:=⟨x.data.toList[i]'(by omega),List.getElem?_eq_getElem (by omega)⟩
  have hix:=B1m (P:=Tryz.prog) (j:=.i64) Tryz.underlying9 hu;have e33:decide ((u.toNat:Int)<33)=decide (u.toNat<33):=decide_eq_decide.2 (by omega);have e126:decide (126<(u.toNat:Int))=decide (126<u.toNat):=decide_eq_decide.2 (by omega);have e60:decide ((u.toNat:Int)=60)=decide (u.toNat=60):=decide_eq_decide.2 (by omega);have e62:decide ((u.toNat:Int)=62)=decide (u.toNat=62):=decide_eq_decide.2 (by omega);have hbad:badByte u=true→chOk x=false:=by
   intro h;have:x.data.toList.any badByte=true:=List.any_eq_true.2 ⟨_,List.mem_of_getElem? hu,h⟩;simp[chOk,this]
  simp only[↓Sh.dn,sx,reduceCtorEq,Nat.reduceEqDiff,f0,f5,f6,hix,A2a,hlt,e33,decide_true];by_cases h1:u.toNat<33
  ·simp only[↓Sh.dn,sx,Nat.reduceEqDiff,h1,decide_true,hres,hbad (by simp[badByte,h1])]
  simp only[↓Sh.dn,sx,reduceCtorEq,Nat.reduceEqDiff,f0,hix,h1,e126,decide_false];by_cases h2:126<u.toNat
  ·simp only[↓Sh.dn,sx,Nat.reduceEqDiff,h2,decide_true,hres,hbad (by simp[badByte,h2])]
  simp only[↓Sh.dn,sx,reduceCtorEq,Nat.reduceEqDiff,f0,hix,h2,e60,decide_false];by_cases h3:u.toNat=60
  ·simp only[↓Sh.dn,sx,Nat.reduceEqDiff,h3,decide_true,hres,hbad (by simp[badByte,h3])]
  simp only[↓Sh.dn,sx,reduceCtorEq,Nat.reduceEqDiff,f0,hix,h3,e62,decide_false];by_cases h4:u.toNat=62
  ·simp only[↓Sh.dn,sx,h4,decide_true,hres,hbad (by simp[badByte,h4])]
  simp only[↓Sh.dn,sx,Nat.reduceEqDiff,f6,h4,decide_false,wrap_succ hlt hl];refine k _ _ (by repeat (first|refine Same.put ?_ rfl|exact Same.rfl' _)) (by simp only[sx]) ⟨rfl,?_⟩;rw[List.take_add_one,hu];simp only[Option.toList,List.any_append,hall,List.any_cons,List.any_nil,Bool.or_false,badByte,h1,h2,h3,h4,decide_false]
 ·rintro F H' hF f6 ⟨rfl,hall⟩
  have f0:=hF 0 rfl;have f5:=hF 5 rfl;simp only[sx,reduceCtorEq,Nat.reduceEqDiff]at f0 f5;rw[←hsz,List.take_length]at hall;simp only[↓Sh.dn,sx,reduceCtorEq,f0,f5,f6,A2a,Nat.lt_irrefl,decide_false,hres,chOk,hall,C0s]
theorem B04{H:AH}{v:Value}{l:List ByteArray}{fid:Nat}{caps:List Value}(p:ByteArray→Bool)(hs:Sl H v 1 (l.map A6b))(hl:l.length≤1048576)(hw:Wf H)
  (hp:∀H',Kept H H'→∀x∈l,Sh.Call Tryz.prog (knows 7) fid ((fun s=>Value.string s) x :: caps) H' (fun r H''=>Kept H' H''∧r=.bool (p x))):
  Sh.Call Tryz.prog (knows 7) 97 [v,.func (.func fid) #[] caps.toArray] H (fun r H'=>Kept H H'∧∃k:Int,r=.int .i64 k∧decide (0≤k)=l.any p):=by
 refine A5a rfl Tryz.func97 rfl (Nat.le_of_ble_eq_true rfl) ?_;have hres:Tryz.f97.results.toList=[.tmp 4]:=rfl;have hlen:=hs.len Tryz.underlying22 H;simp only[↓Sh.dn,sx,reduceCtorEq,hlen,List.length_map];refine A0d l.length 8 [5,8,9,10,11,12,13,14,15,16,18] (fun i F H'=>Kept H H'∧(l.take i).any p=false) (by simp only[sx]) ⟨Kept.refl hw,rfl⟩ ?_ ?_
 ·rintro i F H' hlt hF f8 ⟨hk,hall⟩ k
  have hs1:=hs.grow (hk.grow hw);obtain⟨g,o,kk,hia,hc,hcc⟩:=hs1.at Tryz.underlying22 A6r (i:=i) (x:=A6b l[i]) (by simp[hlt]) .i64;have hld:=hcc 0 _ rfl;simp only[Nat.add_zero]at hld;have f0:=hF 0 rfl;have f1:=hF 1 rfl;have f7:=hF 7 rfl;simp only[sx,reduceCtorEq,Nat.reduceEqDiff]at f0 f1 f7;obtain⟨r,H2,hd,hk2,rfl⟩:=hp H' hk l[i] (List.getElem_mem hlt);simp only[↓Sh.dn,sx,reduceCtorEq,Nat.reduceEqDiff,f0,f1,f7,f8,A2a,hlt,decide_true,hia,hld,reduceCtorEq];refine⟨_,_,hd,?_⟩;cases hpv:p l[i] with
  | true=>
   simp only[↓Sh.dn,sx,Nat.reduceEqDiff,hres];refine⟨hk.trans hk2,_,rfl,?_⟩;rw[List.any_eq_true.2 ⟨_,List.getElem_mem hlt,hpv⟩];simp
  | false=>
   simp only[↓Sh.dn,sx,Nat.reduceEqDiff,hres,f8,wrap_succ hlt hl];refine k _ _ (by repeat (first|refine Same.put ?_ rfl|exact Same.rfl' _)) (by simp only[sx]) ⟨hk.trans hk2,?_⟩;rw[List.take_add_one,List.getElem?_eq_getElem hlt];simp only[Option.toList,List.any_append,hall,List.any_cons,List.any_nil,hpv,Bool.or_false]
 ·rintro F H' hF f8 ⟨hk,hall⟩
  have f7:=hF 7 rfl;simp only[sx,Nat.reduceEqDiff]at f7;rw[List.take_length]at hall;simp only[↓Sh.dn,sx,f7,f8,A2a,Nat.lt_irrefl,decide_false,hres];exact⟨hk,_,rfl,by rw[hall];rfl⟩
theorem A2t{H:AH}{v:Value}{l:List ByteArray}{fid:Nat}{caps:List Value}(p:ByteArray→Bool)(hs:Sl H v 1 (l.map A6b))(hl:l.length≤1048576)(hw:Wf H)
  (hp:∀H',Kept H H'→∀x∈l,Sh.Call Tryz.prog (knows 7) fid ((fun s=>Value.string s) x :: caps) H' (fun r H''=>Kept H' H''∧r=.bool (p x))):
  Sh.Call Tryz.prog (knows 7) 69 [v,.func (.func fid) #[] caps.toArray] H (fun r H'=>Kept H H'∧r=.bool (l.any p)):=by
 refine A5a rfl Tryz.func69 rfl (Nat.le_of_ble_eq_true rfl) ?_;have hres:Tryz.f69.results.toList=[.tmp 4]:=rfl;obtain⟨r,H2,hd,hk,k,rfl,hk0⟩:=B04 p hs hl hw hp;simp only[↓Sh.dn,sx,reduceCtorEq,Nat.reduceEqDiff];refine⟨_,_,hd,?_⟩;simp only[sx,hres,hk0];exact hk
theorem B92{H:AH}{v:Value}{l:List ByteArray}(hs:Sl H v 1 (l.map A6b))(hl:l.length≤1048576)(hlx:∀x∈l,x.size≤1048576)(hw:Wf H):
  Sh.Call Tryz.prog (knows 7) 95 [v] H (fun r H'=>Kept H H'∧r=.int .i64 (A0k l)):=by
 refine A5a rfl Tryz.func95 rfl (Nat.le_of_ble_eq_true rfl) ?_;have hres:Tryz.f95.results.toList=[.tmp 2]:=rfl;have hlen:=hs.len Tryz.underlying22 H;have e40:decide ((40:Int)<((l.length:Nat):Int))=decide (40<l.length):=decide_eq_decide.2 (by omega);simp only[↓Sh.dn,sx,reduceCtorEq,hlen,List.length_map,e40];by_cases h40:40<l.length
 ·simp only[↓Sh.dn,sx,Nat.reduceEqDiff,h40,decide_true,hres,A0k,Kept.refl hw]
 simp only[↓Sh.dn,sx,reduceCtorEq,Nat.reduceEqDiff,h40,decide_false];obtain⟨r1,H1,hd1,hk1,rfl⟩:=A2t (caps:=[]) (fid:=70) (fun s=>decide (16<s.size)) hs hl hw (fun H' hk x hx=>(B2s (H:=H') (x:=x)).mono fun r H'' h=>by rcases h with⟨rfl,h⟩;exact⟨Kept.refl hk.wf,h⟩);refine⟨_,_,hd1,?_⟩;cases hL:(l.any fun s=>decide (16<s.size)) with
 | true=>simp only[↓Sh.dn,sx,hres,hL,A0k,A8r,h40,decide_false,hk1]
 | false=>
  have hs1:=hs.grow (hk1.grow hw);have hlen1:=hs1.len Tryz.underlying22 H1;simp only[↓Sh.dn,sx,reduceCtorEq,hlen1,List.length_map];have h16:∀x∈l,decide (x.size≤16)=true:=by
   intro x hx;have:=List.any_eq_false.1 hL x hx;simp only[decide_eq_true_eq,Nat.not_lt]at this
   simpa using this
  have e1:(l.all A92&&ascB l)=false→A0k l=1:=by intro h;simp[A0k,A8r,h40,hL];simpa using h
  have e0:(l.all A92&&ascB l)=true→A0k l=0:=by intro h;simp[A0k,A8r,h40,hL];simpa using h
  have hsy:∀x∈l,A92 x=chOk x:=by intro x hx;rw[B4n,h16 x hx,Bool.and_true]
  refine A0d l.length 14 (List.range' 14 22++[2,3,4]) (fun i F H'=>H'=H1∧(∀(j:Nat) x,j<i→l[j]?=some x→chOk x=true)∧(∀(j:Nat) x y,j+1<i→l[j]?=some x→l[j+1]?=some y→A9r x y=true)) (by simp only[sx]) ⟨rfl,fun j x h=>by omega,fun j x y h=>by omega⟩ ?_ ?_
  ·rintro i F H' hlt hF f14 ⟨rfl,hall,hasc⟩ k
   have f0:=hF 0 rfl;have f12:=hF 12 rfl;have f13:=hF 13 rfl;simp only[sx,reduceCtorEq,Nat.reduceEqDiff]at f0 f12 f13;obtain⟨g,o,kk,hia,hc,hcc⟩:=hs1.at Tryz.underlying22 A6r (i:=i) (x:=A6b l[i]) (by simp[hlt]) .i64;have hy:=hcc 0 _ rfl;simp only[Nat.add_zero]at hy;have hget:l[i]?=some l[i]:=List.getElem?_eq_getElem hlt;obtain⟨r,H2,hd2,rfl,rfl⟩:=B3c (H:=H') (x:=l[i]) (hlx _ (List.getElem_mem hlt));simp only[↓Sh.dn,sx,Nat.reduceEqDiff,f12,f13,f14,A2a,hlt,decide_true,hia,hy];refine⟨_,_,hd2,?_⟩;cases hch:chOk l[i] with
   | false=>
    have hbad:A0k l=1:=e1 (by
     rw[Bool.and_eq_false_iff];left;exact List.all_eq_false.2 ⟨_,List.getElem_mem hlt,by rw[hsy _ (List.getElem_mem hlt),hch];simp⟩)
    simp only[↓Sh.dn,sx,Nat.reduceEqDiff,hres,hbad,hk1]
   | true=>
    have hall':∀(j:Nat) x,j<i+1→l[j]?=some x→chOk x=true:=by
     intro j x hj hx;by_cases he:j=i
     ·subst he;rw[hget]at hx;rw[←Option.some.inj hx];exact hch
     ·exact hall j x (by omega) hx
    by_cases hi0:0<i
    ·have hlt1:i-1<l.length:=by omega
     obtain⟨g',o',kk',hia',hc',hcc'⟩:=hs1.at Tryz.underlying22 A6r (i:=i-1) (x:=A6b l[i-1]) (by simp[hlt1]) .i64;have hy':=hcc' 0 _ rfl;simp only[Nat.add_zero]at hy';have hw1:IntKind.wrap .i64 ((i:Int)-1)=((i-1:Nat):Int):=by rw[wrap64 (by omega) (by omega)];omega
     have ei:decide ((0:Int)<(i:Int))=true:=by simpa using hi0
     have hget':l[i-1]?=some l[i-1]:=List.getElem?_eq_getElem hlt1;simp only[↓Sh.dn,sx,reduceCtorEq,Nat.reduceEqDiff,f0,ei,hw1,hia',hy'];cases hq:A9r l[i-1] l[i] with
     | false=>
      have hbad:A0k l=1:=e1 (by
       rw[Bool.and_eq_false_iff];right;cases hb:ascB l with
       | false=>rfl
       | true=>
        have:=B9d.1 hb (i-1) _ _ hget' (by rw[show i-1+1=i by omega];exact hget);rw[this]at hq;cases hq)
      simp only[↓Sh.dn,sx,hres,hbad,hk1]
     | true=>
      simp only[↓Sh.dn,sx,Nat.reduceEqDiff,f14,wrap_succ hlt hl];refine k _ _ (by repeat (first|refine Same.put ?_ rfl|exact Same.rfl' _)) (by simp only[sx]) ⟨rfl,hall',fun j x y hj hx hy=>?_⟩;by_cases he:j+1=i
      ·have:j=i-1:=by omega
       subst this;rw[he,hget]at hy;rw[hget']at hx;rw[←Option.some.inj hx,←Option.some.inj hy];exact hq
      ·exact hasc j x y (by omega) hx hy
    ·have ei:decide ((0:Int)<(i:Int))=false:=by simpa using hi0
     simp only[↓Sh.dn,sx,Nat.reduceEqDiff,f14,ei,wrap_succ hlt hl];exact k _ _ (by repeat (first|refine Same.put ?_ rfl|exact Same.rfl' _)) (by simp only[sx]) ⟨rfl,hall',fun j x y hj hx hy=>by omega⟩
  ·rintro F H' hF f14 ⟨rfl,hall,hasc⟩
   have f13:=hF 13 rfl;simp only[sx,Nat.reduceEqDiff]at f13;have hgood:A0k l=0:=e0 (by
    rw[Bool.and_eq_true];refine⟨List.all_eq_true.2 fun x hx=>?_,B9d.2 fun j x y hx hy=>hasc j x y (List.getElem?_eq_some_iff.1 hy).1 hx hy⟩;obtain⟨j,hj⟩:=List.mem_iff_getElem?.1 hx;rw[hsy x hx];exact hall j x (List.getElem?_eq_some_iff.1 hj).1 hj)
   simp only[↓Sh.dn,sx,f13,f14,A2a,Nat.lt_irrefl,decide_false,hres,hgood,hk1]
theorem D0c{H:AH}{gg:Nat}{sg ar en:Value}{N:NetD}{s:ByteArray}(hb:NetBox H gg sg ar en N)(ha:Asc N.sigma)(hl:N.sigma.length≤1048576):
  Sh.Call Tryz.prog (knows 7) 96 [.string s,.pointer (some ⟨gg,0,some 0⟩)] H (fun r H'=>H'=H∧r=.bool (!A8z N s)):=by
 refine A5a rfl Tryz.func96 rfl (Nat.le_of_ble_eq_true rfl) ?_;have hres:Tryz.f96.results.toList=[.tmp 3]:=rfl;obtain⟨r,H1,hd,rfl,k,rfl,_,_⟩:=B7c (x:=s) hb.hsg ha hl;simp only[↓Sh.dn,sx,reduceCtorEq,Nat.reduceEqDiff,hb.c0];refine⟨_,_,hd,?_⟩;simp only[sx];by_cases h:s=⟨#[]⟩
 ·simp only[↓Sh.dn,sx,Nat.reduceEqDiff,h,decide_true,hres,A8z]
 ·simp only[↓Sh.dn,sx,Nat.reduceEqDiff,h,decide_false,hres,A8z]
theorem C4s{H:AH}{v:Value}{N:NetD}(h:A6v H v N)(hsm:A0f N)(hw:Wf H):
  Sh.Call Tryz.prog (knows 7) 67 [v] H (fun r H'=>Kept H H'∧r=.int .i64 (A0m N)):=by
 refine A5a rfl Tryz.func67 rfl (Nat.le_of_ble_eq_true rfl) ?_;have hres:Tryz.f67.results.toList=[.tmp 2]:=rfl;obtain⟨sg,ar,en,rfl,hsg,har,hen⟩:=h;have hb1:=NetBox.of (N:=N) hw hsg har hen;have hk1:Kept H (H.new 4 [sg,.int .i64 N.states,ar,en]).2:=Kept.new hw 4 _;have eA:decide ((60000:Int)<(N.arcs.length:Int))=decide (60000<N.arcs.length):=decide_eq_decide.2 (by omega);have eE:decide ((60000:Int)<(N.ends.length:Int))=decide (60000<N.ends.length):=decide_eq_decide.2 (by omega);simp only[↓Sh.dn,sx,Nat.reduceEqDiff,A9y hsg.isCell har.isCell hen.isCell];generalize H.next=gg at hb1 ⊢;generalize (H.new 4 [sg,.int .i64 N.states,ar,en]).2=H1 at hb1 hk1 ⊢;simp only[sx,hb1.c1];by_cases hA:3000<N.states
 ·simp only[↓Sh.dn,sx,Nat.reduceEqDiff,hA,decide_true,hres,A0m,A7t,hk1]
 by_cases hB:60000<N.arcs.length
 ·simp only[↓Sh.dn,sx,Nat.reduceEqDiff,hb1.c2,A3r hb1,hA,eA,hB,decide_true,decide_false,hres,A0m,A7t,hk1]
 by_cases hC:60000<N.ends.length
 ·simp only[↓Sh.dn,sx,Nat.reduceEqDiff,hb1.c2,hb1.c3,A3r hb1,B4g hb1,hA,eA,eE,hB,hC,decide_true,decide_false,hres,A0m,A7t,hk1]
 have hT:A7t N=false:=by simp[A7t,hA,hB,hC]
 simp only[↓Sh.dn,sx,Nat.reduceEqDiff,hb1.c0,hb1.c2,hb1.c3,A3r hb1,B4g hb1,hA,eA,eE,hB,hC,decide_false,hres];obtain⟨r,H2,hd,hk2,rfl⟩:=B92 hb1.hsg hsm.sg hsm.sx hk1.wf;refine⟨_,_,hd,?_⟩;have hb2:=hb1.kept hk1.wf hk2;have hk12:=hk1.trans hk2;by_cases hS:A0k N.sigma=0
 case neg=>simp only[↓Sh.dn,sx,Nat.reduceEqDiff,hS,decide_false,A0m,hT,hk12]
 have hasc:=B1a hS;simp only[↓Sh.dn,sx,Nat.reduceEqDiff,hS,decide_true,hb2.c1];by_cases hst:N.states<1
 ·simp only[↓Sh.dn,sx,hst,decide_true,A0m,hT,hS,hk12]
 simp only[↓Sh.dn,sx,Nat.reduceEqDiff,hst,decide_false,hb2.c2,A3r hb2];have e1:N.arcs.any (A4q N)=true→A0m N=1:=by intro h;simp[A0m,hT,hS,hst,h]
 have e2:N.ends.any (A20 N)=true→A0m N=1:=by intro h;simp[A0m,hT,hS,hst,h]
 have e3:N.arcs.any (A4q N)=false→N.ends.any (A20 N)=false→A0m N=0:=by intro h h';simp[A0m,hT,hS,hst,h,h']
 refine A0d N.arcs.length 37 (List.range' 37 41++[2,6]) (fun i F H'=>Kept H2 H'∧(N.arcs.take i).any (A4q N)=false) (by simp only[sx]) ⟨Kept.refl hk12.wf,rfl⟩ ?_ ?_
 ·rintro i F H' hlt hF f37 ⟨hk,hall⟩ k
  have f1:=hF 1 rfl;have f4:=hF 4 rfl;have f35:=hF 35 rfl;have f36:=hF 36 rfl;simp only[sx,Nat.reduceEqDiff]at f1 f4 f35 f36;have hb':=hb2.kept hk12.wf hk;have hb3:=hb'.new hk.wf 5 (N.arcs[i].cells);have hk3:=hk.news 5 (N.arcs[i].cells);obtain⟨g,o,kk,hia,hc,hcc⟩:=hb'.har.at Tryz.underlying23 A6x (i:=i) (x:=N.arcs[i].cells) (by simp[hlt]) .i64;clear hcc;have hin:N.arcs[i]∈N.arcs:=List.getElem_mem hlt;have hnext:A4q N N.arcs[i]=false→(N.arcs.take (i+1)).any (A4q N)=false:=by
   intro h;rw[List.take_add_one,List.getElem?_eq_getElem hlt];simp only[Option.toList,List.any_append,hall,List.any_cons,List.any_nil,h,Bool.or_false]
  have hbad:A4q N N.arcs[i]=true→A0m N=1:=fun h=>e1 (List.any_eq_true.2 ⟨_,hin,h⟩);generalize N.arcs[i]=a at hb3 hk3 hc hnext hbad;simp only[↓Sh.dn,sx,Nat.reduceEqDiff,B39,B7u,C4a,arc0,f35,f36,f37,A2a,hlt,decide_true,hia,hc];by_cases h1:a.fr<0
  ·simp only[↓Sh.dn,sx,Nat.reduceEqDiff,h1,decide_true,hbad (by simp[A4q,h1]),hk12.trans hk3]
  simp only[↓Sh.dn,sx,Nat.reduceEqDiff,hb3.c1,arc0,f1,h1,decide_false];by_cases h2:N.states≤a.fr
  ·simp only[↓Sh.dn,sx,Nat.reduceEqDiff,h2,decide_true,hbad (by simp[A4q,h2]),hk12.trans hk3]
  simp only[↓Sh.dn,sx,Nat.reduceEqDiff,arc3,h2,decide_false];by_cases h3:a.to<0
  ·simp only[↓Sh.dn,sx,Nat.reduceEqDiff,h3,decide_true,hbad (by simp[A4q,h3]),hk12.trans hk3]
  simp only[↓Sh.dn,sx,Nat.reduceEqDiff,hb3.c1,arc3,f1,h3,decide_false];by_cases h4:N.states≤a.to
  ·simp only[↓Sh.dn,sx,Nat.reduceEqDiff,h4,decide_true,hbad (by simp[A4q,h4]),hk12.trans hk3]
  obtain⟨r,H4,hd4,rfl,rfl⟩:=D0c (s:=a.inn) hb3 hasc hsm.sg;simp only[↓Sh.dn,sx,Nat.reduceEqDiff,arc1,f4,h4,decide_false];refine⟨_,_,hd4,?_⟩;have hb4:=hb3;cases hI:A8z N a.inn with
  | true=>simp only[↓Sh.dn,sx,Nat.reduceEqDiff,hbad (by simp[A4q,hI]),hk12.trans hk3]
  | false=>
   obtain⟨r,H5,hd5,rfl,rfl⟩:=D0c (s:=a.out) hb3 hasc hsm.sg;simp only[↓Sh.dn,sx,Nat.reduceEqDiff,arc2,f4];refine⟨_,_,hd5,?_⟩;cases hO:A8z N a.out with
   | true=>simp only[↓Sh.dn,sx,hbad (by simp[A4q,hO]),hk12.trans hk3]
   | false=>
    simp only[↓Sh.dn,sx,Nat.reduceEqDiff,f37,wrap_succ hlt hsm.ar];exact k _ _ (by repeat (first|refine Same.put ?_ rfl|exact Same.rfl' _)) (by simp only[sx]) ⟨hk3,hnext (by simp[A4q,h1,h2,h3,h4,hI,hO])⟩
 ·rintro F H' hF f37 ⟨hk,hall⟩
  have f1:=hF 1 rfl;have f36:=hF 36 rfl;simp only[sx,Nat.reduceEqDiff]at f1 f36;rw[List.take_length]at hall;have hb':=hb2.kept hk12.wf hk;simp only[↓Sh.dn,sx,Nat.reduceEqDiff,hb'.c3,B4g hb',f1,f36,f37,A2a,Nat.lt_irrefl,decide_false];refine A0d N.ends.length 81 (List.range' 81 15++[2,8]) (fun i F H''=>Kept H' H''∧(N.ends.take i).any (A20 N)=false) (by simp only[sx]) ⟨Kept.refl hk.wf,rfl⟩ ?_ ?_
  ·rintro i F2 H'' hlt hF2 f81 ⟨hk2',hall2⟩ k
   have g1:=hF2 1 rfl;have g79:=hF2 79 rfl;have g80:=hF2 80 rfl;simp only[sx,Nat.reduceEqDiff,f1]at g1 g79 g80;have hbx:=hb'.kept hk.wf hk2';have hb3:=hbx.new hk2'.wf 2 (N.ends[i].cells);have hk3:=hk2'.news 2 (N.ends[i].cells);have hkk:=(hk12.trans hk).trans hk3;obtain⟨g,o,kk,hia,hc,hcc⟩:=hbx.hen.at Tryz.underlying24 A6z (i:=i) (x:=N.ends[i].cells) (by simp[hlt]) .i64;clear hcc;have hbad:A20 N N.ends[i]=true→A0m N=1:=fun h=>e2 (List.any_eq_true.2 ⟨_,List.getElem_mem hlt,h⟩);simp only[↓Sh.dn,sx,Nat.reduceEqDiff,C1d,B0v,C5b,end0,g79,g80,f81,A2a,hlt,decide_true,hia,hc];by_cases h1:N.ends[i].state<0
   ·simp only[↓Sh.dn,sx,Nat.reduceEqDiff,h1,decide_true,hbad (by simp[A20,h1]),hkk]
   simp only[↓Sh.dn,sx,Nat.reduceEqDiff,hb3.c1,end0,g1,h1,decide_false];by_cases h2:N.states≤N.ends[i].state
   ·simp only[↓Sh.dn,sx,h2,decide_true,hbad (by simp[A20,h2]),hkk]
   simp only[↓Sh.dn,sx,Nat.reduceEqDiff,f81,h2,decide_false,wrap_succ hlt hsm.en];refine k _ _ (by repeat (first|refine Same.put ?_ rfl|exact Same.rfl' _)) (by simp only[sx]) ⟨hk3,?_⟩;rw[List.take_add_one,List.getElem?_eq_getElem hlt];simp only[Option.toList,List.any_append,hall2,List.any_cons,List.any_nil,Bool.or_false,A20,h1,h2,decide_false]
  ·rintro F2 H'' hF2 f81 ⟨hk2',hall2⟩
   have g80:=hF2 80 rfl;simp only[sx,Nat.reduceEqDiff]at g80;rw[List.take_length]at hall2;simp only[↓Sh.dn,sx,g80,f81,A2a,Nat.lt_irrefl,decide_false,e3 hall hall2,(hk12.trans hk).trans hk2']
def A70(N:NetD)(m:Int):Bool:=N.arcs.any (fun a=>decide (a.cost<0)||decide (m<a.cost))||N.ends.any (fun a=>decide (a.cost<0)||decide (m<a.cost))
theorem priced{H:AH}{v:Value}{N:NetD}{m:Int}(h:A6v H v N)(hsm:A0f N)(hw:Wf H):
  Sh.Call Tryz.prog (knows 7) 68 [v,.int .i64 m] H (fun r H'=>Kept H H'∧r=.bool (A70 N m)):=by
 refine A5a rfl Tryz.func68 rfl (Nat.le_of_ble_eq_true rfl) ?_;have hres:Tryz.f68.results.toList=[.tmp 4]:=rfl;obtain⟨sg,ar,en,rfl,hsg,har,hen⟩:=h;have hb1:=NetBox.of (N:=N) hw hsg har hen;have hk1:Kept H (H.new 4 [sg,.int .i64 N.states,ar,en]).2:=Kept.new hw 4 _;simp only[↓Sh.dn,sx,Nat.reduceEqDiff,A9y hsg.isCell har.isCell hen.isCell];generalize H.next=gg at hb1 ⊢;generalize (H.new 4 [sg,.int .i64 N.states,ar,en]).2=H1 at hb1 hk1 ⊢;simp only[sx,hb1.c2,A3r hb1];refine A0d N.arcs.length 12 (List.range' 12 14++[4,6]) (fun i F H'=>Kept H1 H'∧(N.arcs.take i).any (fun a=>decide (a.cost<0)||decide (m<a.cost))=false) (by simp only[sx]) ⟨Kept.refl hk1.wf,rfl⟩ ?_ ?_
 ·rintro i F H' hlt hF f12 ⟨hk,hall⟩ k
  have f1:=hF 1 rfl;have f10:=hF 10 rfl;have f11:=hF 11 rfl;simp only[sx,Nat.reduceEqDiff]at f1 f10 f11;have hb':=hb1.kept hk1.wf hk;have hb3:=hb'.new hk.wf 5 (N.arcs[i].cells);have hk3:=hk.news 5 (N.arcs[i].cells);obtain⟨g,o,kk,hia,hc,hcc⟩:=hb'.har.at Tryz.underlying23 A6x (i:=i) (x:=N.arcs[i].cells) (by simp[hlt]) .i64;clear hcc;have hbad:(decide (N.arcs[i].cost<0)||decide (m<N.arcs[i].cost))=true→A70 N m=true:=fun h=>by
   rw[A70,List.any_eq_true.2 ⟨_,List.getElem_mem hlt,h⟩];rfl
  simp only[↓Sh.dn,sx,Nat.reduceEqDiff,B39,B7u,C4a,arc4,f10,f11,f12,A2a,hlt,decide_true,hia,hc,hres];by_cases h1:N.arcs[i].cost<0
  ·simp only[↓Sh.dn,sx,Nat.reduceEqDiff,h1,decide_true,hbad (by simp[h1]),hk1.trans hk3]
  simp only[↓Sh.dn,sx,Nat.reduceEqDiff,arc4,f1,h1,decide_false];by_cases h2:m<N.arcs[i].cost
  ·simp only[↓Sh.dn,sx,h2,decide_true,hbad (by simp[h2]),hk1.trans hk3]
  simp only[↓Sh.dn,sx,Nat.reduceEqDiff,f12,h2,decide_false,wrap_succ hlt hsm.ar];refine k _ _ (by repeat (first|refine Same.put ?_ rfl|exact Same.rfl' _)) (by simp only[sx]) ⟨hk3,?_⟩;rw[List.take_add_one,List.getElem?_eq_getElem hlt];simp only[Option.toList,List.any_append,hall,List.any_cons,List.any_nil,Bool.or_false,h1,h2,decide_false]
 ·rintro F H' hF f12 ⟨hk,hall⟩
  have f2:=hF 2 rfl;have f11:=hF 11 rfl;simp only[sx,Nat.reduceEqDiff]at f2 f11;rw[List.take_length]at hall;have hb':=hb1.kept hk1.wf hk;simp only[↓Sh.dn,sx,Nat.reduceEqDiff,hb'.c3,B4g hb',f2,f11,f12,A2a,Nat.lt_irrefl,decide_false];refine A0d N.ends.length 29 (List.range' 29 14++[4,8]) (fun i F H''=>Kept H' H''∧(N.ends.take i).any (fun a=>decide (a.cost<0)||decide (m<a.cost))=false) (by simp only[sx]) ⟨Kept.refl hk.wf,rfl⟩ ?_ ?_
  ·rintro i F2 H'' hlt hF2 f29 ⟨hk2',hall2⟩ k
   have g1:=hF2 1 rfl;have h1':=hF 1 rfl;have g27:=hF2 27 rfl;have g28:=hF2 28 rfl;simp only[sx,Nat.reduceEqDiff]at g1 g27 g28 h1';have hbx:=hb'.kept hk.wf hk2';have hb3:=hbx.new hk2'.wf 2 (N.ends[i].cells);have hk3:=hk2'.news 2 (N.ends[i].cells);have hkk:=(hk1.trans hk).trans hk3;obtain⟨g,o,kk,hia,hc,hcc⟩:=hbx.hen.at Tryz.underlying24 A6z (i:=i) (x:=N.ends[i].cells) (by simp[hlt]) .i64;clear hcc;have hbad:(decide (N.ends[i].cost<0)||decide (m<N.ends[i].cost))=true→A70 N m=true:=fun h=>by
    rw[A70,List.any_eq_true.2 ⟨_,List.getElem_mem hlt,h⟩,Bool.or_true]
   simp only[↓Sh.dn,sx,Nat.reduceEqDiff,C1d,B0v,C5b,end1,g27,g28,f29,A2a,hlt,decide_true,hia,hc];by_cases h1:N.ends[i].cost<0
   ·simp only[↓Sh.dn,sx,Nat.reduceEqDiff,h1,decide_true,hres,hbad (by simp[h1]),hkk]
   simp only[↓Sh.dn,sx,Nat.reduceEqDiff,end1,g1,h1',h1,decide_false];by_cases h2:m<N.ends[i].cost
   ·simp only[↓Sh.dn,sx,h2,decide_true,hres,hbad (by simp[h2]),hkk]
   simp only[↓Sh.dn,sx,Nat.reduceEqDiff,f29,h2,decide_false,wrap_succ hlt hsm.en];refine k _ _ (by repeat (first|refine Same.put ?_ rfl|exact Same.rfl' _)) (by simp only[sx]) ⟨hk3,?_⟩;rw[List.take_add_one,List.getElem?_eq_getElem hlt];simp only[Option.toList,List.any_append,hall2,List.any_cons,List.any_nil,Bool.or_false,h1,h2,decide_false]
  ·rintro F2 H'' hF2 f29 ⟨hk2',hall2⟩
   have g28:=hF2 28 rfl;simp only[sx,Nat.reduceEqDiff]at g28;rw[List.take_length]at hall2;simp only[↓Sh.dn,sx,g28,f29,A2a,Nat.lt_irrefl,decide_false,hres,A70,hall,hall2,(hk1.trans hk).trans hk2']
def A9f(N:NetD):Int:=if A0m N≠0 then A0m N else if NetD.free N=true then 0 else 6
theorem A7h{N:NetD}(h:A9f N=0):A0n N∧A0m N=0∧NetD.free N=true:=by
 unfold A9f at h;split at h
 ·rename_i h1;exact absurd h h1
 ·rename_i h1
  split at h
  ·rename_i h2
   exact⟨netOk (by simpa using h1),by simpa using h1,h2⟩
  ·cases h
theorem B9i(N:NetD):A70 N 0=!NetD.free N:=by
 unfold A70 NetD.free;rw[Bool.not_and,List.not_all_eq_any_not,List.not_all_eq_any_not];have e:∀c:Int,(decide (c<0)||decide (0<c))=!decide (c=0):=fun c=>by
  by_cases h:c=0
  ·subst h;rfl
  ·rw[decide_eq_false h,Bool.not_false,Bool.or_eq_true,decide_eq_true_eq,decide_eq_true_eq];omega
 simp only[e]
theorem A35{H:AH}{v:Value}{N:NetD}(h:A6v H v N)(hsm:A0f N)(hw:Wf H):
  Sh.Call Tryz.prog (knows 7) 31 [v] H (fun r H'=>Kept H H'∧r=.int .i64 (A9f N)):=by
 refine A5a rfl Tryz.func31 rfl (Nat.le_of_ble_eq_true rfl) ?_;have hres:Tryz.f31.results.toList=[.tmp 2]:=rfl;obtain⟨sg,ar,en,rfl,hsg,har,hen⟩:=h;have hb1:=NetBox.of (N:=N) hw hsg har hen;have hk1:Kept H (H.new 4 [sg,.int .i64 N.states,ar,en]).2:=Kept.new hw 4 _;simp only[↓Sh.dn,sx,Nat.reduceEqDiff,A9y hsg.isCell har.isCell hen.isCell];generalize H.next=gg at hb1 ⊢;generalize (H.new 4 [sg,.int .i64 N.states,ar,en]).2=H1 at hb1 hk1 ⊢;simp only[sx,hb1.ca];obtain⟨r,H2,hd,hk2,rfl⟩:=C4s hb1.netAt hsm hk1.wf;refine⟨_,_,hd,?_⟩;have hb2:=hb1.kept hk1.wf hk2;have hk12:=hk1.trans hk2;by_cases hE:A0m N=0
 case neg=>simp only[↓Sh.dn,sx,Nat.reduceEqDiff,hE,decide_false,hres,A9f,hk12]
 simp only[↓Sh.dn,sx,Nat.reduceEqDiff,hE,decide_true,hb2.ca];obtain⟨r,H4,hd4,hk4,rfl⟩:=priced (m:=0) hb2.netAt hsm hk12.wf;refine⟨_,_,hd4,?_⟩;cases hp:NetD.free N with
 | true=>simp only[↓Sh.dn,sx,hres,A9f,hE,hp,B9i,hk12.trans hk4]
 | false=>simp only[↓Sh.dn,sx,hres,A9f,hE,hp,B9i,hk12.trans hk4]
theorem C24{H:AH}{X:Nat→Prop}{g:Nat}{sigma:List ByteArray}{rows:List (List (List Value))}{ends costs:List Int}(h:GrX H X g sigma rows ends costs)(hw:Wf H):GrX H (fun y=>X y∧y<H.next) g sigma rows ends costs:=by
 obtain⟨sv,av,ev,cv,os,ot,oe,oc,vals,obs,h,ho⟩:=h;refine⟨sv,av,ev,cv,os,ot,oe,oc,vals,obs,h,fun y hy=>⟨ho y hy,?_⟩⟩;rcases hy with rfl|hy|hy|hy|hy
 ·exact h.arr.lt hw
 ·exact h.sg.lt hw y hy
 ·exact h.jag.lt hw y hy
 ·exact h.en.lt hw y hy
 ·exact h.co.lt hw y hy
structure C6r(sigma:List ByteArray)(E:List (List GE))(ends costs:List Int)(n:Nat)(M:NetD):Prop where
 sg:M.sigma=sigma
 st:M.states=(n:Int)
 al:M.arcs.length≤(E.map List.length).sum
 arc:∀a,a∈M.arcs↔∃(s:Nat) (r:List GE),E[s]?=some r∧∃e∈r,a=B2l sigma s e
 el:M.ends.length≤n
 fin:∀x,x∈M.ends↔∃s:Nat,s<n∧0<ends.getD s 0∧x=⟨(s:Int),costs.getD s 0⟩
structure B9r(sigma:List ByteArray)(E:List (List GE))(ends costs:List Int)(n:Nat):Prop where
 le:E.length=n
 ln:ends.length=n
 lc:costs.length=n
 n1:1≤n
 n2:n≤3000
 to:∀r∈E,∀e∈r,e.1<n∧e.2.1<(sigma.length:Int)∧e.2.2.1<(sigma.length:Int)∧e.2.2.2=0
 sum:(E.map List.length).sum≤60000
 zero:∀s,costs.getD s 0=0
theorem A65{sigma:List ByteArray}(hs:A0k sigma=0){k:Int}(hk:k<(sigma.length:Int)):(A7v sigma k=⟨#[]⟩∨A7v sigma k∈sigma)∧(labT (A7v sigma k)).map (ixN sigma)=labN k:=by
 have hno:=C5q hs;have hasc:=B1a hs;have e0:(⟨#[]⟩:ByteArray)=A4n:=rfl;unfold A7v labN;by_cases h:k<0
 ·rw[if_pos h,if_pos h]
  refine⟨.inl rfl,?_⟩;unfold labT;rw[e0,if_pos rfl];rfl
 ·rw[if_neg h,if_neg h]
  have hl:k.toNat<sigma.length:=by omega
  have hg:sigma[k.toNat]?=some sigma[k.toNat]:=List.getElem?_eq_getElem hl;have e:sigma.getD k.toNat ⟨#[]⟩=sigma[k.toNat]:=by simp[List.getD,hl]
  rw[e];have hm:sigma[k.toNat]∈sigma:=List.getElem_mem hl;refine⟨.inr hm,?_⟩;unfold labT;rw[if_neg fun h=>hno (by rw[←h];exact hm),Option.map_some];unfold ixN;rw[A4w hasc hg];rfl
section
variable {sigma:List ByteArray} {E:List (List GE)} {ends costs:List Int} {n:Nat} {M:NetD}
theorem B9u(hM:C6r sigma E ends costs n M)(hR:B9r sigma E ends costs n)(hs:A0k sigma=0):A9f M=0:=by
 have h1:=hR.n1;have h2:=hR.n2;have h3:=hM.st;have h4:=hM.al;have h5:=hM.el;have h6:=hR.sum;have hsy:∀k:Int,k<(sigma.length:Int)→A8z M (A7v sigma k)=false:=fun k hk=>by
  unfold A8z;rw[hM.sg];rcases(A65 hs hk).1 with h|h
  ·rw[h];simp
  ·simp[A9g.2 h]
 have hn:A0m M=0:=by
  unfold A0m;rw[if_neg,if_neg,if_neg,if_neg,if_neg]
  ·intro h
   obtain⟨e,he,hb⟩:=List.any_eq_true.1 h;obtain⟨s,h7,_,rfl⟩:=(hM.fin e).1 he;simp only[A20,Bool.or_eq_true,decide_eq_true_eq]at hb;omega
  ·intro h
   obtain⟨a,ha,hb⟩:=List.any_eq_true.1 h;obtain⟨s,r,hr,e,he,rfl⟩:=(hM.arc a).1 ha;obtain⟨k1,k2,k3,k4⟩:=hR.to r (List.mem_of_getElem? hr) e he;have hsl:=(List.getElem?_eq_some_iff.1 hr).1;have hle:=hR.le;simp only[A4q,B2l,hsy _ k2,hsy _ k3,Bool.or_eq_true,Bool.false_eq_true,or_false]at hb;rcases hb with((hb|hb)|hb)|hb<;>have hb2:=of_decide_eq_true hb<;>omega
  ·omega
  ·rw[hM.sg];simp[hs]
  ·simp only[A7t,Bool.or_eq_true,decide_eq_true_eq];omega
 unfold A9f;rw[if_neg (by simp[hn]),if_pos];simp only[NetD.free,Bool.and_eq_true,List.all_eq_true,decide_eq_true_eq];refine⟨fun a ha=>?_,fun e he=>?_⟩
 ·obtain⟨s,r,hr,e,he,rfl⟩:=(hM.arc a).1 ha
  exact(hR.to r (List.mem_of_getElem? hr) e he).2.2.2
 ·obtain⟨s,_,_,rfl⟩:=(hM.fin e).1 he
  exact hR.zero s
theorem C4c(hM:C6r sigma E ends costs n M)(hR:B9r sigma E ends costs n)(hsl:sigma.length≤1048576)(hsx:∀x∈sigma,x.size≤1048576):A0f M:=by
 have h1:=hR.n2;have h4:=hM.al;have h5:=hM.el;have h6:=hR.sum;exact⟨by rw[hM.sg];exact hsl,by omega,by omega,by rw[hM.sg];exact hsx⟩
theorem C2t(hM:C6r sigma E ends costs n M)(hR:B9r sigma E ends costs n)(hs:A0k sigma=0):A5f (A8f M)=A5f E:=by
 obtain⟨hok,_,_⟩:=A7h (B9u hM hR hs)
 funext s a b t
 apply propext;rw[A50 hok];have hsg:=hM.sg;rw[hsg];constructor
 ·rintro⟨_,_,⟨c,hc,h1,rfl,rfl,h2⟩,rfl,rfl⟩
  obtain⟨s',r,hr,e,he,rfl⟩:=(hM.arc c).1 hc;obtain⟨k1,k2,k3,k4⟩:=hR.to r (List.mem_of_getElem? hr) e he;have hss:s'=s:=by
   have:((s':Nat):Int)=(s:Int):=h1;omega
  subst hss;have htt:e.1=t:=by
   have:((e.1:Nat):Int)=(t:Int):=h2;omega
  exact⟨r,hr,e,he,htt,(A65 hs k2).2.symm,(A65 hs k3).2.symm⟩
 ·rintro⟨r,hr,e,he,rfl,rfl,rfl⟩
  obtain⟨k1,k2,k3,k4⟩:=hR.to r (List.mem_of_getElem? hr) e he;exact⟨_,_,⟨B2l sigma s e,(hM.arc _).2 ⟨s,r,hr,e,he,rfl⟩,rfl,rfl,rfl,rfl⟩,(A65 hs k2).2.symm,(A65 hs k3).2.symm⟩
def endP(ends:List Int)(t:Nat):Prop:=0<ends.getD t 0
theorem C3u(hM:C6r sigma E ends costs n M)(hR:B9r sigma E ends costs n)(hs:A0k sigma=0)(x y:List ByteArray):
  A3j M x y↔((∀z∈x,z∈sigma)∧∀z∈y,z∈sigma)∧RelP (A5f E) (endP ends) (x.map (ixN sigma)) (y.map (ixN sigma)):=by
 obtain⟨hok,_,_⟩:=A7h (B9u hM hR hs);have key:∀(hx:∀z∈x,z∈sigma) (hy:∀z∈y,z∈sigma),A3j M x y↔RelP (A5f E) (endP ends) (x.map (ixN sigma)) (y.map (ixN sigma)):=fun hx hy=>by
  rw[←A95 hok (by rw[hM.sg];exact hx) (by rw[hM.sg];exact hy),C2t hM hR hs,hM.sg];unfold RelP;refine exists_congr fun t=>and_congr_left fun _=>?_;rw[B0u hok];unfold NetD.isEnd endP;constructor
  ·rintro⟨e,he,h1⟩
   obtain⟨s,h2,h3,rfl⟩:=(hM.fin e).1 he;have:((s:Nat):Int)=(t:Int):=h1;have:s=t:=by omega
   rw[←this];exact h3
  ·intro h1
   refine⟨_,(hM.fin _).2 ⟨t,?_,h1,rfl⟩,rfl⟩;have hln:=hR.ln;rcases Nat.lt_or_ge t ends.length with h2|h2
   ·omega
   ·rw[List.getD_eq_getElem?_getD,List.getElem?_eq_none h2]at h1
    exact absurd h1 (Int.lt_irrefl 0)
 constructor
 ·intro h
  have hsy:=A5s hok h;rw[hM.sg]at hsy;exact⟨hsy,(key hsy.1 hsy.2).1 h⟩
 ·rintro⟨h1,h2⟩
  exact(key h1.1 h1.2).2 h2
end
theorem C3q{N:NetD}(hok:A0n N)(x y:List ByteArray):A3j N x y↔((∀z∈x,z∈N.sigma)∧∀z∈y,z∈N.sigma)∧RelP (A5f (A8f N)) (endP (A1h N N.ends)) (x.map (ixN N.sigma)) (y.map (ixN N.sigma)):=by
 constructor
 ·intro h
  have hsy:=A5s hok h;exact⟨hsy,(A95 hok hsy.1 hsy.2).2 h⟩
 ·rintro⟨h1,h2⟩
  exact(A95 hok h1.1 h1.2).1 h2
def C4b:Value:=.agg #[.slice none 0 0,.int .i64 0,.slice none 0 0,.slice none 0 0]
def JoinOut(H H':AH)(sigma:List ByteArray)(err:Int)(P:List ByteArray→List ByteArray→Prop)(r:Value):Prop:=
 Kept H H'∧∃mv,r=.tuple #[mv,.int .i64 err]∧(err≠0→mv=C4b)∧(err=0→∃M:NetD,(∀H2,(∀y,H.next≤y→H2.objs.get y=H'.objs.get y)→Nonempty (A6v H2 mv M))∧A0f M∧A9f M=0∧M.sigma=sigma∧∀x y,A3j M x y↔P x y)
structure Slot(H0:AH)(go:Nat):Prop where
 ob:Sh.Obj H0 go 4 [.slice none 0 0,.int .i64 0,.slice none 0 0,.slice none 0 0] true
 lt:go<H0.next
theorem Slot.new{H:AH}:Slot (H.new 4 [.slice none 0 0,.int .i64 0,.slice none 0 0,.slice none 0 0]).2 H.next:=⟨Sh.Obj.new (H:=H) 4 _,Nat.lt_succ_self _⟩
theorem Slot.put{H0 H':AH}{go:Nat}(h:Slot H0 go)(hk:Kept H0 H'){a b c d:Value}(ha:isCell a=true)(hb:isCell b=true)(hc:isCell c=true)(hd:isCell d=true):
  ∃H'',A7d Tryz.prog 26 H' (.agg #[a,b,c,d]) (.pointer (some ⟨go,0,some 0⟩))=some H''∧H''.cells ⟨go,0,some 0⟩ 4=some [a,b,c,d]∧Chg (fun y=>y=go) H' H''∧H''.next=H'.next:=by
 have o0':Sh.Obj H' go 4 [.slice none 0 0,.int .i64 0,.slice none 0 0,.slice none 0 0] true:=by
  have o0:=h.ob;unfold Sh.Obj at o0 ⊢;rw[hk.old go h.lt];exact o0
 obtain⟨H6,w6,ar6,v6,z6⟩:=o0'.arr.write hk.wf (i:=0) (vs:=[a,b,c,d]) (by simp);have sc6:setCells [.slice none 0 0,.int .i64 0,.slice none 0 0,.slice none 0 0] 0 [a,b,c,d]=[a,b,c,d]:=rfl;rw[sc6]at ar6;refine⟨H6,?_,ar6.cells (i:=0) (n:=4) (by simp),z6,v6⟩;rw[A9s (vs:=[a,b,c,d]) A2p rfl (by simp[ha,hb,hc,hd])];exact w6
theorem netZ:A9n Tryz.prog 26 []=some (.agg #[.slice none 0 0,.int .i64 0,.slice none 0 0,.slice none 0 0]):=by
 have va:∀xs:Array Value,A6a (.agg xs)=xs.toList:=fun _=>rfl;refine A5j (pl:=[(0,1),(1,1),(2,1),(3,1)]) Tryz.underlying26 A14 (by kernel_rfl) ?_;simp[A3w,va]
theorem JoinOut.bad{H H':AH}{sigma:List ByteArray}{err:Int}{P:List ByteArray→List ByteArray→Prop}(hk:Kept H H')(he:err≠0):JoinOut H H' sigma err P (.tuple #[.agg [Value.slice none 0 0,.int .i64 0,.slice none 0 0,.slice none 0 0].toArray,.int .i64 err]):=
 ⟨hk,_,rfl,fun _=>rfl,fun h=>absurd h he⟩
theorem A3s(N:NetD):(A8f N).length=N.states.toNat:=by unfold A8f;rw[A2e]
theorem A4s(N:NetD):(A1h N N.ends).length=N.states.toNat:=by unfold A1h;rw[List.length_map,A2e]
theorem A0t(N:NetD):(A9i N N.ends).length=N.states.toNat:=by unfold A9i;rw[List.length_map,A2e]
theorem A8s{N:NetD}(h:A9f N=0):∀r∈A8f N,∀e∈r,e.1<N.states.toNat∧e.2.1<(N.sigma.length:Int)∧e.2.2.1<(N.sigma.length:Int)∧e.2.2.2=0:=fun r hr e he=>by
 obtain⟨hok,_,hf⟩:=A7h h;obtain⟨s,hs⟩:=List.mem_iff_getElem?.1 hr;obtain⟨a,ha,_,rfl⟩:=(A1s hs e).1 he;obtain⟨_,_,k1,k2,k3,k4⟩:=hok.arc a ha;simp only[NetD.free,Bool.and_eq_true,List.all_eq_true,decide_eq_true_eq]at hf;exact⟨by simp only;omega,A01 hok k3,A01 hok k4,hf.1 a ha⟩
theorem A71{N:NetD}(h:A9f N=0):∀r∈A8f N,r.length≤60000∧∀e∈r,e.1<N.states.toNat:=fun r hr=>by
 obtain⟨hok,_,_⟩:=A7h h;obtain⟨s,hs⟩:=List.mem_iff_getElem?.1 hr;exact⟨Nat.le_trans (A37 hs) hok.ar,fun e he=>(A8s h r hr e he).1⟩
theorem A5v{N:NetD}(h:A9f N=0):∀c∈A9i N N.ends,c=0:=fun c hc=>by
 obtain⟨hok,_,hf⟩:=A7h h;simp only[NetD.free,Bool.and_eq_true,List.all_eq_true,decide_eq_true_eq]at hf;unfold A9i at hc;obtain⟨r,hr,rfl⟩:=List.mem_map.1 hc;obtain⟨s,hs⟩:=List.mem_iff_getElem?.1 hr;refine B53 fun x hx=>?_;obtain⟨e,he,_,rfl⟩:=(A1s hs x).1 hx;exact hf.2 e he
theorem B2j{l:List Int}(h:∀c∈l,c=0)(s:Nat):l.getD s 0=0:=by
 rw[List.getD_eq_getElem?_getD];cases hg:l[s]? with
 | none=>rfl
 | some c=>exact h c (List.mem_of_getElem? hg)
theorem B9e{H:AH}(h:Wf H){y:Nat}(hy:H.next≤y):H.objs.get y=none:=by
 cases hg:H.objs.get y with
 | none=>rfl
 | some x=>have:=h y x hg;omega
theorem A59{N:NetD}(h:A9f N=0):((A8f N).map List.length).sum=N.arcs.length:=by
 obtain⟨hok,_,_⟩:=A7h h;unfold A8f;have key:∀(l:List ArcD),(∀a∈l,0≤a.fr∧a.fr<N.states)→((rowsOf ArcD.fr (fun a=>(a.to.toNat,A1l N.sigma a.inn,A1l N.sigma a.out,a.cost)) N.states.toNat l).map List.length).sum=l.length:=fun l hl=>by
  unfold rowsOf;rw[List.map_map];have e:(List.length∘fun(s:Nat)=>(l.filter fun a=>decide (a.fr=(s:Int))).map fun a=>(a.to.toNat,A1l N.sigma a.inn,A1l N.sigma a.out,a.cost))=fun(s:Nat)=>(l.filter fun a=>decide (a.fr=(s:Int))).length:=by
   funext s;simp
  rw[e];clear e
  induction l with
  | nil=>
   generalize N.states.toNat=m
   induction m with
   | zero=>rfl
   | succ m ihm=>rw[List.range_succ,List.map_append,List.sum_append,ihm];rfl
  | cons a l ih=>
   have h1:=ih fun b hb=>hl b (List.mem_cons_of_mem _ hb);obtain⟨h2,h3⟩:=hl a List.mem_cons_self;have h4:∀(m:Nat),((List.range m).map fun(s:Nat)=>((a :: l).filter fun b=>decide (b.fr=(s:Int))).length).sum=((List.range m).map fun(s:Nat)=>(l.filter fun b=>decide (b.fr=(s:Int))).length).sum+(if a.fr.toNat<m then 1 else 0):=fun m=>by
    induction m with
    | zero=>simp
    | succ m ihm=>
     rw[List.range_succ,List.map_append,List.sum_append,List.map_append,List.sum_append,ihm];simp only[List.map_cons,List.map_nil,List.sum_cons,List.sum_nil,Nat.add_zero];by_cases hm:a.fr=(m:Int)
     ·rw[List.filter_cons_of_pos (by simpa using hm),if_neg (by omega),if_pos (by omega),List.length_cons];omega
     ·rw[List.filter_cons_of_neg (by simpa using hm)]
      by_cases hlt:a.fr.toNat<m
      ·rw[if_pos hlt,if_pos (by omega)];omega
      ·rw[if_neg hlt,if_neg (by omega)];omega
   rw[h4,h1,if_pos (by omega),List.length_cons]
 exact key N.arcs fun a ha=>⟨(hok.arc a ha).1,(hok.arc a ha).2.1⟩
theorem B8e{p:Prop}(h:¬p):tB p=false:=Bool.eq_false_iff.2 fun h2=>h (A4u.1 h2)
theorem two_jag{H:AH}{u v:Value}{x y:List ByteArray}(hu:Sl H u 1 (x.map A6b))(hv:Sl H v 1 (y.map A6b))(hw:Wf H):JagR (H.new 1 [u,v]).2 (.slice (some ⟨H.next,0,some 0⟩) 2 2) 1 ([x,y].map fun w=>w.map A6b) [u,v]:=by
 have k:=Kept.new hw 1 [u,v];refine⟨(Buf.fresh (H:=H) (s:=1) (xs:=[[u],[v]]) hw (by
  intro x hx;simp only[List.mem_cons,List.not_mem_nil,or_false]at hx;rcases hx with rfl|rfl<;>rfl) (by simp) 2 rfl).toSl,rfl,fun i w' r h1 h2=>?_⟩
 match i with
 | 0=>
  simp only[List.map_cons,List.map_nil,List.getElem?_cons_zero,Option.some.injEq]at h1 h2;subst h1 h2;exact hu.grow (k.grow hw)
 | 1=>
  simp only[List.map_cons,List.map_nil,List.getElem?_cons_succ,List.getElem?_cons_zero,Option.some.injEq]at h1 h2;subst h1 h2;exact hv.grow (k.grow hw)
 | i+2=>simp at h1
theorem lawLong{H:AH}{v:Value}{ws:List (List ByteArray)}{vs:List Value}(h:JagR H v 1 (ws.map fun w=>w.map A6b) vs)(hl:ws.length≤1048576):
  Sh.Call Tryz.prog (knows 7) 6 [v] H (fun r H'=>H'=H∧r=.bool (ws.any fun w=>decide (240<w.length))):=by
 refine A5a rfl Tryz.func6 rfl (Nat.le_of_ble_eq_true rfl) ?_;have hres:Tryz.f6.results.toList=[.tmp 2]:=rfl;have hlen:∀H',A3a Tryz.prog .len [30] [v] H'=some (.int .i64 (ws.length:Int),H'):=fun H'=>by
  rw[h.sl.len Tryz.underlying30,List.length_map,h.len,List.length_map]
 simp only[↓Sh.dn,sx];refine A0d ws.length 3 (List.range' 3 14) (fun i F H'=>H'=H∧∀w∈ws.take i,¬240<w.length) (by simp only[sx]) ⟨rfl,by simp⟩ ?_ ?_
 ·rintro i F H' hi hF f3 ⟨rfl,hall⟩ k
  have f0:=hF 0 rfl;simp only[sx,reduceCtorEq]at f0;obtain⟨g1,o1,q1,w1,i1,c1,s1⟩:=h.at Tryz.underlying30 A4t (i:=i) (r:=ws[i].map A6b) (by rw[List.getElem?_map,List.getElem?_eq_getElem hi];rfl);have htk:ws.take (i+1)=ws.take i++[ws[i]]:=by rw[List.take_add_one,List.getElem?_eq_getElem hi];rfl
  have hm:ws[i]∈ws:=List.getElem_mem hi;generalize ws[i]=w at s1 htk hm;have hlw:=s1.len Tryz.underlying22 H';simp only[List.length_map]at hlw;have d:decide ((240:Int)<(w.length:Int))=decide (240<w.length):=decide_eq_decide.2 (by omega);by_cases hd:240<w.length
  ·have:(ws.any fun w=>decide (240<w.length))=true:=List.any_eq_true.2 ⟨w,hm,decide_eq_true hd⟩
   simp only[↓Sh.dn,sx,reduceCtorEq,Nat.reduceEqDiff,f0,f3,hlen,A2a,hi,decide_true,i1,c1,hlw,d,hd,hres,this]
  ·simp only[↓Sh.dn,sx,reduceCtorEq,Nat.reduceEqDiff,f0,f3,hlen,A2a,hi,decide_true,i1,c1,hlw,d,hd,decide_false,A1a hi (by omega)]
   refine k _ _ (by repeat (first|refine Same.put ?_ rfl|exact Same.rfl' _)) (by simp only[sx]) ⟨rfl,fun u hu=>?_⟩;rw[htk]at hu;rcases List.mem_append.1 hu with h2|h2
   ·exact hall u h2
   ·rw[List.mem_singleton.1 h2];exact hd
 ·rintro F H' hF f3 ⟨rfl,hall⟩
  have f0:=hF 0 rfl;simp only[sx,reduceCtorEq]at f0;rw[List.take_length]at hall;have:(ws.any fun w=>decide (240<w.length))=false:=by
   rw[List.any_eq_false];intro w hw;rw[decide_eq_true_eq];exact hall w hw
  simp only[↓Sh.dn,sx,reduceCtorEq,Nat.reduceEqDiff,f0,f3,hlen,A2a,Nat.lt_irrefl,decide_false,hres,this]
def NetRow(H:AH)(r:List Value):Prop:=∃(N:NetD) (sg ar en:Value),r=[sg,.int .i64 N.states,ar,en]∧Sl H sg 1 (N.sigma.map A6b)∧Sl H ar 5 (N.arcs.map ArcD.cells)∧Sl H en 2 (N.ends.map EndD.cells)∧A0f N
theorem lawOver{H:AH}{v:Value}{rows:List (List Value)}(h:Sl H v 4 rows)(hl:rows.length≤1048576)(hr:∀r∈rows,NetRow H r):
  Sh.Call Tryz.prog (knows 7) 5 [v] H (fun r H'=>H'=H∧∃b,r=.bool b):=by
 refine A5a rfl Tryz.func5 rfl (Nat.le_of_ble_eq_true rfl) ?_;have hres:Tryz.f5.results.toList=[.tmp 2]:=rfl;have hlen:∀H',A3a Tryz.prog .len [43] [v] H'=some (.int .i64 (rows.length:Int),H'):=fun H'=>h.len Tryz.underlying43 H';simp only[↓Sh.dn,sx];refine A0d rows.length 4 (List.range' 3 100) (fun i F H'=>H'=H∧∃n,F.get 3=some (.int .i64 n)) (by simp only[sx]) ⟨rfl,0,by simp only[sx,Nat.reduceEqDiff]⟩ ?_ ?_
 ·rintro i F H' hi hF f4 ⟨rfl,n,f3⟩ k
  have f0:=hF 0 rfl;simp only[sx,reduceCtorEq]at f0;obtain⟨g1,o1,q1,i1,_,c1⟩:=h.at Tryz.underlying43 A2p (i:=i) (List.getElem?_eq_getElem hi) .i64;obtain⟨N,sg,ar,en,hrow,hsg,har,hen,hsm⟩:=hr _ (List.getElem_mem hi);have d0:=c1 0 sg (by rw[hrow];rfl);have d2:=c1 2 ar (by rw[hrow];rfl);have d3:=c1 3 en (by rw[hrow];rfl);simp only[Nat.add_zero]at d0;have l0:=fun H'=>hsg.len Tryz.underlying22 H';have l2:=fun H'=>har.len Tryz.underlying23 H';have l3:=fun H'=>hen.len Tryz.underlying24 H';simp only[List.length_map]at l0 l2 l3;have hs0:=hsm.sg;have hs2:=hsm.ar;simp only[↓Sh.dn,sx,reduceCtorEq,Nat.reduceEqDiff,f0,f4,hlen,A2a,hi,decide_true,i1,d0,l0];have e0:decide ((400:Int)<(N.sigma.length:Int))=decide (400<N.sigma.length):=decide_eq_decide.2 (by omega);have e2:decide ((120000:Int)<(N.arcs.length:Int))=decide (120000<N.arcs.length):=decide_eq_decide.2 (by omega);have e3:decide ((120000:Int)<(N.ends.length:Int))=decide (120000<N.ends.length):=decide_eq_decide.2 (by omega);cases h0:decide (400<N.sigma.length) with
  | true=>simp only[↓Sh.dn,sx,Nat.reduceEqDiff,e0,h0,hres]
  | false=>
  cases h2:decide (120000<N.arcs.length) with
  | true=>simp only[↓Sh.dn,sx,reduceCtorEq,Nat.reduceEqDiff,e0,h0,f0,f4,i1,d2,l2,e2,h2,hres]
  | false=>
  cases h3:decide (120000<N.ends.length) with
  | true=>simp only[↓Sh.dn,sx,reduceCtorEq,Nat.reduceEqDiff,e0,h0,f0,f4,i1,d2,l2,e2,h2,d3,l3,e3,h3,hres]
  | false=>
  simp only[↓Sh.dn,sx,reduceCtorEq,Nat.reduceEqDiff,e0,h0,f0,f4,i1,d2,l2,e2,h2,d3,l3,e3,h3];refine A0d N.sigma.length 5 (List.range' 38 21++[3,5]) (fun q F2 H2=>H2=H'∧∃n,F2.get 3=some (.int .i64 n)) (by simp only[sx]) ⟨rfl,n,by simp only[sx,Nat.reduceEqDiff,f3]⟩ ?_ ?_
  ·rintro q F2 H2 hq hF2 f5 ⟨rfl,n2,g3⟩ k2
   have g0:=hF2 0 rfl;have g4:=hF2 4 rfl;simp only[sx,reduceCtorEq,Nat.reduceEqDiff,f0,f4]at g0 g4;obtain⟨p2,j2,e2'⟩:=Sl.elem (s:=1) Tryz.underlying22 A6r hsg (i:=q) (u:=.string N.sigma[q]) (by rw[List.getElem?_map,List.getElem?_eq_getElem hq];rfl);simp only[↓Sh.dn,sx,reduceCtorEq,Nat.reduceEqDiff,g0,g3,g4,f5,i1,d0,l0,A2a,hq,decide_true,j2,e2',A1a hq (by omega)];exact k2 _ _ (by repeat (first|refine Same.put ?_ rfl|exact Same.rfl' _)) (by simp only[sx]) ⟨rfl,_,by simp only[sx,Nat.reduceEqDiff];rfl⟩
  ·rintro F2 H2 hF2 f5 ⟨rfl,n2,g3⟩
   have g0:=hF2 0 rfl;have g4:=hF2 4 rfl;simp only[sx,reduceCtorEq,Nat.reduceEqDiff,f0,f4]at g0 g4;simp only[↓Sh.dn,sx,Nat.reduceBEq,reduceCtorEq,Nat.reduceEqDiff,g0,g4,f5,i1,d0,l0,A2a,Nat.lt_irrefl,decide_false];refine A8d (m:=N.arcs.length) (fun m F3 H3=>H3=H2∧Same (List.range' 38 61++[3,6]) F2 F3∧∃q n,m+q=N.arcs.length∧F3.get 6=some (.int .i64 ((q:Nat):Int))∧F3.get 3=some (.int .i64 n)) ⟨rfl,(by repeat (first|refine Same.put ?_ rfl|exact Same.rfl' _)),0,n2,by omega,by simp only[sx];rfl,by simp only[sx,Nat.reduceEqDiff,g3]⟩ ?_;rintro m F3 H3 ⟨rfl,hS,q,n3,hmq,e6,e3'⟩ k3;have u0:=hS 0 rfl;have u4:=hS 4 rfl;simp only[g0,g4]at u0 u4;have wi:=A1a hi (by omega);have fin:Same (List.range' 3 100) F F3:=by
    refine Same.trans ?_ (hS.sub rfl);refine Same.trans ?_ (hF2.sub rfl);exact(by repeat (first|refine Same.put ?_ rfl|exact Same.rfl' _))
   by_cases hq:q<N.arcs.length
   ·cases hn:decide (n3≤240000) with
    | false=>
     simp only[↓Sh.dn,sx,Nat.reduceBEq,reduceCtorEq,Nat.reduceEqDiff,u0,u4,e6,e3',i1,d2,l2,A2a,hq,decide_true,hn,wi];refine k _ _ ?_ (by simp only[sx]) ⟨rfl,n3,by simp only[sx,Nat.reduceEqDiff,e3']⟩
     repeat refine Same.put ?_ rfl
     exact fin
    | true=>
     obtain⟨ga,oa,ka,ja,_,ca⟩:=har.at Tryz.underlying23 A6x (i:=q) (x:=N.arcs[q].cells) (by simp[hq]) .i64;have x1:=ca 1 (.string N.arcs[q].inn) rfl;have x2:=ca 2 (.string N.arcs[q].out) rfl;simp only[↓Sh.dn,sx,reduceCtorEq,Nat.reduceEqDiff,u0,u4,e6,e3',i1,d2,l2,A2a,hq,decide_true,hn,ja,x1,x2,A1a hq (by omega)];refine k3 (N.arcs.length-(q+1)) _ _ (by omega) ⟨rfl,?_,q+1,_,by omega,by simp only[sx],by simp only[sx,Nat.reduceEqDiff];rfl⟩
     repeat refine Same.put ?_ rfl
     exact hS
   ·have hd:decide (q<N.arcs.length)=false:=decide_eq_false hq
    simp only[↓Sh.dn,sx,Nat.reduceBEq,reduceCtorEq,Nat.reduceEqDiff,u0,u4,e6,i1,d2,l2,A2a,hd,wi];refine k _ _ ?_ (by simp only[sx]) ⟨rfl,n3,by simp only[sx,Nat.reduceEqDiff,e3']⟩
    repeat refine Same.put ?_ rfl
    exact fin
 ·rintro F H' hF f4 ⟨rfl,n,f3⟩
  have f0:=hF 0 rfl;simp only[sx,reduceCtorEq]at f0;simp only[↓Sh.dn,sx,reduceCtorEq,Nat.reduceEqDiff,f0,f3,f4,hlen,A2a,Nat.lt_irrefl,decide_false,hres]
def B27(l:List ByteArray):Nat:=(l.map fun s=>s.size).sum
section
variable {K:Type}
theorem bulk_pos:∀(d:DataW K),1≤Rows.uptoBulk d
 | .lit l=>by cases l<;>simp[Rows.uptoBulk]
 | .nil=>by simp[Rows.uptoBulk]
 | .ptr d=>by simp[Rows.uptoBulk]
 | .slice a b=>by simp[Rows.uptoBulk]
 | .agg a=>by simp[Rows.uptoBulk]
 | .iface n d=>by simp[Rows.uptoBulk]
 | .map es=>by simp[Rows.uptoBulk]
 | .held h=>by simp[Rows.uptoBulk]
theorem B5x:∀(ds:List (DataW K)),ds.length≤Rows.uptoBulkAll ds
 | []=>Nat.zero_le _
 | d :: ds=>by
  have:=bulk_pos d;have:=B5x ds;simp only[Rows.uptoBulkAll,List.length_cons];omega
theorem A8t:∀{ds:List (DataW K)} {d:DataW K},d∈ds→Rows.uptoBulk d≤Rows.uptoBulkAll ds
 | d :: ds,x,h=>by
  simp only[Rows.uptoBulkAll];rcases List.mem_cons.1 h with rfl|h
  ·omega
  ·have:=A8t h;omega
theorem B0o{α β:Type}{f:α→β}:∀{l:List β},(∀x∈l,∃a,x=f a)→∃L:List α,l=L.map f
 | [],_=>⟨[],rfl⟩
 | x :: l,h=>by
  obtain⟨a,rfl⟩:=h x List.mem_cons_self;obtain⟨L,rfl⟩:=B0o (l:=l) fun y hy=>h y (List.mem_cons_of_mem _ hy)
  exact⟨a :: L,rfl⟩
theorem B58{α:Type}{enc:α→List Value}{H:AH}{f t e s:Nat}{cs:List Value}{d:DataW K}(R:α→DataW K→Prop)(hu:Tryz.prog.underlying t=some (.slice e))(hs:Tryz.prog.cellsOf e=s)
  (hR:∀f x y,RD Tryz.prog H f e x y→∃a,x=enc a∧R a y) (h:RD Tryz.prog H f t cs d):
  ∃u,∃L:List α,∃ds,cs=[u]∧Sl H u s (L.map enc)∧L.length=ds.length∧(∀(i:Nat) a y,L[i]?=some a→ds[i]?=some y→enc a=enc a→∃a',enc a'=enc a∧R a' y)∧Rows.uptoBulkAll ds<Rows.uptoBulk d:=by
 obtain⟨l,ds,⟨u,rfl,hsl⟩,hlen,hel,hd⟩:=RD.slice hu hs h;have hget:∀(i:Nat) x,l[i]?=some x→∃y a,ds[i]?=some y∧x=enc a∧R a y:=by
  intro i x hx;have hi:=(List.getElem?_eq_some_iff.1 hx).1;have hy:ds[i]?=some (ds[i]'(by omega)):=List.getElem?_eq_getElem (by omega);obtain⟨f',hf⟩:=hel i x _ hx hy;obtain⟨a,h1,h2⟩:=hR f' x _ hf;exact⟨_,a,hy,h1,h2⟩
 obtain⟨L,rfl⟩:=B0o (f:=enc) (l:=l) fun x hx=>by
  obtain⟨i,hi⟩:=List.mem_iff_getElem?.1 hx;obtain⟨y,a,_,h2,_⟩:=hget i x hi;exact⟨a,h2⟩
 refine⟨u,L,ds,rfl,hsl,by simpa using hlen,fun i a y ha hy _=>?_,?_⟩
 ·obtain⟨y',a',h1,h2,h3⟩:=hget i (enc a) (by simp[ha])
  rw[hy]at h1;injection h1 with h1
  subst h1;exact⟨a',h2.symm,h3⟩
 ·rcases hd with⟨rfl,rfl⟩|⟨sp,rfl⟩
  ·simp[Rows.uptoBulk,Rows.uptoBulkAll]
  ·simp only[Rows.uptoBulk];omega
theorem C13{H:AH}{f:Nat}{x:List Value}{y:DataW K}(h:RD Tryz.prog H f 9 x y):∃s,x=A6b s∧y=.lit (.string s.data.toList):=RD.str Tryz.underlying9 h
theorem B6o{H:AH}{f:Nat}{x:List Value}{y:DataW K}(h:RD Tryz.prog H f 3 x y):∃n,x=[.int .i64 n]∧-9223372036854775808≤n∧n<9223372036854775808:=RD.int Tryz.underlying3 h
theorem B42:∀{L:List ByteArray} {ds:List (DataW K)},L.length=ds.length→(∀(i:Nat) a y,L[i]?=some a→ds[i]?=some y→y=.lit (.string a.data.toList))→Rows.uptoBulkAll ds=B27 L+L.length
 | [],[],_,_=>rfl
 | [],_ :: _,h,_=>by simp at h
 | _ :: _,[],h,_=>by simp at h
 | a :: L,d :: ds,h,hr=>by
  have h0:=hr 0 a d rfl rfl;have ih:=B42 (L:=L) (ds:=ds) (by simpa using h) fun i a y h1 h2=>hr (i+1) a y (by simpa using h1) (by simpa using h2);subst h0;have e:a.data.toList.length=a.size:=by rw[Array.length_toList];rfl
  simp only[Rows.uptoBulkAll,Rows.uptoBulk,ih,B27,List.map_cons,List.sum_cons,List.length_cons,e];omega
theorem C0f{a b:ByteArray}(h:A6b a=A6b b):a=b:=by
 simp only[A6b,List.cons.injEq,Value.string.injEq,and_true]at h;exact h
theorem C3e{H:AH}{f:Nat}{cs:List Value}{d:DataW K}(h:RD Tryz.prog H f 22 cs d):∃u,∃L:List ByteArray,cs=[u]∧Sl H u 1 (L.map A6b)∧B27 L+L.length<Rows.uptoBulk d:=by
 obtain⟨u,L,ds,h1,h2,h3,h4,h5⟩:=B58 (enc:=A6b) (fun s y=>y=.lit (.string s.data.toList)) Tryz.underlying22 D6b (fun f x y hf=>C13 hf) h;refine⟨u,L,h1,h2,?_⟩;rw[←B42 h3 fun i a y ha hy=>by
  obtain⟨a',e,hr⟩:=h4 i a y ha hy rfl;rw[←C0f e];exact hr]
 exact h5
theorem B1i{L:List ByteArray}{x:ByteArray}(h:x∈L):x.size≤B27 L:=by
 induction L with
 | nil=>cases h
 | cons a L ih=>
  simp only[B27,List.map_cons,List.sum_cons]at ih ⊢;rcases List.mem_cons.1 h with rfl|h
  ·omega
  ·have:=ih h;omega
theorem four{c:List Value}(h:c.length=4):∃a b x y,c=[a,b,x,y]:=by
 match c,h with
 | [a,b,x,y],_=>exact⟨a,b,x,y,rfl⟩
theorem five{c:List Value}(h:c.length=5):∃a b x y z,c=[a,b,x,y,z]:=by
 match c,h with
 | [a,b,x,y,z],_=>exact⟨a,b,x,y,z,rfl⟩
theorem two{c:List Value}(h:c.length=2):∃a b,c=[a,b]:=by
 match c,h with
 | [a,b],_=>exact⟨a,b,rfl⟩
theorem A7j{ds:List (DataW K)}{n i:Nat}(h:ds.length=n)(hi:i<n):∃x,ds[i]?=some x:=⟨ds[i]'(by omega),List.getElem?_eq_getElem (by omega)⟩
theorem arc_in{H:AH}{f:Nat}{x:List Value}{y:DataW K}(h:RD Tryz.prog H f 45 x y):∃a:ArcD,x=a.cells∧True:=by
 ·obtain⟨f',ds,rfl,h1,h2,h3⟩:=RD.struct Tryz.underlying45 h
  rw[C0m]at h1;obtain⟨a,b,c,d,e,rfl⟩:=five h1;have h2':ds.length=5:=h2;obtain⟨d0,e0⟩:=A7j h2' (i:=0) (by omega);obtain⟨d1,e1⟩:=A7j h2' (i:=1) (by omega);obtain⟨d2,e2⟩:=A7j h2' (i:=2) (by omega);obtain⟨d3,e3⟩:=A7j h2' (i:=3) (by omega);obtain⟨d4,e4⟩:=A7j h2' (i:=4) (by omega);have g0:=h3 0 _ _ rfl e0;have g1:=h3 1 _ _ rfl e1;have g2:=h3 2 _ _ rfl e2;have g3:=h3 3 _ _ rfl e3;have g4:=h3 4 _ _ rfl e4;simp only[B29,D6b,List.drop_zero,List.drop_succ_cons,List.take_succ_cons,List.take_zero,List.getElem_toArray,List.getElem_cons_zero,List.getElem_cons_succ]at g0 g1 g2 g3 g4;obtain⟨n0,q0,_⟩:=B6o g0;obtain⟨s1,q1,_⟩:=C13 g1;obtain⟨s2,q2,_⟩:=C13 g2;obtain⟨n3,q3,_⟩:=B6o g3;obtain⟨n4,q4,_⟩:=B6o g4;simp only[A6b,List.cons.injEq,and_true]at q0 q1 q2 q3 q4;subst q0 q1 q2 q3 q4;exact⟨⟨n0,s1,s2,n3,n4⟩,rfl,trivial⟩
theorem end_in{H:AH}{f:Nat}{x:List Value}{y:DataW K}(h:RD Tryz.prog H f 47 x y):∃a:EndD,x=a.cells∧True:=by
 ·obtain⟨f',ds,rfl,h1,h2,h3⟩:=RD.struct Tryz.underlying47 h
  rw[C8h]at h1;obtain⟨a,b,rfl⟩:=two h1;have h2':ds.length=2:=h2;obtain⟨d0,e0⟩:=A7j h2' (i:=0) (by omega);obtain⟨d1,e1⟩:=A7j h2' (i:=1) (by omega);have g0:=h3 0 _ _ rfl e0;have g1:=h3 1 _ _ rfl e1;simp only[B29,List.drop_zero,List.drop_succ_cons,List.take_succ_cons,List.take_zero,List.getElem_toArray,List.getElem_cons_zero,List.getElem_cons_succ]at g0 g1;obtain⟨n0,q0,_⟩:=B6o g0;obtain⟨n1,q1,_⟩:=B6o g1;simp only[List.cons.injEq,and_true]at q0 q1;subst q0 q1;exact⟨⟨n0,n1⟩,rfl,trivial⟩
theorem agg_of{v:Value}{a b:Value}{l:List Value}(h:A6a v=a :: b :: l):v=.agg (a :: b :: l).toArray:=by
 cases v<;>simp only[A6a]at h<;>try (cases h;done)
 rw[←h]
theorem net_in{H:AH}{f:Nat}{v:Value}{d:DataW K}(h:RD Tryz.prog H f 26 (A6a v) d)(hb:Rows.uptoBulk d≤1048576):∃N:NetD,Nonempty (A6v H v N)∧A0f N∧B27 N.sigma≤1048576:=by
 ·obtain⟨f',ds,rfl,h1,h2,h3⟩:=RD.struct Tryz.underlying26 h
  rw[C3m]at h1;obtain⟨a,b,c,e,hv⟩:=four h1;rw[hv]at h3;have h2':ds.length=4:=h2;obtain⟨d0,e0⟩:=A7j h2' (i:=0) (by omega);obtain⟨d1,e1⟩:=A7j h2' (i:=1) (by omega);obtain⟨d2,e2⟩:=A7j h2' (i:=2) (by omega);obtain⟨d3,e3⟩:=A7j h2' (i:=3) (by omega);have g0:=h3 0 _ _ rfl e0;have g1:=h3 1 _ _ rfl e1;have g2:=h3 2 _ _ rfl e2;have g3:=h3 3 _ _ rfl e3;simp only[B29,C5j,cells_23,cells_24,List.drop_zero,List.drop_succ_cons,List.take_succ_cons,List.take_zero,List.getElem_toArray,List.getElem_cons_zero,List.getElem_cons_succ]at g0 g1 g2 g3;obtain⟨u0,L0,q0,s0,b0⟩:=C3e g0;obtain⟨n1,q1,_⟩:=B6o g1;obtain⟨u2,L2,ds2,q2,s2,k2,_,b2⟩:=B58 (enc:=ArcD.cells) (fun _ _=>True) Tryz.underlying23 C0m (fun f x y hf=>arc_in hf) g2;obtain⟨u3,L3,ds3,q3,s3,k3,_,b3⟩:=B58 (enc:=EndD.cells) (fun _ _=>True) Tryz.underlying24 C8h (fun f x y hf=>end_in hf) g3;simp only[List.cons.injEq,and_true]at q0 q1 q2 q3;subst q0 q1 q2 q3;have m0:=A8t (List.mem_of_getElem? e0);have m2:=A8t (List.mem_of_getElem? e2);have m3:=A8t (List.mem_of_getElem? e3);have l2:=B5x ds2;have l3:=B5x ds3;simp only[Rows.uptoBulk]at hb;refine⟨⟨L0,n1,L2,L3⟩,⟨⟨a,c,e,agg_of hv,s0,s2,s3⟩⟩,⟨?_,?_,?_,fun x hx=>?_⟩,?_⟩
  ·show L0.length≤_;omega
  ·show L2.length≤_;omega
  ·show L3.length≤_;omega
  ·have:=B1i hx;show x.size≤_;have h':x.size≤B27 L0:=this;omega
  ·show B27 L0≤_;omega
end
end Go.Proofs.YtjjgodccecehlaaGreat
