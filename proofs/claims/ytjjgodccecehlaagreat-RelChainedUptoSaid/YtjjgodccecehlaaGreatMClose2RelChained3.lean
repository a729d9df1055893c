/- A part of the proof: ShMarks. -/
import Derived.Test.YtjjgodccecehlaaGreatMClose2RelChained1
set_option linter.unusedVariables false
set_option linter.unusedSimpArgs false
/- Marks of states and lists of states in memory, while they are made. -/
namespace Go.Proofs.Sh
open Go
structure MB(H:AH)(base n:Nat)(sv:Value)(os:Option Nat)(seen:List Bool)(out:List Nat):Prop where
 ms:Marks n seen out
 bf:Buf H 1 sv (seen.map A0z) os
 fr:∀y,os=some y→base≤y
structure LB(H:AH)(base:Nat)(os:Option Nat)(z:Value)(l:List Nat)(ob:Option Nat):Prop where
 bf:Buf H 1 z (l.map natC) ob
 fr:∀y,ob=some y→base≤y∧os≠some y
theorem MB.kept{H H':AH}{base n:Nat}{sv:Value}{os:Option Nat}{seen:List Bool}{out:List Nat}(h:MB H base n sv os seen out)(hw:Wf H)(hk:Kept H H'):MB H' base n sv os seen out:=⟨h.ms,h.bf.kept hw hk,h.fr⟩
theorem LB.kept{H H':AH}{base:Nat}{os:Option Nat}{z:Value}{l:List Nat}{ob:Option Nat}(h:LB H base os z l ob)(hw:Wf H)(hk:Kept H H'):LB H' base os z l ob:=⟨h.bf.kept hw hk,h.fr⟩
section
variable {P:Program} {H:AH} {base n:Nat} {sv z:Value} {os ob:Option Nat} {seen:List Bool} {out l:List Nat}
theorem Sl.elem{t e s:Nat}{v:Value}{m:List (List Value)}{u:Value}(hu:P.underlying t=some (.slice e))(hs:A5b P e=some 1)(h:Sl H v 1 m){i:Nat}(hx:m[i]?=some [u]):
  ∃p,A4b P t v (.int .i64 (i:Int))=some (.pointer (some p))∧H.cell p=some u:=by
 obtain⟨g,o,k,h1,h2,h3⟩:=h.at hu hs hx .i64;exact⟨_,h1,by simpa using h3 0 _ rfl⟩
theorem MB.see{tb eb:Nat}(hu:P.underlying tb=some (.slice eb))(hs:A5b P eb=some 1)(h:MB H base n sv os seen out){t:Nat}(ht:t<n):
  ∃p,A4b P tb sv (.int .i64 (t:Int))=some (.pointer (some p))∧H.cell p=some (.bool (decide (t∈out))):=by
 obtain⟨b,h1,h2⟩:=h.ms.not ht;have:b=decide (t∈out):=by
  cases b with
  | true=>exact(decide_eq_true (h2.1 rfl)).symm
  | false=>exact(decide_eq_false fun h=>by cases h2.2 h).symm
 subst this;exact Sl.elem (s:=1) hu hs h.bf.toSl (by rw[List.getElem?_map,h1];rfl)
theorem MB.set{tb eb:Nat}(hu:P.underlying tb=some (.slice eb))(hs:A5b P eb=some 1)(h:MB H base n sv os seen out)(hw:Wf H){t:Nat}(ht:t<n)(hn:t∉out):
  ∃p H',A4b P tb sv (.int .i64 (t:Int))=some (.pointer (some p))∧H.cell p=some (.bool false)∧H.write p [.bool true]=some H'∧MB H' base n sv os (seen.set t true) (out++[t])∧Chg (fun y=>os=some y) H H'∧H'.next=H.next:=by
 obtain⟨p,H',e1,e2,e3,e4,e5⟩:=h.bf.set (P:=P) hw (i:=t) (x:=A0z true) (by simp[h.ms.len,ht]) rfl;obtain⟨q,k1,k2⟩:=h.see hu hs ht;have e1':=e1 hu hs (j:=.i64);rw[k1]at e1';injection e1' with e;injection e with e;injection e with e
 subst e;rw[decide_eq_false hn]at k2;exact⟨q,H',k1,k2,e2,⟨h.ms.add ht hn,by rw[List.map_set];exact e3,h.fr⟩,e4,e5⟩
theorem LB.chg{X:Nat→Prop}{H':AH}(h:LB H base os z l ob)(hw:Wf H)(hc:Chg X H H')(hx:∀y,X y→os=some y):LB H' base os z l ob:=
 ⟨h.bf.chg hw hc fun y hy hX=>(h.fr y hy).2 (hx y hX),h.fr⟩
theorem LB.push(h:LB H base os z l ob)(hb:base≤H.next)(ho:∀y,os=some y→y<H.next)(hw:Wf H)(t:Nat):
  ∃a cap w' H' ob',z=.slice a l.length cap∧A5d 1 a l.length cap 1 (natC t) (H.new 1 (natC t)).2=some (w',H')∧LB H' base os w' (l++[t]) ob'∧Chg (fun y=>ob=some y) H H'∧isCell w'=true:=by
 obtain⟨a,cap,w',H',ob',e1,e2,e3,e4,e5⟩:=h.bf.push hw (x:=natC t) rfl;rw[List.length_map]at e1 e2;refine⟨a,cap,w',H',ob',e1,e2,⟨by rw[List.map_append];exact e3,fun y hy=>?_⟩,e4,e3.isCell⟩;rcases e5 y hy with h1|h1
 ·exact h.fr y h1
 ·exact⟨by omega,fun h2=>by have:=ho y h2;omega⟩
theorem MB.chg{X:Nat→Prop}{H':AH}(h:MB H base n sv os seen out)(hw:Wf H)(hc:Chg X H H')(hx:∀y,X y→os≠some y):MB H' base n sv os seen out:=
 ⟨h.ms,h.bf.chg hw hc fun y hy hX=>hx y hX hy,h.fr⟩
theorem MB.lt(h:MB H base n sv os seen out)(hw:Wf H):∀y,os=some y→y<H.next:=h.bf.lt hw
end
theorem B2w{P:Program}{t e:Nat}{H:AH}{v:Value}{l:List Nat}(hu:P.underlying t=some (.slice e))(hs:A5b P e=some 1)(h:Sl H v 1 (l.map natC)){i:Nat}(hi:i<l.length):
  ∃p,A4b P t v (.int .i64 (i:Int))=some (.pointer (some p))∧H.cell p=some (.int .i64 ((l[i]:Nat):Int)):=
 Sl.elem (s:=1) hu hs h (by rw[List.getElem?_map,List.getElem?_eq_getElem hi];rfl)
theorem natC_int(l:List Nat):(l.map fun(x:Nat)=>(x:Int)).map (fun x=>[Value.int .i64 x])=l.map natC:=by rw[List.map_map];rfl
def SetOut(H H':AH)(r:Value)(n:Nat)(Q:Nat→Prop):Prop:=
 Kept H H'∧∃out:List Nat,∃b,Buf H' 1 r (out.map natC) b∧(∀y,b=some y→H.next≤y)∧out.Nodup∧(∀t∈out,t<n)∧∀t,t∈out↔Q t
theorem SetOut.iff{H H':AH}{r:Value}{n:Nat}{Q Q':Nat→Prop}(h:SetOut H H' r n Q)(hq:∀t,Q t↔Q' t):SetOut H H' r n Q':=by
 obtain⟨h1,out,b,h2,h3,h4,h5,h6⟩:=h;exact⟨h1,out,b,h2,h3,h4,h5,fun t=>(h6 t).trans (hq t)⟩
theorem SetOut.pre{H0 H H':AH}{r:Value}{n:Nat}{Q:Nat→Prop}(h:SetOut H H' r n Q)(hk:Kept H0 H):SetOut H0 H' r n Q:=by
 obtain⟨h1,out,b,h2,h3,h4,h5,h6⟩:=h;exact⟨hk.trans h1,out,b,h2,fun y hy=>Nat.le_trans hk.next (h3 y hy),h4,h5,h6⟩
theorem RunS.append{L:Type}{E:Nat→Nat→Prop}{A:L→Nat→Nat→Prop}:∀{u w:List L} {S:Nat→Prop},RunS E A S (u++w)=RunS E A (RunS E A S u) w
 | [],w,S=>rfl
 | x :: u,w,S=>by simp only[List.cons_append,RunS];exact RunS.append
theorem Same.sub{W W2:List Nat}{F F':Fr}(h:Same W2 F F')(hs:W2.all (fun t=>W.contains t)=true):Same W F F':=by
 intro t ht;refine h t ?_;cases h2:W2.contains t with
 | false=>rfl
 | true=>
  have:=List.all_eq_true.1 hs t (by simpa using h2);rw[this]at ht;cases ht
end Go.Proofs.Sh
