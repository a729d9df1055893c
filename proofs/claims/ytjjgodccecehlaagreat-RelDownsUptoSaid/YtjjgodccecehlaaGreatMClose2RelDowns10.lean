/- A part of the proof: ShMasks, ShKeys, ShQueue. -/
import Derived.Test.YtjjgodccecehlaaGreatMClose2RelDowns3
import Derived.Test.YtjjgodccecehlaaGreatMClose2RelDowns1
set_option linter.unusedVariables false
set_option linter.unusedSimpArgs false
/- Sets of places as numbers of 64 bits: what a symbol does to them. -/
namespace Go.Proofs.Sh
open Go
section
variable {P:Program} {t:TypeId} {c:Bool}
end
def labN(k:Int):Option Nat:=if k<0 then none else some k.toNat
def within(n m:Nat):Prop:=∀j,m.testBit j=true→j≤n
theorem B5t{α:Type}[DecidableEq α](v:Value)(D:List α)(t:α):A8t (D.map fun t=>(t,v)) t=if t∈D then some v else none:=by
 unfold A8t;by_cases h:t∈D
 ·rw[if_pos h]
  cases hf:(D.map fun t=>(t,v)).find? fun p=>decide (t=p.1) with
  | none=>
   rw[List.find?_eq_none]at hf;have:=hf (t,v) (List.mem_map.2 ⟨t,h,rfl⟩);simp at this
  | some p=>
   have:=List.mem_of_find?_eq_some hf;obtain⟨u,_,rfl⟩:=List.mem_map.1 this;rfl
 ·rw[if_neg h]
  have:(D.map fun t=>(t,v)).find? (fun p=>decide (t=p.1))=none:=by
   rw[List.find?_eq_none];rintro p hp;obtain⟨u,hu,rfl⟩:=List.mem_map.1 hp;simp only[decide_eq_true_eq];rintro rfl;exact h hu
  rw[this];rfl
def SetIs{α:Type}(H:AH)(g:Nat)(f:α→Value)(D:List α):Prop:=MapIs H g f (D.map fun t=>(t,.bool true))
theorem SetIs.new{α:Type}{H:AH}{f:α→Value}:SetIs (H.push (.map [])).2 H.next f ([]:List α):=MapIs.new
section
variable {α:Type} [DecidableEq α] {P:Program} {H:AH} {t kt e g:Nat} {f:α→Value} {D:List α}
theorem SetIs.keep{H':AH}(h:SetIs H g f D)(hg:H'.objs.get g=H.objs.get g):SetIs H' g f D:=MapIs.keep h hg
theorem SetIs.lt(h:SetIs H g f D)(hw:Wf H):g<H.next:=MapIs.lt h hw
theorem SetIs.look(hu:P.underlying t=some (.map kt e))(hz:zeroAt P e=some (.bool false))(hk:∀a,A0p P kt (f a)=true)(heq:∀a b,eqT P A6g kt (f a) (f b)=some (decide (a=b)))
  (h:SetIs H g f D) (a:α):A4s P t (.map (some g)) (f a) false H=some (.bool (decide (a∈D))):=by
 have:=MapIs.look (ok:=false) hu hz hk heq h a;rw[this,B5t];by_cases hd:a∈D<;>simp[hd]
theorem SetIs.add(hu:P.underlying t=some (.map kt e))(hk:∀a,A0p P kt (f a)=true)(heq:∀a b,eqT P A6g kt (f a) (f b)=some (decide (a=b)))
  (h:SetIs H g f D) (hw:Wf H) {a:α} (ha:a∉D):∃H',A7h P t (.map (some g)) (f a) (.bool true) H=some H'∧SetIs H' g f (D++[a])∧Chg (fun y=>y=g) H H'∧H'.next=H.next:=by
 obtain⟨H',h1,h2,h3,h4⟩:=MapIs.add hu hk heq h hw (a:=a) (by rw[B5t,if_neg ha]) (.bool true);exact⟨H',h1,by unfold SetIs;rw[List.map_append];exact h2,h3,h4⟩
end
set_option linter.unusedSectionVars false
def C94{α:Type}(cell:α→List Value)(a:α):Value:=.agg (cell a).toArray
structure QS{α:Type}(H:AH)(s:Nat)(cell:α→List Value)(base g:Nat)(z:Value)(ob:Option Nat)(T:List α):Prop where
 td:Buf H s z (T.map cell) ob
 sn:SetIs H g (C94 cell) T
 nd:T.Nodup
 b0:base≤g
 tb:∀y,ob=some y→base≤y∧y≠g
def QO(g:Nat)(ob:Option Nat)(y:Nat):Prop:=y=g∨ob=some y
section
variable {α:Type} [DecidableEq α] {P:Program} {H H':AH} {s base g:Nat} {cell:α→List Value} {z:Value} {ob:Option Nat} {T:List α}
theorem QS.lt(h:QS H s cell base g z ob T)(hw:Wf H):∀y,QO g ob y→y<H.next:=by
 rintro y (rfl|hy)
 ·exact h.sn.lt hw
 ·exact h.td.lt hw y hy
theorem QS.ge(h:QS H s cell base g z ob T):∀y,QO g ob y→base≤y:=by
 rintro y (rfl|hy)
 ·exact h.b0
 ·exact(h.tb y hy).1
theorem QS.chg(h:QS H s cell base g z ob T)(hw:Wf H){X:Nat→Prop}(hc:Chg X H H')(hx:∀y,X y→¬QO g ob y):QS H' s cell base g z ob T:=
 ⟨h.td.chg hw hc fun y hy hX=>hx y hX (.inr hy),h.sn.keep (hc.old g (h.sn.lt hw) fun hX=>hx g hX (.inl rfl)),h.nd,h.b0,h.tb⟩
theorem QS.kept(h:QS H s cell base g z ob T)(hw:Wf H)(hk:Kept H H'):QS H' s cell base g z ob T:=h.chg hw (hk.chg (X:=none')) fun y hy=>hy.elim
theorem QS.read{t e:Nat}(hu:P.underlying t=some (.slice e))(hs:A9b P e=some s)(h:QS H s cell base g z ob T){i:Nat}{a:α}(ha:T[i]?=some a):
  ∃p,A7b P t z (.int .i64 (i:Int))=some (.pointer (some p))∧H.cells p s=some (cell a):=by
 obtain⟨q,o,k,h1,h2,h3⟩:=h.td.toSl.at hu hs (i:=i) (x:=cell a) (by simp[ha]) .i64;exact⟨_,h1,h2⟩
theorem QS.len{t e:Nat}(hu:P.underlying t=some (.slice e))(h:QS H s cell base g z ob T)(H':AH):A4a P .len [t] [z] H'=some (.int .i64 (T.length:Int),H'):=by
 rw[h.td.toSl.len hu,List.length_map]
theorem QS.add{tm kt e ts:Nat}(hu:P.underlying tm=some (.map kt e))(hk:∀a,A0p P kt (C94 cell a)=true)(heq:∀a b,eqT P A6g kt (C94 cell a) (C94 cell b)=some (decide (a=b)))(hc:∀a,(cell a).length=s)
  (hA:∀(H:AH) (len cap:Nat) (b:Option Addr) (x:List Value),x.length=s→len≤17179869183→A4a P .append [ts,ts] [.slice b len cap,.slice (some ⟨H.next,0,some 0⟩) 1 1] (H.new s x).2=A1e s b len cap 1 x (H.new s x).2)
  (h:QS H s cell base g z ob T) (hw:Wf H) (hb:base≤H.next) {a:α} (ha:a∉T) (hl:T.length≤17179869183):
  ∃H1 b cap z' H3 ob',A7h P tm (.map (some g)) (C94 cell a) (.bool true) H=some H1∧Chg (fun y=>y=g) H H1∧H1.next=H.next∧z=.slice b T.length cap∧
   A4a P .append [ts,ts] [.slice b T.length cap,.slice (some ⟨H1.next,0,some 0⟩) 1 1] (H1.new s (cell a)).2=some (z',H3)∧
   QS H3 s cell base g z' ob' (T++[a])∧Chg (QO g ob) H H3∧∀y,QO g ob' y→QO g ob y∨H.next≤y:=by
 obtain⟨H1,a1,a2,a3,a4⟩:=h.sn.add hu hk heq hw ha;have b1:Buf H1 s z (T.map cell) ob:=h.td.chg hw a3 fun y hy hX=>(h.tb y hy).2 hX;obtain⟨b,cap,z',H3,ob',e1,e2,e3,e4,e5⟩:=b1.push a3.wf (x:=cell a) (hc a);rw[List.length_map]at e1 e2;have ha':=hA H1 T.length cap b (cell a) (hc a) hl;rw[e2]at ha';have hgl:=h.sn.lt hw;refine⟨H1,b,cap,z',H3,ob',a1,a3,a4,e1,ha',⟨?_,a2.keep (e4.old g (by omega) fun hX=>(h.tb g hX).2 rfl),?_,h.b0,fun y hy=>?_⟩,(a3.weak fun y hy=>.inl hy).trans (e4.weak fun y hy=>.inr hy),fun y hy=>?_⟩
 ·rw[List.map_append];exact e3
 ·rw[List.nodup_append]
  exact⟨h.nd,by simp,fun x hx y hy=>by rw[List.mem_singleton.1 hy];rintro rfl;exact ha hx⟩
 ·rcases e5 y hy with h1|h1
  ·exact h.tb y h1
  ·exact⟨by omega,by omega⟩
 ·rcases hy with rfl|hy
  ·exact .inl (.inl rfl)
  ·rcases e5 y hy with h1|h1
   ·exact .inl (.inr h1)
   ·exact .inr (by omega)
end
theorem Cl.iff{α:Type}{R:α→α→Prop}{S:α→Prop}{l:List α}(h0:∀s,S s→s∈l)(h1:∀s∈l,Cl R S s)(h2:∀s∈l,∀t,R s t→t∈l)(t:α):t∈l↔Cl R S t:=
 ⟨h1 t,fun h=>h.of h0 fun s t hs hr=>h2 s hs t hr⟩
end Go.Proofs.Sh
