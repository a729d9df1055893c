/- A part of the proof: ShMarks, ShMaps, ShMade, ShRev, ShBits, ShPairs, ShJoins. -/
import Derived.Test.YtjjgodccecehlaaGreatMClose2RelDowns1
set_option linter.unusedVariables false
set_option linter.unusedSimpArgs false
/- Marks of states and lists of states in memory, while they are made. -/
namespace Go.Proofs.Sh
open Go
structure MB(H:AH)(base n:Nat)(sv:Value)(os:Option Nat)(seen:List Bool)(out:List Nat):Prop where
 ms:Marks n seen out
 bf:Buf H 1 sv (seen.map A6l) os
 fr:∀y,os=some y→base≤y
structure LB(H:AH)(base:Nat)(os:Option Nat)(z:Value)(l:List Nat)(ob:Option Nat):Prop where
 bf:Buf H 1 z (l.map natC) ob
 fr:∀y,ob=some y→base≤y∧os≠some y
theorem MB.kept{H H':AH}{base n:Nat}{sv:Value}{os:Option Nat}{seen:List Bool}{out:List Nat}(h:MB H base n sv os seen out)(hw:Wf H)(hk:Kept H H'):MB H' base n sv os seen out:=⟨h.ms,h.bf.kept hw hk,h.fr⟩
theorem LB.kept{H H':AH}{base:Nat}{os:Option Nat}{z:Value}{l:List Nat}{ob:Option Nat}(h:LB H base os z l ob)(hw:Wf H)(hk:Kept H H'):LB H' base os z l ob:=⟨h.bf.kept hw hk,h.fr⟩
section
variable {P:Program} {H:AH} {base n:Nat} {sv z:Value} {os ob:Option Nat} {seen:List Bool} {out l:List Nat}
theorem Sl.elem{t e s:Nat}{v:Value}{m:List (List Value)}{u:Value}(hu:P.underlying t=some (.slice e))(hs:A9b P e=some 1)(h:Sl H v 1 m){i:Nat}(hx:m[i]?=some [u]):
  ∃p,A7b P t v (.int .i64 (i:Int))=some (.pointer (some p))∧H.cell p=some u:=by
 obtain⟨g,o,k,h1,h2,h3⟩:=h.at hu hs hx .i64;exact⟨_,h1,by simpa using h3 0 _ rfl⟩
theorem MB.see{tb eb:Nat}(hu:P.underlying tb=some (.slice eb))(hs:A9b P eb=some 1)(h:MB H base n sv os seen out){t:Nat}(ht:t<n):
  ∃p,A7b P tb sv (.int .i64 (t:Int))=some (.pointer (some p))∧H.cell p=some (.bool (decide (t∈out))):=by
 obtain⟨b,h1,h2⟩:=h.ms.not ht;have:b=decide (t∈out):=by
  cases b with
  | true=>exact(decide_eq_true (h2.1 rfl)).symm
  | false=>exact(decide_eq_false fun h=>by cases h2.2 h).symm
 subst this;exact Sl.elem (s:=1) hu hs h.bf.toSl (by rw[List.getElem?_map,h1];rfl)
theorem MB.set{tb eb:Nat}(hu:P.underlying tb=some (.slice eb))(hs:A9b P eb=some 1)(h:MB H base n sv os seen out)(hw:Wf H){t:Nat}(ht:t<n)(hn:t∉out):
  ∃p H',A7b P tb sv (.int .i64 (t:Int))=some (.pointer (some p))∧H.cell p=some (.bool false)∧H.write p [.bool true]=some H'∧MB H' base n sv os (seen.set t true) (out++[t])∧Chg (fun y=>os=some y) H H'∧H'.next=H.next:=by
 obtain⟨p,H',e1,e2,e3,e4,e5⟩:=h.bf.set (P:=P) hw (i:=t) (x:=A6l true) (by simp[h.ms.len,ht]) rfl;obtain⟨q,k1,k2⟩:=h.see hu hs ht;have e1':=e1 hu hs (j:=.i64);rw[k1]at e1';injection e1' with e;injection e with e;injection e with e
 subst e;rw[decide_eq_false hn]at k2;exact⟨q,H',k1,k2,e2,⟨h.ms.add ht hn,by rw[List.map_set];exact e3,h.fr⟩,e4,e5⟩
theorem LB.chg{X:Nat→Prop}{H':AH}(h:LB H base os z l ob)(hw:Wf H)(hc:Chg X H H')(hx:∀y,X y→os=some y):LB H' base os z l ob:=
 ⟨h.bf.chg hw hc fun y hy hX=>(h.fr y hy).2 (hx y hX),h.fr⟩
theorem LB.push(h:LB H base os z l ob)(hb:base≤H.next)(ho:∀y,os=some y→y<H.next)(hw:Wf H)(t:Nat):
  ∃a cap w' H' ob',z=.slice a l.length cap∧A1e 1 a l.length cap 1 (natC t) (H.new 1 (natC t)).2=some (w',H')∧LB H' base os w' (l++[t]) ob'∧Chg (fun y=>ob=some y) H H'∧isCell w'=true:=by
 obtain⟨a,cap,w',H',ob',e1,e2,e3,e4,e5⟩:=h.bf.push hw (x:=natC t) rfl;rw[List.length_map]at e1 e2;refine⟨a,cap,w',H',ob',e1,e2,⟨by rw[List.map_append];exact e3,fun y hy=>?_⟩,e4,e3.isCell⟩;rcases e5 y hy with h1|h1
 ·exact h.fr y h1
 ·exact⟨by omega,fun h2=>by have:=ho y h2;omega⟩
theorem MB.chg{X:Nat→Prop}{H':AH}(h:MB H base n sv os seen out)(hw:Wf H)(hc:Chg X H H')(hx:∀y,X y→os≠some y):MB H' base n sv os seen out:=
 ⟨h.ms,h.bf.chg hw hc fun y hy hX=>hx y hX hy,h.fr⟩
theorem MB.lt(h:MB H base n sv os seen out)(hw:Wf H):∀y,os=some y→y<H.next:=h.bf.lt hw
end
theorem A13{P:Program}{t e:Nat}{H:AH}{v:Value}{l:List Nat}(hu:P.underlying t=some (.slice e))(hs:A9b P e=some 1)(h:Sl H v 1 (l.map natC)){i:Nat}(hi:i<l.length):
  ∃p,A7b P t v (.int .i64 (i:Int))=some (.pointer (some p))∧H.cell p=some (.int .i64 ((l[i]:Nat):Int)):=
 Sl.elem (s:=1) hu hs h (by rw[List.getElem?_map,List.getElem?_eq_getElem hi];rfl)
theorem C7j(l:List Nat):(l.map fun(x:Nat)=>(x:Int)).map (fun x=>[Value.int .i64 x])=l.map natC:=by rw[List.map_map];rfl
def SetOut(H H':AH)(r:Value)(n:Nat)(Q:Nat→Prop):Prop:=
 Kept H H'∧∃out:List Nat,∃b,Buf H' 1 r (out.map natC) b∧(∀y,b=some y→H.next≤y)∧out.Nodup∧(∀t∈out,t<n)∧∀t,t∈out↔Q t
theorem SetOut.iff{H H':AH}{r:Value}{n:Nat}{Q Q':Nat→Prop}(h:SetOut H H' r n Q)(hq:∀t,Q t↔Q' t):SetOut H H' r n Q':=by
 obtain⟨h1,out,b,h2,h3,h4,h5,h6⟩:=h;exact⟨h1,out,b,h2,h3,h4,h5,fun t=>(h6 t).trans (hq t)⟩
theorem SetOut.pre{H0 H H':AH}{r:Value}{n:Nat}{Q:Nat→Prop}(h:SetOut H H' r n Q)(hk:Kept H0 H):SetOut H0 H' r n Q:=by
 obtain⟨h1,out,b,h2,h3,h4,h5,h6⟩:=h;exact⟨hk.trans h1,out,b,h2,fun y hy=>Nat.le_trans hk.next (h3 y hy),h4,h5,h6⟩
theorem RunS.append{L:Type}{E:Nat→Nat→Prop}{A:L→Nat→Nat→Prop}:∀{u w:List L} {S:Nat→Prop},RunS E A S (u++w)=RunS E A (RunS E A S u) w
 | [],w,S=>rfl
 | x :: u,w,S=>by simp only[List.cons_append,RunS];exact RunS.append
theorem Same.sub{W W2:List Nat}{F F':Fr}(h:Same W2 F F')(hs:W2.all (fun t=>W.contains t)=true):Same W F F':=by
 intro t ht;refine h t ?_;cases h2:W2.contains t with
 | false=>rfl
 | true=>
  have:=List.all_eq_true.1 hs t (by simpa using h2);rw[this]at ht;cases ht
theorem C1t{E:List (List (ByteArray×Nat))}{t s:Nat}{r:List (ByteArray×Nat)}{x:ByteArray}(hr:E[t]?=some r)(y:ByteArray)(a b:Nat):
  A3e (E.set t (r++[(x,s)])) y a b↔A3e E y a b∨a=t∧y=x∧b=s:=by
 have ht:=(List.getElem?_eq_some_iff.1 hr).1;unfold A3e;rw[List.getElem?_set];by_cases h:t=a
 ·subst h
  rw[if_pos rfl,if_pos ht,hr];simp
 ·rw[if_neg h]
  constructor
  ·exact .inl
  ·rintro(h1|⟨h1,_⟩)
   ·exact h1
   ·exact absurd h1.symm h
set_option linter.unusedSectionVars false
section
variable {α:Type} [DecidableEq α] {P:Program} {H:AH}
structure MapIs(H:AH)(g:Nat)(f:α→Value)(l:List (α×Value)):Prop where
 ob:H.objs.get g=some (.map (l.map fun p=>(f p.1,p.2)))
theorem MapIs.keep{H':AH}{g:Nat}{f:α→Value}{l:List (α×Value)}(h:MapIs H g f l)(hg:H'.objs.get g=H.objs.get g):MapIs H' g f l:=⟨by rw[hg];exact h.ob⟩
theorem MapIs.lt{g:Nat}{f:α→Value}{l:List (α×Value)}(h:MapIs H g f l)(hw:Wf H):g<H.next:=hw _ _ h.ob
theorem B2g{kt:Nat}{f:α→Value}(heq:∀a b,eqT P A6g kt (f a) (f b)=some (decide (a=b)))(a:α):∀(l:List (α×Value)) (i:Nat),
    B6u P kt (f a) (l.map fun p => (f p.1, p.2)) i = some ((l.findIdx? fun p => decide (a = p.1)).map (· + i))
  | [],_=>rfl
  | p :: l,i=>by
    simp only[List.map_cons,B6u,heq,List.findIdx?_cons];by_cases h:a=p.1
    · simp[h]
    · simp only[decide_eq_false h,Bool.false_eq_true,if_false]
      rw[B2g heq a l (i+1)];cases l.findIdx? fun p=>decide (a=p.1) with
      | none=>rfl
      | some k=>simp;omega
def A8t(l:List (α×Value))(a:α):Option Value:=(l.find? fun p=>decide (a=p.1)).map (·.2)
theorem MapIs.look{t kt e g:Nat}{z:Value}{f:α→Value}{l:List (α×Value)}{ok:Bool}(hu:P.underlying t=some (.map kt e))(hz:zeroAt P e=some z)(hk:∀a,A0p P kt (f a)=true)(heq:∀a b,eqT P A6g kt (f a) (f b)=some (decide (a=b)))
    (h:MapIs H g f l) (a:α):A4s P t (.map (some g)) (f a) ok H=some (bif ok then .tuple #[(A8t l a).getD z,.bool (A8t l a).isSome] else (A8t l a).getD z):=by
  unfold A4s;simp only[hu,entries,h.ob,Option.bind_some,hk a,cond_true,B2g heq a l 0];have : (l.findIdx? fun p => decide (a = p.1)).map (· + 0) = l.findIdx? fun p => decide (a = p.1) := by cases l.findIdx? fun p => decide (a = p.1)<;>rfl
  rw[this];have key:found P e (l.map fun p=>(f p.1,p.2)) (l.findIdx? fun p=>decide (a=p.1))=some ((A8t l a).getD z,(A8t l a).isSome):=by
    cases hi:l.findIdx? fun p=>decide (a=p.1) with
    | none=>
      rw[List.findIdx?_eq_none_iff]at hi;have:l.find? (fun p=>decide (a=p.1))=none:=List.find?_eq_none.2 fun p hp=>by simpa using hi p hp
      simp[found,A8t,this,hz]
    | some i=>
      obtain⟨h1,h2,h3⟩:=List.findIdx?_eq_some_iff_getElem.1 hi;have:l.find? (fun p=>decide (a=p.1))=some l[i]:=by
        rw[List.find?_eq_some_iff_getElem];exact⟨h2,i,h1,rfl,fun j hj=>by simpa using h3 j hj⟩
      simp[found,A8t,this,h1]
  rw[key];cases ok<;>rfl
theorem MapIs.add{t kt e g:Nat}{f:α→Value}{l:List (α×Value)}(hu:P.underlying t=some (.map kt e))(hk:∀a,A0p P kt (f a)=true)(heq:∀a b,eqT P A6g kt (f a) (f b)=some (decide (a=b)))
  (h:MapIs H g f l) (hw:Wf H) {a:α} (ha:A8t l a=none) (v:Value):∃H',A7h P t (.map (some g)) (f a) v H=some H'∧MapIs H' g f (l++[(a,v)])∧Chg (fun y=>y=g) H H'∧H'.next=H.next:=by
 have hi:l.findIdx? (fun p=>decide (a=p.1))=none:=by
  rw[List.findIdx?_eq_none_iff];intro p hp;unfold A8t at ha;rw[Option.map_eq_none_iff,List.find?_eq_none]at ha
  simpa using ha p hp
 refine⟨H.put g (.map ((l++[(a,v)]).map fun(p:α×Value)=>(f p.1,p.2))),?_,⟨Tr.get_set_eq _ _ _⟩,Chg.put (X:=fun y=>y=g) hw (h.lt hw) rfl _,rfl⟩;unfold A7h;simp only[hu,h.ob,hk a,cond_true,B2g heq a l 0,hi,Option.map_none,Option.bind_some,List.map_append,List.map_cons,List.map_nil]
end
theorem Kept.push{H:AH}(hw:Wf H)(o:AObj):Kept H (H.push o).2:=(Chg.push (X:=none') hw o).kept fun _ _ h=>h
theorem MapIs.new{α:Type}{H:AH}{f:α→Value}:MapIs (H.push (.map [])).2 H.next f ([]:List (α×Value)):=⟨A7r H _⟩
theorem Buf.pop{H:AH}{s:Nat}{v:Value}{l:List (List Value)}{x:List Value}{b:Option Nat}(h:Buf H s v (l++[x]) b):
  ∃v',(∀{P:Program} {t e:Nat} {H':AH},P.underlying t=some (.slice e)→A9b P e=some s→A7s P t H' v none (some (.int .i64 (l.length:Int))) none=some v')∧Buf H s v' l b:=by
 generalize hm:l++[x]=m at h;cases h with
 | void a=>simp at hm
 | own g k cap l2 vals ha h0 h1 h2 h3 h4=>
  subst hm;refine⟨.slice (some ⟨g,0,some k⟩) l.length cap,fun{P t e H'} hu hs=>?_,?_⟩
  ·rw[List.length_append,List.length_singleton]at h2
   show A7s P t H' _ none (some (.int .i64 (.ofNat l.length))) none=_;unfold A7s;simp only[hu,hs,bound,Option.bind_some];have e1:Nat.ble 0 l.length=true:=by simp
   have e2:Nat.ble l.length (A8q cap)=true:=Nat.ble_eq_true_of_le (by omega);have e3:Nat.beq 0 0=true:=rfl;simp only[e1,e2,e3,Bool.or_true,Bool.true_or,Bool.and_self,cond_true,Nat.sub_zero]
  ·rw[List.length_append,List.length_singleton]at h2
   refine .own g k cap l vals ha h0 h1 (by omega) ?_ (fun y hy=>h4 y (List.mem_append_left _ hy));have hfl:(flat l).length=l.length*s:=flat_length fun y hy=>h4 y (List.mem_append_left _ hy);have hle:l.length*s≤(l++[x]).length*s:=Nat.mul_le_mul_right s (by simp);have:=congrArg (List.take (l.length*s)) h3;rw[List.take_take,Nat.min_eq_left hle,A0r]at this;rw[this,←hfl,List.take_left'];rfl
def A6c(e:Nat×Int×Int×Int):List Value:=[.int .i64 (e.1:Int),.int .i64 e.2.1,.int .i64 e.2.2.1,.int .i64 e.2.2.2]
def A9d(E:List (List (Nat×Int×Int×Int))):List (List (List Value)):=E.map fun r=>r.map A6c
def A5e(E:List (List (Nat×Int×Int×Int)))(p:Int→Prop)(s t:Nat):Prop:=∃r,E[s]?=some r∧∃e∈r,e.1=t∧p e.2.1
structure PG(H:AH)(g n rb:Nat)(E:List (List (Nat×Int×Int×Int)))(ends:List Int)(sv av ev cv:Value)(vals:List Value)(sigma:List ByteArray)(costs:List Int):Prop where
 gr:GrR H g sv av ev cv vals sigma (A9d E) ends costs
 le:E.length=n
 ln:ends.length=n
 n1:1≤n
 n2:n≤100000
 to:∀(s:Nat) r,E[s]?=some r→r.length≤rb∧∀e∈r,e.1<n
theorem PG.kept{H H':AH}{g n rb:Nat}{E:List (List (Nat×Int×Int×Int))}{ends:List Int}{sv av ev cv:Value}{vals:List Value}{sigma:List ByteArray}{costs:List Int}(h:PG H g n rb E ends sv av ev cv vals sigma costs)(hw:Wf H)(hk:Kept H H'):PG H' g n rb E ends sv av ev cv vals sigma costs:=
 { h with gr:=h.gr.kept hw hk }
theorem C2s{E:List (List (Nat×Int×Int×Int))}{t s:Nat}{r:List (Nat×Int×Int×Int)}{x:Int×Int×Int}(hr:E[t]?=some r)(p:Int→Prop)(a b:Nat):
  A5e (E.set t (r++[(s,x)])) p a b↔A5e E p a b∨a=t∧p x.1∧b=s:=by
 have ht:=(List.getElem?_eq_some_iff.1 hr).1;unfold A5e;rw[List.getElem?_set];by_cases h:t=a
 ·subst h
  rw[if_pos rfl,if_pos ht,hr];constructor
  ·rintro⟨r',h1,e,h2,h3,h4⟩
   rw[←Option.some.inj h1]at h2;rcases List.mem_append.1 h2 with h2|h2
   ·exact .inl ⟨r,rfl,e,h2,h3,h4⟩
   ·rw[List.mem_singleton]at h2
    subst h2;exact .inr ⟨rfl,h4,h3.symm⟩
  ·rintro(⟨r',h1,e,h2,h3,h4⟩|⟨_,h1,h2⟩)
   ·rw[←Option.some.inj h1]at h2
    exact⟨_,rfl,e,List.mem_append_left _ h2,h3,h4⟩
   ·exact⟨_,rfl,(s,x),List.mem_append_right _ List.mem_cons_self,h2.symm,h1⟩
 ·rw[if_neg h]
  constructor
  ·exact .inl
  ·rintro(h1|⟨h1,_⟩)
   ·exact h1
   ·exact absurd h1.symm h
theorem MB.put{P:Program}{H:AH}{base n:Nat}{sv:Value}{os:Option Nat}{seen:List Bool}{out:List Nat}{tb eb:Nat}(hu:P.underlying tb=some (.slice eb))(hs:A9b P eb=some 1)(h:MB H base n sv os seen out)(hw:Wf H){t:Nat}(ht:t<n):
  ∃p H' seen' out',A7b P tb sv (.int .i64 (t:Int))=some (.pointer (some p))∧H.write p [.bool true]=some H'∧MB H' base n sv os seen' out'∧Chg (fun y=>os=some y) H H'∧∀x,x∈out'↔x∈out∨x=t:=by
 by_cases hin:t∈out
 ·obtain⟨p,H',e1,e2,e3,e4,e5⟩:=h.bf.set (P:=P) hw (i:=t) (x:=A6l true) (by simp[h.ms.len,ht]) rfl
  have hst:(h.ms.iff t).2 hin=(h.ms.iff t).2 hin:=rfl;have hsame:seen.set t true=seen:=by
   have hb:=(h.ms.iff t).2 hin;refine List.ext_getElem? fun i=>?_;rw[List.getElem?_set];by_cases hi:t=i
   ·subst hi;rw[if_pos rfl,if_pos (by rw[h.ms.len];exact ht),hb]
   ·rw[if_neg hi]
  have e3':(List.map A6l seen).set t (A6l true)=seen.map A6l:=by rw[←List.map_set,hsame]
  rw[e3']at e3;exact⟨p,H',seen,out,e1 hu hs,e2,⟨h.ms,e3,h.fr⟩,e4,fun x=>⟨.inl,fun hx=>hx.elim id fun e=>e ▸ hin⟩⟩
 ·obtain⟨p,H',e1,e2,e3,e4,e5,e6⟩:=h.set hu hs hw ht hin
  exact⟨p,H',_,_,e1,e3,e4,e5,fun x=>by rw[List.mem_append,List.mem_singleton]⟩
def B4h(ops:List Oper)(bs:List Nat):List Nat→List Nat→List Nat→List (Nat×List Nat×List Bool×List Bool)
 | [],_,_=>[]
 | i :: l,pb,mb=>match ops[i]? with
  | none=>[]
  | some o => bif isEff o then
        (i, pb.filter (fun k => !((bs[i]?).getD 0).testBit k), mb.map (fun k => !((bs[i]?).getD 0).testBit k), mb.map (fun k => o.guard.isSome||!((bs[i]?).getD 0).testBit k)) ::
          B4h ops bs l (bif o.guard.isSome then pb else pb.filter fun k => !((bs[i]?).getD 0).testBit k) (mb.filter fun k => o.guard.isSome||!((bs[i]?).getD 0).testBit k)
      else bif A2e o then (i, [], [], []) :: B4h ops bs l pb (i :: mb)
      else bif isRead o then (i, [], [], []) :: B4h ops bs l (i :: pb) mb else (i, [], [], []) :: B4h ops bs l pb mb
def orderM(ops:List Oper):List (Nat×List Nat×List Bool×List Bool):=B4h ops (A5k ops) (A93 ops (A5k ops)) [] []
def B4f{α:Type}:List Bool→List α→List α
 | true :: bs,p :: ps=>p :: B4f bs ps
 | false :: bs,p :: ps=>B4f bs ps
 | _,_=>[]
def D1b:List (AH→Prop)→AH→Prop
 | [],_=>True
 | p :: ps,H=>p H∧D1b ps H
def MadeQ(g:Nat)(H1 H2:AH):Prop:=∀x,H1.objs.get g=some x→H2.objs.get g=some x∧B6m x x=true
def B62(o:Oper)(kp:List Bool)(ms:List (AH→Prop))(H H':AH):List (AH→Prop):=bif isEff o then B4f kp ms else bif A2e o then MadeQ H.next H' :: ms else ms
def wpm(P:Program)(O:A4d)(all:List Oper):List (Nat×List Nat×List Bool×List Bool)→List (AH→Prop)→(Fr→AH→Prop)→Fr→AH→Prop
 | [],_,K,F,H=>K F H
 | (i,fl,ml,kp) :: l,ms,K,F,H=>match all[i]? with
  | some o=>wpo P O all [o] (fun F' H'=>again P O all fl F' H'∧(isEff o=true→D1b (B4f ml ms) H')∧wpm P O all l (B62 o kp ms H H') K F' H') F H
  | none=>False
section
variable {P:Program}
theorem B9d{α:Type}(f:Nat→Bool):∀(is:List Nat) (qs:List α),(is.filter f).zip (B4f (is.map f) qs)=(is.zip qs).filter fun z=>f z.1
 | [],_=>by simp
 | i :: is,[]=>by
  have:B4f ((i :: is).map f) ([]:List α)=[]:=by
   simp only[List.map_cons];cases f i<;>rfl
  rw[this];simp
 | i :: is,q :: qs=>by
  have ih:=B9d f is qs;cases hf:f i with
  | true=>simp[B4f,hf,ih]
  | false=>simp[B4f,hf,ih]
theorem B67{H:AH}:∀{qs:List (AH→Prop)},D1b qs H→∀q∈qs,q H
 | q :: qs,h,r,hr=>by
  rcases List.mem_cons.1 hr with rfl|hr
  ·exact h.1
  ·exact B67 h.2 r hr
def LiveM(all:List Oper)(G:Fr)(l:List Nat)(pb mb:List Nat)(ms:List (AH→Prop))(p:Pend):Prop:=match p with
 | .read i F v=>p.at_∈pb∧Live all G l p
 | .made i g x=>∃z∈mb.zip ms,z.1=i∧∀H,z.2 H→Val P all H p
theorem LiveM.put{all:List Oper}{G:Fr}{l:List Nat}{pb pb' mb:List Nat}{ms:List (AH→Prop)}{i:Nat}{o:Oper}{v:Value}(ho:all[i]?=some o){p:Pend}(h:LiveM (P:=P) all G (i :: l) pb mb ms p)(hb:∀k∈pb,k∈pb'):LiveM (P:=P) all (put G o.dst v) l pb' mb ms p:=by
 cases p with
 | read k F w=>exact⟨hb _ h.1,h.2.put ho⟩
 | made k g x=>exact h
theorem LiveM.more{all:List Oper}{G:Fr}{l:List Nat}{pb mb:List Nat}{ms:List (AH→Prop)}{p:Pend}{i:Nat}{q:AH→Prop}(h:LiveM (P:=P) all G l pb mb ms p):LiveM (P:=P) all G l pb (i :: mb) (q :: ms) p:=by
 cases p with
 | read k F w=>exact h
 | made k g x=>
  obtain⟨z,h1,h2⟩:=h;exact⟨z,List.mem_cons_of_mem _ h1,h2⟩
theorem LiveM.keep{all:List Oper}{G:Fr}{l:List Nat}{pb pb' mb:List Nat}{ms:List (AH→Prop)}{p:Pend}{f:Nat→Bool}(h:LiveM (P:=P) all G l pb mb ms p)(hp:p.at_∈pb→p.at_∈pb')(hf:f p.at_=true):LiveM (P:=P) all G l pb' (mb.filter f) (B4f (mb.map f) ms) p:=by
 cases p with
 | read k F w=>exact⟨hp h.1,h.2⟩
 | made k g x=>
  obtain⟨z,h1,h2,h3⟩:=h;refine⟨z,?_,h2,h3⟩;rw[B9d];exact List.mem_filter.2 ⟨h1,by rw[h2];exact hf⟩
theorem A0q{O:A4d}{all:List Oper}{bs:List Nat}{K:Fr→AH→Prop}:∀(l pb mb:List Nat) (ms:List (AH→Prop)) (ps:List Pend) (F:Fr) (H:AH),(∀p∈ps,LiveM (P:=P) all F l pb mb ms p)→wpm P O all (B4h all bs l pb mb) ms K F H→
  (∀i∈l,i<all.length)→B99 all l=true→wpd P O all bs l ps K F H
 | [],pb,mb,ms,ps,F,H,_,h,_,_=>⟨0,F,H,rfl,h⟩
 | i :: l,pb,mb,ms,ps,F,H,hc,h,hl,hsep=>by
  have hi:=hl i List.mem_cons_self;have hl':∀i∈l,i<all.length:=fun j hj=>hl j (List.mem_cons_of_mem _ hj);have ho:all[i]?=some all[i]:=List.getElem?_eq_getElem hi;generalize all[i]=o at ho;simp only[B4h,ho]at h;simp only[B99,ho,Bool.and_eq_true]at hsep;obtain⟨hsep0,hsep⟩:=hsep
  have go : ∀ (fl : List Nat) (ml kp : List Bool) (rest : List (Nat × List Nat × List Bool × List Bool)), wpm P O all ((i, fl, ml, kp) :: rest) ms K F H → ∃ b, A4n all F o = some b ∧
      (b = true → ∃v H1, OpTo P O F H o v H1 ∧ again P O all fl (put F o.dst v) H1 ∧ (isEff o = true → D1b (B4f ml ms) H1) ∧ wpm P O all rest (B62 o kp ms H H1) K (put F o.dst v) H1) ∧
      (b = false → wpm P O all rest (B62 o kp ms H H) K (put F o.dst undef) H) := by
    intro fl ml kp rest hh;simp only[wpm, ho]at hh;rw[A3y]at hh;obtain⟨b, h1, h2, h3⟩ := hh;refine⟨b, h1, fun hb => ?_, fun hb => ?_⟩
    · obtain⟨v, H1, h4, h5⟩ := h2 hb
      rw[A1y]at h5;exact⟨v, H1, h4, h5⟩
    · have := h3 hb
      rw[A1y]at this;exact this.2.2
  have skip:∀{F1:Fr} {H1:AH},A4n all F o=some false→F1=put F o.dst undef→H1=H→wpd P O all bs l ps K F1 H1→wpd P O all bs (i :: l) ps K F H:=by
   rintro F1 H1 hw rfl rfl ⟨n,F2,H2,h1,h2⟩;refine⟨n,F2,H2,?_,h2⟩;simp only[A2f,ho,hw];exact h1
  have step:∀(v:Value) (pb':List Nat),(∀k∈pb,k∈pb')→∀p∈ps,LiveM (P:=P) all (put F o.dst v) l pb' mb ms p:=fun v pb' hb p hp=>(hc p hp).put ho hb;cases hE:isEff o with
  | true=>
   rw[hE]at h;simp only[cond_true]at h;obtain⟨b,hw,ht,hf⟩:=go _ _ _ _ h;simp only[B62,hE,cond_true,forall_const]at ht hf;cases b with
   | false=>
    have hg:o.guard.isSome=true:=by
     unfold A4n at hw;cases hgd:o.guard with
     | none=>rw[hgd]at hw;cases hw
     | some x=>rfl
    have hf:=hf rfl;rw[hg]at hf;exact skip hw rfl rfl (A0q l _ _ _ ps _ _ (fun p hp=>(step undef pb (fun _ h=>h) p hp).keep (f:=fun k=>true||!((bs[i]?).getD 0).testBit k) (fun h=>h) rfl) hf hl' hsep)
   | true=>
    obtain⟨v,H1,⟨n,hn⟩,hag,hh,hrest⟩:=ht rfl;have hval:∀p∈ps,((bs[i]?).getD 0).testBit p.at_=false→Val P all H1 p:=by
     intro p hp hb;have q:=step v pb (fun _ h=>h) p hp;cases p with
     | read k F0 w=>exact B8y hag _ q.2 (List.mem_filter.2 ⟨q.1,by rw[hb];rfl⟩)
     | made k g x=>
      obtain⟨z,hz,h1,h2⟩:=q;have hz':z∈(mb.zip ms).filter fun z=>!((bs[i]?).getD 0).testBit z.1:=List.mem_filter.2 ⟨hz,by rw[h1];simp only[Pend.at_]at hb;rw[hb];rfl⟩;rw[←B9d (fun k=>!((bs[i]?).getD 0).testBit k)]at hz';exact h2 H1 (B67 hh _ (List.of_mem_zip hz').2)
    obtain⟨m,F2,H2,h1,h2⟩:=A0q l _ _ _ (ps.filter fun p=>!((bs[i]?).getD 0).testBit p.at_) _ _ (fun p hp=>by
     obtain⟨k1,k2⟩:=List.mem_filter.1 hp;refine(step v pb (fun _ h=>h) p k1).keep (fun hq=>?_) (by rw[k2];exact Bool.or_true _);cases o.guard.isSome with
     | true=>exact hq
     | false=>exact List.mem_filter.2 ⟨hq,k2⟩) hrest hl' hsep
    refine⟨n+m,F2,H2,?_,h2⟩;simp only[A2f,ho,hw,A8i (A9c (Nat.le_add_right n m)) hn,hE,cond_true,A7x hval];exact A6d (A9c (Nat.le_add_left m n)) h1
  | false=>
   rw[hE]at h;simp only[cond_false]at h;cases hM:A2e o with
   | true=>
    rw[hM]at h;simp only[cond_true]at h;obtain⟨b,hw,ht,hf⟩:=go _ _ _ _ h;simp only[B62,hE,hM,cond_true,cond_false,reduceCtorEq,false_implies,true_and]at ht hf;cases b with
    | false=>exact skip hw rfl rfl (A0q l _ _ _ ps _ _ (fun p hp=>(step undef pb (fun _ h=>h) p hp).more) (hf rfl) hl' hsep)
    | true=>
     obtain⟨v,H1,⟨n,hn⟩,_,hrest⟩:=ht rfl;obtain⟨x,hx⟩:=A2m hM hn;have hxg:H1.objs.get H.next=some x:=by rw[hx];exact A7r H x
     obtain⟨m,F2,H2,h1,h2⟩:=A0q l _ _ _ (.made i H.next x :: ps) _ _ (fun p hp=>by
      rcases List.mem_cons.1 hp with rfl|hp
      ·exact⟨_,List.mem_cons_self,rfl,fun H3 h3=>⟨x,h3 x hxg⟩⟩
      ·exact(step v pb (fun _ h=>h) p hp).more) hrest hl' hsep
     refine⟨n+m,F2,H2,?_,h2⟩;simp only[A2f,ho,hw,A8i (A9c (Nat.le_add_right n m)) hn,hE,cond_false,hM,cond_true,hxg];exact A6d (A9c (Nat.le_add_left m n)) h1
   | false=>
    rw[hM]at h;simp only[cond_false]at h;have hsame:∀{v:Value} {H1:AH} {n:Nat},aop P (call P O n) F H o=some (v,H1)→H1=H:=fun hn=>(A8o (HGrow.refl H) hE hM hn).2;cases hR:isRead o with
    | true=>
     rw[hR]at h hsep0;simp only[cond_true]at h;simp only[hE,Bool.not_false,Bool.and_self,cond_true,Bool.and_eq_true]at hsep0;obtain⟨b,hw,ht,hf⟩:=go _ _ _ _ h;simp only[B62,hE,hM,cond_false,reduceCtorEq,false_implies,true_and]at ht hf;cases b with
     | false=>exact skip hw rfl rfl (A0q l _ _ _ ps _ _ (step _ _ fun k hk=>List.mem_cons_of_mem _ hk) (hf rfl) hl' hsep)
     | true=>
      obtain⟨v,H1,⟨n,hn⟩,_,hrest⟩:=ht rfl;have:=hsame hn;subst this;obtain⟨t,hd⟩:=Option.isSome_iff_exists.1 hsep0.1;have hw':A4n all (put F o.dst v) o=some true:=by
       unfold A4n at hw ⊢;cases hg:o.guard with
       | none=>rfl
       | some q=>
        obtain⟨j,w⟩:=q;rw[hg]at hw;simp only at hw ⊢;cases hj:(all[j]?).bind (·.dst) with
        | none=>rw[hj]at hw;cases hw
        | some u=>
         rw[hj]at hw;simp only[Option.bind_some]at hw ⊢;have hself:=hsep0.2.1;rw[hd]at hself ⊢;rw[get_put fun d hdd e=>by
          injection hdd with hdd
          subst hdd e;have:u∈A75 all o:=List.mem_append.2 (.inr (by simp[hg,B02,hj]));simp[this]at hself]
         exact hw
      have hev:∀x∈o.op.operands.toList,ev F x=ev (put F o.dst v) x:=by
       intro x hx;refine(C3z fun d hdd hin=>?_).symm;have hself:=hsep0.2.1;rw[hdd]at hself;have:d∈A75 all o:=List.mem_append.2 (.inl (List.mem_flatMap.2 ⟨x,hx,hin⟩));simp[this]at hself
      obtain⟨m,F2,H2,h1,h2⟩:=A0q l (i :: pb) mb ms (.read i F v :: ps) _ _ (fun p hp=>by
       rcases List.mem_cons.1 hp with rfl|hp
       ·exact⟨List.mem_cons_self,o,t,ho,hE,hd,by rw[hd,A21],hw',hev,hsep0.2.2⟩
       ·exact step v _ (fun k hk=>List.mem_cons_of_mem _ hk) p hp) hrest hl' hsep
      refine⟨n+m,F2,H2,?_,h2⟩;simp only[A2f,ho,hw,A8i (A9c (Nat.le_add_right n m)) hn,hE,cond_false,hM,hR,cond_true];exact A6d (A9c (Nat.le_add_left m n)) h1
    | false=>
     rw[hR]at h;simp only[cond_false]at h;obtain⟨b,hw,ht,hf⟩:=go _ _ _ _ h;simp only[B62,hE,hM,cond_false,reduceCtorEq,false_implies,true_and]at ht hf;cases b with
     | false=>exact skip hw rfl rfl (A0q l _ _ _ ps _ _ (step _ _ fun k hk=>hk) (hf rfl) hl' hsep)
     | true=>
      obtain⟨v,H1,⟨n,hn⟩,_,hrest⟩:=ht rfl;have:=hsame hn;subst this;obtain⟨m,F2,H2,h1,h2⟩:=A0q l pb mb ms ps _ _ (step v _ fun k hk=>hk) hrest hl' hsep;refine⟨n+m,F2,H2,?_,h2⟩;simp only[A2f,ho,hw,A8i (A9c (Nat.le_add_right n m)) hn,hE,cond_false,hM,hR];exact A6d (A9c (Nat.le_add_left m n)) h1
end
variable {P:Program} {O:A4d} {S:List Item} {Q:Fr→AH→Prop} {F:Fr} {H:AH}
theorem wp_made{id:Nat}{ops:Array Oper}{fl:List (Nat×List Nat×List Bool×List Bool)}(hf:orderM ops.toList=fl)(hb:((A93 ops.toList (A5k ops.toList)).all fun i=>Nat.blt i ops.toList.length)=true)(hs:B99 ops.toList (A93 ops.toList (A5k ops.toList))=true)(h:wpm P O ops.toList fl [] (wp P O S Q) F H):wp P O (.code (.region id ops true) :: S) Q F H:=by
 rw[C4a];subst hf;refine A0q _ [] [] [] [] F H (fun p hp=>by cases hp) h (fun i hi=>?_) hs;have:=List.all_eq_true.1 hb i hi;rw[A3j]at this;exact of_decide_eq_true this
end Go.Proofs.Sh
/- Paths, words read from their ends;a graph in memory that keeps to its own places. -/
namespace Go.Proofs.Sh
open Go
inductive Path(G:ByteArray→Nat→Nat→Prop):Nat→List ByteArray→Nat→Prop
 | nil (s:Nat):Path G s [] s
 | eps {s t u:Nat} {w:List ByteArray}:G A0b s t→Path G t w u→Path G s w u
 | sym {s t u:Nat} {w:List ByteArray} {x:ByteArray}:x≠A0b→G x s t→Path G t w u→Path G s (x :: w) u
section
variable {G:ByteArray→Nat→Nat→Prop}
theorem Path.append{s t v:Nat}{a b:List ByteArray}(h:Path G s a t)(k:Path G t b v):Path G s (a++b) v:=by
 induction h with
 | nil s=>exact k
 | eps h _ ih=>exact .eps h (ih k)
 | sym hx h _ ih=>exact .sym hx h (ih k)
theorem Path.ne{s t:Nat}{w:List ByteArray}(h:Path G s w t):∀x∈w,x≠A0b:=by
 induction h with
 | nil s=>intro x hx;cases hx
 | eps _ _ ih=>exact ih
 | sym hx _ _ ih=>
  intro y hy;rcases List.mem_cons.1 hy with rfl|hy
  ·exact hx
  ·exact ih y hy
end
def ownG(g:Nat)(os ot oe oc:Option Nat)(obs:List (Option Nat))(y:Nat):Prop:=y=g∨os=some y∨JIn ot obs y∨oe=some y∨oc=some y
def GrX(H:AH)(X:Nat→Prop)(g:Nat)(sigma:List ByteArray)(rows:List (List (List Value)))(ends costs:List Int):Prop:=
 ∃sv av ev cv os ot oe oc vals obs,GrB H 0 g sv av ev cv os ot oe oc vals obs sigma rows ends costs∧∀y,ownG g os ot oe oc obs y→X y
section
variable {H H':AH} {X Z:Nat→Prop} {base g:Nat} {sigma:List ByteArray} {rows:List (List (List Value))} {ends costs:List Int}
theorem Gr.own(h:Gr H base g sigma rows ends costs)(hw:Wf H):GrX H (fun y=>base≤y∧y<H.next) g sigma rows ends costs:=by
 obtain⟨sv,av,ev,cv,os,ot,oe,oc,vals,obs,h⟩:=h;refine⟨sv,av,ev,cv,os,ot,oe,oc,vals,obs,{ h with fg:=Nat.zero_le _,fs:=fun _ _=>Nat.zero_le _,fj:=fun _ _=>Nat.zero_le _,fe:=fun _ _=>Nat.zero_le _,fc:=fun _ _=>Nat.zero_le _ },?_⟩;rintro y (rfl|hy|hy|hy|hy)
 ·exact⟨h.fg,h.arr.lt hw⟩
 ·exact⟨h.fs y hy,h.sg.lt hw y hy⟩
 ·exact⟨h.fj y hy,h.jag.lt hw y hy⟩
 ·exact⟨h.fe y hy,h.en.lt hw y hy⟩
 ·exact⟨h.fc y hy,h.co.lt hw y hy⟩
theorem GrX.mono(h:GrX H X g sigma rows ends costs)(hx:∀y,X y→Z y):GrX H Z g sigma rows ends costs:=by
 obtain⟨sv,av,ev,cv,os,ot,oe,oc,vals,obs,h,ho⟩:=h;exact⟨sv,av,ev,cv,os,ot,oe,oc,vals,obs,h,fun y hy=>hx y (ho y hy)⟩
theorem GrX.chg(h:GrX H X g sigma rows ends costs)(hw:Wf H)(hc:Chg Z H H')(hx:∀y,X y→¬Z y):GrX H' X g sigma rows ends costs:=by
 obtain⟨sv,av,ev,cv,os,ot,oe,oc,vals,obs,h,ho⟩:=h;refine⟨sv,av,ev,cv,os,ot,oe,oc,vals,obs,{ h with arr:=h.arr.keep (hc.old g (h.arr.lt hw) (hx g (ho g (.inl rfl)))),sg:=h.sg.chg hw hc fun y hy=>hx y (ho y (.inr (.inl hy))),jag:=h.jag.chg hw hc fun y hy=>hx y (ho y (.inr (.inr (.inl hy)))),en:=h.en.chg hw hc fun y hy=>hx y (ho y (.inr (.inr (.inr (.inl hy))))),co:=h.co.chg hw hc fun y hy=>hx y (ho y (.inr (.inr (.inr (.inr hy))))) },ho⟩
theorem GrX.kept(h:GrX H X g sigma rows ends costs)(hw:Wf H)(hk:Kept H H'):GrX H' X g sigma rows ends costs:=h.chg hw (hk.chg (X:=none')) fun _ _ h=>h
theorem GrX.read(h:GrX H X g sigma rows ends costs):∃sv av ev cv vals,GrR H g sv av ev cv vals sigma rows ends costs:=by
 obtain⟨sv,av,ev,cv,os,ot,oe,oc,vals,obs,h,_⟩:=h;exact⟨sv,av,ev,cv,vals,h.arr,h.sg.toSl,h.jag.read,h.en.toSl,h.co.toSl⟩
end
section
variable {P:Program} {t:TypeId} {c:Bool}
end
inductive Cl{α:Type}(R:α→α→Prop)(S:α→Prop):α→Prop
 | base {s:α}:S s→Cl R S s
 | step {s t:α}:Cl R S s→R s t→Cl R S t
theorem Cl.of{α:Type}{R:α→α→Prop}{S Q:α→Prop}(h1:∀s,S s→Q s)(h2:∀s t,Q s→R s t→Q t){t:α}(h:Cl R S t):Q t:=by
 induction h with
 | base h=>exact h1 _ h
 | step _ hr ih=>exact h2 _ _ ih hr
theorem Cl.congr{α:Type}{R R':α→α→Prop}{S S':α→Prop}(h1:∀s,S s→S' s)(h2:∀s t,R s t→R' s t){t:α}(h:Cl R S t):Cl R' S' t:=
 h.of (fun s hs=>.base (h1 s hs)) fun s t hs hr=>.step hs (h2 s t hr)
def C9y{α:Type}(E:α→α→Prop)(A:Nat→α→α→Prop)(S:α→Prop):Nat→α→Prop
 | 0=>Cl E S
 | i+1=>Cl E fun b=>∃a,C9y E A S i a∧A i a b
theorem layers{α:Type}{E:α→α→Prop}{A:Nat→α→α→Prop}{S:α→Prop}{i:Nat}{a:α}:
  Cl (fun p q:Nat×α=>p.1=q.1∧E p.2 q.2∨q.1=p.1+1∧A p.1 p.2 q.2) (fun p=>p.1=0∧S p.2) (i,a)↔C9y E A S i a:=by
 constructor
 ·intro h
  have:∀p:Nat×α,Cl (fun p q:Nat×α=>p.1=q.1∧E p.2 q.2∨q.1=p.1+1∧A p.1 p.2 q.2) (fun p=>p.1=0∧S p.2) p→C9y E A S p.1 p.2:=by
   intro p hp;refine hp.of (Q:=fun p=>C9y E A S p.1 p.2) ?_ ?_
   ·rintro⟨i,a⟩ ⟨rfl,hs⟩
    exact .base hs
   ·rintro⟨i,a⟩ ⟨k,b⟩ hl (⟨h1,h2⟩|⟨h1,h2⟩)
    ·simp only at h1 h2 hl
     subst h1;cases i with
     | zero=>exact .step hl h2
     | succ i=>exact .step hl h2
    ·simp only at h1 h2 hl
     subst h1;exact .base ⟨a,hl,h2⟩
  exact this _ h
 ·induction i generalizing a with
  | zero=>
   intro h;refine Cl.of (Q:=fun a=>Cl _ _ ((0:Nat),a)) ?_ ?_ (show Cl E S a from h)
   ·exact fun s hs=>.base ⟨rfl,hs⟩
   ·exact fun s t hs hr=>.step hs (.inl ⟨rfl,hr⟩)
  | succ i ih=>
   intro h;refine Cl.of (Q:=fun a=>Cl _ _ (i+1,a)) ?_ ?_ (show Cl E (fun b=>∃a,C9y E A S i a∧A i a b) a from h)
   ·rintro b ⟨a,h1,h2⟩
    exact .step (ih h1) (.inr ⟨rfl,h2⟩)
   ·exact fun s t hs hr=>.step hs (.inl ⟨rfl,hr⟩)
section
variable {σ τ α:Type}
abbrev Arcs(σ α:Type):=σ→Option α→Option α→σ→Prop
inductive Way(A:Arcs σ α):σ→List α→List α→σ→Prop
 | nil (s:σ):Way A s [] [] s
 | cons {s t u:σ} {a b:Option α} {x y:List α}:A s a b t→Way A t x y u→Way A s (a.toList++x) (b.toList++y) u
theorem Way.app{A:Arcs σ α}{s t u:σ}{x y z w:List α}(h:Way A s x y t)(k:Way A t z w u):Way A s (x++z) (y++w) u:=by
 induction h with
 | nil s=>exact k
 | cons h1 _ ih=>rw[List.append_assoc,List.append_assoc];exact .cons h1 (ih k)
theorem Way.one{A:Arcs σ α}{s t:σ}{a b:Option α}(h:A s a b t):Way A s a.toList b.toList t:=by
 have:=Way.cons h (Way.nil (A:=A) t)
 simpa using this
theorem Way.mono{A B:Arcs σ α}(h:∀s a b t,A s a b t→B s a b t){s t:σ}{x y:List α}(k:Way A s x y t):Way B s x y t:=by
 induction k with
 | nil s=>exact .nil s
 | cons h1 _ ih=>exact .cons (h _ _ _ _ h1) ih
theorem Way.map{β:Type}{A:Arcs σ α}{B:Arcs σ β}{f:α→β}(h:∀s a b t,A s a b t→B s (a.map f) (b.map f) t){s t:σ}{x y:List α}(k:Way A s x y t):Way B s (x.map f) (y.map f) t:=by
 induction k with
 | nil s=>exact .nil s
 | @cons s t u a b x y h1 _ ih=>
  have e:∀o:Option α,(o.map f).toList=o.toList.map f:=fun o=>by cases o<;>rfl
  rw[List.map_append,List.map_append,←e,←e];exact .cons (h _ _ _ _ h1) ih
theorem Way.move{A:Arcs σ α}{B:Arcs τ α}{g:σ→τ}(h:∀s a b t,A s a b t→B (g s) a b (g t)){s t:σ}{x y:List α}(k:Way A s x y t):Way B (g s) x y (g t):=by
 induction k with
 | nil s=>exact .nil _
 | cons h1 _ ih=>exact .cons (h _ _ _ _ h1) ih
theorem Way.swap{A B:Arcs σ α}(h:∀s a b t,A s a b t→B s b a t){s t:σ}{x y:List α}(k:Way A s x y t):Way B s y x t:=by
 induction k with
 | nil s=>exact .nil _
 | cons h1 _ ih=>exact .cons (h _ _ _ _ h1) ih
theorem Way.keeps{A:Arcs σ α}{Q:σ→Prop}(h:∀s a b t,Q s→A s a b t→Q t){s t:σ}{x y:List α}(k:Way A s x y t)(hs:Q s):Q t:=by
 induction k with
 | nil s=>exact hs
 | cons h1 _ ih=>exact ih (h _ _ _ _ hs h1)
def B4y(w:List α)(i:Nat)(o:Option α)(j:Nat):Prop:=
 match o with
 | none=>j=i
 | some s=>w[i]?=some s∧j=i+1
theorem B4w{w:List α}{i j:Nat}{o:Option α}(h:B4y w i o j)(hi:i≤w.length):j≤w.length:=by
 cases o with
 | none=>rw[show j=i from h];exact hi
 | some s=>have:=(List.getElem?_eq_some_iff.1 h.1).1;rw[h.2];omega
theorem A38{w:List α}{i j:Nat}{o:Option α}(h:B4y w i o j):w.drop i=o.toList++w.drop j∧j=i+o.toList.length:=by
 cases o with
 | none=>rw[show j=i from h];exact⟨rfl,rfl⟩
 | some s=>
  obtain⟨h1,rfl⟩:=h;obtain⟨h2,h3⟩:=List.getElem?_eq_some_iff.1 h1;rw[List.drop_eq_getElem_cons h2,h3];exact⟨rfl,rfl⟩
theorem B0w{w:List α}{i:Nat}{o:Option α}{u:List α}(h:w.drop i=o.toList++u):B4y w i o (i+o.toList.length)∧w.drop (i+o.toList.length)=u:=by
 cases o with
 | none=>exact⟨rfl,h⟩
 | some s=>
  have h':w.drop i=s :: u:=h;have hl:i<w.length:=by
   rcases Nat.lt_or_ge i w.length with h1|h1
   ·exact h1
   ·rw[List.drop_of_length_le h1]at h';cases h'
  rw[List.drop_eq_getElem_cons hl]at h';injection h' with h1 h2
  exact⟨⟨by rw[List.getElem?_eq_getElem hl,h1],rfl⟩,h2⟩
def stepO(A:Arcs σ α)(x y:List α)(p q:σ×Nat×Nat):Prop:=∃a b,A p.1 a b q.1∧B4y x p.2.1 a q.2.1∧B4y y p.2.2 b q.2.2
theorem Cl.trans{β:Type}{R:β→β→Prop}{S:β→Prop}{p t:β}(h:Cl R (fun q=>q=p) t)(hp:Cl R S p):Cl R S t:=
 h.of (Q:=Cl R S) (fun s hs=>by rw[hs];exact hp) fun s t hs hr=>.step hs hr
theorem way_step{A:Arcs σ α}{s t:σ}{u v:List α}(h:Way A s u v t){x y x' y':List α}{i j:Nat}(hx:x.drop i=u++x')(hy:y.drop j=v++y'):
  Cl (stepO A x y) (fun q=>q=(s,i,j)) (t,i+u.length,j+v.length):=by
 induction h generalizing i j with
 | nil s=>exact .base rfl
 | @cons s t w a b u v h1 _ ih=>
  rw[List.append_assoc]at hx hy;obtain⟨h2,h3⟩:=B0w hx;obtain⟨h4,h5⟩:=B0w hy;have:=ih h3 h5;rw[List.length_append,List.length_append,←Nat.add_assoc,←Nat.add_assoc];exact this.trans (.step (.base rfl) ⟨a,b,h1,h2,h4⟩)
theorem step_way{A:Arcs σ α}{x y:List α}{S:σ×Nat×Nat→Prop}{p:σ×Nat×Nat}(h:Cl (stepO A x y) S p):
  ∃q u v,S q∧Way A q.1 u v p.1∧x.drop q.2.1=u++x.drop p.2.1∧y.drop q.2.2=v++y.drop p.2.2∧p.2.1=q.2.1+u.length∧p.2.2=q.2.2+v.length:=by
 refine h.of (Q:=fun p=>∃q u v,S q∧Way A q.1 u v p.1∧x.drop q.2.1=u++x.drop p.2.1∧y.drop q.2.2=v++y.drop p.2.2∧p.2.1=q.2.1+u.length∧p.2.2=q.2.2+v.length) ?_ ?_
 ·intro q hq
  exact⟨q,[],[],hq,.nil _,rfl,rfl,rfl,rfl⟩
 ·rintro p r ⟨q,u,v,h1,h2,h3,h4,h5,h6⟩ ⟨a,b,h7,h8,h9⟩
  obtain⟨h10,h11⟩:=A38 h8;obtain⟨h12,h13⟩:=A38 h9;refine⟨q,u++a.toList,v++b.toList,h1,h2.app (Way.one h7),?_,?_,?_,?_⟩
  ·rw[h3,h10,List.append_assoc]
  ·rw[h4,h12,List.append_assoc]
  ·rw[h11,h5,List.length_append];omega
  ·rw[h13,h6,List.length_append];omega
theorem places{A:Arcs σ α}{x y:List α}{s t:σ}:Cl (stepO A x y) (fun q=>q=(s,0,0)) (t,x.length,y.length)↔Way A s x y t:=by
 constructor
 ·intro h
  obtain⟨q,u,v,rfl,h1,h2,h3,_,_⟩:=step_way h;simp only[List.drop_zero,List.drop_length,List.append_nil]at h2 h3;rw[h2,h3];exact h1
 ·intro h
  have:=way_step h (x:=x) (y:=y) (x':=[]) (y':=[]) (i:=0) (j:=0) (by simp) (by simp)
  simpa using this
end
section
variable {σ τ α:Type}
def RelP(A:Arcs Nat α)(F:Nat→Prop)(x y:List α):Prop:=∃t,F t∧Way A 0 x y t
theorem Way.pull{A:Arcs σ α}{B:Arcs τ α}{g:σ→τ}{Q:σ→Prop}(h:∀s a b t,Q s→B (g s) a b t→∃t',t=g t'∧Q t'∧A s a b t'){s:σ}{t:τ}{x y:List α}(k:Way B (g s) x y t)(hs:Q s):∃t',t=g t'∧Q t'∧Way A s x y t':=by
 generalize hu:g s=u at k
 induction k generalizing s with
 | nil u=>exact⟨s,hu.symm,hs,.nil s⟩
 | cons h1 _ ih=>
  subst hu;obtain⟨t',rfl,h2,h3⟩:=h _ _ _ _ hs h1;obtain⟨v,h4,h5,h6⟩:=ih h2 rfl;exact⟨v,h4,h5,.cons h3 h6⟩
theorem Way.first{A:Arcs σ α}{s u:σ}{x y:List α}(k:Way A s x y u):(s=u∧x=[]∧y=[])∨∃a b t x' y',A s a b t∧Way A t x' y' u∧x=a.toList++x'∧y=b.toList++y':=by
 cases k with
 | nil s=>exact .inl ⟨rfl,rfl,rfl⟩
 | cons h1 h2=>exact .inr ⟨_,_,_,_,_,h1,h2,rfl,rfl⟩
structure EitherOf(n:Nat)(A B M:Arcs Nat α)(FA FB F:Nat→Prop):Prop where
 arc:∀s a b t,M s a b t↔(s=0∧a=none∧b=none∧(t=1∨t=1+n))∨(∃s' t',s=1+s'∧t=1+t'∧A s' a b t')∨∃s' t',s=1+n+s'∧t=1+n+t'∧B s' a b t'
 fin:∀t,F t↔(∃t',t=1+t'∧FA t')∨∃t',t=1+n+t'∧FB t'
 inA:∀s a b t,A s a b t→s<n∧t<n
 inF:∀t,FA t→t<n
 pos:0<n
theorem EitherOf.rel{n:Nat}{A B M:Arcs Nat α}{FA FB F:Nat→Prop}(h:EitherOf n A B M FA FB F)(x y:List α):RelP M F x y↔RelP A FA x y∨RelP B FB x y:=by
 have hn:=h.pos;constructor
 ·rintro⟨t,hF,hw⟩
  rcases hw.first with⟨rfl,_,_⟩|⟨a,b,u,x',y',h1,h2,rfl,rfl⟩
  ·rcases(h.fin 0).1 hF with⟨t',h1,_⟩|⟨t',h1,_⟩<;>omega
  ·rcases(h.arc _ _ _ _).1 h1 with⟨_,rfl,rfl,rfl|rfl⟩|⟨s',t',h3,_⟩|⟨s',t',h3,_⟩
   ·obtain ⟨t', rfl, h3, h4⟩ := Way.pull (A := A) (g := fun s => 1 + s) (Q := fun s => s < n) (fun s a b t hs hb => by
      rcases(h.arc _ _ _ _).1 hb with⟨h3, _⟩|⟨s', t', h3, h4, h5⟩|⟨s', t', h3, _⟩
      · omega
      · have : s' = s := by omega
        subst this;exact⟨t', h4, (h.inA _ _ _ _ h5).2, h5⟩
      · omega) (s := 0) h2 hn
    refine .inl ⟨t', ?_, h4⟩;rcases(h.fin _).1 hF with⟨t2, h5, h6⟩|⟨t2, h5, h6⟩
    · have : t2 = t' := by omega
      subst this;exact h6
    · omega
   ·obtain ⟨t', rfl, h3, h4⟩ := Way.pull (A := B) (g := fun s => 1 + n + s) (Q := fun _ => True) (fun s a b t hs hb => by
      rcases(h.arc _ _ _ _).1 hb with⟨h3, _⟩|⟨s', t', h3, h4, h5⟩|⟨s', t', h3, h4, h5⟩
      · omega
      · have := h.inA _ _ _ _ h5
        omega
      · have : s' = s := by omega
        subst this;exact⟨t', h4, trivial, h5⟩) (s := 0) h2 trivial
    refine .inr ⟨t', ?_, h4⟩;rcases(h.fin _).1 hF with⟨t2, h5, h6⟩|⟨t2, h5, h6⟩
    · have := h.inF _ h6;omega
    · have : t2 = t' := by omega
      subst this;exact h6
   ·omega
   ·omega
 ·rintro(⟨t,hF,hw⟩|⟨t,hF,hw⟩)
  ·refine⟨1+t,(h.fin _).2 (.inl ⟨t,rfl,hF⟩),?_⟩
   exact .cons (a:=none) (b:=none) ((h.arc _ _ _ _).2 (.inl ⟨rfl,rfl,rfl,.inl rfl⟩)) (hw.move (g:=fun s=>1+s) fun s a b t hs=>(h.arc _ _ _ _).2 (.inr (.inl ⟨s,t,rfl,rfl,hs⟩)))
  ·refine⟨1+n+t,(h.fin _).2 (.inr ⟨t,rfl,hF⟩),?_⟩
   exact .cons (a:=none) (b:=none) ((h.arc _ _ _ _).2 (.inl ⟨rfl,rfl,rfl,.inr rfl⟩)) (hw.move (g:=fun s=>1+n+s) fun s a b t hs=>(h.arc _ _ _ _).2 (.inr (.inr ⟨s,t,rfl,rfl,hs⟩)))
structure ChainOf(n:Nat)(A B M:Arcs Nat α)(FA FB F:Nat→Prop):Prop where
 arc:∀s a b t,M s a b t↔A s a b t∨(∃s' t',s=n+s'∧t=n+t'∧B s' a b t')∨(FA s∧t=n∧a=none∧b=none)
 fin:∀t,F t↔∃t',t=n+t'∧FB t'
 inA:∀s a b t,A s a b t→s<n∧t<n
 inF:∀t,FA t→t<n
 pos:0<n
theorem ChainOf.rel{n:Nat}{A B M:Arcs Nat α}{FA FB F:Nat→Prop}(h:ChainOf n A B M FA FB F)(x y:List α):RelP M F x y↔∃x1 x2 y1 y2,x=x1++x2∧y=y1++y2∧RelP A FA x1 y1∧RelP B FB x2 y2:=by
 constructor
 ·rintro⟨t,hF,hw⟩
  have key:∀{s t:Nat} {x y:List α},Way M s x y t→s<n→n≤t→∃m x1 x2 y1 y2,x=x1++x2∧y=y1++y2∧Way A s x1 y1 m∧FA m∧Way M n x2 y2 t:=by
   intro s t x y k
   induction k with
   | nil s=>intro h1 h2;omega
   | @cons s u t a b x y h1 k ih=>
    intro h2 h3;rcases(h.arc _ _ _ _).1 h1 with h4|⟨s',t',h4,_⟩|⟨h4,rfl,rfl,rfl⟩
    ·obtain⟨m,x1,x2,y1,y2,rfl,rfl,h5,h6,h7⟩:=ih (h.inA _ _ _ _ h4).2 h3
     exact⟨m,a.toList++x1,x2,b.toList++y1,y2,by rw[List.append_assoc],by rw[List.append_assoc],.cons h4 h5,h6,h7⟩
    ·omega
    ·exact⟨s,[],x,[],y,rfl,rfl,.nil s,h4,k⟩
  obtain⟨t',rfl,hF'⟩:=(h.fin _).1 hF;obtain⟨m,x1,x2,y1,y2,rfl,rfl,h5,h6,h7⟩:=key hw h.pos (by omega);obtain⟨t2,h8,_,h9⟩:=Way.pull (A:=B) (g:=fun s=>n+s) (Q:=fun _=>True) (fun s a b t hs hb=>by
   rcases(h.arc _ _ _ _).1 hb with h4|⟨s',t',h4,h5,h6⟩|⟨h4,_⟩
   ·have:=h.inA _ _ _ _ h4;omega
   ·have:s'=s:=by omega
    subst this;exact⟨t',h5,trivial,h6⟩
   ·have:=h.inF _ h4;omega) (s:=0) h7 trivial
  have:t2=t':=by omega
  subst this;exact⟨x1,x2,y1,y2,rfl,rfl,⟨m,h6,h5⟩,t2,hF',h9⟩
 ·rintro⟨x1,x2,y1,y2,rfl,rfl,⟨m,h1,h2⟩,t,h3,h4⟩
  refine⟨n+t,(h.fin _).2 ⟨t,rfl,h3⟩,(h2.mono fun s a b t hs=>(h.arc _ _ _ _).2 (.inl hs)).app ?_⟩;exact .cons (a:=none) (b:=none) ((h.arc _ _ _ _).2 (.inr (.inr ⟨h1,rfl,rfl,rfl⟩))) (h4.move (g:=fun s=>n+s) fun s a b t hs=>(h.arc _ _ _ _).2 (.inr (.inl ⟨s,t,rfl,rfl,hs⟩)))
inductive ManyP(R:List α→List α→Prop):List α→List α→Prop
 | nil:ManyP R [] []
 | snoc {x y u v:List α}:ManyP R x y→R u v→ManyP R (x++u) (y++v)
theorem ManyP.front{R:List α→List α→Prop}{u v x y:List α}(h:R u v)(k:ManyP R x y):ManyP R (u++x) (v++y):=by
 induction k with
 | nil=>have:=ManyP.snoc .nil h;simpa using this
 | snoc _ h2 ih=>rw[←List.append_assoc,←List.append_assoc];exact .snoc ih h2
structure StarOf(A M:Arcs Nat α)(FA F:Nat→Prop):Prop where
 arc:∀s a b t,M s a b t↔(s=0∧t=1∧a=none∧b=none)∨(∃s' t',s=1+s'∧t=1+t'∧A s' a b t')∨(∃s',s=1+s'∧FA s'∧t=0∧a=none∧b=none)
 fin:∀t,F t↔t=0
theorem StarOf.rel{A M:Arcs Nat α}{FA F:Nat→Prop}(h:StarOf A M FA F)(x y:List α):RelP M F x y↔ManyP (RelP A FA) x y:=by
 constructor
 ·rintro⟨t,hF,hw⟩
  rw[(h.fin t).1 hF]at hw;have key:∀{s t:Nat} {x y:List α},Way M s x y t→t=0→(s=0→ManyP (RelP A FA) x y)∧∀s',s=1+s'→∃m x1 x2 y1 y2,x=x1++x2∧y=y1++y2∧Way A s' x1 y1 m∧FA m∧ManyP (RelP A FA) x2 y2:=by
   intro s t x y k
   induction k with
   | nil s=>intro h1;exact⟨fun _=>.nil,fun s' h2=>by omega⟩
   | @cons s u t a b x y h1 k ih=>
    intro h2;obtain⟨i1,i2⟩:=ih h2;rcases(h.arc _ _ _ _).1 h1 with⟨rfl,rfl,rfl,rfl⟩|⟨s',t',rfl,rfl,h4⟩|⟨s',rfl,h4,rfl,rfl,rfl⟩
    ·refine⟨fun _=>?_,fun s' h3=>by omega⟩
     obtain⟨m,x1,x2,y1,y2,rfl,rfl,h5,h6,h7⟩:=i2 0 rfl;exact ManyP.front (R:=RelP A FA) (u:=x1) (v:=y1) ⟨m,h6,h5⟩ h7
    ·refine⟨fun h3=>by omega,fun s2 h3=>?_⟩
     have:s2=s':=by omega
     subst this;obtain⟨m,x1,x2,y1,y2,rfl,rfl,h5,h6,h7⟩:=i2 t' rfl;exact⟨m,a.toList++x1,x2,b.toList++y1,y2,by rw[List.append_assoc],by rw[List.append_assoc],.cons h4 h5,h6,h7⟩
    ·refine⟨fun h3=>by omega,fun s2 h3=>?_⟩
     have:s2=s':=by omega
     subst this;exact⟨s2,[],x,[],y,rfl,rfl,.nil _,h4,i1 rfl⟩
  exact(key hw rfl).1 rfl
 ·intro hm
  have:Way M 0 x y 0:=by
   induction hm with
   | nil=>exact .nil 0
   | @snoc x y u v _ h2 ih=>
    obtain⟨m,h3,h4⟩:=h2;refine ih.app ?_;have w1:Way M 0 [] [] 1:=Way.one (a:=none) (b:=none) ((h.arc _ _ _ _).2 (.inl ⟨rfl,rfl,rfl,rfl⟩));have w2:=h4.move (B:=M) (g:=fun s=>1+s) fun s a b t hs=>(h.arc _ _ _ _).2 (.inr (.inl ⟨s,t,rfl,rfl,hs⟩));have w3:Way M (1+m) [] [] 0:=Way.one (a:=none) (b:=none) ((h.arc _ _ _ _).2 (.inr (.inr ⟨m,rfl,h3,rfl,rfl,rfl⟩)));have:=(w1.app w2).app w3
    simpa using this
  exact⟨0,(h.fin 0).2 rfl,this⟩
end
end Go.Proofs.Sh
