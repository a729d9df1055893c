/- A part of the proof: ShDraw, ShDraw2, ShDraw3, ShDraw4, ShDraw5, ShProg, ShMono, ShWp, ShSpec, ShIn, ShTake, ShLaw, ShStep, ShData, ShNet, ShArith, ShCalm, ShOrder, ShMem, ShFree, ShEarly, ShBox, ShApp, ShBundle, ShSort, ShMid, ShJag, ShPend, ShAuto. -/
import Derived.Test.YtjjgodccecehlaaGreatMClose2RelChained0
import Derived.ProofKit
set_option linter.unusedVariables false
set_option linter.unusedSimpArgs false
/- Regions whose order is open: what was done in one order is done in every one. -/
namespace Go.Proofs.Sh
open Go
section
variable {P:Program} {call:A1d}
theorem A85{F G:Fr}:∀{l:List Operand},(∀x∈l,ev F x=ev G x)→evs F l=evs G l
 | [],_=>rfl
 | x :: l,h=>by simp only[evs];rw[h x List.mem_cons_self,A85 (fun y hy=>h y (List.mem_cons_of_mem _ hy))]
theorem B4a{F G:Fr}:∀{l:List (Nat×Operand)},(∀x∈l.map (·.2),ev F x=ev G x)→evps F l=evps G l
 | [],_=>rfl
 | (i,x) :: l,h=>by simp only[evps];rw[h x (by simp),B4a (fun y hy=>h y (by simp only[List.map_cons];exact List.mem_cons_of_mem _ hy))]
theorem B9l{F G:Fr}{o:Option Operand}(h:∀x∈o.toList,ev F x=ev G x):evo F o=evo G o:=by
 cases o with
 | none=>rfl
 | some x=>simp only[evo];rw[h x (by simp)]
theorem B40{F G:Fr}{H:AH}{o:Oper}(h:∀x∈o.op.operands.toList,ev F x=ev G x):aop P call F H o=aop P call G H o:=by
 unfold aop;cases hop:o.op<;>rw[hop]at h<;>simp only[Op.operands]at h ⊢<;>try rfl
 case move x=>rw[h x (by simp)]
 case assign x=>rw[h x (by simp)]
 case pick c x y=>rw[h c (by simp),h x (by simp),h y (by simp)]
 case box t x=>rw[h x (by simp)]
 case build t ps=>rw[B4a (fun x hx=>h x (by simpa using hx))]
 case buildSlice t n ps=>rw[B4a (fun x hx=>h x (by simpa using hx))]
 case insert t m k x=>rw[h m (by simp),h k (by simp),h x (by simp)]
 case load t x=>rw[h x (by simp)]
 case store t x y=>rw[h x (by simp),h y (by simp)]
 case nilCheck x=>rw[h x (by simp)]
 case binOp op t x y yt=>rw[h x (by simp),h y (by simp)]
 case unOp op t x=>rw[h x (by simp)]
 case convert s d x=>rw[h x (by simp)]
 case makeInterface t x=>rw[h x (by simp)]
 case makeFunc fn fi cs=>rw[A85 (fun x hx=>h x (by simp[hx])),A85 (F:=F) (G:=G) (l:=cs.toList) (fun x hx=>h x (by simp[hx]))]
 case makeMap t r=>cases r<;>rfl
 case makeSlice t l c=>rw[h l (by simp),h c (by simp)]
 case slice t x lo hi mx=>rw[h x (by simp),B9l (fun y hy=>h y (by simp[hy])),B9l (F:=F) (G:=G) (o:=hi) (fun y hy=>h y (by simp[hy])),B9l (F:=F) (G:=G) (o:=mx) (fun y hy=>h y (by simp[hy]))]
 case fieldAddr t x f=>rw[h x (by simp)]
 case field t x f=>rw[h x (by simp)]
 case indexAddr t x i=>rw[h x (by simp),h i (by simp)]
 case index t x i=>rw[h x (by simp),h i (by simp)]
 case lookup t m k ok=>rw[h m (by simp),h k (by simp)]
 case mapUpdate t m k x=>rw[h m (by simp),h k (by simp),h x (by simp)]
 case typeAssert x xt t ok=>rw[h x (by simp)]
 case extract t i=>rw[h t (by simp)]
 case call c=>
  have ha:evs F c.args.toList=evs G c.args.toList:=A85 (fun x hx=>h x (by simp[Call.operands];exact .inr (by simpa using hx)));rw[ha];cases hc:c.callee with
  | builtin b=>rfl
  | value f=>simp only;rw[h f (by simp[Call.operands,hc])]
  | invoke r m=>simp only;rw[h r (by simp[Call.operands,hc])]
def HGrow(H H2:AH):Prop:=∀g o,H.objs.get g=some o→H2.objs.get g=some o
theorem HGrow.refl(H:AH):HGrow H H:=fun _ _ h=>h
theorem HGrow.trans{H1 H2 H3:AH}(h:HGrow H1 H2)(k:HGrow H2 H3):HGrow H1 H3:=fun g o e=>k g o (h g o e)
theorem B9t{H H2:AH}(h:HGrow H H2){a:Addr}{r:Row}(e:H.row? a=some r):H2.row? a=some r:=by
 obtain⟨rs,rw,k,h1,h2,h3,h4⟩:=AH.row?_some e;unfold AH.row?;rw[h _ _ h1,h2];simp only[h3,h4,cond_true]
theorem A2b{H H2:AH}(h:HGrow H H2){a:Addr}{v:Value}(e:H.cell a=some v):H2.cell a=some v:=by
 unfold AH.cell at e ⊢;cases hr:H.row? a with
 | none=>rw[hr]at e;cases e
 | some r=>rw[hr]at e;rw[B9t h hr];exact e
theorem A8l{H H2:AH}(h:HGrow H H2){a:Addr}{n:Nat}{v:List Value}(e:H.cells a n=some v):H2.cells a n=some v:=by
 unfold AH.cells at e ⊢;cases hr:H.row? a with
 | none=>rw[hr]at e;cases e
 | some r=>rw[hr]at e;rw[B9t h hr];exact e
theorem C90{H H2:AH}(h:HGrow H H2){t:TypeId}{p v:Value}(e:A7e P t H p=some v):A7e P t H2 p=some v:=by
 cases p with
 | pointer a=>
  cases a with
  | none=>cases e
  | some a=>
   simp only[A7e]at e ⊢;cases hagg:A3f P t with
   | none=>rw[hagg]at e;cases e
   | some q=>
    rw[hagg]at e;cases q with
    | false=>exact A2b h e
    | true=>
     obtain⟨n,h1,e1⟩:=Option.bind_eq_some_iff.1 e;obtain⟨l,h2,e2⟩:=Option.map_eq_some_iff.1 e1;simp only[h1,Option.bind_some,A8l h h2,Option.map_some,e2]
 | _=>cases e
theorem C2p{H H2:AH}(h:HGrow H H2){a:Addr}{s:Nat}(e:A83 H a s=true):A83 H2 a s=true:=by
 unfold A83 at e ⊢;cases hr:H.row? a with
 | none=>rw[hr]at e;cases e
 | some r=>rw[hr]at e;rw[B9t h hr];exact e
theorem A9z{H H2:AH}(h:HGrow H H2){m:Value}{es:List (Value×Value)}(e:entries H m=some es):entries H2 m=some es:=by
 unfold entries at e ⊢;split at e
 ·exact e
 ·split at e
  ·rename_i hg;simp only[h _ _ hg];exact e
  ·cases e
 ·cases e
theorem C9u{H H2:AH}(h:HGrow H H2){t:TypeId}{x v:Value}{lo hi mx:Option Value}(e:A7s P t H x lo hi mx=some v):A7s P t H2 x lo hi mx=some v:=by
 unfold A7s at e ⊢;split at e
 ·exact e
 ·exact e
 ·rename_i el a len cap hu
  obtain⟨s,h1,e1⟩:=Option.bind_eq_some_iff.1 e;obtain⟨l,h2,e2⟩:=Option.bind_eq_some_iff.1 e1;obtain⟨hh,h3,e3⟩:=Option.bind_eq_some_iff.1 e2;simp only[h1,h2,h3,Option.bind_some];split at e3
  ·obtain⟨c,e4⟩:=A3d e3
   have c':∀{p q:Bool},(p&&(q||A83 H a s))=true→(p&&(q||A83 H2 a s))=true:=by
    intro p q hx;simp only[Bool.and_eq_true,Bool.or_eq_true]at hx ⊢;exact⟨hx.1,hx.2.imp id (C2p h)⟩
   rw[c' c];exact e4
  ·obtain⟨m,h4,e4⟩:=Option.bind_eq_some_iff.1 e3
   obtain⟨c,e5⟩:=A3d e4;simp only[h4,Option.bind_some];have c':∀{p q:Bool},(p&&A83 H a s&&q)=true→(p&&A83 H2 a s&&q)=true:=by
    intro p q hx;simp only[Bool.and_eq_true]at hx ⊢;exact⟨⟨hx.1.1,C2p h hx.1.2⟩,hx.2⟩
   rw[c' c];exact e5
 ·cases e
theorem B69{H H2:AH}(h:HGrow H H2){t:TypeId}{m k v:Value}{ok:Bool}(e:A4r P t m k ok H=some v):A4r P t m k ok H2=some v:=by
 unfold A4r at e ⊢;split at e
 ·obtain⟨es,h1,e1⟩:=Option.bind_eq_some_iff.1 e
  first|(simp only[A9z h h1,Option.bind_some];exact e1)|(simp only[*,A9z h h1,Option.bind_some];done)
 ·cases e
theorem A7b{H H2 H':AH}{x y:Option Value}{v:Value}(hxy:∀z,x=some z→y=some z)(e:quiet H x=some (v,H')):quiet H2 y=some (v,H2)∧H'=H:=by
 obtain⟨h1,rfl⟩:=A3e e;exact⟨by unfold quiet;rw[hxy _ h1];rfl,rfl⟩
theorem A8c{H H2 H':AH}{x v:Value}(e:some (x,H)=some (v,H')):some (x,H2)=some (v,H2)∧H'=H:=by
 simp only[Option.some.injEq,Prod.mk.injEq]at e;exact⟨by rw[e.1],e.2.symm⟩
theorem B4z{H H2 H':AH}(h:HGrow H H2){s d:TypeId}{x v:Value}(e:A2i P s d x H=some (v,H')):A2i P s d x H2=some (v,H2)∧H'=H:=by
 unfold A2i at e ⊢;split at e
 ·first|exact A8c e|(simp only[*];exact A8c e)
 ·first|exact A8c e|(simp only[*];exact A8c e)
 ·try simp only[*]
  split at e
  ·try simp only[*]
   split at e
   ·exact A8c e
   ·rw[A1b,Bool.cond_decide]at e ⊢
    split at e
    ·cases e
    ·rename_i hn
     obtain⟨l,h1,e1⟩:=Option.bind_eq_some_iff.1 e;obtain⟨bs,h2,e2⟩:=Option.map_eq_some_iff.1 e1;simp only[Prod.mk.injEq]at e2;rw[if_neg hn,A8l h h1];simp[h2,e2.1,e2.2]
  ·cases e
 ·cases e
theorem B56{H H2 H':AH}(h:HGrow H H2){b:Builtin}{ts:List TypeId}{args:List Value}{v:Value}(hb:b=.len∨b=.cap∨b=.min∨b=.max)(e:A3a P b ts args H=some (v,H')):A3a P b ts args H2=some (v,H2)∧H'=H:=by
 unfold A3a at e ⊢;split at e
 ·simp at hb
 ·split at e
  ·first|exact A8c e|(simp only[*];exact A8c e)
  ·first|exact A8c e|(simp only[*];exact A8c e)
  ·obtain⟨es,h1,e1⟩:=Option.map_eq_some_iff.1 e
   simp only[Prod.mk.injEq]at e1;refine⟨?_,e1.2.symm⟩;simp only[A9z h h1,Option.map_some];rw[e1.1]
  ·first|exact A8c e|(simp only[*];exact A8c e)
  ·cases e
 ·obtain⟨c,e1⟩:=A3d e
  simp only[c,cond_true];exact A8c e1
 ·obtain⟨c,e1⟩:=A3d e
  simp only[c,cond_true];exact A8c e1
 ·obtain⟨c,e1⟩:=A3d e
  simp only[c,cond_true];exact A8c e1
 ·obtain⟨c,e1⟩:=A3d e
  simp only[c,cond_true];exact A8c e1
 ·simp at hb
 ·cases e
theorem A3n{F:Fr}{H H2 H':AH}(h:HGrow H H2){o:Oper}{v:Value}(hE:isEff o=false)(hM:A2d o=false)(e:aop P call F H o=some (v,H')):aop P call F H2 o=some (v,H2)∧H'=H:=by
 unfold isEff at hE;unfold A2d at hM;unfold aop at e ⊢;cases hop:o.op<;>rw[hop]at e hE hM<;>simp only at e hE hM ⊢<;>try (cases e;done)
 all_goals try (cases hE;done)
 all_goals try (cases hM;done)
 case move x=>exact A7b (fun _ z=>z) e
 case assign x=>exact A7b (fun _ z=>z) e
 case pick c x y=>
  split at e
  ·first|exact A7b (fun _ z=>z) e|(simp only[*];exact A7b (fun _ z=>z) e)
  ·first|exact A7b (fun _ z=>z) e|(simp only[*];exact A7b (fun _ z=>z) e)
  ·cases e
 case build t ps=>obtain⟨z,h1,e1⟩:=Option.bind_eq_some_iff.1 e;simp only[h1,Option.bind_some];exact A7b (fun _ z=>z) e1
 case load t x=>obtain⟨z,h1,e1⟩:=Option.bind_eq_some_iff.1 e;simp only[h1,Option.bind_some];exact A7b (fun _ z=>C90 h z) e1
 case nilCheck x=>
  obtain⟨z,h1,e1⟩:=Option.bind_eq_some_iff.1 e;simp only[h1,Option.bind_some];split at e1
  ·exact A8c e1
  ·exact A8c e1
  ·cases e1
 case binOp op t x y yt=>
  obtain⟨z,h1,e1⟩:=Option.bind_eq_some_iff.1 e;obtain⟨z2,h2,e2⟩:=Option.bind_eq_some_iff.1 e1;simp only[h1,h2,Option.bind_some];exact A7b (fun _ z=>z) e2
 case unOp op t x=>obtain⟨z,h1,e1⟩:=Option.bind_eq_some_iff.1 e;simp only[h1,Option.bind_some];exact A7b (fun _ z=>z) e1
 case convert s d x=>obtain⟨z,h1,e1⟩:=Option.bind_eq_some_iff.1 e;simp only[h1,Option.bind_some];exact B4z h e1
 case makeInterface t x=>
  obtain⟨z,h1,e1⟩:=Option.bind_eq_some_iff.1 e;simp only[h1,Option.bind_some];split at e1
  ·cases e1
  ·cases e1
  ·first|exact A8c e1|(simp only[*];exact A8c e1)
 case makeFunc fn fi cs=>
  obtain⟨z,h1,e1⟩:=Option.bind_eq_some_iff.1 e;obtain⟨z2,h2,e2⟩:=Option.bind_eq_some_iff.1 e1;simp only[h1,h2,Option.bind_some];exact A8c e2
 case slice t x lo hi mx=>
  obtain⟨z,h1,e1⟩:=Option.bind_eq_some_iff.1 e;obtain⟨z2,h2,e2⟩:=Option.bind_eq_some_iff.1 e1;obtain⟨z3,h3,e3⟩:=Option.bind_eq_some_iff.1 e2;obtain⟨z4,h4,e4⟩:=Option.bind_eq_some_iff.1 e3;simp only[h1,h2,h3,h4,Option.bind_some];exact A7b (fun _ z=>C9u h z) e4
 case fieldAddr t x f=>obtain⟨z,h1,e1⟩:=Option.bind_eq_some_iff.1 e;simp only[h1,Option.bind_some];exact A7b (fun _ z=>z) e1
 case field t x f=>obtain⟨z,h1,e1⟩:=Option.bind_eq_some_iff.1 e;simp only[h1,Option.bind_some];exact A7b (fun _ z=>z) e1
 case indexAddr t x i=>
  obtain⟨z,h1,e1⟩:=Option.bind_eq_some_iff.1 e;obtain⟨z2,h2,e2⟩:=Option.bind_eq_some_iff.1 e1;simp only[h1,h2,Option.bind_some];exact A7b (fun _ z=>z) e2
 case index t x i=>
  obtain⟨z,h1,e1⟩:=Option.bind_eq_some_iff.1 e;obtain⟨z2,h2,e2⟩:=Option.bind_eq_some_iff.1 e1;simp only[h1,h2,Option.bind_some];exact A7b (fun _ z=>z) e2
 case lookup t m k ok=>
  obtain⟨z,h1,e1⟩:=Option.bind_eq_some_iff.1 e;obtain⟨z2,h2,e2⟩:=Option.bind_eq_some_iff.1 e1;simp only[h1,h2,Option.bind_some];exact A7b (fun _ z=>B69 h z) e2
 case typeAssert x xt t ok=>
  obtain⟨z,h1,e1⟩:=Option.bind_eq_some_iff.1 e;simp only[h1,Option.bind_some];split at e1
  ·obtain⟨c,e2⟩:=A3d e1
   simp only[c,cond_true];split at e2
   ·cases e2
   ·cases e2
   ·first|exact A8c e2|(simp only[*];exact A8c e2)
  ·cases e1
 case extract t i=>
  obtain⟨z,h1,e1⟩:=Option.bind_eq_some_iff.1 e;simp only[h1,Option.bind_some];split at e1
  ·exact A7b (fun _ z=>z) e1
  ·cases e1
 case call c=>
  obtain⟨args,h1,e1⟩:=Option.bind_eq_some_iff.1 e;simp only[h1,Option.bind_some];split at e1
  ·rename_i b hb
   simp only[hb]at hE ⊢;refine B56 h ?_ e1;split at hE<;>first|(cases hE;done)|simp
  ·rename_i f hf;simp only[hf]at hE;cases hE
  ·rename_i r m hf;simp only[hf]at hE;cases hE
end
def maskE(bs:List Nat):List Edge→Nat→Nat
 | [],m=>m
 | e :: es,m=>maskE bs es (bif Region.binds .any e then m ||| 2^e.on ||| (bs[e.on]?).getD 0 else m)
def B0e(all:Array Oper)(bs:List Nat):Bool:=
 (List.range all.size).all fun j=>match all[j]?,bs[j]? with
  | some o,some b=>Nat.beq b (maskE bs o.after.toList 0)&&o.after.toList.all fun e=>!Region.binds .any e||Nat.blt e.on j
  | _,_=>false
def B8j(all:Array Oper)(bs:List Nat):List Nat→Bool
 | []=>true
 | i :: l => (l.all fun j => !Nat.beq i j && match all[i]?, all[j]? with
     | some x, some y => !(isEff x||!x.apart all y)||((bs[j]?).getD 0).testBit i
     | _, _ => false)&&B8j all bs l
def A8v(ops:List Oper):Bool:=
 let all:=ops.toArray
 let bs:=A6j ops
 let ord:=A53 ops bs
 B0e all bs&&((List.range all.size).all fun j=>ord.contains j)&&B8j all bs ord&&Nat.ble ord.length all.size
theorem C3o(bs:List Nat):∀{es:List Edge} {m i:Nat},(maskE bs es m).testBit i=true→m.testBit i=true∨∃e∈es,Region.binds .any e=true∧(e.on=i∨((bs[e.on]?).getD 0).testBit i=true)
 | [],m,i,h=>.inl h
 | e :: es,m,i,h=>by
  simp only[maskE]at h;rcases C3o bs h with h1|⟨e',h1,h2,h3⟩
  ·cases hb:Region.binds .any e with
   | false=>rw[hb]at h1;exact .inl h1
   | true=>
    rw[hb]at h1;simp only[cond_true,Nat.testBit_or,Bool.or_eq_true]at h1;rcases h1 with(h1|h1)|h1
    ·exact .inl h1
    ·exact .inr ⟨e,List.mem_cons_self,hb,.inl (by simpa [Nat.testBit_two_pow] using h1)⟩
    ·exact .inr ⟨e,List.mem_cons_self,hb,.inr h1⟩
  ·exact .inr ⟨e',List.mem_cons_of_mem _ h1,h2,h3⟩
structure St where
 i:Nat
 F:Fr
 H:AH
 v:Value
 H':AH
 on:Bool
section
variable {P:Program} {call:A1d} {all:Array Oper} {bs:List Nat}
def A6t(all:Array Oper)(i:Nat):Option Tmp:=(all[i]?).bind (·.dst)
def Linked(all:Array Oper):List St→Fr→AH→Fr→AH→Prop
 | [],F,H,F',H'=>F'=F∧H'=H
 | st :: tr,F,H,F',H'=>st.F=F∧st.H=H∧Linked all tr (put F (A6t all st.i) st.v) st.H' F' H'
noncomputable def fs(all:Array Oper)(S:Nat→Bool):List St→Fr→Fr
 | [],F=>F
 | st :: tr,F=>fs all S tr (bif S st.i then put F (A6t all st.i) st.v else F)
def StOk(P:Program)(call:A1d)(all:Array Oper)(st:St):Prop:=
 ∃o,all[st.i]?=some o∧A3m all.toList st.F o=some st.on∧(st.on=false→st.v=undef∧st.H'=st.H)∧(st.on=true→aop P call st.F st.H o=some (st.v,st.H'))
def C9c(all:Array Oper)(st:St):Prop:=∃o,all[st.i]?=some o∧isEff o=true∧st.on=true
def Pend.at_:Pend→Nat
 | .read i _ _=>i
 | .made i _ _=>i
def C4m(P:Program)(call:A1d)(all:Array Oper)(H:AH):Pend→Prop
 | .read i F v=>∃o H2,all[i]?=some o∧aop P call F H o=some (v,H2)
 | .made i g x=>H.objs.get g=some x
def C33(P:Program)(call:A1d)(all:Array Oper)(bs:List Nat)(p:Pend)(tr:List St):Prop:=
 ∀l1 e l2,tr=l1++e :: l2→C9c all e→(∃s∈l1++[e],C9c all s∧((bs[s.i]?).getD 0).testBit p.at_=true)∨C4m P call all e.H' p
noncomputable def A8y(all:Array Oper)(st:St):Option Pend:=
 match all[st.i]? with
 | some o=>bif isEff o||!st.on then none else bif A2d o then (st.H'.objs.get st.H.next).map (Pend.made st.i st.H.next) else bif isRead o then some (.read st.i st.F st.v) else none
 | none=>none
theorem objEq_eq{x y:AObj}(h:B2a x y=true):x=y:=by
 unfold B2a at h;split at h
 ·rename_i r a q b
  simp only[Bool.and_eq_true,beq_iff_eq]at h;obtain⟨h1,rfl⟩:=h;unfold C7w at h1;simp only[A1b,Bool.and_eq_true,decide_eq_true_eq,beq_iff_eq]at h1;obtain⟨⟨⟨k1,k2⟩,k3⟩,k4⟩:=h1;have k5:=A99 k3;obtain⟨rp,re,rv,ro⟩:=r;obtain⟨qp,qe,qv,qo⟩:=q;simp only at k1 k2 k4 k5;subst k1 k2 k4 k5;rfl
 ·rfl
 ·cases h
theorem A1w{H:AH}{b:Nat}:∀{ps ps':List Pend},A8h P call all.toList H b ps=some ps'→∀p∈ps,b.testBit p.at_=true∨(C4m P call all H p∧p∈ps')
 | [],ps',e,p,hp=>by cases hp
 | .read i F v :: ps,ps',e,p,hp=>by
  simp only[A8h]at e;cases hb:b.testBit i with
  | true=>
   rw[hb]at e;simp only[cond_true]at e;rcases List.mem_cons.1 hp with rfl|hp
   ·exact .inl hb
   ·exact A1w e p hp
  | false=>
   rw[hb]at e;simp only[cond_false]at e;split at e
   ·rename_i o ho
    split at e
    ·rename_i v' H2 hop
     obtain⟨c,e1⟩:=A3d e;obtain⟨l,hl,e2⟩:=Option.map_eq_some_iff.1 e1;subst e2;have:=C9i c;subst this;rcases List.mem_cons.1 hp with rfl|hp
     ·exact .inr ⟨⟨o,H2,by simpa using ho,hop⟩,List.mem_cons_self⟩
     ·rcases A1w hl p hp with x|⟨x,y⟩
      ·exact .inl x
      ·exact .inr ⟨x,List.mem_cons_of_mem _ y⟩
    ·cases e
   ·cases e
 | .made i g x :: ps,ps',e,p,hp=>by
  simp only[A8h]at e;cases hb:b.testBit i with
  | true=>
   rw[hb]at e;simp only[cond_true]at e;rcases List.mem_cons.1 hp with rfl|hp
   ·exact .inl hb
   ·exact A1w e p hp
  | false=>
   rw[hb]at e;simp only[cond_false]at e;split at e
   ·rename_i y hy
    obtain⟨c,e1⟩:=A3d e;obtain⟨l,hl,e2⟩:=Option.map_eq_some_iff.1 e1;subst e2;have:=objEq_eq c;subst this;rcases List.mem_cons.1 hp with rfl|hp
    ·exact .inr ⟨hy,List.mem_cons_self⟩
    ·rcases A1w hl p hp with x|⟨x,y⟩
     ·exact .inl x
     ·exact .inr ⟨x,List.mem_cons_of_mem _ y⟩
   ·cases e
theorem C3l{F':Fr}{H':AH}:∀{l:List Nat} {ps:List Pend} {F:Fr} {H:AH},A4e P call all.toList bs l ps F H=some (F',H')→
  ∃tr:List St,tr.map (·.i)=l∧Linked all tr F H F' H'∧(∀st∈tr,StOk P call all st)∧(∀p∈ps,C33 P call all bs p tr)∧(∀l1 st l2,tr=l1++st :: l2→∀p,A8y all st=some p→C33 P call all bs p l2)
 | [],ps,F,H,e=>by
  injection e with e
  injection e with e1 e2
  exact⟨[],rfl,⟨e1.symm,e2.symm⟩,fun st h=>(by cases h),fun p _ l1 e l2 h=>(by simp at h),fun l1 st l2 h=>(by simp at h)⟩
 | i :: l,ps,F,H,e=>by
  simp only[A4e]at e;split at e
  ·cases e
  ·rename_i o ho
   have ho':all[i]?=some o:=by simpa using ho
   have hdst:A6t all i=o.dst:=by simp[A6t,ho']
   have step : ∀ (st : St) (ps' : List Pend), st.i = i → st.F = F → st.H = H → StOk P call all st → A4e P call all.toList bs l ps' (put F o.dst st.v) st.H' = some (F', H') →
       (∀p ∈ ps, (C9c all st → (((bs[i]?).getD 0).testBit p.at_ = true ∨ (C4m P call all st.H' p ∧ p ∈ ps'))) ∧ (¬C9c all st → p ∈ ps')) → (∀p, A8y all st = some p → p ∈ ps') →
       ∃tr : List St, tr.map (·.i) = i :: l ∧ Linked all tr F H F' H' ∧ (∀st ∈ tr, StOk P call all st) ∧ (∀p ∈ ps, C33 P call all bs p tr) ∧ (∀l1 st l2, tr = l1 ++ st :: l2 → ∀p, A8y all st = some p → C33 P call all bs p l2) := by
     intro st ps' hi hF hH hok hd hps hpd;obtain⟨tr, t1, t2, t3, t4, t5⟩ := C3l hd;refine⟨st :: tr, by simp[hi, t1], ⟨hF, hH, by rw[hi, hdst];exact t2⟩, fun s hs => ?_, fun p hp l1 e' l2 htr he => ?_, fun l1 s l2 htr p hp => ?_⟩
     · rcases List.mem_cons.1 hs with rfl|hs
       · exact hok
       · exact t3 s hs
     · cases l1 with
       | nil =>
         simp only[List.nil_append, List.cons.injEq]at htr;obtain⟨rfl, rfl⟩ := htr;rcases(hps p hp).1 he with x|⟨x, _⟩
         · exact .inl ⟨st, by simp, he, by rw[hi];exact x⟩
         · exact .inr x
       | cons s0 l1 =>
         simp only[List.cons_append, List.cons.injEq]at htr;obtain⟨rfl, htr⟩ := htr;have hin : (C9c all st ∧ ((bs[i]?).getD 0).testBit p.at_ = true) ∨ p ∈ ps' := by
           by_cases hes : C9c all st
           · rcases(hps p hp).1 hes with x|⟨_, x⟩
             · exact .inl ⟨hes, x⟩
             · exact .inr x
           · exact .inr ((hps p hp).2 hes)
         rcases hin with⟨x1, x2⟩|hin
         · exact .inl ⟨st, by simp, x1, by rw[hi];exact x2⟩
         · rcases t4 p hin l1 e' l2 htr he with⟨s, q1, q2⟩|q
           · refine .inl ⟨s, ?_, q2⟩
             simp only[List.cons_append, List.mem_cons];exact .inr q1
           · exact .inr q
     · cases l1 with
       | nil =>
         simp only[List.nil_append, List.cons.injEq]at htr;obtain⟨rfl, rfl⟩ := htr;exact t4 p (hpd p hp)
       | cons s0 l1 =>
         simp only[List.cons_append, List.cons.injEq]at htr;obtain⟨rfl, htr⟩ := htr;exact t5 l1 s l2 htr p hp
   split at e
   ·cases e
   ·rename_i hw
    refine step ⟨i,F,H,undef,H,false⟩ ps rfl rfl rfl ⟨o,ho',hw,fun _=>⟨rfl,rfl⟩,fun h=>(by cases h)⟩ e (fun p hp=>⟨fun he=>?_,fun _=>hp⟩) (fun p hp=>?_)
    ·obtain⟨o',_,_,h3⟩:=he;cases h3
    ·simp[A8y,ho']at hp
   ·rename_i hw
    split at e
    ·cases e
    ·rename_i v H1 hop
     have hok:StOk P call all ⟨i,F,H,v,H1,true⟩:=⟨o,ho',hw,fun h=>(by cases h),fun _=>hop⟩
     cases hx:isEff o with
     | true=>
      rw[hx]at e;simp only[cond_true]at e;split at e
      ·rename_i ps' hre
       refine step ⟨i,F,H,v,H1,true⟩ ps' rfl rfl rfl hok e (fun p hp=>⟨fun _=>A1w hre p hp,fun hne=>absurd ⟨o,ho',hx,rfl⟩ hne⟩) (fun p hp=>?_);simp[A8y,ho',hx]at hp
      ·cases e
     | false=>
      have hnE:¬ C9c all ⟨i,F,H,v,H1,true⟩:=by
       rintro⟨o',h1,h2,_⟩;rw[ho']at h1;injection h1 with h1
       subst h1;rw[hx]at h2;cases h2
      rw[hx]at e;simp only[cond_false]at e;cases hy:A2d o with
      | true=>
       rw[hy]at e;simp only[cond_true]at e;split at e
       ·rename_i x hxx
        refine step ⟨i,F,H,v,H1,true⟩ (.made i H.next x :: ps) rfl rfl rfl hok e (fun p hp=>⟨fun he=>absurd he hnE,fun _=>List.mem_cons_of_mem _ hp⟩) (fun p hp=>?_);simp[A8y,ho',hx,hy,hxx]at hp;subst hp;exact List.mem_cons_self
       ·cases e
      | false=>
       rw[hy]at e;simp only[cond_false]at e;cases hz:isRead o with
       | true=>
        rw[hz]at e;simp only[cond_true]at e;refine step ⟨i,F,H,v,H1,true⟩ (.read i F v :: ps) rfl rfl rfl hok e (fun p hp=>⟨fun he=>absurd he hnE,fun _=>List.mem_cons_of_mem _ hp⟩) (fun p hp=>?_);simp[A8y,ho',hx,hy,hz]at hp;subst hp;exact List.mem_cons_self
       | false=>
        rw[hz]at e;simp only[cond_false]at e;refine step ⟨i,F,H,v,H1,true⟩ ps rfl rfl rfl hok e (fun p hp=>⟨fun he=>absurd he hnE,fun _=>hp⟩) (fun p hp=>?_);simp[A8y,ho',hx,hy,hz]at hp
end
section
variable {P:Program} {call:A1d} {all:Array Oper} {bs:List Nat}
theorem A4l{F:Fr}{H H':AH}{o:Oper}{v:Value}(hm:A2d o=true)(e:aop P call F H o=some (v,H')):∃x,H'=(H.push x).2:=by
 have hnew:∀{t:TypeId} {x p:Value} {H':AH},anew P t H x=some (p,H')→∃x,H'=(H.push x).2:=by
  intro t x p H' e;unfold anew at e;obtain⟨n,hsz,e⟩:=Option.bind_eq_some_iff.1 e;obtain⟨c,e1⟩:=A3d e;simp only[Option.some.injEq,Prod.mk.injEq]at e1;exact⟨_,e1.2.symm⟩
 unfold aop at e;unfold A2d at hm;cases hop:o.op<;>rw[hop]at e hm<;>simp only at e hm ⊢<;>try (cases hm;done)
 case alloc t=>
  obtain⟨z,hz,e1⟩:=Option.bind_eq_some_iff.1 e;exact hnew e1
 case box t x=>
  obtain⟨z,hz,e1⟩:=Option.bind_eq_some_iff.1 e;exact hnew e1
 case buildSlice t n ps=>
  obtain⟨vs,hvs,e1⟩:=Option.bind_eq_some_iff.1 e;unfold A4a at e1;split at e1
  ·obtain⟨s,h1,e2⟩:=Option.bind_eq_some_iff.1 e1
   obtain⟨z,h2,e3⟩:=Option.bind_eq_some_iff.1 e2;obtain⟨c,e4⟩:=A3d e3;obtain⟨l,h3,e5⟩:=Option.map_eq_some_iff.1 e4;simp only[Prod.mk.injEq]at e5;exact⟨_,e5.2.symm⟩
  ·cases e1
 case makeSlice t l c=>
  obtain⟨p,hp,e1⟩:=Option.bind_eq_some_iff.1 e;obtain⟨q,hq,e2⟩:=Option.bind_eq_some_iff.1 e1;unfold A4f at e2;split at e2
  ·obtain⟨s,h1,e3⟩:=Option.bind_eq_some_iff.1 e2
   obtain⟨z,h2,e4⟩:=Option.bind_eq_some_iff.1 e3;obtain⟨c,e5⟩:=A3d e4;simp only[Option.some.injEq,Prod.mk.injEq]at e5;exact⟨_,e5.2.symm⟩
  ·cases e2
 case makeMap t r=>
  cases r with
  | some r=>cases e
  | none=>
   simp only[Option.some.injEq,Prod.mk.injEq]at e;exact⟨_,e.2.symm⟩
theorem pure_any{F:Fr}{H H2 H':AH}{o:Oper}{v:Value}(hE:isEff o=false)(hM:A2d o=false)(hR:isRead o=false)(e:aop P call F H o=some (v,H')):aop P call F H2 o=some (v,H2):=by
 unfold isEff at hE;unfold A2d at hM;unfold isRead at hR;unfold aop at e ⊢;cases hop:o.op<;>rw[hop]at e hE hM hR<;>simp only at e hE hM hR ⊢<;>try (cases e;done)
 all_goals try (cases hE;done)
 all_goals try (cases hM;done)
 all_goals try (cases hR;done)
 case move x=>exact(A7b (fun _ z=>z) e).1
 case assign x=>exact(A7b (fun _ z=>z) e).1
 case pick c x y=>
  split at e
  ·first|exact(A7b (fun _ z=>z) e).1|(simp only[*];exact(A7b (fun _ z=>z) e).1)
  ·first|exact(A7b (fun _ z=>z) e).1|(simp only[*];exact(A7b (fun _ z=>z) e).1)
  ·cases e
 case build t ps=>obtain⟨z,h1,e1⟩:=Option.bind_eq_some_iff.1 e;simp only[h1,Option.bind_some];exact(A7b (fun _ z=>z) e1).1
 case nilCheck x=>
  obtain⟨z,h1,e1⟩:=Option.bind_eq_some_iff.1 e;simp only[h1,Option.bind_some];split at e1
  ·exact(A8c e1).1
  ·exact(A8c e1).1
  ·cases e1
 case binOp op t x y yt=>
  obtain⟨z,h1,e1⟩:=Option.bind_eq_some_iff.1 e;obtain⟨z2,h2,e2⟩:=Option.bind_eq_some_iff.1 e1;simp only[h1,h2,Option.bind_some];exact(A7b (fun _ z=>z) e2).1
 case unOp op t x=>obtain⟨z,h1,e1⟩:=Option.bind_eq_some_iff.1 e;simp only[h1,Option.bind_some];exact(A7b (fun _ z=>z) e1).1
 case makeInterface t x=>
  obtain⟨z,h1,e1⟩:=Option.bind_eq_some_iff.1 e;simp only[h1,Option.bind_some];split at e1
  ·cases e1
  ·cases e1
  ·first|exact(A8c e1).1|(simp only[*];exact(A8c e1).1)
 case makeFunc fn fi cs=>
  obtain⟨z,h1,e1⟩:=Option.bind_eq_some_iff.1 e;obtain⟨z2,h2,e2⟩:=Option.bind_eq_some_iff.1 e1;simp only[h1,h2,Option.bind_some];exact(A8c e2).1
 case fieldAddr t x f=>obtain⟨z,h1,e1⟩:=Option.bind_eq_some_iff.1 e;simp only[h1,Option.bind_some];exact(A7b (fun _ z=>z) e1).1
 case field t x f=>obtain⟨z,h1,e1⟩:=Option.bind_eq_some_iff.1 e;simp only[h1,Option.bind_some];exact(A7b (fun _ z=>z) e1).1
 case indexAddr t x i=>
  obtain⟨z,h1,e1⟩:=Option.bind_eq_some_iff.1 e;obtain⟨z2,h2,e2⟩:=Option.bind_eq_some_iff.1 e1;simp only[h1,h2,Option.bind_some];exact(A7b (fun _ z=>z) e2).1
 case index t x i=>
  obtain⟨z,h1,e1⟩:=Option.bind_eq_some_iff.1 e;obtain⟨z2,h2,e2⟩:=Option.bind_eq_some_iff.1 e1;simp only[h1,h2,Option.bind_some];exact(A7b (fun _ z=>z) e2).1
 case typeAssert x xt t ok=>
  obtain⟨z,h1,e1⟩:=Option.bind_eq_some_iff.1 e;simp only[h1,Option.bind_some];split at e1
  ·obtain⟨c,e2⟩:=A3d e1
   simp only[c,cond_true];split at e2
   ·cases e2
   ·cases e2
   ·first|exact(A8c e2).1|(simp only[*];exact(A8c e2).1)
  ·cases e1
 case extract t i=>
  obtain⟨z,h1,e1⟩:=Option.bind_eq_some_iff.1 e;simp only[h1,Option.bind_some];split at e1
  ·exact(A7b (fun _ z=>z) e1).1
  ·cases e1
theorem A0r(F:Fr)(d:Option Tmp)(v:Value)(t:Nat):(put F d v).get t=if d=some t then some v else F.get t:=by
 cases d with
 | none=>simp[put]
 | some d=>
  simp only[put];rw[Tr.get_set];by_cases h:t=d
  ·subst h;simp
  ·rw[if_neg h,if_neg (by intro e;injection e with e;exact h e.symm)]
theorem A3x{S S':Nat→Bool}{t:Nat}:∀{l:List St} {F G:Fr},(∀st∈l,A6t all st.i=some t→S st.i=S' st.i)→F.get t=G.get t→(fs all S l F).get t=(fs all S' l G).get t
 | [],F,G,_,h=>h
 | st :: l,F,G,hs,h=>by
  simp only[fs];refine A3x (fun s hs'=>hs s (List.mem_cons_of_mem _ hs')) ?_;by_cases hd:A6t all st.i=some t
  ·rw[hs st List.mem_cons_self hd]
   cases S' st.i
   ·exact h
   ·simp only[cond_true,A0r,hd,if_true]
  ·have h0 : ∀ (b : Bool) (F : Fr), (bif b then put F (A6t all st.i) st.v else F).get t = F.get t := by
     intro b F;cases b
     · rfl
     · simp only[cond_true, A0r, if_neg hd]
   rw[h0, h0];exact h
theorem A86{S:Nat→Bool}:∀{l1 l2:List St} {F:Fr},fs all S (l1++l2) F=fs all S l2 (fs all S l1 F)
 | [],l2,F=>rfl
 | st :: l1,l2,F=>by simp only[List.cons_append,fs];exact A86
theorem B3y{S:Nat→Bool}:∀{l:List St} {F:Fr},(∀st∈l,S st.i=false)→fs all S l F=F
 | [],F,_=>rfl
 | st :: l,F,h=>by
  simp only[fs];rw[h st List.mem_cons_self];exact B3y (fun s hs=>h s (List.mem_cons_of_mem _ hs))
def yes:Nat→Bool:=fun _=>true
theorem B9f:∀{l1 l2:List St} {st:St} {F:Fr} {H:AH} {F':Fr} {H':AH},Linked all (l1++st :: l2) F H F' H'→st.F=fs all yes l1 F∧Linked all l2 (put st.F (A6t all st.i) st.v) st.H' F' H'
 | [],l2,st,F,H,F',H',h=>by
  obtain⟨h1,h2,h3⟩:=h;exact⟨h1,by rw[h1];exact h3⟩
 | s :: l1,l2,st,F,H,F',H',h=>by
  obtain⟨h1,h2,h3⟩:=h;have:=B9f (l1:=l1) h3;exact this
theorem B7q:∀{l:List St} {F:Fr} {H:AH} {F':Fr} {H':AH},Linked all l F H F' H'→F'=fs all yes l F
 | [],F,H,F',H',h=>h.1
 | s :: l,F,H,F',H',h=>by
  obtain⟨h1,h2,h3⟩:=h;have:=B7q (l:=l) h3;exact this
def Bf(bs:List Nat)(j i:Nat):Prop:=((bs[j]?).getD 0).testBit i=true
def EffO(all:Array Oper)(i:Nat):Prop:=∃o,all[i]?=some o∧isEff o=true
def Looks(all:Array Oper)(i t:Nat):Prop:=∃o,all[i]?=some o∧t∈o.looksAt all
structure Ords(all:Array Oper)(bs:List Nat)(tr:List St):Prop where
 ne:∀l1 st l2,tr=l1++st :: l2→∀s∈l2,st.i≠s.i
 eff:∀l1 st l2,tr=l1++st :: l2→∀s∈l2,EffO all st.i→Bf bs s.i st.i
 ww:∀l1 st l2,tr=l1++st :: l2→∀s∈l2,∀t,A6t all st.i=some t→A6t all s.i=some t→Bf bs s.i st.i
 wl:∀l1 st l2,tr=l1++st :: l2→∀s∈l2,∀t,A6t all st.i=some t→Looks all s.i t→Bf bs s.i st.i
 lw:∀l1 st l2,tr=l1++st :: l2→∀s∈l2,∀t,Looks all st.i t→A6t all s.i=some t→Bf bs s.i st.i
theorem B3n:∀{l:List Nat},B8j all bs l=true→∀l1 i l2,l=l1++i :: l2→∀j∈l2,i≠j∧∃x y,all[i]?=some x∧all[j]?=some y∧((isEff x=true∨x.apart all y=false)→Bf bs j i)
 | [],_,l1,i,l2,h=>by simp at h
 | k :: l,e,l1,i,l2,h=>by
  simp only[B8j,Bool.and_eq_true]at e;cases l1 with
  | nil=>
   simp only[List.nil_append,List.cons.injEq]at h;obtain⟨rfl,rfl⟩:=h;intro j hj;have:=List.all_eq_true.1 e.1 j hj;simp only[Bool.and_eq_true,Bool.not_eq_true']at this;obtain⟨h1,h2⟩:=this;refine⟨fun hh=>?_,?_⟩
   ·subst hh
    simp[]at h1
   ·split at h2
    ·rename_i x y hx hy
     refine⟨x,y,hx,hy,fun hh=>?_⟩;rcases hh with hh|hh
     ·rw[hh]at h2;simpa [Bf] using h2
     ·rw[hh]at h2;simpa [Bf] using h2
    ·cases h2
  | cons k' l1=>
   simp only[List.cons_append,List.cons.injEq]at h;exact B3n e.2 l1 i l2 h.2
theorem B7h{x y:Oper}:(∃d,x.dst=some d∧d∈y.looksAt all)∨(∃d,x.dst=some d∧y.dst=some d)∨(∃d,y.dst=some d∧d∈x.looksAt all)→x.apart all y=false:=by
 intro h;cases ha:x.apart all y with
 | false=>rfl
 | true=>
  obtain⟨h1,h2,h3⟩:=Oper.apart_spec ha;rcases h with⟨d,k1,k2⟩|⟨d,k1,k2⟩|⟨d,k1,k2⟩
  ·exact absurd k2 (h1 d k1)
  ·exact absurd k2 (h2 d k1)
  ·exact absurd k2 (h3 d k1)
theorem ords_of{tr:List St}(h:B8j all bs (tr.map (·.i))=true):Ords all bs tr:=by
 have key:∀l1 st l2,tr=l1++st :: l2→∀s∈l2,st.i≠s.i∧∃x y,all[st.i]?=some x∧all[s.i]?=some y∧((isEff x=true∨x.apart all y=false)→Bf bs s.i st.i):=by
  intro l1 st l2 e s hs;exact B3n h (l1.map (·.i)) st.i (l2.map (·.i)) (by rw[e];simp) s.i (List.mem_map_of_mem hs)
 refine⟨fun l1 st l2 e s hs=>(key l1 st l2 e s hs).1,fun l1 st l2 e s hs he=>?_,fun l1 st l2 e s hs t h1 h2=>?_,fun l1 st l2 e s hs t h1 h2=>?_,fun l1 st l2 e s hs t h1 h2=>?_⟩<;>obtain⟨_,x,y,hx,hy,hb⟩:=key l1 st l2 e s hs
 ·obtain⟨o,k1,k2⟩:=he
  rw[hx]at k1;injection k1 with k1;subst k1
  exact hb (.inl k2)
 ·simp only[A6t,hx,hy,Option.bind_some]at h1 h2
  exact hb (.inr (B7h (.inr (.inl ⟨t,h1,h2⟩))))
 ·obtain⟨o,k1,k2⟩:=h2
  rw[hy]at k1;injection k1 with k1;subst k1
  simp only[A6t,hx,Option.bind_some]at h1;exact hb (.inr (B7h (.inl ⟨t,h1,k2⟩)))
 ·obtain⟨o,k1,k2⟩:=h1
  rw[hx]at k1;injection k1 with k1;subst k1
  simp only[A6t,hy,Option.bind_some]at h2;exact hb (.inr (B7h (.inr (.inr ⟨t,h2,k2⟩))))
def Closed(bs:List Nat)(S:Nat→Bool):Prop:=∀j i,S j=true→Bf bs j i→S i=true
theorem A84(h:B0e all bs=true){j:Nat}{o:Oper}(ho:all[j]?=some o):(∀i,Bf bs j i→∃e∈o.after,Region.binds .any e=true∧(e.on=i∨Bf bs e.on i))∧∀e∈o.after,Region.binds .any e=true→e.on<j:=by
 have hj:j<all.size:=(Array.getElem?_eq_some_iff.1 ho).1;have:=List.all_eq_true.1 h j (List.mem_range.2 hj);rw[ho]at this;split at this
 ·rename_i o' b h1 h2
  injection h1 with h1
  subst h1;simp only[Bool.and_eq_true,List.all_eq_true,Bool.or_eq_true,Bool.not_eq_true']at this;obtain⟨k1,k2⟩:=this;have hb:=Nat.eq_of_beq_eq_true k1;refine⟨fun i hi=>?_,fun e he hbn=>?_⟩
  ·unfold Bf at hi
   rw[h2,Option.getD_some,hb]at hi;rcases C3o bs hi with x|⟨e,x1,x2,x3⟩
   ·simp at x
   ·exact⟨e,by simpa using x1,x2,x3⟩
  ·rcases k2 e (by simpa using he) with x|x
   ·rw[hbn]at x;cases x
   ·rw[A1j]at x;simpa using x
 ·cases this
def also(S:Nat→Bool)(i:Nat):Nat→Bool:=fun j=>S j||decide (j=i)
theorem A6q(S:Nat→Bool)(i:Nat):also S i i=true:=by simp[also]
theorem A9u(S:Nat→Bool){i j:Nat}(h:j≠i):also S i j=S j:=by simp[also,h]
theorem B5b{S:Nat→Bool}{i j:Nat}(h:S j=true):also S i j=true:=by simp[also,h]
theorem C7b(hc:B0e all bs=true){S:Nat→Bool}(hS:Closed bs S){i:Nat}{o:Oper}(ho:all[i]?=some o)(hr:∀e∈o.after,Region.binds .any e=true→S e.on=true):Closed bs (also S i)∧∀k,Bf bs i k→S k=true:=by
 have hk:∀k,Bf bs i k→S k=true:=by
  intro k hk;obtain⟨e,h1,h2,h3⟩:=(A84 hc ho).1 k hk;rcases h3 with h3|h3
  ·rw[←h3];exact hr e h1 h2
  ·exact hS e.on k (hr e h1 h2) h3
 refine⟨fun j k hj hb=>?_,hk⟩;by_cases h:j=i
 ·subst h;exact B5b (hk k hb)
 ·rw[A9u S h]at hj
  exact B5b (hS j k hj hb)
theorem C1e{F G:Fr}{o:Oper}(h:∀t∈o.looksAt all,F.get t=G.get t):A3m all.toList F o=A3m all.toList G o:=by
 unfold A3m;cases hg:o.guard with
 | none=>rfl
 | some g=>
  obtain⟨j,want⟩:=g;simp only;cases hd:(all.toList[j]?).bind (·.dst) with
  | none=>rfl
  | some t=>
   have:F.get t=G.get t:=by
    refine h t ?_;unfold Oper.looksAt;rw[hg];have hd':(all[j]?).bind (·.dst)=some t:=by simpa using hd
    simp[hd']
   simp only[Option.bind_some,this]
theorem B1h{F G:Fr}{H:AH}{o:Oper}(h:∀t∈o.looksAt all,F.get t=G.get t):aop P call F H o=aop P call G H o:=by
 refine B40 (fun x hx=>?_);cases x with
 | tmp t=>
  simp only[ev];refine h t ?_;unfold Oper.looksAt;simp only[List.mem_append,List.mem_filterMap];exact .inl ⟨.tmp t,hx,rfl⟩
 | _=>rfl
end
section
variable {P:Program} {call:A1d} {all:Array Oper} {bs:List Nat} {B:Nat}
def Good(P:Program)(call:A1d)(all:Array Oper)(s:St)(H:AH):Prop:=
 ∃o,all[s.i]?=some o∧aop P call s.F s.H o=some (s.v,s.H')∧isEff o=false∧(A2d o=true→H.objs.get s.H.next=s.H'.objs.get s.H.next)∧(A2d o=false→aop P call s.F H o=some (s.v,H))
def B8w(all:Array Oper)(i:Nat):Prop:=∃o,all[i]?=some o∧A2d o=true
theorem C0z{ρ:Map}{H:AH}{w:World}(h:HRel B ρ H w)(x:AObj):HGrow H (H.push x).2:=by
 intro g o hg;show (H.objs.set H.next x).get g=some o;rw[Tr.get_set,if_neg]
 ·exact hg
 ·rintro rfl
  rw[h.get_next]at hg;cases hg
theorem A1q(H:AH)(x:AObj):(H.push x).2.objs.get H.next=some x:=Tr.get_set_eq _ _ _
theorem C4h(H:AH)(x:AObj):(H.push x).2.next=H.next+1:=rfl
theorem C0a{F':Fr}{H':AH}{ρ:Map}{w:World}:∀{rest:List St} {F:Fr} {H:AH},Linked all rest F H F' H'→(∀s∈rest,StOk P call all s)→HRel B ρ H w→
  ∃m1 m2 Fm Hm,rest=m1++m2∧Linked all m2 Fm Hm F' H'∧(∀s∈m1,¬EffO all s.i)∧(m2=[]∨∃e l,m2=e :: l∧EffO all e.i)∧HRel B ρ Hm w∧HGrow H Hm∧H.next≤Hm.next∧
   (∀s∈m1,(s.on=true→Good P call all s Hm)∧H.next≤s.H.next∧s.H'.next≤Hm.next∧(∀k,ρ s.H.next k=none))
 | [],F,H,hl,hok,hH=>⟨[],[],F,H,rfl,hl,fun _ h=>(by cases h),.inl rfl,hH,HGrow.refl H,Nat.le_refl _,fun _ h=>(by cases h)⟩
 | s :: rest,F,H,hl,hok,hH=>by
  obtain⟨o,ho,hw,hoff,hon⟩:=hok s List.mem_cons_self;cases hE:isEff o with
  | true=>exact⟨[],s :: rest,F,H,rfl,hl,fun _ h=>(by cases h),.inr ⟨s,rest,rfl,o,ho,hE⟩,hH,HGrow.refl H,Nat.le_refl _,fun _ h=>(by cases h)⟩
  | false=>
   obtain⟨hF,hHs,hl'⟩:=hl;have hnE:¬EffO all s.i:=by
    rintro⟨o',k1,k2⟩;rw[ho]at k1;injection k1 with k1;subst k1
    rw[hE]at k2;cases k2
   have hnone:∀k,ρ s.H.next k=none:=fun k=>by rw[hHs];exact hH.none_new k
   have hstep:HRel B ρ s.H' w∧HGrow H s.H'∧H.next≤s.H'.next∧(s.on=true→∀Hm,HGrow s.H' Hm→Good P call all s Hm):=by
    cases hon':s.on with
    | false=>
     obtain⟨_,h2⟩:=hoff hon';rw[h2,hHs];exact⟨hH,HGrow.refl H,Nat.le_refl _,fun h=>by cases h⟩
    | true=>
     have hop:=hon hon';cases hM:A2d o with
     | true=>
      obtain⟨x,hx⟩:=A4l hM hop;rw[hx,hHs];refine⟨hH.reg x,C0z hH x,Nat.le_succ _,fun _ Hm hg=>⟨o,ho,hop,hE,fun _=>?_,fun h=>by rw[hM]at h;cases h⟩⟩;rw[hx,hHs,A1q];exact hg _ _ (A1q H x)
     | false=>
      have hsame:=(A3n (HGrow.refl s.H) hE hM hop).2;rw[hsame,hHs];refine⟨hH,HGrow.refl H,Nat.le_refl _,fun _ Hm hg=>⟨o,ho,hop,hE,(fun h=>by rw[hM]at h;cases h),fun _=>?_⟩⟩;exact(A3n (by rw[hHs];exact hg) hE hM hop).1
   obtain⟨h1,h2,h3,h4⟩:=hstep;obtain⟨m1,m2,Fm,Hm,g1,g2,g3,g4,g5,g6,g7,g8⟩:=C0a hl' (fun z hz=>hok z (List.mem_cons_of_mem _ hz)) h1;refine⟨s :: m1,m2,Fm,Hm,by rw[g1];rfl,g2,?_,g4,g5,h2.trans g6,Nat.le_trans h3 g7,?_⟩
   ·intro z hz
    rcases List.mem_cons.1 hz with rfl|hz
    ·exact hnE
    ·exact g3 z hz
   ·intro z hz
    rcases List.mem_cons.1 hz with rfl|hz
    ·exact⟨fun hh=>h4 hh Hm g6,by rw[hHs];exact Nat.le_refl _,g7,hnone⟩
    ·obtain⟨k1,k2,k3,k4⟩:=g8 z hz
     exact⟨k1,Nat.le_trans h3 k2,k3,k4⟩
structure Inv(P:Program)(call:A1d)(all:Array Oper)(bs:List Nat)(nt:Nat)(tr:List St)(F0 F':Fr)(H0 H':AH)(B:Nat)(ρ0:Map)(w0:World)(S:Nat→Bool)(a:Act)(w:World):Prop where
 all:∃(t1 t2:List St) (Fm:Fr) (Hc:AH) (ρ:Map),tr=t1++t2∧(∀s∈t2,S s.i=false)∧(∀s∈t1,EffO all s.i→S s.i=true)∧(t2=[]∨∃e l,t2=e :: l∧EffO all e.i)∧
  Linked all t2 Fm Hc F' H'∧HRel B ρ Hc w∧Trans B H0.next ρ0 w0 ρ w∧FRel ρ (fs all S tr F0) a∧
  (∀s∈t1,H0.next≤s.H.next∧s.H'.next≤Hc.next∧(S s.i=false→s.on=true→Good P call all s Hc∧(B8w all s.i→∀k,ρ s.H.next k=none)))
 closed:Closed bs S
 size:a.tmps.size=nt
 defers:a.defers=[]
structure Fix(P:Program)(call:A1d)(all:Array Oper)(bs:List Nat)(nt:Nat)(tr:List St)(F0 F':Fr)(H0 H':AH):Prop where
 linked:Linked all tr F0 H0 F' H'
 ok:∀st∈tr,StOk P call all st
 pend:∀l1 st l2,tr=l1++st :: l2→∀p,A8y all st=some p→C33 P call all bs p l2
 ords:Ords all bs tr
 closed:B0e all bs=true
 full:∀j,j<all.size→∃st∈tr,st.i=j
 dst:∀o∈all.toList,C6t nt o=true
section
variable {nt:Nat} {tr:List St} {F0 F':Fr} {H0 H':AH}
theorem Fix.dstLt(X:Fix P call all bs nt tr F0 F' H0 H'){i:Nat}{o:Oper}(ho:all[i]?=some o){t:Nat}(ht:o.dst=some t):t<nt:=by
 have hm:o∈all.toList:=by
  have:=(Array.getElem?_eq_some_iff.1 ho)
  obtain⟨h1,h2⟩:=this;rw[←h2];simp
 have:=X.dst o hm;unfold C6t at this;rw[ht]at this
 simpa [A1j] using this
theorem Fix.sees(X:Fix P call all bs nt tr F0 F' H0 H'){S:Nat→Bool}(hS:Closed bs S){l1 l2:List St}{st:St}(htr:tr=l1++st :: l2)(hun:S st.i=false)(hbef:∀k,Bf bs st.i k→S k=true){o:Oper}(ho:all[st.i]?=some o):
  ∀t∈o.looksAt all,st.F.get t=(fs all S tr F0).get t:=by
 intro t ht;have hlinked:=X.linked;rw[htr]at hlinked;rw[(B9f hlinked).1,htr,A86];have h1:(fs all S (st :: l2) (fs all S l1 F0)).get t=(fs all S l1 F0).get t:=by
  have:fs all S (st :: l2) (fs all S l1 F0)=fs all S l2 (fs all S l1 F0):=by simp only[fs,hun,cond_false]
  rw[this];have hno:(fs all (fun _=>false) l2 (fs all S l1 F0))=fs all S l1 F0:=B3y (fun _ _=>rfl)
  conv=>rhs;rw[←hno]
  refine A3x (fun s hs hd=>?_) rfl;cases hh:S s.i with
  | false=>rfl
  | true=>
   have:=hS _ _ hh (X.ords.lw l1 st l2 htr s hs t ⟨o,ho,ht⟩ hd);rw[hun]at this;cases this
 rw[h1];refine A3x (fun s hs hd=>?_) rfl;obtain⟨m1,m2,rfl⟩:=List.append_of_mem hs;have:Bf bs st.i s.i:=X.ords.wl m1 s (m2++st :: l2) (by rw[htr];simp) st (by simp) t hd ⟨o,ho,ht⟩;rw[hbef _ this];rfl
theorem Fix.slots(X:Fix P call all bs nt tr F0 F' H0 H'){S:Nat→Bool}(hS:Closed bs S){l1 l2:List St}{st:St}(htr:tr=l1++st :: l2)(hun:S st.i=false)(t:Nat):
  (fs all (also S st.i) tr F0).get t=(put (fs all S tr F0) (A6t all st.i) st.v).get t:=by
 have hne1:∀s∈l1,s.i≠st.i:=by
  intro s hs;obtain⟨m1,m2,rfl⟩:=List.append_of_mem hs;exact X.ords.ne m1 s (m2++st :: l2) (by rw[htr];simp) st (by simp)
 have hne2:∀s∈l2,s.i≠st.i:=fun s hs h=>X.ords.ne l1 st l2 htr s hs h.symm;have e1:fs all (also S st.i) tr F0=fs all (also S st.i) l2 (put (fs all (also S st.i) l1 F0) (A6t all st.i) st.v):=by
  rw[htr,A86];simp only[fs,A6q,cond_true]
 have e2:fs all S tr F0=fs all S l2 (fs all S l1 F0):=by rw[htr,A86];simp only[fs,hun,cond_false]
 rw[e1,e2,A0r];by_cases hd:A6t all st.i=some t
 ·rw[if_pos hd]
  have hno:(fs all (fun _=>false) l2 (put (fs all (also S st.i) l1 F0) (A6t all st.i) st.v)).get t=some st.v:=by
   rw[B3y (fun _ _=>rfl),A0r,if_pos hd]
  rw[←hno];refine A3x (fun s hs hd2=>?_) rfl;rw[A9u S (hne2 s hs)];cases hh:S s.i with
  | false=>rfl
  | true=>
   have:=hS _ _ hh (X.ords.ww l1 st l2 htr s hs t hd hd2);rw[hun]at this;cases this
 ·rw[if_neg hd]
  refine A3x (fun s hs _=>A9u S (hne2 s hs)) ?_;rw[A0r,if_neg hd];exact A3x (fun s hs _=>A9u S (hne1 s hs)) rfl
theorem FRel.same{ρ:Map}{F G:Fr}{a:Act}(h:FRel ρ F a)(e:∀t,G.get t=F.get t):FRel ρ G a:=fun t v hv=>h t v (by rw[←e];exact hv)
theorem C0c{l:List St}{F:Fr}{H:AH}(hmono:∀s∈l,s.H.next≤s.H'.next):Linked all l F H F' H'→H.next≤H'.next:=by
 induction l generalizing F H with
 | nil=>intro h;rw[h.2];exact Nat.le_refl _
 | cons s l ih=>
  intro h;obtain⟨h1,h2,h3⟩:=h;have:=ih (fun z hz=>hmono z (List.mem_cons_of_mem _ hz)) h3;have h4:=hmono s List.mem_cons_self;rw[h2]at h4;omega
theorem B76{l1 l2:List St}{st:St}{F:Fr}{H:AH}(hmono:∀s∈l2,s.H.next≤s.H'.next)(h:Linked all (l1++st :: l2) F H F' H'):∀s∈l2,st.H'.next≤s.H.next:=by
 have h2:=(B9f h).2
 revert h2
 generalize put st.F (A6t all st.i) st.v=G;generalize st.H'=K;clear h
 induction l2 generalizing G K with
 | nil=>intro _ s hs;cases hs
 | cons z l2 ih=>
  intro h s hs;obtain⟨k1,k2,k3⟩:=h;rcases List.mem_cons.1 hs with rfl|hs
  ·rw[k2];exact Nat.le_refl _
  ·have:=ih (fun y hy=>hmono y (List.mem_cons_of_mem _ hy)) _ _ k3 s hs
   have h4:=hmono z List.mem_cons_self;rw[k2]at h4;omega
theorem Fix.mono(X:Fix P call all bs nt tr F0 F' H0 H')(hn:A9m call):∀s∈tr,s.H.next≤s.H'.next:=by
 intro s hs;obtain⟨o,ho,hw,hoff,hon⟩:=X.ok s hs;cases h:s.on with
 | false=>rw[(hoff h).2];exact Nat.le_refl _
 | true=>exact A57 hn (hon h)
theorem Fix.differ(X:Fix P call all bs nt tr F0 F' H0 H')(hn:A9m call){s z:St}(hs:s∈tr)(hz:z∈tr)(hne:s.i≠z.i)(hms:B8w all s.i)(hmz:B8w all z.i)(hos:s.on=true)(hoz:z.on=true):s.H.next≠z.H.next:=by
 have hnx:∀{s:St},s∈tr→B8w all s.i→s.on=true→s.H'.next=s.H.next+1:=by
  intro s hs hm ho;obtain⟨o,h1,_,_,h2⟩:=X.ok s hs;obtain⟨o',h3,h4⟩:=hm;rw[h1]at h3;injection h3 with h3;subst h3
  obtain⟨x,hx⟩:=A4l h4 (h2 ho);rw[hx];rfl
 have key:∀{s z:St} {l1 l2:List St},tr=l1++s :: l2→z∈l2→B8w all s.i→s.on=true→s.H.next≠z.H.next:=by
  intro s z l1 l2 htr hz hm ho;have hl:=X.linked;rw[htr]at hl;have h1:=B76 (fun y hy=>X.mono hn y (by rw[htr];simp[hy])) hl z hz;have h2:=hnx (by rw[htr];simp) hm ho;omega
 obtain⟨l1,l2,htr⟩:=List.append_of_mem hs;rw[htr]at hz;simp only[List.mem_append,List.mem_cons]at hz;rcases hz with hz|rfl|hz
 ·obtain⟨m1,m2,rfl⟩:=List.append_of_mem hz
  exact(key (l1:=m1) (l2:=m2++s :: l2) (by rw[htr];simp) (by simp) hmz hoz).symm
 ·exact absurd rfl hne
 ·exact key htr hz hms hos
end
end
section
variable {P:Program} {call:A1d} {all:Array Oper} {bs:List Nat} {B:Nat}
variable {nt:Nat} {tr:List St} {F0 F':Fr} {H0 H':AH} {ρ0:Map} {w0:World}
theorem C4f{i:Nat}{o:Oper}(ho:all[i]?=some o):A6t all i=o.dst:=by simp[A6t,ho]
theorem effO_of{i:Nat}{o:Oper}(ho:all[i]?=some o)(h:EffO all i):isEff o=true:=by
 obtain⟨o',h1,h2⟩:=h;rw[ho]at h1;injection h1 with h1;subst h1;exact h2
theorem C9g{i:Nat}{o:Oper}(ho:all[i]?=some o)(h:B8w all i):A2d o=true:=by
 obtain⟨o',h1,h2⟩:=h;rw[ho]at h1;injection h1 with h1;subst h1;exact h2
theorem B9b{st:St}{l:List St}:∀{t1:List St} {F:Fr} {H:AH},Linked all (t1++st :: l) F H F' H'→Linked all t1 F H st.F st.H
 | [],F,H,h=>⟨h.1,h.2.1⟩
 | s :: t1,F,H,h=>by
  obtain⟨h1,h2,h3⟩:=h;exact⟨h1,h2,B9b (t1:=t1) h3⟩
theorem Fix.float(X:Fix P call all bs nt tr F0 F' H0 H')(hn:A9m call){S:Nat→Bool}{a:Act}{w w':World}{t1 t2:List St}{Fm:Fr}{Hc:AH}{ρ ρ':Map}{st:St}{v':Value}{o:Oper}
  (hS:Closed bs S) (hS':Closed bs (also S st.i)) (hsz:a.tmps.size=nt) (hdf:a.defers=[])
  (e1:tr=t1++t2) (e2:∀s∈t2,S s.i=false) (e3:∀s∈t1,EffO all s.i→S s.i=true) (e4:t2=[]∨∃e l,t2=e :: l∧EffO all e.i)
  (e5:Linked all t2 Fm Hc F' H') (e7:Trans B H0.next ρ0 w0 ρ w) (e8:FRel ρ (fs all S tr F0) a)
  (e9:∀s∈t1,H0.next≤s.H.next∧s.H'.next≤Hc.next∧(S s.i=false→s.on=true→Good P call all s Hc∧(B8w all s.i→∀k,ρ s.H.next k=none)))
  (hst:st∈t1) (hun:S st.i=false) (ho:all[st.i]?=some o)
  (g1:HRel B ρ' Hc w') {n:Nat} (g2:Trans B n ρ w ρ' w') (g3:H0.next≤n) (g4:VRel ρ' st.v v')
  (g5:∀s∈t1,s.i≠st.i→S s.i=false→s.on=true→B8w all s.i→∀k,ρ' s.H.next k=none):
  Inv P call all bs nt tr F0 F' H0 H' B ρ0 w0 (also S st.i) (a.put o.dst v') w':=by
 have hin:st∈tr:=by rw[e1];simp[hst]
 obtain⟨l1,l2,htr⟩:=List.append_of_mem hin;refine⟨⟨t1,t2,Fm,Hc,ρ',e1,fun s hs=>?_,fun s hs h=>B5b (e3 s hs h),e4,e5,g1,e7.trans g2 g3,?_,fun s hs=>?_⟩,hS',by rw[(A3u a o.dst v').1];exact hsz,by rw[(A3u a o.dst v').2];exact hdf⟩
 ·rw[A9u]
  ·exact e2 s hs
  ·obtain⟨m1,m2,hm⟩:=List.append_of_mem hst
   exact(X.ords.ne m1 st (m2++t2) (by rw[e1,hm];simp) s (by simp[hs])).symm
 ·refine FRel.same ((e8.mono g2.le).put g4 (fun t ht=>by rw[hsz];exact X.dstLt ho ht)) (fun t=>?_)
  rw[X.slots hS htr hun t,C4f ho]
 ·obtain⟨k1,k2,k3⟩:=e9 s hs
  refine⟨k1,k2,fun hu hon=>?_⟩;have hne:s.i≠st.i:=by
   intro h;rw[h,A6q]at hu;cases hu
  rw[A9u S hne]at hu;exact⟨(k3 hu hon).1,g5 s hs hne hu hon⟩
theorem Fix.step(X:Fix P call all bs nt tr F0 F' H0 H')(hN:B6m P)(hb:A1v P call)(hn:A9m call)(hcall:B8b P call){S:Nat→Bool}{a:Act}{w:World}(I:Inv P call all bs nt tr F0 F' H0 H' B ρ0 w0 S a w)
  {i:Nat} {o:Oper} (ho:all[i]?=some o) (hun:S i=false) (hr:∀e∈o.after,Region.binds .any e=true→S e.on=true) {Q:Exit→Act→World→Prop}:
  wpOp P all Q i (fun a' w'=>Inv P call all bs nt tr F0 F' H0 H' B ρ0 w0 (also S i) a' w') a w:=by
 obtain⟨⟨t1,t2,Fm,Hc,ρ,e1,e2,e3,e4,e5,e6,e7,e8,e9⟩,hS,hsz,hdf⟩:=I;obtain⟨hS',hbef⟩:=C7b X.closed hS ho hr;obtain⟨st,hin,rfl⟩:=X.full i (Array.getElem?_eq_some_iff.1 ho).1;obtain⟨l1,l2,htr⟩:=List.append_of_mem hin;have hsees:=X.sees hS htr hun hbef ho;obtain⟨o',ho',hw,hoff,hon⟩:=X.ok st hin;rw[ho]at ho';injection ho' with ho';subst ho'
 have hw':A3m all.toList (fs all S tr F0) o=some st.on:=by rw[←C1e hsees];exact hw
 have hwant:=C4g e8 hw';unfold wpOp;rw[ho];simp only;rw[hwant];have hhead:st∈t2→∃l,t2=st :: l∧EffO all st.i:=by
  intro h;rcases e4 with rfl|⟨e,l,rfl,he⟩
  ·cases h
  ·rcases List.mem_cons.1 h with rfl|h
   ·exact⟨l,rfl,he⟩
   ·have:=hbef _ (X.ords.eff t1 e l e1 st h he)
    rw[e2 e List.mem_cons_self]at this;cases this
 cases hE:isEff o with
 | false=>
  have hnE:¬EffO all st.i:=fun h=>by rw[effO_of ho h]at hE;cases hE
  have hst:st∈t1:=by
   have:=hin;rw[e1,List.mem_append]at this;rcases this with h|h
   ·exact h
   ·obtain⟨l,_,h⟩:=hhead h
    exact absurd h hnE
  obtain⟨k1,k2,k3⟩:=e9 st hst;cases hon':st.on with
  | false=>
   simp only[Bool.false_eq_true,if_false];obtain⟨v1,v2⟩:=hoff hon';exact X.float hn hS hS' hsz hdf e1 e2 e3 e4 e5 e7 e8 e9 hst hun ho e6 (Trans.refl B H0.next ρ w) (Nat.le_refl _) (by rw[v1];exact A30) (fun s hs _ hu hon2 hm=>((e9 s hs).2.2 hu hon2).2 hm)
  | true=>
   simp only[if_true];left;obtain⟨⟨o2,ho2,q1,q2,q3,q4⟩,q5⟩:=k3 hun hon';rw[ho]at ho2;injection ho2 with ho2;subst ho2
   cases hM:A2d o with
   | true=>
    have hmo:B8w all st.i:=⟨o,ho,hM⟩
    rw[B1h hsees]at q1;obtain⟨w1,ρ1,v1,r1,r2,r3,r4,r5⟩:=D5c (P:=P) (w:=w) e8 e6 q1 hM (q3 hM) (q5 hmo);unfold Oper.wp;rw[r1];refine X.float hn hS hS' hsz hdf e1 e2 e3 e4 e5 e7 e8 e9 hst hun ho r3 r4 k1 r2 (fun s hs hne hu hon2 hm k=>?_);cases hh:ρ1 s.H.next k with
    | none=>rfl
    | some L=>
     rcases r5 _ _ _ hh with h|h
     ·rw[((e9 s hs).2.2 hu hon2).2 hm k]at h;cases h
     ·exact absurd h (X.differ hn (by rw[e1];simp[hs]) hin hne hm hmo hon2 hon')
   | false=>
    have q6:=q4 hM;rw[B1h hsees]at q6;refine op_wp hcall e6 (C48 hN hb e8 e6 q6) (fun ρ1 v1 w1 r1 r2 r3=>?_);have hlt:H0.next≤Hc.next:=by
     have:=X.mono hn st hin;omega
    refine X.float hn hS hS' hsz hdf e1 e2 e3 e4 e5 e7 e8 e9 hst hun ho r2 r3 hlt r1 (fun s hs hne hu hon2 hm k=>?_);cases hh:ρ1 s.H.next k with
    | none=>rfl
    | some L=>
     have hnone:=((e9 s hs).2.2 hu hon2).2 hm;rcases r3.grows _ _ _ hh with h|h|⟨k',L',h⟩
     ·rw[hnone k]at h;cases h
     ·obtain⟨o3,j1,_,_,j2⟩:=X.ok s (by rw[e1];simp[hs])
      obtain⟨x,hx⟩:=A4l (C9g j1 hm) (j2 hon2);have:=(e9 s hs).2.1;rw[hx,C4h]at this;omega
     ·rw[hnone k']at h;cases h
 | true=>
  have hst:st∈t2:=by
   have:=hin;rw[e1,List.mem_append]at this;rcases this with h|h
   ·have:=e3 st h ⟨o,ho,hE⟩
    rw[hun]at this;cases this
   ·exact h
  obtain⟨l,rfl,he⟩:=hhead hst;obtain⟨f1,f2,f3⟩:=e5
  have fin : ∀ (ρ1 : Map) (v1 : Value) (w1 : World), VRel ρ1 st.v v1 → HRel B ρ1 st.H' w1 → Trans B Hc.next ρ w ρ1 w1 → Hc.next ≤ st.H'.next → (∀ s ∈ t1, also S st.i s.i = false → ∀ o2, all[s.i]? = some o2 → isEff o2 = false → s.on = true → aop P call s.F s.H o2 = some (s.v, s.H') → ((A2d o2 = true → Hc.objs.get s.H.next = s.H'.objs.get s.H.next) ∧ (A2d o2 = false → aop P call s.F Hc o2 = some (s.v, Hc))) → (A2d o2 = true → st.H'.objs.get s.H.next = s.H'.objs.get s.H.next) ∧ (A2d o2 = false → aop P call s.F st.H' o2 = some (s.v, st.H'))) →
      Inv P call all bs nt tr F0 F' H0 H' B ρ0 w0 (also S st.i) (a.put o.dst v1) w1 := by
    intro ρ1 v1 w1 r1 r2 r3 hcn hgood;obtain⟨m1, m2, Fm', Hm, g1, g2, g3, g4, g5, g6, g7, g8⟩ := C0a (P := P) (call := call) f3 (fun s hs => X.ok s (by rw[e1];simp[hs])) r2;have hH0 : H0.next ≤ Hc.next := by
      have := C0c (all := all) (l := t1) (fun s hs => X.mono hn s (by rw[e1];simp[hs])) (F := F0) (H := H0) (F' := st.F) (H' := st.H);refine f2 ▸ this ?_;have hl := X.linked;rw[e1]at hl;exact B9b hl
    have hnel : ∀s ∈ l, s.i ≠ st.i := fun s hs => (X.ords.ne t1 st l e1 s hs).symm;refine⟨⟨t1 ++ st :: m1, m2, Fm', Hm, ρ1, by rw[e1, g1];simp, fun s hs => ?_, fun s hs h => ?_, g4, g2, g5, e7.trans r3 hH0, ?_, fun s hs => ?_⟩, hS', by rw[(A3u a o.dst v1).1];exact hsz, by rw[(A3u a o.dst v1).2];exact hdf⟩
    · have hsl : s ∈ l := by rw[g1];simp[hs]
      rw[A9u S (hnel s hsl)];exact e2 s (List.mem_cons_of_mem _ hsl)
    · simp only[List.mem_append, List.mem_cons]at hs
      rcases hs with hs|rfl|hs
      · exact B5b (e3 s hs h)
      · exact A6q _ _
      · exact absurd h (g3 s hs)
    · refine FRel.same ((e8.mono r3.le).put r1 (fun t ht => by rw[hsz];exact X.dstLt ho ht)) (fun t => ?_)
      rw[X.slots hS htr hun t, C4f ho]
    · simp only[List.mem_append, List.mem_cons]at hs
      rcases hs with hs|rfl|hs
      · obtain⟨k1, k2, k3⟩ := e9 s hs
        refine⟨k1, by omega, fun hu hon2 => ?_⟩;have hne : s.i ≠ st.i := by
          intro h;rw[h, A6q]at hu;cases hu
        have hu' := hu;rw[A9u S hne]at hu;obtain⟨⟨o2, j1, j2, j3, j4, j5⟩, j6⟩ := k3 hu hon2;refine⟨⟨o2, j1, j2, j3, ?_⟩, fun hm k => ?_⟩
        · obtain⟨y1, y2⟩ := hgood s hs hu' o2 j1 j3 hon2 j2 ⟨j4, j5⟩
          refine⟨fun hm => ?_, fun hm => (A3n g6 j3 hm (y2 hm)).1⟩;rw[←y1 hm];obtain⟨x, hx⟩ := A4l hm j2;have hget : s.H'.objs.get s.H.next = some x := by rw[hx];exact A1q _ _
          rw[y1 hm, hget];exact g6 _ _ (by rw[y1 hm];exact hget)
        · cases hh : ρ1 s.H.next k with
          | none => rfl
          | some L =>
            have hnone := j6 hm;rcases r3.grows _ _ _ hh with h|h|⟨k', L', h⟩
            · rw[hnone k]at h;cases h
            · obtain⟨x, hx⟩ := A4l (C9g j1 hm) j2
              rw[hx, C4h]at k2;omega
            · rw[hnone k']at h;cases h
      · refine⟨by rw[f2];exact hH0, g7, fun hu => ?_⟩
        rw[A6q]at hu;cases hu
      · obtain⟨k1, k2, k3, k4⟩ := g8 s hs
        exact⟨by omega, k3, fun _ hon2 => ⟨k1 hon2, fun _ => k4⟩⟩
  cases hon':st.on with
  | false=>
   simp only[Bool.false_eq_true,if_false];obtain⟨v1,v2⟩:=hoff hon';rw[f2]at v2;exact fin ρ undef w (by rw[v1];exact A30) (by rw[v2];exact e6) (Trans.refl B Hc.next ρ w) (by rw[v2];exact Nat.le_refl _) (fun s hs hu o2 j1 j3 hon2 j2 hg=>by rw[v2];exact hg)
  | true=>
   simp only[if_true];left;have hop:=hon hon';rw[f2,B1h hsees]at hop;have hcn:=A57 hn hop;refine op_wp hcall e6 (C48 hN hb e8 e6 hop) (fun ρ1 v1 w1 r1 r2 r3=>?_);refine fin ρ1 v1 w1 r1 r2 r3 hcn (fun s hs hu o2 j1 j3 hon2 j2 hg=>?_);have hpend:∀p,A8y all s=some p→p.at_=s.i→C4m P call all st.H' p:=by
    intro p hp hpi;obtain⟨n1,n2,hn12⟩:=List.append_of_mem hs;have hre:=X.pend n1 s (n2++st :: l) (by rw[e1,hn12];simp) p hp n2 st l rfl ⟨o,ho,hE,hon'⟩;rcases hre with⟨z,hz,hze,hzb⟩|h
    ·rw[hpi]at hzb
     have hzS:also S st.i z.i=true:=by
      simp only[List.mem_append,List.mem_singleton]at hz;rcases hz with hz|rfl
      ·obtain⟨oz,z1,z2,_⟩:=hze
       exact B5b (e3 z (by rw[hn12];simp[hz]) ⟨oz,z1,z2⟩)
      ·exact A6q _ _
     have:=hS' _ _ hzS hzb;rw[hu]at this;cases this
    ·exact h
   refine⟨fun hM=>?_,fun hM=>?_⟩
   ·obtain⟨x,hx⟩:=A4l hM j2
    have hget:s.H'.objs.get s.H.next=some x:=by rw[hx];exact A1q _ _
    have:=hpend (.made s.i s.H.next x) (by simp[A8y,j1,j3,hon2,hM,hget]) rfl;rw[hget];exact this
   ·cases hR:isRead o2 with
    | true=>
     obtain⟨o3,H3,y1,y2⟩:=hpend (.read s.i s.F s.v) (by simp[A8y,j1,j3,hon2,hM,hR]) rfl;rw[j1]at y1;injection y1 with y1;subst y1
     exact(A3n (HGrow.refl _) j3 hM y2).1
    | false=>exact pure_any j3 hM hR j2
def left(S:Nat→Bool):List St→Nat
 | []=>0
 | s :: l=>(bif S s.i then 0 else 1)+left S l
theorem left_le{S:Nat→Bool}{i:Nat}:∀{l:List St},left (also S i) l≤left S l
 | []=>Nat.le_refl _
 | s :: l=>by
  simp only[left];have:=left_le (S:=S) (i:=i) (l:=l);have h2:(bif also S i s.i then 0 else 1)≤(bif S s.i then 0 else 1:Nat):=by
   cases h:S s.i with
   | true=>rw[B5b h];exact Nat.le_refl _
   | false=>cases also S i s.i<;>simp
  omega
theorem C30{S:Nat→Bool}{i:Nat}(hun:S i=false):∀{l:List St},(∃s∈l,s.i=i)→left (also S i) l<left S l
 | [],h=>by obtain⟨s,h,_⟩:=h;cases h
 | s :: l,h=>by
  simp only[left];by_cases hi:s.i=i
  ·rw[hi,A6q,hun]
   have:=left_le (S:=S) (i:=i) (l:=l);simp only[cond_true,cond_false];omega
  ·obtain⟨z,hz,hzi⟩:=h
   rcases List.mem_cons.1 hz with rfl|hz
   ·exact absurd hzi hi
   ·have:=C30 hun (l:=l) ⟨z,hz,hzi⟩
    rw[A9u S hi];omega
theorem B00{S:Nat→Bool}:∀{l:List St},left S l=0→∀s∈l,S s.i=true
 | [],_,s,h=>by cases h
 | z :: l,e,s,h=>by
  simp only[left]at e;rcases List.mem_cons.1 h with rfl|h
  ·cases hh:S s.i with
   | true=>rfl
   | false=>rw[hh]at e;simp at e
  ·exact B00 (by omega) s h
theorem Fix.any(X:Fix P call all bs nt tr F0 F' H0 H')(hN:B6m P)(hb:A1v P call)(hn:A9m call)(hcall:B8b P call){Q:Exit→Act→World→Prop}
  (hQ:∀ρ' a' w',FRel ρ' F' a'→a'.tmps.size=nt→a'.defers=[]→HRel B ρ' H' w'→Trans B H0.next ρ0 w0 ρ' w'→Q .normal a' w'):
  ∀(fuel:Nat) (listed:Array Bool) (S:Nat→Bool) (a:Act) (w:World),listed.size=all.size→(∀j,j<all.size→listed.getD j true=S j∧listed.getD j false=S j)→left S tr≤fuel→Inv P call all bs nt tr F0 F' H0 H' B ρ0 w0 S a w→
   wpAny P .any all Q fuel listed a w:=by
 have hend:∀(S:Nat→Bool) (a:Act) (w:World),(∀s∈tr,S s.i=true)→Inv P call all bs nt tr F0 F' H0 H' B ρ0 w0 S a w→Q .normal a w:=by
  intro S a w hall I;obtain⟨⟨t1,t2,Fm,Hc,ρ,e1,e2,e3,e4,e5,e6,e7,e8,e9⟩,hS,hsz,hdf⟩:=I;have ht2:t2=[]:=by
   cases t2 with
   | nil=>rfl
   | cons s l=>
    have h1:=e2 s List.mem_cons_self;rw[hall s (by rw[e1];simp)]at h1;cases h1
  subst ht2;obtain⟨h1,h2⟩:=e5;subst h2;refine hQ ρ a w (FRel.same e8 (fun t=>?_)) hsz hdf e6 e7;rw[B7q X.linked];exact A3x (fun s hs _=>by rw[hall s hs];rfl) rfl
 have hnil:∀(listed:Array Bool) (S:Nat→Bool),(∀j,j<all.size→listed.getD j true=S j∧listed.getD j false=S j)→Region.ready .any all listed=[]→∀j,j<all.size→S j=true:=by
  intro listed S hl hr j
  induction j using Nat.strongRecOn with
  | _ j ih=>
   intro hj;cases hh:S j with
   | true=>rfl
   | false=>
    have:j∈Region.ready .any all listed:=by
     refine mem_ready.2 ⟨by rw[(hl j hj).1];exact hh,all[j],by simp[hj],fun e he hb=>?_⟩;have ho:all[j]?=some all[j]:=by simp[hj]
     have hlt:=(A84 X.closed ho).2 e he hb;rw[(hl e.on (by omega)).2];exact ih e.on hlt (by omega)
    rw[hr]at this;cases this
 have hmem:∀s∈tr,s.i<all.size:=by
  intro s hs;obtain⟨o,ho,_⟩:=X.ok s hs;exact(Array.getElem?_eq_some_iff.1 ho).1
 intro fuel
 induction fuel with
 | zero=>
  intro listed S a w hsz hl hleft I;have hall:=B00 (Nat.le_zero.1 hleft);refine⟨?_,hend S a w hall I⟩;cases hr:Region.ready .any all listed with
  | nil=>rfl
  | cons j r=>
   have hj:j∈Region.ready .any all listed:=by rw[hr];exact List.mem_cons_self
   obtain⟨h1,o,h2,_⟩:=mem_ready.1 hj;have hlt:=(Array.getElem?_eq_some_iff.1 h2).1;obtain⟨s,hs,rfl⟩:=X.full j hlt;rw[(hl _ hlt).1,hall s hs]at h1;cases h1
 | succ fuel ih=>
  intro listed S a w hsz hl hleft I;refine⟨fun hr=>?_,fun i hi=>?_⟩
  ·exact hend S a w (fun s hs=>hnil listed S hl hr s.i (hmem s hs)) I
  ·obtain⟨h1,o,h2,h3⟩:=mem_ready.1 hi
   have hlt:=(Array.getElem?_eq_some_iff.1 h2).1;rw[(hl i hlt).1]at h1;have hstep:=X.step hN hb hn hcall I h2 h1 (fun e he hb=>by
    have:=h3 e he hb;rw[←(hl e.on (by have:=(A84 X.closed h2).2 e he hb;omega)).2];exact this) (Q:=Q)
   refine wpOp_mono (fun a' w' I'=>?_) hstep;refine ih (listed.setIfInBounds i true) (also S i) a' w' (by simp[hsz]) (fun j hj=>?_) ?_ I'
   ·by_cases h:j=i
    ·subst h
     rw[A6q];simp[Array.getD_eq_getD_getElem?,hsz,hj]
    ·rw[A9u S h,getD_set_ne _ (Ne.symm h),getD_set_ne _ (Ne.symm h)]
     exact hl j hj
   ·have:=C30 h1 (l:=tr) (X.full i hlt)
    omega
theorem B25:∀(l:List St),left (fun _=>false) l=l.length
 | []=>rfl
 | s :: l=>by simp only[left,B25 l,cond_false,List.length_cons];omega
theorem draw_ok(hm:P.follows .mixedOrders=true)(hN:B6m P):DrawOk P A8v:=by
 intro call hb hn hcall id all nt hs hd B F F' H H' ρ a w e hF hsz hdf hH;unfold region at e;simp only[cond_true]at e;obtain⟨tr,t1,t2,t3,_,t5⟩:=C3l (all:=all) e;unfold A8v at hs;simp only[Bool.and_eq_true]at hs;obtain⟨⟨⟨s1,s2⟩,s3⟩,s4⟩:=hs;rw[show all.toList.toArray=all from Array.toArray_toList]at s1 s2 s3 s4;rw[←t1]at s2 s3;have X:Fix P call all (A6j all.toList) nt tr F F' H H':=by
  refine⟨t2,t3,t5,ords_of s3,s1,fun j hj=>?_,hd⟩;have:=List.all_eq_true.1 s2 j (List.mem_range.2 hj)
  simpa using this
 have hlen:tr.length≤all.size:=by
  have:=Nat.le_of_ble_eq_true s4
  rwa [←t1,List.length_map]at this
 refine wp_region_any hm ?_;have hH':HRel B ρ H { w with drawn:=w.drawn+1 }:=hH.drew _;obtain⟨m1,m2,Fm,Hm,g1,g2,g3,g4,g5,g6,g7,g8⟩:=C0a (P:=P) (call:=call) t2 t3 hH';refine X.any (ρ0:=ρ) (w0:=w) hN hb hn hcall (B:=B) (fun ρ' a' w' k1 k2 k3 k4 k5=>⟨rfl,ρ',k1,k2,k3,k4,k5⟩) all.size _ (fun _=>false) a _ (by simp) (fun j hj=>by simp[Array.getD_eq_getD_getElem?,hj]) (by rw[B25];exact hlen) ?_;refine⟨⟨m1,m2,Fm,Hm,ρ,g1,fun _ _=>rfl,fun s hs h=>absurd h (g3 s hs),g4,g2,g5,(Trans.refl B H.next ρ w).drew _,?_,fun s hs=>?_⟩,fun j i h=>(by cases h),hsz,hdf⟩
 ·rw[B3y (fun _ _=>rfl)]
  exact hF
 ·obtain⟨k1,k2,k3,k4⟩:=g8 s hs
  exact⟨k2,k3,fun _ hon=>⟨k1 hon,fun _=>k4⟩⟩
end
def noNumB (P:Program):Bool:=P.funcs.toList.all fun fn=>!(fn.name == "runtime.NumGoroutine")
def fnB(fn:Func):Bool:=
 match fn.body with
 | some c=>codeOk A8v fn.ntmps c
 | none=>true
def progB(P:Program):Bool:=P.funcs.toList.all fnB
theorem C7i{P:Program}(h:noNumB P=true):B6m P:=by
 intro f fn e;have hm:fn∈P.funcs.toList:=by
  obtain⟨h1,h2⟩:=Array.getElem?_eq_some_iff.1 e;rw[←h2];simp
 have:=List.all_eq_true.1 h fn hm
 simpa using this
theorem C0e{P:Program}(h:progB P=true):C06 P A8v:=by
 intro f fn c e hc;have hm:fn∈P.funcs.toList:=by
  obtain⟨h1,h2⟩:=Array.getElem?_eq_some_iff.1 e;rw[←h2];simp
 have:=List.all_eq_true.1 h fn hm;unfold fnB at this;rw[hc]at this;exact this
def Fit(P:Program):Prop:=noNumB P=true∧progB P=true∧P.follows .mixedOrders=true
theorem Fit.run_ok{P:Program}(h:Fit P){O:A1d}(hO:OrOk P O):∀n,RunOk P O A8v n:=Sh.run_ok (C7i h.1) hO (draw_ok h.2.2 (C7i h.1)) (C0e h.2.1)
theorem Fit.call_ok{P:Program}(h:Fit P){O:A1d}(hO:OrOk P O)(n:Nat):B8b P (call P O n):=(B9v hO (C0e h.2.1) (h.run_ok hO n)).2.2
theorem Fit.calls{P:Program}(h:Fit P){n:Nat}{f:FuncId}{v:Value}{H':AH}(e:call P mute n f [] empty=some (v,H'))(w:World):
  Calls P f #[] w fun r w'=>∃ρ v',r=.returned v'∧VRel ρ v v'∧HRel w.heap.size ρ H' w'∧Trans w.heap.size 0 (fun _ _=>none) w ρ w':=by
 have h0:HRel w.heap.size (fun _ _=>none) empty w:=by
  refine⟨Nat.le_refl _,?_,?_,?_,?_,?_,?_,?_,?_,?_⟩<;>intros<;>simp_all [empty,Tr.get]
 refine(h.call_ok .mute n f [] empty v H' e w.heap.size _ w [] VRels.nil h0).mono ?_;rintro r w' ⟨ρ,v',h1,h2,h3,h4⟩;exact⟨ρ,v',h1,h2,h3,h4⟩
theorem HRel.kept{B:Nat}{ρ:Map}{H:AH}{w w':World}(h:HRel B ρ H w)(hs:w.heap.size≤w'.heap.size)(hk:∀b,b<w.heap.size→w'.heap[b]?=w.heap[b]?):HRel B ρ H w' where
 base:=Nat.le_trans h.base hs
 rows g rs rw hg k r L hr hok hL:=(h.rows g rs rw hg k r L hr hok hL).mono (Map.le_refl ρ) (hk _ (h.lt _ _ _ hL).2)
 apart:=h.apart
 maps g es L hg hL:=(h.maps g es L hg hL).mono (Map.le_refl ρ) (hk _ (h.lt _ _ _ hL).2)
 mapsApart:=h.mapsApart
 mixed:=h.mixed
 lt g k L e:=⟨(h.lt g k L e).1,Nat.lt_of_lt_of_le (h.lt g k L e).2 hs⟩
 inH:=h.inH
 short:=h.short
 only:=h.only
def knows(f:FuncId):A1d:=fun g args H=>bif Nat.beq g f&&args.isEmpty then some (.bool true,H) else none
theorem Fit.knows{P:Program}(h:Fit P){n:Nat}{f:FuncId}(e:C58 (call P mute n f [] empty)=true):OrOk P (knows f):=by
 have hk:∀{g args H r},Sh.knows f g args H=some r→g=f∧args=[]∧r=(.bool true,H):=by
  intro g args H r e;unfold Sh.knows at e;obtain⟨hc,e⟩:=A3d e;simp only[Bool.and_eq_true]at hc;injection e with e
  exact⟨Nat.eq_of_beq_eq_true hc.1,List.isEmpty_iff.1 hc.2,e.symm⟩
 obtain⟨H1,hcall⟩:∃H1,call P mute n f [] empty=some (.bool true,H1):=by
  cases hc:call P mute n f [] empty with
  | none=>rw[hc]at e;cases e
  | some r=>
   obtain⟨v,H1⟩:=r;rw[hc]at e;cases v<;>simp[C58]at e;subst e;exact⟨H1,rfl⟩
 refine⟨fun g args H r e=>?_,fun g args H v H' e=>?_,fun g args H v H' e B ρ w args' hargs hH=>?_⟩
 ·obtain⟨rfl,rfl,rfl⟩:=hk e
  exact(B9v .mute (C0e h.2.1) (h.run_ok .mute n)).1 _ _ _ _ hcall
 ·obtain⟨rfl,rfl,h3⟩:=hk e
  injection h3 with _ h3
  rw[h3];exact Nat.le_refl _
 ·obtain⟨rfl,rfl,h3⟩:=hk e
  injection h3 with h3 h4
  subst h3 h4;unfold VRels at hargs;subst hargs;refine(h.calls hcall w).mono ?_;rintro r w' ⟨ρ1,v',h1,h2,h3,h4⟩;have hkeep:∀b,b<w.heap.size→w'.heap[b]?=w.heap[b]?:=fun b hb=>h4.keep b hb (.inl hb);refine⟨ρ,v',h1,(by unfold VRel at h2 ⊢;exact h2),hH.kept h4.size hkeep,?_⟩;exact⟨Map.le_refl ρ,fun _ _ _ e=>.inl e,fun _ _ _ e=>.inl e,h4.os,h4.tape,h4.output,h4.size,fun b hb _=>hkeep b hb⟩
def B8i(c c':A1d):Prop:=∀f args H r,c f args H=some r→c' f args H=some r
section
variable {P:Program} {c c':A1d}
theorem A1i(h:B8i c c'){F:Fr}{H:AH}{o:Oper}{r:Value×AH}(e:aop P c F H o=some r):aop P c' F H o=some r:=by
 unfold aop at e ⊢;cases hop:o.op<;>rw[hop]at e<;>simp only at e ⊢<;>try exact e
 case makeMap t r=>cases r<;>exact e
 case call cl=>
  obtain⟨args,h1,e1⟩:=Option.bind_eq_some_iff.1 e;simp only[h1,Option.bind_some];cases hc:cl.callee with
  | builtin b=>rw[hc]at e1;exact e1
  | value f=>
   rw[hc]at e1;simp only at e1 ⊢;obtain⟨g,h2,e2⟩:=Option.bind_eq_some_iff.1 e1;simp only[h2,Option.bind_some];unfold C4q at e2 ⊢;split at e2
   ·exact h _ _ _ _ e2
   ·cases e2
  | invoke x name=>
   rw[hc]at e1;simp only at e1 ⊢;obtain⟨g,h2,e2⟩:=Option.bind_eq_some_iff.1 e1;simp only[h2,Option.bind_some];unfold B3j at e2 ⊢;split at e2
   ·obtain⟨i,h3,e3⟩:=Option.bind_eq_some_iff.1 e2
    obtain⟨m,h4,e4⟩:=Option.bind_eq_some_iff.1 e3;simp only[h3,h4,Option.bind_some];obtain⟨hc,e5⟩:=A3d e4;rw[hc];simp only[cond_true];split at e5
    ·first|exact h _ _ _ _ e5|(simp only[*];exact h _ _ _ _ e5)
    ·cases e5
    ·obtain⟨x,hx,e6⟩:=Option.bind_eq_some_iff.1 e5
     simp only[*,Option.bind_some];exact h _ _ _ _ e6
    ·first|exact h _ _ _ _ e5|(simp only[*];exact h _ _ _ _ e5)
    ·cases e5
   ·cases e2
theorem A2y(h:B8i c c'){all:List Oper}{r:Fr×AH}:∀{l:List Oper} {F:Fr} {H:AH},A6o P c all l F H=some r→A6o P c' all l F H=some r
 | [],F,H,e=>e
 | o :: l,F,H,e=>by
  simp only[A6o]at e ⊢;split at e
  ·cases e
  ·rename_i hw;(try rw[hw]);exact A2y h e
  ·rename_i hw
   split at e
   ·cases e
   ·rename_i v H1 hop
    (try rw[hw])
    (try simp only)
    rw[A1i h hop];exact A2y h e
theorem A2n(h:B8i c c'){ops:List Oper}{H:AH}{b:Nat}:∀{ps r:List Pend},A8h P c ops H b ps=some r→A8h P c' ops H b ps=some r
 | [],r,e=>e
 | .read i F v :: ps,r,e=>by
  simp only[A8h]at e ⊢;cases hb:b.testBit i with
  | true=>rw[hb]at e;exact A2n h e
  | false=>
   rw[hb]at e;simp only[cond_false]at e ⊢;split at e
   ·rename_i o ho
    split at e
    ·rename_i v' H2 hop
     obtain⟨hv,e1⟩:=A3d e;obtain⟨l,h1,h2⟩:=Option.map_eq_some_iff.1 e1
     (try rw[ho])
     simp only[A1i h hop,hv,cond_true,A2n h h1,Option.map_some,h2]
    ·cases e
   ·cases e
 | .made i g x :: ps,r,e=>by
  simp only[A8h]at e ⊢;cases hb:b.testBit i with
  | true=>rw[hb]at e;exact A2n h e
  | false=>
   rw[hb]at e;simp only[cond_false]at e ⊢;split at e
   ·rename_i y hy
    obtain⟨hv,e1⟩:=A3d e;obtain⟨l,h1,h2⟩:=Option.map_eq_some_iff.1 e1;simp only[hv,cond_true,A2n h h1,Option.map_some,h2]
   ·cases e
theorem A4d(h:B8i c c'){all:List Oper}{bs:List Nat}{r:Fr×AH}:∀{l:List Nat} {ps:List Pend} {F:Fr} {H:AH},A4e P c all bs l ps F H=some r→A4e P c' all bs l ps F H=some r
 | [],ps,F,H,e=>e
 | i :: l,ps,F,H,e=>by
  simp only[A4e]at e ⊢;split at e
  ·cases e
  ·rename_i o ho
   (try rw[ho])
   (try simp only)
   split at e
   ·cases e
   ·rename_i hw
    (try rw[hw])
    (try simp only)
    exact A4d h e
   ·rename_i hw
    (try rw[hw])
    (try simp only)
    split at e
    ·cases e
    ·rename_i v H1 hop
     rw[A1i h hop]
     (try simp only)
     cases hx:isEff o with
     | true=>
      rw[hx]at e;simp only[cond_true]at e ⊢;split at e
      ·rename_i ps' hre
       rw[A2n h hre];exact A4d h e
      ·cases e
     | false=>
      rw[hx]at e;simp only[cond_false]at e ⊢;cases hy:A2d o with
      | true=>
       rw[hy]at e;simp only[cond_true]at e ⊢;split at e
       ·rename_i x hxx
        (try simp only[hxx])
        exact A4d h e
       ·cases e
      | false=>
       rw[hy]at e;simp only[cond_false]at e ⊢;cases hz:isRead o<;>rw[hz]at e<;>exact A4d h e
theorem B5h(h:B8i c c'){ops:List Oper}{draw:Bool}{F:Fr}{H:AH}{r:Fr×AH}(e:region P c ops draw F H=some r):region P c' ops draw F H=some r:=by
 cases draw with
 | false=>exact A2y h e
 | true=>exact A4d h e
theorem C5m{O:A1d}{go go':List Item→Fr→AH→Option (Fr×AH)}(h:∀S F H r,go S F H=some r→go' S F H=some r):B8i (enter P O go) (enter P O go'):=by
 intro f args H r e;unfold enter at e ⊢;split at e
 ·rename_i hr;(try rw[hr]);exact e
 ·rename_i hr
  (try rw[hr])
  (try simp only)
  split at e
  ·rename_i fn hf
   split at e
   ·rename_i b hb
    obtain⟨hc,e1⟩:=A3d e;rw[hc];simp only[cond_true];split at e1
    ·rename_i F' H1 hg
     rw[h _ _ _ _ hg];exact e1
    ·cases e1
   ·cases e
  ·cases e
theorem C6g{O:A1d}:∀(n:Nat) (S:List Item) (F:Fr) (H:AH) (r:Fr×AH),run P O n S F H=some r→run P O (n+1) S F H=some r
 | 0,S,F,H,r,e=>by cases e
 | n+1,S,F,H,r,e=>by
  have ih:=C6g (O:=O) n;cases S with
  | nil=>exact e
  | cons x S=>
   cases x with
   | inBlock id=>exact ih _ _ _ _ e
   | inLoop c=>exact ih _ _ _ _ e
   | code c=>
    cases c with
    | skip=>exact ih _ _ _ _ e
    | seq a b=>exact ih _ _ _ _ e
    | block id c=>exact ih _ _ _ _ e
    | loop c=>exact ih _ _ _ _ e
    | ret=>exact e
    | cond x a b=>
     simp only[run]at e;show (match ev F x with|some (.bool true)=>run P O (n+1) (.code a :: S) F H|some (.bool false)=>run P O (n+1) (.code b :: S) F H|_=>none)=_;split at e
     ·rename_i hx;(try rw[hx]);exact ih _ _ _ _ e
     ·rename_i hx;(try rw[hx]);exact ih _ _ _ _ e
     ·cases e
    | exit id=>
     simp only[run]at e;show (match exitTo id S with|some S'=>run P O (n+1) S' F H|none=>none)=_;split at e
     ·rename_i hx;(try rw[hx]);exact ih _ _ _ _ e
     ·cases e
    | region id ops draw=>
     simp only[run]at e;show (match region P (enter P O (run P O (n+1))) ops.toList draw F H with|some (F',H')=>run P O (n+1) S F' H'|none=>none)=_;split at e
     ·rename_i F1 H1 hr
      rw[B5h (C5m ih) hr];exact ih _ _ _ _ e
     ·cases e
    | _=>cases e
   | _=>cases e
theorem C3n{O:A1d}{n k:Nat}(h:n≤k){S:List Item}{F:Fr}{H:AH}{r:Fr×AH}(e:run P O n S F H=some r):run P O k S F H=some r:=by
 induction h with
 | refl=>exact e
 | step _ ih=>exact C6g _ _ _ _ _ ih
theorem A4c{O:A1d}{n k:Nat}(h:n≤k):B8i (call P O n) (call P O k):=C5m fun _ _ _ _ e=>C3n h e
end
def wp(P:Program)(O:A1d)(S:List Item)(Q:Fr→AH→Prop)(F:Fr)(H:AH):Prop:=∃n F' H',run P O n S F H=some (F',H')∧Q F' H'
def Does(P:Program)(O:A1d)(f:FuncId)(args:List Value)(H:AH)(v:Value)(H':AH):Prop:=∃n,call P O n f args H=some (v,H')
def wpo(P:Program)(O:A1d)(all ops:List Oper)(K:Fr→AH→Prop)(F:Fr)(H:AH):Prop:=∃n F' H',A6o P (call P O n) all ops F H=some (F',H')∧K F' H'
def wpd(P:Program)(O:A1d)(all:List Oper)(bs l:List Nat)(ps:List Pend)(K:Fr→AH→Prop)(F:Fr)(H:AH):Prop:=∃n F' H',A4e P (call P O n) all bs l ps F H=some (F',H')∧K F' H'
def OpTo(P:Program)(O:A1d)(F:Fr)(H:AH)(o:Oper)(v:Value)(H':AH):Prop:=∃n,aop P (call P O n) F H o=some (v,H')
section
variable {P:Program} {O:A1d} {S:List Item} {Q K:Fr→AH→Prop} {F:Fr} {H:AH}
theorem A05{S S':List Item}{F F':Fr}{H H':AH}(h0:run P O 0 S F H=none)(h:∀n,run P O (n+1) S F H=run P O n S' F' H'):wp P O S Q F H↔wp P O S' Q F' H':=by
 constructor
 ·rintro⟨n,F2,H2,h1,h2⟩
  cases n with
  | zero=>rw[h0]at h1;cases h1
  | succ n=>exact⟨n,F2,H2,by rw[←h];exact h1,h2⟩
 ·rintro⟨n,F2,H2,h1,h2⟩
  exact⟨n+1,F2,H2,by rw[h];exact h1,h2⟩
theorem wp_end{S:List Item}(h0:run P O 0 S F H=none)(h:∀n,run P O (n+1) S F H=some (F,H)):wp P O S Q F H↔Q F H:=by
 constructor
 ·rintro⟨n,F2,H2,h1,hq⟩
  cases n with
  | zero=>rw[h0]at h1;cases h1
  | succ n=>
   rw[h]at h1;injection h1 with h1
   injection h1 with h1 h2
   subst h1 h2;exact hq
 ·intro hq
  exact⟨1,F,H,h 0,hq⟩
theorem wp_nil:wp P O [] Q F H↔Q F H:=wp_end rfl fun _=>rfl
theorem wp_ret:wp P O (.code .ret :: S) Q F H↔Q F H:=wp_end rfl fun _=>rfl
theorem wp_skip:wp P O (.code .skip :: S) Q F H↔wp P O S Q F H:=A05 rfl fun _=>rfl
theorem wp_seq{a b:Code}:wp P O (.code (.seq a b) :: S) Q F H↔wp P O (.code a :: .code b :: S) Q F H:=A05 rfl fun _=>rfl
theorem wp_block{id:Nat}{c:Code}:wp P O (.code (.block id c) :: S) Q F H↔wp P O (.code c :: .inBlock id :: S) Q F H:=A05 rfl fun _=>rfl
theorem wp_inLoop{c:Code}:wp P O (.inLoop c :: S) Q F H↔wp P O (.code c :: .inLoop c :: S) Q F H:=A05 rfl fun _=>rfl
theorem wp_loop{c:Code}:wp P O (.code (.loop c) :: S) Q F H↔wp P O (.inLoop c :: S) Q F H:=by
 rw[A05 (S':=.code c :: .inLoop c :: S) (F':=F) (H':=H) rfl fun _=>rfl];exact wp_inLoop.symm
theorem B5a{id:Nat}:wp P O (.inBlock id :: S) Q F H↔wp P O S Q F H:=A05 rfl fun _=>rfl
theorem wp_exit{id:Nat}:wp P O (.code (.exit id) :: S) Q F H↔∃S',exitTo id S=some S'∧wp P O S' Q F H:=by
 cases h:exitTo id S with
 | none=>
  constructor
  ·rintro⟨n,F2,H2,h1,_⟩
   cases n with
   | zero=>cases h1
   | succ n=>
    have:run P O (n+1) (.code (.exit id) :: S) F H=none:=by
     show (match exitTo id S with|some S'=>run P O n S' F H|none=>none)=_;rw[h]
    rw[this]at h1;cases h1
  ·rintro⟨S',h1,_⟩;cases h1
 | some S'=>
  rw[A05 (S':=S') (F':=F) (H':=H) rfl fun n=>by
   show (match exitTo id S with|some S'=>run P O n S' F H|none=>none)=_;rw[h]]
  simp
theorem wp_cond{c:Operand}{a b:Code}:wp P O (.code (.cond c a b) :: S) Q F H↔∃x,ev F c=some (.bool x)∧(x=true→wp P O (.code a :: S) Q F H)∧(x=false→wp P O (.code b :: S) Q F H):=by
 have hrun:∀n,run P O (n+1) (.code (.cond c a b) :: S) F H=(match ev F c with|some (.bool true)=>run P O n (.code a :: S) F H|some (.bool false)=>run P O n (.code b :: S) F H|_=>none):=fun n=>rfl;constructor
 ·rintro⟨n,F2,H2,h1,hq⟩
  cases n with
  | zero=>cases h1
  | succ n=>
   rw[hrun]at h1;split at h1
   ·rename_i h;exact⟨true,h,fun _=>⟨n,F2,H2,h1,hq⟩,fun h=>by cases h⟩
   ·rename_i h;exact⟨false,h,(fun h=>by cases h),fun _=>⟨n,F2,H2,h1,hq⟩⟩
   ·cases h1
 ·rintro⟨x,hx,h1,h2⟩
  cases x with
  | true=>
   obtain⟨n,F2,H2,h3,hq⟩:=h1 rfl;exact⟨n+1,F2,H2,by rw[hrun,hx];exact h3,hq⟩
  | false=>
   obtain⟨n,F2,H2,h3,hq⟩:=h2 rfl;exact⟨n+1,F2,H2,by rw[hrun,hx];exact h3,hq⟩
theorem B5z{id:Nat}{ops:Array Oper}{draw:Bool}:wp P O (.code (.region id ops draw) :: S) Q F H↔∃n F1 H1,region P (call P O n) ops.toList draw F H=some (F1,H1)∧wp P O S Q F1 H1:=by
 have hrun:∀n,run P O (n+1) (.code (.region id ops draw) :: S) F H=(match region P (call P O n) ops.toList draw F H with|some (F',H')=>run P O n S F' H'|none=>none):=fun n=>rfl;constructor
 ·rintro⟨n,F2,H2,h1,hq⟩
  cases n with
  | zero=>cases h1
  | succ n=>
   rw[hrun]at h1;split at h1
   ·rename_i F1 H1 h;exact⟨n,F1,H1,h,n,F2,H2,h1,hq⟩
   ·cases h1
 ·rintro⟨n,F1,H1,h1,k,F2,H2,h2,hq⟩
  refine⟨n+k+1,F2,H2,?_,hq⟩;rw[hrun,B5h (A4c (Nat.le_add_right n k)) h1];exact C3n (Nat.le_add_left k n) h2
theorem wp_region{id:Nat}{ops:Array Oper}:wp P O (.code (.region id ops false) :: S) Q F H↔wpo P O ops.toList ops.toList (wp P O S Q) F H:=B5z
theorem C2a{id:Nat}{ops:Array Oper}:wp P O (.code (.region id ops true) :: S) Q F H↔wpd P O ops.toList (A6j ops.toList) (A53 ops.toList (A6j ops.toList)) [] (wp P O S Q) F H:=B5z
theorem A5x{all:List Oper}:wpo P O all [] K F H↔K F H:=by
 constructor
 ·rintro⟨n,F2,H2,h1,hq⟩
  injection h1 with h1
  injection h1 with h1 h2
  subst h1 h2;exact hq
 ·intro h;exact⟨0,F,H,rfl,h⟩
theorem A9x{all ops:List Oper}{o:Oper}:wpo P O all (o :: ops) K F H↔∃b,A3m all F o=some b∧(b=true→∃v H1,OpTo P O F H o v H1∧wpo P O all ops K (put F o.dst v) H1)∧(b=false→wpo P O all ops K (put F o.dst undef) H):=by
 constructor
 ·rintro⟨n,F2,H2,h1,hq⟩
  simp only[A6o]at h1;split at h1
  ·cases h1
  ·rename_i hw;exact⟨false,hw,(fun h=>by cases h),fun _=>⟨n,F2,H2,h1,hq⟩⟩
  ·rename_i hw
   split at h1
   ·cases h1
   ·rename_i v H1 hop
    exact⟨true,hw,fun _=>⟨v,H1,⟨n,hop⟩,n,F2,H2,h1,hq⟩,fun h=>by cases h⟩
 ·rintro⟨b,hw,h1,h2⟩
  cases b with
  | true=>
   obtain⟨v,H1,⟨n,hn⟩,k,F2,H2,h3,hq⟩:=h1 rfl;refine⟨n+k,F2,H2,?_,hq⟩;simp only[A6o,hw,A1i (A4c (Nat.le_add_right n k)) hn];exact A2y (A4c (Nat.le_add_left k n)) h3
  | false=>
   obtain⟨k,F2,H2,h3,hq⟩:=h2 rfl;refine⟨k,F2,H2,?_,hq⟩;simp only[A6o,hw];exact h3
theorem A7o{all ops:List Oper}{o:Oper}{r:Option (Value×AH)}(hg:o.guard=none)(hr:∀c,aop P c F H o=r):wpo P O all (o :: ops) K F H↔∃v H1,r=some (v,H1)∧wpo P O all ops K (put F o.dst v) H1:=by
 rw[A9x];have hw:A3m all F o=some true:=by simp[A3m,hg]
 rw[hw];simp only[Option.some.injEq,OpTo,hr];constructor
 ·rintro⟨b,rfl,h,_⟩
  obtain⟨v,H1,⟨_,h1⟩,h2⟩:=h rfl;exact⟨v,H1,h1,h2⟩
 ·rintro⟨v,H1,h1,h2⟩
  exact⟨true,rfl,fun _=>⟨v,H1,⟨0,h1⟩,h2⟩,fun h=>by cases h⟩
theorem A3i{all ops:List Oper}{o:Oper}{r:Option Value}(hg:o.guard=none)(hr:∀c,aop P c F H o=quiet H r):wpo P O all (o :: ops) K F H↔∃v,r=some v∧wpo P O all ops K (put F o.dst v) H:=by
 rw[A7o hg hr];constructor
 ·rintro⟨v,H1,h1,h2⟩
  obtain⟨h3,rfl⟩:=A3e h1;exact⟨v,h3,h2⟩
 ·rintro⟨v,h1,h2⟩
  exact⟨v,H,by rw[h1];rfl,h2⟩
section
variable {all ops:List Oper} {dst:Option Tmp} {ty:TypeId} {pos:String} {aft:Array Edge}
theorem bind_ex{α β:Type}{x:Option α}{f:α→Option β}{y:β}:x.bind f=some y↔∃a,x=some a∧f a=some y:=Option.bind_eq_some_iff
theorem o_move{x:Operand}:wpo P O all (⟨dst,.move x,ty,pos,aft,none⟩ :: ops) K F H↔∃v,ev F x=some v∧wpo P O all ops K (put F dst v) H:=A3i rfl fun _=>rfl
theorem C0g{x:Operand}:wpo P O all (⟨dst,.assign x,ty,pos,aft,none⟩ :: ops) K F H↔∃v,ev F x=some v∧wpo P O all ops K (put F dst v) H:=A3i rfl fun _=>rfl
theorem o_load{t:TypeId}{x:Operand}:wpo P O all (⟨dst,.load t x,ty,pos,aft,none⟩ :: ops) K F H↔∃v,((ev F x).bind fun a=>A7e P t H a)=some v∧wpo P O all ops K (put F dst v) H:=A3i rfl fun _=>by
 show _=quiet H _;unfold aop;simp only;simp only[quiet,Option.map_bind,Function.comp_def]
theorem C25{op:BinOp}{t u:TypeId}{x y:Operand}:wpo P O all (⟨dst,.binOp op t x y u,ty,pos,aft,none⟩ :: ops) K F H↔∃v,((ev F x).bind fun a=>(ev F y).bind fun b=>abin P t (isConst x||isConst y) op a b)=some v∧wpo P O all ops K (put F dst v) H:=A3i rfl fun _=>by
 show _=quiet H _;unfold aop;simp only;simp only[quiet,Option.map_bind,Function.comp_def]
theorem o_unOp{op:UnOp}{t:TypeId}{x:Operand}:wpo P O all (⟨dst,.unOp op t x,ty,pos,aft,none⟩ :: ops) K F H↔∃v,((ev F x).bind fun a=>aun op a)=some v∧wpo P O all ops K (put F dst v) H:=A3i rfl fun _=>by
 show _=quiet H _;unfold aop;simp only;simp only[quiet,Option.map_bind,Function.comp_def]
theorem D9c{t:TypeId}{ps:Array (Nat×Operand)}:wpo P O all (⟨dst,.build t ps,ty,pos,aft,none⟩ :: ops) K F H↔∃v,((evps F ps.toList).bind fun ps=>A9n P t ps)=some v∧wpo P O all ops K (put F dst v) H:=A3i rfl fun _=>by
 show _=quiet H _;unfold aop;simp only;simp only[quiet,Option.map_bind,Function.comp_def]
theorem C0y{t:TypeId}{x:Operand}{lo hi mx:Option Operand}:wpo P O all (⟨dst,.slice t x lo hi mx,ty,pos,aft,none⟩ :: ops) K F H↔∃v,((ev F x).bind fun x=>(evo F lo).bind fun lo=>(evo F hi).bind fun hi=>(evo F mx).bind fun mx=>A7s P t H x lo hi mx)=some v∧wpo P O all ops K (put F dst v) H:=A3i rfl fun _=>by
 show _=quiet H _;unfold aop;simp only;simp only[quiet,Option.map_bind,Function.comp_def]
theorem B9k{t:TypeId}{x:Operand}{f:Nat}:wpo P O all (⟨dst,.fieldAddr t x f,ty,pos,aft,none⟩ :: ops) K F H↔∃v,((ev F x).bind fun x=>A0b P t f x)=some v∧wpo P O all ops K (put F dst v) H:=A3i rfl fun _=>by
 show _=quiet H _;unfold aop;simp only;simp only[quiet,Option.map_bind,Function.comp_def]
theorem C32{t:TypeId}{x:Operand}{f:Nat}:wpo P O all (⟨dst,.field t x f,ty,pos,aft,none⟩ :: ops) K F H↔∃v,((ev F x).bind fun x=>C9f P t f x)=some v∧wpo P O all ops K (put F dst v) H:=A3i rfl fun _=>by
 show _=quiet H _;unfold aop;simp only;simp only[quiet,Option.map_bind,Function.comp_def]
theorem B0g{t:TypeId}{x i:Operand}:wpo P O all (⟨dst,.indexAddr t x i,ty,pos,aft,none⟩ :: ops) K F H↔∃v,((ev F x).bind fun x=>(ev F i).bind fun i=>A4b P t x i)=some v∧wpo P O all ops K (put F dst v) H:=A3i rfl fun _=>by
 show _=quiet H _;unfold aop;simp only;simp only[quiet,Option.map_bind,Function.comp_def]
theorem C78{t:TypeId}{x i:Operand}:wpo P O all (⟨dst,.index t x i,ty,pos,aft,none⟩ :: ops) K F H↔∃v,((ev F x).bind fun x=>(ev F i).bind fun i=>B6c P t x i)=some v∧wpo P O all ops K (put F dst v) H:=A3i rfl fun _=>by
 show _=quiet H _;unfold aop;simp only;simp only[quiet,Option.map_bind,Function.comp_def]
theorem C4j{t:TypeId}{m k:Operand}{ok:Bool}:wpo P O all (⟨dst,.lookup t m k ok,ty,pos,aft,none⟩ :: ops) K F H↔∃v,((ev F m).bind fun m=>(ev F k).bind fun k=>A4r P t m k ok H)=some v∧wpo P O all ops K (put F dst v) H:=A3i rfl fun _=>by
 show _=quiet H _;unfold aop;simp only;simp only[quiet,Option.map_bind,Function.comp_def]
theorem D5b{t:TypeId}:wpo P O all (⟨dst,.alloc t,ty,pos,aft,none⟩ :: ops) K F H↔∃v H1,((zeroAt P t).bind fun z=>anew P t H z)=some (v,H1)∧wpo P O all ops K (put F dst v) H1:=A7o rfl fun _=>rfl
theorem o_box{t:TypeId}{x:Operand}:wpo P O all (⟨dst,.box t x,ty,pos,aft,none⟩ :: ops) K F H↔∃v H1,((ev F x).bind fun v=>anew P t H v)=some (v,H1)∧wpo P O all ops K (put F dst v) H1:=A7o rfl fun _=>rfl
theorem B4c{t:TypeId}{n:Nat}{ps:Array (Nat×Operand)}:wpo P O all (⟨dst,.buildSlice t n ps,ty,pos,aft,none⟩ :: ops) K F H↔∃v H1,((evps F ps.toList).bind fun ps=>A4a P t n ps H)=some (v,H1)∧wpo P O all ops K (put F dst v) H1:=A7o rfl fun _=>rfl
theorem C02{t:TypeId}{a x:Operand}:wpo P O all (⟨dst,.store t a x,ty,pos,aft,none⟩ :: ops) K F H↔∃v H1,((ev F a).bind fun a=>(ev F x).bind fun v=>unit (A7d P t H v a))=some (v,H1)∧wpo P O all ops K (put F dst v) H1:=A7o rfl fun _=>rfl
theorem B4j{t:TypeId}{l c:Operand}:wpo P O all (⟨dst,.makeSlice t l c,ty,pos,aft,none⟩ :: ops) K F H↔∃v H1,((ev F l).bind fun l=>(ev F c).bind fun c=>A4f P t l c H)=some (v,H1)∧wpo P O all ops K (put F dst v) H1:=A7o rfl fun _=>rfl
theorem B6i{t:TypeId}{m k x:Operand}:wpo P O all (⟨dst,.mapUpdate t m k x,ty,pos,aft,none⟩ :: ops) K F H↔∃v H1,((ev F m).bind fun m=>(ev F k).bind fun k=>(ev F x).bind fun x=>unit (A3g P t m k x H))=some (v,H1)∧wpo P O all ops K (put F dst v) H1:=A7o rfl fun _=>rfl
theorem C8p{t:TypeId}{m k x:Operand}:wpo P O all (⟨dst,.insert t m k x,ty,pos,aft,none⟩ :: ops) K F H↔∃v H1,((ev F m).bind fun m=>(ev F k).bind fun k=>(ev F x).bind fun x=>unit (A3g P t m k x H))=some (v,H1)∧wpo P O all ops K (put F dst v) H1:=A7o rfl fun _=>rfl
theorem B08{s d:TypeId}{x:Operand}:wpo P O all (⟨dst,.convert s d x,ty,pos,aft,none⟩ :: ops) K F H↔∃v H1,((ev F x).bind fun a=>A2i P s d a H)=some (v,H1)∧wpo P O all ops K (put F dst v) H1:=A7o rfl fun _=>rfl
theorem B18{t:TypeId}:wpo P O all (⟨dst,.makeMap t none,ty,pos,aft,none⟩ :: ops) K F H↔wpo P O all ops K (put F dst (.map (some H.next))) (H.push (.map [])).2:=by
 rw[A7o (r:=some (.map (some H.next),(H.push (.map [])).2)) rfl fun _=>rfl];simp only[Option.some.injEq,Prod.mk.injEq];exact⟨fun⟨_,_,⟨h1,h2⟩,h⟩=>h1 ▸ h2 ▸ h,fun h=>⟨_,_,⟨rfl,rfl⟩,h⟩⟩
theorem B9s{f:Fn}{fi cs:Array Operand}:wpo P O all (⟨dst,.makeFunc f fi cs,ty,pos,aft,none⟩ :: ops) K F H↔∃a b,evs F fi.toList=some a∧evs F cs.toList=some b∧wpo P O all ops K (put F dst (.func f a.toArray b.toArray)) H:=by
 rw[A7o (r:=(evs F fi.toList).bind fun fi=>(evs F cs.toList).bind fun cs=>some (.func f fi.toArray cs.toArray,H)) rfl fun _=>rfl];simp only[bind_ex,Option.some.injEq,Prod.mk.injEq];constructor
 ·rintro⟨v,H1,⟨a,h1,b,h2,rfl,rfl⟩,h3⟩;exact⟨a,b,h1,h2,h3⟩
 ·rintro⟨a,b,h1,h2,h3⟩;exact⟨_,H,⟨a,h1,b,h2,rfl,rfl⟩,h3⟩
theorem B0t{x:Operand}:wpo P O all (⟨dst,.nilCheck x,ty,pos,aft,none⟩ :: ops) K F H↔∃v,((ev F x).bind fun | .pointer (some a)=>some (.pointer (some a)) | .func (.func f) fi c=>some (.func (.func f) fi c)|_=>none)=some v∧wpo P O all ops K (put F dst v) H:=A3i rfl fun _=>by
 show _=quiet H _;unfold aop;simp only;cases ev F x with
 | none=>rfl
 | some v=>
  cases v with
  | pointer a=>cases a<;>rfl
  | func f x y=>cases f<;>rfl
  | _=>rfl
theorem B93{t:Operand}{i:Nat}:wpo P O all (⟨dst,.extract t i,ty,pos,aft,none⟩ :: ops) K F H↔∃v,((ev F t).bind fun | .tuple vs=>vs.toList[i]?|_=>none)=some v∧wpo P O all ops K (put F dst v) H:=A3i rfl fun _=>by
 show _=quiet H _;unfold aop;simp only;cases ev F t with
 | none=>rfl
 | some v=>
  cases v<;>rfl
theorem o_pick{c x y:Operand}:wpo P O all (⟨dst,.pick c x y,ty,pos,aft,none⟩ :: ops) K F H↔∃b,ev F c=some (.bool b)∧∃v,ev F (bif b then x else y)=some v∧wpo P O all ops K (put F dst v) H:=by
 rw[A7o (r:=match ev F c with
  | some (.bool true)=>quiet H (ev F x)
  | some (.bool false)=>quiet H (ev F y)
  | _=>none) rfl fun _=>rfl]
 constructor
 ·rintro⟨v,H1,h1,h2⟩
  split at h1
  ·rename_i hc;obtain⟨h3,rfl⟩:=A3e h1;exact⟨true,hc,v,h3,h2⟩
  ·rename_i hc;obtain⟨h3,rfl⟩:=A3e h1;exact⟨false,hc,v,h3,h2⟩
  ·cases h1
 ·rintro⟨b,hc,v,h1,h2⟩
  cases b with
  | true=>refine⟨v,H,?_,h2⟩;rw[hc];simp only[cond_true]at h1;rw[h1];rfl
  | false=>refine⟨v,H,?_,h2⟩;rw[hc];simp only[cond_false]at h1;rw[h1];rfl
theorem B77{b:Builtin}{xs:Array Operand}{ts:Array TypeId}:wpo P O all (⟨dst,.call { callee:=.builtin b,args:=xs,argTypes:=ts },ty,pos,aft,none⟩ :: ops) K F H↔∃v H1,((evs F xs.toList).bind fun args=>A3a P b ts.toList args H)=some (v,H1)∧wpo P O all ops K (put F dst v) H1:=A7o rfl fun _=>rfl
theorem wpo_on{all ops:List Oper}{o:Oper}(hg:o.guard=none):wpo P O all (o :: ops) K F H↔∃v H1,OpTo P O F H o v H1∧wpo P O all ops K (put F o.dst v) H1:=by
 rw[A9x];have hw:A3m all F o=some true:=by simp[A3m,hg]
 rw[hw];simp only[Option.some.injEq];exact⟨fun⟨b,h1,h2,_⟩=>h2 h1.symm,fun h=>⟨true,rfl,fun _=>h,fun h=>by cases h⟩⟩
theorem o_call{x:Operand}{xs:Array Operand}{ts:Array TypeId}:wpo P O all (⟨dst,.call { callee:=.value x,args:=xs,argTypes:=ts },ty,pos,aft,none⟩ :: ops) K F H↔
  ∃args,evs F xs.toList=some args∧∃f fi cs,ev F x=some (.func (.func f) fi cs)∧∃v H1,Does P O f (fi.toList++args++cs.toList) H v H1∧wpo P O all ops K (put F dst v) H1:=by
 rw[wpo_on rfl];constructor
 ·rintro⟨v,H1,⟨n,hn⟩,h⟩
  obtain⟨args,h1,h2⟩:=Option.bind_eq_some_iff.1 hn;obtain⟨g,h3,h4⟩:=Option.bind_eq_some_iff.1 h2;unfold C4q at h4;split at h4
  ·exact⟨args,h1,_,_,_,h3,v,H1,⟨n,h4⟩,h⟩
  ·cases h4
 ·rintro⟨args,h1,f,fi,cs,h2,v,H1,⟨n,hn⟩,h⟩
  refine⟨v,H1,⟨n,?_⟩,h⟩;show (evs F xs.toList).bind _=_;rw[h1];show (ev F x).bind _=_;rw[h2];exact hn
theorem C2c{op:Op}{j:Nat}{want:Bool}:wpo P O all (⟨dst,op,ty,pos,aft,some (j,want)⟩ :: ops) K F H↔
  ∃u,((all[j]?).bind (·.dst)).bind F.get=some u∧(u=.bool want→wpo P O all (⟨dst,op,ty,pos,aft,none⟩ :: ops) K F H)∧(u≠.bool want→wpo P O all ops K (put F dst undef) H):=by
 rw[A9x,wpo_on rfl];simp only[A3m];have hop:∀v H1,OpTo P O F H ⟨dst,op,ty,pos,aft,some (j,want)⟩ v H1↔OpTo P O F H ⟨dst,op,ty,pos,aft,none⟩ v H1:=fun v H1=>Iff.rfl;cases ((all[j]?).bind (·.dst)).bind F.get with
 | none=>simp
 | some u=>
  simp only[Option.some.injEq,exists_eq_left',hop];have hu:(u=.bool want∧(match u with | .bool b=>some (b == want)|_=>some false)=some true)∨(u≠.bool want∧(match u with | .bool b=>some (b == want)|_=>some false)=some false):=by
   cases u<;>simp<;>cases want<;>rename_i b<;>cases b<;>simp
  rcases hu with⟨h1,h2⟩|⟨h1,h2⟩
  ·subst h1
   constructor
   ·rintro⟨b,hb,h3,h4⟩
    have:b=true:=by simpa using hb.symm
    exact⟨fun _=>h3 this,fun h=>absurd rfl h⟩
   ·rintro⟨h3,_⟩
    exact⟨true,by simp,fun _=>h3 rfl,fun h=>by cases h⟩
  ·constructor
   ·rintro⟨b,hb,h3,h4⟩
    have:b=false:=by
     have h5:(match (some u:Option Value) with|some (.bool b)=>some (b == want)|some _=>some false|none=>none)=some b:=hb;cases u with
     | bool c=>cases c<;>cases want<;>simp_all
     | _=>simpa using h5.symm
    exact⟨fun h=>absurd h h1,fun _=>h4 this⟩
   ·rintro⟨_,h4⟩
    refine⟨false,?_,(fun h=>by cases h),fun _=>h4 h1⟩;cases u<;>simp at h2 ⊢<;>simp_all
end
end
section
variable {P:Program} {O:A1d}
def Call(P:Program)(O:A1d)(f:FuncId)(args:List Value)(H:AH)(Q:Value→AH→Prop):Prop:=∃v H',Does P O f args H v H'∧Q v H'
theorem A5a{f:FuncId}{args:List Value}{H:AH}{fn:Func}{c:Code}{Q:Value→AH→Prop}(hO:O f args H=none)(hf:P.funcs[f]?=some fn)(hb:fn.body=some c)(hl:args.length≤fn.ntmps)
  (h:wp P O [.code c] (fun F' H'=>∃vs,resultsA P F' H' fn.results.toList=some vs∧Q (one vs) H') (B3v args 0 .nil) H):Call P O f args H Q:=by
 obtain⟨n,F',H',h1,vs,h2,h3⟩:=h;refine⟨one vs,H',⟨n,?_⟩,h3⟩;unfold call enter;rw[hO];simp only[hf,hb];rw[Nat.ble_eq_true_of_le hl];simp only[cond_true,h1,h2,Option.map_some]
theorem Call.mono{f:FuncId}{args:List Value}{H:AH}{Q Q':Value→AH→Prop}(h:Call P O f args H Q)(hq:∀v H',Q v H'→Q' v H'):Call P O f args H Q':=by
 obtain⟨v,H',h1,h2⟩:=h;exact⟨v,H',h1,hq _ _ h2⟩
def Wf(H:AH):Prop:=∀g o,H.objs.get g=some o→g<H.next
theorem Wf.push{H:AH}(h:Wf H)(o:AObj):Wf (H.push o).2:=by
 intro g x e;show g<H.next+1;have e':(H.objs.set H.next o).get g=some x:=e;rw[Tr.get_set]at e';split at e'
 ·omega
 ·have:=h g x e';omega
theorem Wf.grow{H:AH}(h:Wf H)(o:AObj):HGrow H (H.push o).2:=by
 intro g x hg;show (H.objs.set H.next o).get g=some x;rw[Tr.get_set,if_neg]
 ·exact hg
 ·rintro rfl
  have:=h _ _ hg;omega
theorem Wf.put{H:AH}(h:Wf H){g:Nat}(hg:g<H.next)(o:AObj):Wf (H.put g o):=by
 intro g' x e;rw[A1f]at e;show g'<H.next;split at e
 ·rename_i hh;rw[hh];exact hg
 ·exact h g' x e
theorem A81(F:Fr)(t:Nat)(v:Value):(put F (some t) v).get t=some v:=Tr.get_set_eq _ _ _
theorem A90(F:Fr){t u:Nat}(h:u≠t)(v:Value):(put F (some t) v).get u=F.get u:=Tr.get_set_ne _ h _
theorem C7l(F:Fr)(v:Value):put F none v=F:=rfl
theorem C0w(F:Fr)(t:Tmp):ev F (.tmp t)=F.get t:=rfl
theorem C2w(F:Fr)(f:FuncId):ev F (.func f)=some (.func (.func f) #[] #[]):=rfl
theorem ev_int(F:Fr)(k:IntKind)(n:Int):ev F (.const (.int k n))=some (.int k n):=rfl
theorem C2y(F:Fr)(b:Bool):ev F (.const (.bool b))=some (.bool b):=rfl
theorem ev_str(F:Fr)(s:ByteArray):ev F (.const (.string s))=some (.string s):=rfl
theorem B2r(vs:List Value)(t:Nat):(B3v vs 0 .nil).get t=vs[t]?:=by
 rw[B8g];split
 ·simp
 ·rename_i h
  rw[List.getElem?_eq_none (by omega)];rfl
theorem A3b{t:TypeId}{H:AH}{a:Addr}(h:A3f P t=some false):A7e P t H (.pointer (some a))=H.cell a:=by simp only[A7e,h]
theorem A7n{t:TypeId}{H:AH}{a:Addr}{n:Nat}(h:A3f P t=some true)(hs:A5b P t=some n):A7e P t H (.pointer (some a))=(H.cells a n).map fun l=>.agg l.toArray:=by simp only[A7e,h,hs,Option.bind_some]
theorem A9h{H:AH}(s:Nat)(vs:List Value)(i:Nat):(H.new s vs).2.cell ⟨H.next,i,some 0⟩=vs[i]?:=by
 unfold AH.cell AH.row?;show (match (match (H.objs.set H.next (.rows [{ pos:=0,esz:=s,vals:=vs,ok:=true }] true)).get H.next,(some 0:Option Nat) with
  | some (.rows rs _),some k=>match rs[k]? with
   | some r=>bif r.ok then some r else none
   | none=>none
  | _,_=>none) with|some r=>r.vals[i]?|none=>none)=_
 rw[Tr.get_set_eq];rfl
end
def AllRo(H:AH):Prop:=∀g o,H.objs.get g=some o→∃rs,o=.rows rs false
section
variable {P:Program} {B:Nat} {ρ:Map} {H:AH} {w:World}
theorem HRel.adopt(h:HRel B ρ H w)(hro:AllRo H){b off s:Nat}{c:Array Value}{el:TypeId}{fr:Nat×Nat}{vals:List Value}(hb:w.heap[b]?=some (.cells c el fr))(hl:off+vals.length≤c.size)
  (hv:∀(i:Nat) (v:Value),vals[i]?=some v→isCell v=true∧∃u,c[off+i]?=some u∧VRel ρ v u):
  HRel B (ρ.add H.next 0 ⟨b,off,c.size,s⟩) (H.push (.rows [{ pos:=0,esz:=s,vals,ok:=true }] false)).2 w:=by
 have hnone:=h.none_new;have hle:ρ.le (ρ.add H.next 0 ⟨b,off,c.size,s⟩):=Map.le_add (hnone 0);have hget:∀g,(H.push (.rows [{ pos:=0,esz:=s,vals,ok:=true }] false)).2.objs.get g=if g=H.next then some (.rows [{ pos:=0,esz:=s,vals,ok:=true }] false) else H.objs.get g:=fun g=>Tr.get_set _ _ _ _;have hold:∀{g k L},(ρ.add H.next 0 ⟨b,off,c.size,s⟩) g k=some L→g≠H.next→ρ g k=some L:=by
  intro g k L e hg
  rwa [Map.add_other _ _ (fun x=>hg x.1)]at e
 have hnew:∀{k L},(ρ.add H.next 0 ⟨b,off,c.size,s⟩) H.next k=some L→k=0∧L=⟨b,off,c.size,s⟩:=by
  intro k L e;by_cases hk:k=0
  ·subst hk;rw[Map.add_same]at e;injection e with e;exact⟨rfl,e.symm⟩
  ·rw[Map.add_other _ _ (fun x=>hk x.2),hnone]at e;cases e
 have hro':∀g o,(H.push (.rows [{ pos:=0,esz:=s,vals,ok:=true }] false)).2.objs.get g=some o→∃rs,o=.rows rs false:=by
  intro g o e;rw[hget]at e;split at e
  ·injection e with e;exact⟨_,e.symm⟩
  ·exact hro g o e
 have hlt:b<w.heap.size:=(Array.getElem?_eq_some_iff.1 hb).1;refine⟨h.base,?_,?_,?_,?_,?_,?_,?_,?_,?_⟩
 ·intro g rs rw hg k r L hr hok hL
  rw[hget]at hg;split at hg
  ·rename_i hg'
   subst hg';injection hg with hg
   injection hg with hg1 hg2
   subst hg1 hg2;obtain⟨rfl,rfl⟩:=hnew hL;simp only[List.getElem?_cons_zero,Option.some.injEq]at hr;subst hr;exact⟨c,el,fr,hb,rfl,rfl,hl,fun i v hi=>by obtain⟨h1,u,h2,h3⟩:=hv i v hi;exact⟨h1,u,h2,h3.mono hle⟩,fun x=>by cases x⟩
  ·rename_i hg'
   exact(h.rows g rs rw hg k r L hr hok (hold hL hg')).mono hle rfl
 ·intro g rs rw g' rs' rw' hg hg' hrw
  obtain⟨_,h1⟩:=hro' _ _ hg;obtain⟨_,h2⟩:=hro' _ _ hg';injection h1 with _ h1
  injection h2 with _ h2
  subst h1 h2;rcases hrw with x|x<;>cases x
 ·intro g es L hg
  obtain⟨_,h1⟩:=hro' _ _ hg;cases h1
 ·intro g g' es es' L L' hg
  obtain⟨_,h1⟩:=hro' _ _ hg;cases h1
 ·intro g rs g' es k L L' _ hg
  obtain⟨_,h1⟩:=hro' _ _ hg;cases h1
 ·intro g k L e
  by_cases hg:g=H.next
  ·subst hg
   obtain⟨_,rfl⟩:=hnew e;exact⟨Nat.lt_succ_self _,hlt⟩
  ·have:=h.lt _ _ _ (hold e hg)
   exact⟨Nat.lt_succ_of_lt this.1,this.2⟩
 ·intro g o e
  rw[hget]at e;split at e
  ·rename_i hg;rw[hg];exact Nat.lt_succ_self _
  ·exact Nat.lt_succ_of_lt (h.inH _ _ e)
 ·intro g rs rw hg k L e
  rw[hget]at hg;split at hg
  ·rename_i hg'
   subst hg';injection hg with hg
   injection hg with hg1 hg2
   subst hg1;obtain⟨rfl,_⟩:=hnew e;simp
  ·rename_i hg'
   exact h.short g rs rw hg k L (hold e hg')
 ·intro g es hg
  obtain⟨_,h1⟩:=hro' _ _ hg;cases h1
theorem AllRo.push(h:AllRo H)(rs:List Row):AllRo (H.push (.rows rs false)).2:=by
 intro g o e;have e':(H.objs.set H.next (.rows rs false)).get g=some o:=e;rw[Tr.get_set]at e';split at e'
 ·injection e' with e';exact⟨_,e'.symm⟩
 ·exact h g o e'
theorem HRel.wf(h:HRel B ρ H w):Wf H:=h.inH
end
def RD{K:Type}(P:Program)(H:AH):Nat→TypeId→List Value→DataW K→Prop
 | 0,_,_,_=>False
 | f+1,t,cs,d=>match P.underlying t with
  | some .bool=>∃b,cs=[.bool b]∧d=.lit (.bool b)
  | some (.int k)=>∃n,cs=[.int k n]∧d=.lit (.int k n)∧(Lit.int k n).wf=true
  | some .string=>∃s,cs=[.string s]∧d=.lit (.string s.data.toList)∧s.size≤maxLen
  | some (.slice e) => (cs = [.slice none 0 0] ∧ d = .nil) ∨ ∃ a len cap es sp, cs = [.slice (some a) len cap] ∧ d = .slice es sp ∧ es.length = len ∧ len + sp.length = cap ∧ cap ≤ maxLen ∧ (0 < len → a.spot.isSome = true) ∧
      ∀(i : Nat) x, es[i]? = some x → ∃cs', H.cells (plus a (i*P.cellsOf e)) (P.cellsOf e) = some cs' ∧ RD P H f e cs' x
  | some (.struct fs)=>∃ds,d=.agg ds∧cs.length=P.cellsOf t∧ds.length=fs.size∧∀(i:Nat) fd x,fs[i]?=some fd→ds[i]?=some x→RD P H f fd.type ((cs.drop fd.offset).take (P.cellsOf fd.type)) x
  | some (.array n e)=>∃ds,d=.agg ds∧cs.length=P.cellsOf t∧ds.length=n∧∀(i:Nat) x,ds[i]?=some x→RD P H f e ((cs.drop (i*P.cellsOf e)).take (P.cellsOf e)) x
  | _=>False
theorem RD.grow{K:Type}{P:Program}{H H':AH}(h:HGrow H H'):∀{f:Nat} {t:TypeId} {cs:List Value} {d:DataW K},RD P H f t cs d→RD P H' f t cs d
 | 0,_,_,_,r=>r
 | f+1,t,cs,d,r=>by
  unfold RD at r ⊢;split at r
  ·exact r
  ·exact r
  ·exact r
  ·rcases r with r|⟨a,len,cap,es,sp,h1,h2,h3,h4,h5,h6,h7⟩
   ·exact .inl r
   ·exact .inr ⟨a,len,cap,es,sp,h1,h2,h3,h4,h5,h6,fun i x hx=>by obtain⟨cs',k1,k2⟩:=h7 i x hx;exact⟨cs',A8l h k1,RD.grow h k2⟩⟩
  ·obtain⟨ds,h1,h2,h3,h4⟩:=r
   exact⟨ds,h1,h2,h3,fun i fd x e1 e2=>RD.grow h (h4 i fd x e1 e2)⟩
  ·obtain⟨ds,h1,h2,h3,h4⟩:=r
   exact⟨ds,h1,h2,h3,fun i x e2=>RD.grow h (h4 i x e2)⟩
  ·exact r
def B87(P:Program):List Field→Nat→Nat→Bool
 | [],o,n=>Nat.beq o n
 | f :: fs,o,n=>Nat.beq f.offset o&&B87 P fs (o+P.cellsOf f.type) n
def A97(P:Program):Nat→TypeId→Bool
 | 0,_=>false
 | f+1,t=>match P.underlying t with
  | some .bool|some (.int _)|some .string=>Nat.beq (P.cellsOf t) 1
  | some (.slice e)=>Nat.beq (P.cellsOf t) 1&&Nat.ble 1 (P.cellsOf e)&&A97 P f e
  | some (.struct fs)=>B87 P fs.toList 0 (P.cellsOf t)&&fs.toList.all fun fd=>A97 P f fd.type
  | _=>false
section
variable {K:Type} {enc:TypeId×Value→K} {P:Program} {w:World} {B:Nat}
theorem C9k{s:Nat}:∀{l:List (List Value)} {i:Nat} {x:List Value},(∀y∈l,y.length=s)→l[i]?=some x→(l.flatten.drop (i*s)).take s=x∧i*s+s≤l.flatten.length
 | [],i,x,_,h=>by simp at h
 | y :: l,0,x,hs,h=>by
  simp only[List.getElem?_cons_zero,Option.some.injEq]at h;subst h;have:=hs y List.mem_cons_self;simp only[Nat.zero_mul,List.drop_zero,List.flatten_cons,Nat.zero_add,List.length_append];exact⟨by rw[←this];simp,by omega⟩
 | y :: l,i+1,x,hs,h=>by
  simp only[List.getElem?_cons_succ]at h;obtain⟨h1,h2⟩:=C9k (fun z hz=>hs z (List.mem_cons_of_mem _ hz)) h;have hy:=hs y List.mem_cons_self;have e:(i+1)*s=y.length+i*s:=by rw[hy,Nat.add_mul,Nat.one_mul,Nat.add_comm]
  simp only[List.flatten_cons,List.length_append];rw[e,List.drop_append,List.drop_eq_nil_of_le (by omega),List.nil_append,show y.length+i*s-y.length=i*s by omega];exact⟨h1,by omega⟩
theorem C7n{s:Nat}:∀{l:List (List Value)},(∀y∈l,y.length=s)→l.flatten.length=l.length*s
 | [],_=>by simp
 | y :: l,h=>by
  simp only[List.flatten_cons,List.length_append,List.length_cons];rw[h y List.mem_cons_self,C7n (fun z hz=>h z (List.mem_cons_of_mem _ hz)),Nat.add_mul,Nat.one_mul,Nat.add_comm]
theorem flat_get{s:Nat}{l:List (List Value)}(hs:∀y∈l,y.length=s){k:Nat}{v:Value}(h:l.flatten[k]?=some v):∃i j x,k=i*s+j∧j<s∧l[i]?=some x∧x[j]?=some v:=by
 induction l generalizing k with
 | nil=>simp at h
 | cons y l ih=>
  have hy:=hs y List.mem_cons_self;simp only[List.flatten_cons]at h;by_cases hk:k<y.length
  ·rw[List.getElem?_append_left hk]at h
   exact⟨0,k,y,by simp,by omega,rfl,h⟩
  ·rw[List.getElem?_append_right (by omega)]at h
   obtain⟨i,j,x,h1,h2,h3,h4⟩:=ih (fun z hz=>hs z (List.mem_cons_of_mem _ hz)) h;exact⟨i+1,j,x,by rw[Nat.add_mul,Nat.one_mul];omega,h2,h3,h4⟩
abbrev C8y(K:Type):=TypeId×List Value×DataW K×List MemPlace
def Taken(P:Program)(w:World)(B:Nat)(K:Type)(fuel:Nat)(t:TypeId)(cs:List Value)(d:DataW K)(H:AH)(ρ:Map):Prop:=
 ∃H' ρ' acs,HRel B ρ' H' w∧AllRo H'∧HGrow H H'∧ρ.le ρ'∧VRels ρ' acs cs∧RD P H' fuel t acs d∧∀v∈acs,isCell v=true
theorem takeL{fuel pf:Nat}(IH:∀(t:TypeId) (cs:List Value) (d:DataW K) (ps:List MemPlace),DataW.trod enc P w 0 (fun _=>true) true fuel t cs=some (d,ps)→A97 P pf t=true→∀H ρ,HRel B ρ H w→AllRo H→Taken P w B K fuel t cs d H ρ):
  ∀(items:List (C8y K)),(∀it∈items,DataW.trod enc P w 0 (fun _=>true) true fuel it.1 it.2.1=some (it.2.2.1,it.2.2.2)∧A97 P pf it.1=true)→∀H ρ,HRel B ρ H w→AllRo H→
   ∃H' ρ' ,∃acss:List (List Value),HRel B ρ' H' w∧AllRo H'∧HGrow H H'∧ρ.le ρ'∧acss.length=items.length∧
    ∀(j:Nat) it ac,items[j]?=some it→acss[j]?=some ac→VRels ρ' ac it.2.1∧RD P H' fuel it.1 ac it.2.2.1∧∀v∈ac,isCell v=true
 | [],_,H,ρ,hH,hro=>⟨H,ρ,[],hH,hro,HGrow.refl H,Map.le_refl ρ,rfl,fun j it ac h=>by simp at h⟩
 | it :: items,h,H,ρ,hH,hro=>by
  obtain⟨h1,h2⟩:=h it List.mem_cons_self;obtain⟨H1,ρ1,ac,k1,k2,k3,k4,k5,k6,k7⟩:=IH _ _ _ _ h1 h2 H ρ hH hro;obtain⟨H2,ρ2,acss,g1,g2,g3,g4,g5,g6⟩:=takeL IH items (fun x hx=>h x (List.mem_cons_of_mem _ hx)) H1 ρ1 k1 k2;refine⟨H2,ρ2,ac :: acss,g1,g2,k3.trans g3,Map.le_trans k4 g4,by simp[g5],fun j it' ac' e1 e2=>?_⟩;cases j with
  | zero=>
   simp only[List.getElem?_cons_zero,Option.some.injEq]at e1 e2;subst e1 e2;exact⟨k5.mono g4,k6.grow g3,k7⟩
  | succ j=>
   simp only[List.getElem?_cons_succ]at e1 e2;exact g6 j it' ac' e1 e2
theorem C2v{a:Addr}{v:Value}(h:w.cell? a=some v):a.spot=none∧∃c el fr,w.heap[a.block]?=some (.cells c el fr):=by
 refine⟨World.cell?_spot h,?_⟩;unfold World.cell? at h;split at h
 ·rename_i hb
  exact⟨_,_,_,hb⟩
 ·cases h
theorem row_new(H:AH)(rs:List Row)(b:Bool):(H.push (.rows rs b)).2.objs.get H.next=some (.rows rs b):=Tr.get_set_eq _ _ _
theorem C23{H:AH}{g s n:Nat}{vals:List Value}{off:Nat}(h:H.objs.get g=some (.rows [{ pos:=0,esz:=s,vals,ok:=true }] false))(hn:off+n≤vals.length):H.cells ⟨g,off,some 0⟩ n=some ((vals.drop off).take n):=by
 unfold AH.cells AH.row?;rw[h];simp only[List.getElem?_cons_zero,cond_true,A4m,A0c];rw[decide_eq_true hn];rfl
end
section
variable {K:Type} {enc:TypeId×Value→K} {P:Program} {w:World} {B:Nat}
theorem C6l:∀{fs:List Field} {o n:Nat},B87 P fs o n=true→o≤n
 | [],o,n,h=>by simp only[B87,A1b,decide_eq_true_eq]at h;omega
 | f :: fs,o,n,h=>by
  simp only[B87,Bool.and_eq_true]at h;have:=C6l h.2;omega
theorem C1g{ρ:Map}{cs:List Value}:∀{fs:List Field} {acss:List (List Value)} {o:Nat},B87 P fs o cs.length=true→acss.length=fs.length→
  (∀(j:Nat) f ac,fs[j]?=some f→acss[j]?=some ac→VRels ρ ac ((cs.drop f.offset).take (P.cellsOf f.type)))→
  VRels ρ acss.flatten (cs.drop o)∧∀(j:Nat) f ac,fs[j]?=some f→acss[j]?=some ac→o≤f.offset∧(acss.flatten.drop (f.offset-o)).take (P.cellsOf f.type)=ac
 | [],[],o,h,_,_=>by
  simp only[B87,A1b,decide_eq_true_eq]at h;subst h;simp only[List.flatten_nil,List.drop_length];exact⟨VRels.nil,fun j f ac e=>by simp at e⟩
 | [],_ :: _,o,_,hl,_=>by simp at hl
 | _ :: _,[],o,_,hl,_=>by simp at hl
 | f :: fs,ac :: acss,o,h,hl,hr=>by
  simp only[B87,Bool.and_eq_true]at h;obtain⟨h1,h2⟩:=h;have ho:=Nat.eq_of_beq_eq_true h1;have hle:=C6l h2;obtain⟨k1,k2⟩:=C1g (ρ:=ρ) h2 (by simpa using hl) (fun j f' ac' e1 e2=>hr (j+1) f' ac' (by simpa using e1) (by simpa using e2));have h0:=hr 0 f ac rfl rfl;have hlen:=h0.length;rw[ho]at h0 hlen;have hacl:ac.length=P.cellsOf f.type:=by
   rw[hlen,List.length_take,List.length_drop];omega
  refine⟨?_,fun j f' ac' e1 e2=>?_⟩
  ·have : cs.drop o = (cs.drop o).take (P.cellsOf f.type) ++ cs.drop (o + P.cellsOf f.type) := by
     rw[←List.drop_drop, List.take_append_drop]
   rw[this, List.flatten_cons];exact VRels.append h0 k1
  ·cases j with
   | zero=>
    simp only[List.getElem?_cons_zero,Option.some.injEq]at e1 e2;subst e1 e2;refine⟨by omega,?_⟩;rw[ho,Nat.sub_self,List.drop_zero,List.flatten_cons,←hacl];simp
   | succ j=>
    simp only[List.getElem?_cons_succ]at e1 e2;obtain⟨g1,g2⟩:=k2 j f' ac' e1 e2;refine⟨by omega,?_⟩;rw[List.flatten_cons,List.drop_append,List.drop_eq_nil_of_le (by omega),List.nil_append,show f'.offset-o-ac.length=f'.offset-(o+P.cellsOf f.type) by omega];exact g2
theorem take:∀(fuel pf:Nat) (t:TypeId) (cs:List Value) (d:DataW K) (ps:List MemPlace),DataW.trod enc P w 0 (fun _=>true) true fuel t cs=some (d,ps)→A97 P pf t=true→
  ∀H ρ,HRel B ρ H w→AllRo H→Taken P w B K fuel t cs d H ρ
 | 0,pf,t,cs,d,ps,h,_,_,_,_,_=>by simp[DataW.trod]at h
 | fuel+1,0,t,cs,d,ps,h,hp,_,_,_,_=>by cases hp
 | fuel+1,pf+1,t,cs,d,ps,h,hp,H,ρ,hH,hro=>by
  have IH:=take fuel pf;unfold A97 at hp;cases hu:P.underlying t with
  | none=>rw[hu]at hp;cases hp
  | some td=>
   rw[hu]at hp;cases td with
   | bool=>
    obtain⟨b,rfl,hx⟩:=DataW.trod_bool hu h;injection hx with hx _
    refine⟨H,ρ,[.bool b],hH,hro,HGrow.refl H,Map.le_refl ρ,VRels.cons (by unfold VRel;rfl) VRels.nil,?_,fun v hv=>by simp at hv;subst hv;rfl⟩;unfold RD;rw[hu];exact⟨b,rfl,hx⟩
   | int k=>
    obtain⟨n,rfl,hx,hwf⟩:=DataW.trod_int hu h;injection hx with hx _
    refine⟨H,ρ,[.int k n],hH,hro,HGrow.refl H,Map.le_refl ρ,VRels.cons (by unfold VRel;rfl) VRels.nil,?_,fun v hv=>by simp at hv;subst hv;rfl⟩;unfold RD;rw[hu];exact⟨n,rfl,hx,hwf⟩
   | string=>
    obtain⟨s,rfl,hx,hs⟩:=DataW.trod_string hu h;injection hx with hx _
    refine⟨H,ρ,[.string s],hH,hro,HGrow.refl H,Map.le_refl ρ,VRels.cons (by unfold VRel;rfl) VRels.nil,?_,fun v hv=>by simp at hv;subst hv;rfl⟩;unfold RD;rw[hu];exact⟨s,rfl,hx,hs⟩
   | struct fs=>
    simp only[Bool.and_eq_true]at hp;obtain⟨hp1,hp2⟩:=hp;obtain⟨xs,n,hf,hx,hlen,hxl,hfl⟩:=DataW.trod_struct hu h;injection hf with hf
    subst hf;injection hx with hx _
    subst hx;have hz:∀(j:Nat) (f:Field) (x:DataW K×List MemPlace),fs.toList[j]?=some f→xs[j]?=some x→((fs.toList.zip xs).map fun(y:Field×(DataW K×List MemPlace))=>((y.1.type,(cs.drop y.1.offset).take (P.cellsOf y.1.type),y.2):C8y K))[j]?=some (f.type,(cs.drop f.offset).take (P.cellsOf f.type),x):=by
     intro j f x e1 e2;rw[List.getElem?_map];have:(fs.toList.zip xs)[j]?=some (f,x):=by
      rw[List.getElem?_zip_eq_some];exact⟨e1,e2⟩
     rw[this];rfl
    obtain⟨H1,ρ1,acss,g1,g2,g3,g4,g5,g6⟩:=takeL (P:=P) (w:=w) (enc:=enc) IH ((fs.toList.zip xs).map fun(y:Field×(DataW K×List MemPlace))=>((y.1.type,(cs.drop y.1.offset).take (P.cellsOf y.1.type),y.2):C8y K)) (by
     intro it hit;obtain⟨y,hy,rfl⟩:=List.mem_map.1 hit;obtain⟨j,hj⟩:=List.mem_iff_getElem?.1 hy;rw[List.getElem?_zip_eq_some]at hj;refine⟨?_,List.all_eq_true.1 hp2 _ (List.mem_of_getElem? hj.1)⟩;rw[hfl j y.1 (by simpa using hj.1),hj.2]) H ρ hH hro
    have hxl':xs.length=fs.toList.length:=by simpa using hxl
    have hacl:acss.length=fs.toList.length:=by
     rw[g5,List.length_map,List.length_zip,hxl',Nat.min_self]
    have hget:∀(j:Nat) (f:Field),fs.toList[j]?=some f→∃x,xs[j]?=some x:=by
     intro j f e;have:=(List.getElem?_eq_some_iff.1 e).1;exact⟨xs[j]'(by omega),List.getElem?_eq_getElem (by omega)⟩
    have hrel:∀(j:Nat) f ac,fs.toList[j]?=some f→acss[j]?=some ac→VRels ρ1 ac ((cs.drop f.offset).take (P.cellsOf f.type)):=by
     intro j f ac e1 e2;obtain⟨x,hx⟩:=hget j f e1;exact(g6 j _ ac (hz j f x e1 hx) e2).1
    obtain⟨t1,t2⟩:=C1g (ρ:=ρ1) (cs:=cs) (by rw[hlen];exact hp1) hacl hrel;rw[List.drop_zero]at t1;refine⟨H1,ρ1,acss.flatten,g1,g2,g3,g4,t1,?_,?_⟩
    ·unfold RD
     rw[hu];refine⟨xs.map (·.1),rfl,by rw[t1.length];exact hlen,by simpa using hxl,fun i fd x e1 e2=>?_⟩;have e1':fs.toList[i]?=some fd:=by simpa using e1
     rw[List.getElem?_map]at e2;obtain⟨y,hy,rfl⟩:=Option.map_eq_some_iff.1 e2;have hi:=(List.getElem?_eq_some_iff.1 e1').1;have hac:acss[i]?=some (acss[i]'(by omega)):=List.getElem?_eq_getElem (by omega);have hseg:=(t2 i fd _ e1' hac).2;rw[Nat.sub_zero]at hseg;rw[hseg];exact(g6 i _ _ (hz i fd y e1' hy) hac).2.1
    ·intro v hv
     obtain⟨ac,hac,hv⟩:=List.mem_flatten.1 hv;obtain⟨j,hj⟩:=List.mem_iff_getElem?.1 hac;have hjl:=(List.getElem?_eq_some_iff.1 hj).1;have e1:fs.toList[j]?=some (fs.toList[j]'(by omega)):=List.getElem?_eq_getElem (by omega);obtain⟨x,hx⟩:=hget j _ e1;exact(g6 j _ ac (hz j _ x e1 hx) hj).2.2 v hv
   | slice e=>
    simp only[Bool.and_eq_true]at hp;obtain⟨⟨_,hs1⟩,hpe⟩:=hp;have hs1:1≤P.cellsOf e:=Nat.le_of_ble_eq_true hs1;rcases DataW.trod_slice hu h with⟨rfl,hx⟩|⟨a,len,cap,elems,rest,n,hf,rfl,hx,hb,hl,hcap,hlen,hel,hsp,_⟩
    ·injection hx with hx _
     refine⟨H,ρ,[.slice none 0 0],hH,hro,HGrow.refl H,Map.le_refl ρ,VRels.cons (by unfold VRel;exact⟨rfl,rfl,rfl⟩) VRels.nil,?_,fun v hv=>by simp at hv;subst hv;rfl⟩;unfold RD;rw[hu];exact .inl ⟨rfl,hx⟩
    ·injection hf with hf
     subst hf;injection hx with hx _
     subst hx;obtain⟨hrl,hrest⟩:=hsp rfl;by_cases hc0:cap=0
     ·subst hc0
      have hl0:len=0:=by omega
      subst hl0;refine⟨H,ρ,[.slice (some ⟨0,0,none⟩) 0 0],hH,hro,HGrow.refl H,Map.le_refl ρ,VRels.cons (by unfold VRel;exact .inr ⟨rfl,rfl,a,rfl⟩) VRels.nil,?_,fun v hv=>by simp at hv;subst hv;rfl⟩;unfold RD;rw[hu];have he0:elems=[]:=List.eq_nil_of_length_eq_zero hlen;refine .inr ⟨⟨0,0,none⟩,0,0,elems.map (·.1),rest.map (·.1),rfl,rfl,by simp[hlen],by simpa using hrl,hcap,fun h=>absurd h (by omega),fun i x hx=>?_⟩;rw[he0]at hx;simp at hx
     ·
      have hread:∀i,i<cap→∃c0,w.cells? 0 (a.add (i*P.cellsOf e)) (P.cellsOf e)=some c0:=by
       intro i hi;by_cases hil:i<len
       ·have:=hel i hil
        rw[List.getElem?_eq_getElem (by omega)]at this;obtain⟨c0,h1,_⟩:=Option.bind_eq_some_iff.1 this;exact⟨c0,h1⟩
       ·have:=hrest (i-len) (by omega)
        rw[List.getElem?_eq_getElem (by omega),show len+(i-len)=i by omega]at this;obtain⟨c0,h1,_⟩:=Option.bind_eq_some_iff.1 this;exact⟨c0,h1⟩
      obtain⟨c0,hc0r⟩:=hread 0 (by omega);obtain⟨_,hc0l,hc0g⟩:=World.cells?_some hc0r;have hcell0:w.cell? a=some (c0[0]'(by omega)):=by
       have:=hc0g 0 (by omega);rw[Nat.zero_mul]at this;have e0:(a.add 0).add 0=a:=by simp[Addr.add]
       rw[e0,List.getElem?_eq_getElem (by omega)]at this;exact this
      obtain⟨hspot,c,el,fr,hblk⟩:=C2v hcell0;obtain⟨b,off,sp⟩:=a;simp only at hspot hblk;subst hspot;have hcellAt:∀i j,i<cap→j<P.cellsOf e→∀ci,w.cells? 0 ((⟨b,off,none⟩:Addr).add (i*P.cellsOf e)) (P.cellsOf e)=some ci→c[off+i*P.cellsOf e+j]?=ci[j]?:=by
       intro i j hi hj ci hci;have:=(World.cells?_some hci).2.2 j hj;rw[add_plain,add_plain,cell_of hblk]at this;exact this
      have hroom:off+cap*P.cellsOf e≤c.size:=by
       obtain⟨ci,hci⟩:=hread (cap-1) (by omega);have h1:=hcellAt (cap-1) (P.cellsOf e-1) (by omega) (by omega) ci hci;rw[List.getElem?_eq_getElem (by rw[(World.cells?_some hci).2.1];omega)]at h1;have h2:=(Array.getElem?_eq_some_iff.1 h1).1;have h3:cap*P.cellsOf e=(cap-1)*P.cellsOf e+P.cellsOf e:=by
        conv=>lhs;rw[show cap=(cap-1)+1 by omega]
        rw[Nat.add_mul,Nat.one_mul]
       omega
      have hz:∀(j:Nat) (x:DataW K×List MemPlace),elems[j]?=some x→(elems.mapIdx fun i x=>((e,(w.cells? 0 ((⟨b,off,none⟩:Addr).add (i*P.cellsOf e)) (P.cellsOf e)).getD [],x):C8y K))[j]?=some (e,(w.cells? 0 ((⟨b,off,none⟩:Addr).add (j*P.cellsOf e)) (P.cellsOf e)).getD [],x):=by
       intro j x hj;rw[List.getElem?_mapIdx,hj];rfl
      obtain⟨H1,ρ1,acss,g1,g2,g3,g4,g5,g6⟩:=takeL (P:=P) (w:=w) (enc:=enc) IH (elems.mapIdx fun i x=>((e,(w.cells? 0 ((⟨b,off,none⟩:Addr).add (i*P.cellsOf e)) (P.cellsOf e)).getD [],x):C8y K)) (by
       intro it hit;obtain⟨j,hj⟩:=List.mem_iff_getElem?.1 hit;rw[List.getElem?_mapIdx]at hj;obtain⟨x,hx,rfl⟩:=Option.map_eq_some_iff.1 hj;have hjl:=(List.getElem?_eq_some_iff.1 hx).1;obtain⟨cj,h1⟩:=hread j (by omega);have h2:=hel j (by omega);rw[h1,hx]at h2;refine⟨?_,hpe⟩;simp only[h1,Option.getD_some];exact h2) H ρ hH hro
      have hacl:acss.length=len:=by rw[g5,List.length_mapIdx,hlen]
      have hit:∀(j:Nat) ac,acss[j]?=some ac→∃x cj,elems[j]?=some x∧w.cells? 0 ((⟨b,off,none⟩:Addr).add (j*P.cellsOf e)) (P.cellsOf e)=some cj∧VRels ρ1 ac cj∧RD P H1 fuel e ac x.1∧∀v∈ac,isCell v=true:=by
       intro j ac hac;have hjl:=(List.getElem?_eq_some_iff.1 hac).1;have hx:elems[j]?=some (elems[j]'(by omega)):=List.getElem?_eq_getElem (by omega);obtain⟨cj,h1⟩:=hread j (by omega);have:=g6 j _ ac (hz j _ hx) hac;simp only[h1,Option.getD_some]at this;exact⟨_,cj,hx,h1,this⟩
      have hsz:∀y∈acss,y.length=P.cellsOf e:=by
       intro y hy;obtain⟨j,hj⟩:=List.mem_iff_getElem?.1 hy;obtain⟨x,cj,_,h1,h2,_⟩:=hit j y hj;rw[h2.length,(World.cells?_some h1).2.1]
      have hfl:acss.flatten.length=len*P.cellsOf e:=by rw[C7n hsz,hacl]
      have hmul:len*P.cellsOf e≤cap*P.cellsOf e:=Nat.mul_le_mul_right _ hl;have hA:=g1.adopt (s:=P.cellsOf e) (off:=off) (vals:=acss.flatten) g2 hblk (by omega) (fun k v hk=>by
       obtain⟨i,j,x,rfl,hj,hx,hxj⟩:=flat_get hsz hk;obtain⟨y,cj,_,h1,h2,_,h3⟩:=hit i x hx;obtain⟨u,hu1,hu2⟩:=h2.get hxj;have hil:=(List.getElem?_eq_some_iff.1 hx).1;refine⟨h3 v (List.mem_of_getElem? hxj),u,?_,hu2⟩;rw[←Nat.add_assoc,hcellAt i j (by omega) hj cj h1];exact hu1)
      have hgrow:=g1.wf.grow (.rows [{ pos:=0,esz:=P.cellsOf e,vals:=acss.flatten,ok:=true }] false);refine⟨_,_,[.slice (some ⟨H1.next,0,some 0⟩) len cap],hA,g2.push _,g3.trans hgrow,Map.le_trans g4 (Map.le_add (g1.none_new 0)),VRels.cons ?_ VRels.nil,?_,fun v hv=>by simp at hv;subst hv;rfl⟩
      ·unfold VRel
       refine .inl ⟨_,0,off,cap,rfl,Map.add_same _ _ _ _,rfl,hl,.inl ⟨?_,rfl⟩,.inl ⟨rfl,hroom⟩⟩;have:maxLen<big:=by decide
       omega
      ·unfold RD
       rw[hu];refine .inr ⟨⟨H1.next,0,some 0⟩,len,cap,elems.map (·.1),rest.map (·.1),rfl,rfl,by simpa using hlen,by simp[hrl];omega,hcap,fun _=>rfl,fun i x hx=>?_⟩;rw[List.getElem?_map]at hx;obtain⟨y,hy,rfl⟩:=Option.map_eq_some_iff.1 hx;have hil:=(List.getElem?_eq_some_iff.1 hy).1;have hac:acss[i]?=some (acss[i]'(by omega)):=List.getElem?_eq_getElem (by omega);obtain⟨s1,s2⟩:=C9k hsz hac;refine⟨_,C23 (off:=0+i*P.cellsOf e) (n:=P.cellsOf e) (row_new _ _ _) (by omega),?_⟩;rw[Nat.zero_add,s1];obtain⟨x',cj,hx',_,_,h2,_⟩:=hit i _ hac;rw[hy]at hx';injection hx' with hx'
       subst hx';exact h2.grow hgrow
   | _=>cases hp
end
end Go.Proofs.Sh
/- From a call of the shadow to what a law's row asks. -/
namespace Go.Proofs.Sh
open Go Go.RowKit Go.ChangeShapes
def RDs{K:Type}(P:Program)(H:AH):List TypeId→List Value→List (DataW K)→Prop
 | [],[],[]=>True
 | t :: ts,v :: vs,d :: ds=>(∃f,RD P H f t (A6a v) d)∧RDs P H ts vs ds
 | _,_,_=>False
theorem RDs.grow{K:Type}{P:Program}{H H':AH}(h:HGrow H H'):∀{ts:List TypeId} {vs:List Value} {ds:List (DataW K)},RDs P H ts vs ds→RDs P H' ts vs ds
 | [],[],[],r=>r
 | t :: ts,v :: vs,d :: ds,⟨⟨f,r⟩,rs⟩=>⟨⟨f,r.grow h⟩,RDs.grow h rs⟩
 | [],[],_ :: _,r=>r.elim
 | [],_ :: _,_,r=>r.elim
 | _ :: _,[],_,r=>r.elim
 | _ :: _,_ :: _,[],r=>r.elim
section
variable {K:Type} {enc:TypeId×Value→K} {P:Program} {w:World} {B:Nat}
theorem value_of{ρ:Map}{acs:List Value}{v:Value}(h:VRels ρ acs v.cells.toList)(hc:∀x∈acs,isCell x=true):∃av,VRel ρ av v∧A6a av=acs:=by
 by_cases hv:∃cs,v=.agg cs
 ·obtain⟨cs,rfl⟩:=hv
  refine⟨.agg acs.toArray,?_,rfl⟩;unfold VRel;exact⟨cs.toList,by simp,h⟩
 ·have e:v.cells.toList=[v]:=by cases v<;>first|rfl|exact absurd ⟨_,rfl⟩ hv
  rw[e]at h;cases acs with
  | nil=>have:=h.length;simp at this
  | cons x l=>
   cases l with
   | cons y l=>have:=h.length;simp at this
   | nil=>
    obtain⟨u,h1,h2⟩:=h.one;injection h1 with h1 _
    subst h1;refine⟨x,h2,?_⟩;exact(h2.isCell (hc x List.mem_cons_self)).2.1
theorem C73{pf:Nat}:∀{ts:List TypeId} {vs:List Value} {ds:List (DataW K)} {ps:List MemPlace},DataW.TrodAll enc P w 0 (fun _=>true) true ts vs ds ps→(∀t∈ts,A97 P pf t=true)→∀H ρ,HRel B ρ H w→AllRo H→
  ∃H' ρ',∃avs:List Value,HRel B ρ' H' w∧AllRo H'∧HGrow H H'∧ρ.le ρ'∧VRels ρ' avs vs∧RDs P H' ts avs ds
 | [],vs,ds,ps,h,_,H,ρ,hH,hro=>by
  obtain⟨rfl,rfl,rfl⟩:=trodAll_nil h;exact⟨H,ρ,[],hH,hro,HGrow.refl H,Map.le_refl ρ,VRels.nil,trivial⟩
 | t :: ts,vs,ds,ps,h,hp,H,ρ,hH,hro=>by
  obtain⟨v,vs1,d,ds1,a,b,rfl,rfl,rfl,⟨fuel,h1⟩,h2⟩:=trodAll_cons h;obtain⟨H1,ρ1,acs,k1,k2,k3,k4,k5,k6,k7⟩:=take (B:=B) fuel pf t v.cells.toList d a h1 (hp t List.mem_cons_self) H ρ hH hro;obtain⟨av,k8,k9⟩:=value_of k5 k7;obtain⟨H2,ρ2,avs,g1,g2,g3,g4,g5,g6⟩:=C73 h2 (fun x hx=>hp x (List.mem_cons_of_mem _ hx)) H1 ρ1 k1 k2;exact⟨H2,ρ2,av :: avs,g1,g2,k3.trans g3,Map.le_trans k4 g4,VRels.cons (k8.mono g4) g5,⟨fuel,by rw[k9];exact k6.grow g3⟩,g6⟩
theorem A47(hl:laidOutB P=true){W W':World}(hb:Below W.heap.size W W'):∀{ts:List TypeId} {vs:List Value} {ds:List (DataW K)} {ps:List MemPlace},DataW.TrodAll enc P W 0 (fun _=>true) true ts vs ds ps→
  (∀t∈ts,P.readableRec t=true∧t<P.types.size)→(∀x∈ps,x.block<W.heap.size)→DataW.TrodAll enc P W' 0 (fun b=>decide (b<W.heap.size)) true ts vs ds ps
 | [],vs,ds,ps,h,_,_=>by
  obtain⟨rfl,rfl,rfl⟩:=trodAll_nil h;exact rfl
 | t :: ts,vs,ds,ps,h,hr,hlt=>by
  obtain⟨v,vs1,d,ds1,a,b,rfl,rfl,rfl,h1,h2⟩:=trodAll_cons h;refine⟨a,b,?_,?_,rfl⟩
  ·exact Below.trod hl (hr t List.mem_cons_self).1 (hr t List.mem_cons_self).2 h1 hb (fun x hx=>hlt x (List.mem_append.2 (.inl hx)))
  ·exact A47 hl hb h2 (fun x hx=>hr x (List.mem_cons_of_mem _ hx)) (fun x hx=>hlt x (List.mem_append.2 (.inr hx)))
def paramsOk(P:Program)(ts:List TypeId):Bool:=ts.all fun t=>A97 P 12 t&&P.readableRec t&&Nat.blt t P.types.size
end
end Go.Proofs.Sh
/- Lemmas for walking: addresses, reading, writing, new memory. -/
namespace Go.Proofs.Sh
open Go
section
variable {P:Program} {O:A1d} {H:AH}
theorem A8a{t f g o k n:Nat}{fs:Array Field}{fd:Field}(hu:P.underlying t=some (.struct fs))(hf:fs.toList[f]?=some fd)(hs:A5b P fd.type=some n)(hn:Nat.ble 1 n=true):
  A0b P t f (.pointer (some ⟨g,o,some k⟩))=some (.pointer (some ⟨g,o+fd.offset,some k⟩)):=by
 unfold A0b fieldsOf;simp only[hu,Option.bind_some,hf,hs,hn,Option.isSome_some,Bool.and_self,cond_true,plus]
theorem A2u{t e g o k n c i s:Nat}{j:IntKind}(hu:P.underlying t=some (.slice e))(hs:A5b P e=some s)(h:i<n):
  A4b P t (.slice (some ⟨g,o,some k⟩) n c) (.int j (i:Int))=some (.pointer (some ⟨g,o+i*s,some k⟩)):=by
 show A4b P t (.slice (some ⟨g,o,some k⟩) n c) (.int j (.ofNat i))=_;unfold A4b;simp only[hu,hs,Option.bind_some,A1j,h,decide_true,Option.isSome_some,Bool.and_self,cond_true,plus]
theorem A0g{t e n c:Nat}{a:Option Addr}(hu:P.underlying t=some (.slice e)):A3a P .len [t] [.slice a n c] H=some (.int .i64 (n:Int),H):=by
 unfold A3a;simp only[hu]
theorem C7t{t:Nat}{s:ByteArray}(hu:P.underlying t=some .string):A3a P .len [t] [.string s] H=some (.int .i64 (s.size:Int),H):=by
 unfold A3a;simp only[hu]
theorem A7a{v:Value}(h:isCell v=true):A6a v=[v]:=by
 cases v<;>first|rfl|cases h
theorem A9b{t:Nat}{a:Addr}{v:Value}(hs:A5b P t=some 1)(hv:isCell v=true):A7d P t H v (.pointer (some a))=H.write a [v]:=by
 unfold A7d;rw[hs,A7a hv];simp[hv,A1b]
theorem A4x{t:Nat}{v:Value}(hs:A5b P t=some 1)(hv:isCell v=true):anew P t H v=some (.pointer (some ⟨H.next,0,some 0⟩),(H.new 1 [v]).2):=by
 unfold anew;rw[hs,A7a hv];simp[hv,A1b];rfl
theorem A2r{t n:Nat}{vs:List Value}(hs:A5b P t=some n)(hl:vs.length=n)(hv:vs.all isCell=true):anew P t H (.agg vs.toArray)=some (.pointer (some ⟨H.next,0,some 0⟩),(H.new n vs).2):=by
 unfold anew;rw[hs];have e:A6a (.agg vs.toArray)=vs:=rfl;simp only[Option.bind_some,e,hv,hl,A1b,decide_true,Bool.and_self,cond_true];rfl
theorem A9s{t n:Nat}{a:Addr}{vs:List Value}(hs:A5b P t=some n)(hl:vs.length=n)(hv:vs.all isCell=true):A7d P t H (.agg vs.toArray) (.pointer (some a))=H.write a vs:=by
 unfold A7d;rw[hs];have e:A6a (.agg vs.toArray)=vs:=rfl;simp only[Option.bind_some,e,hv,hl,A1b,decide_true,Bool.and_self,cond_true]
def Obj(H:AH)(g s:Nat)(vals:List Value)(rw:Bool):Prop:=H.objs.get g=some (.rows [{ pos:=0,esz:=s,vals,ok:=true }] rw)
theorem Obj.cell{g s i:Nat}{vals:List Value}{rw:Bool}(h:Obj H g s vals rw):H.cell ⟨g,i,some 0⟩=vals[i]?:=by
 unfold AH.cell AH.row?;unfold Obj at h;simp only[h,List.getElem?_cons_zero,cond_true]
theorem Obj.cells{g s i n:Nat}{vals:List Value}{rw:Bool}(h:Obj H g s vals rw)(hn:i+n≤vals.length):H.cells ⟨g,i,some 0⟩ n=some ((vals.drop i).take n):=by
 unfold AH.cells AH.row?;unfold Obj at h;simp only[h,List.getElem?_cons_zero,cond_true,A4m,A0c,hn,decide_true]
theorem Obj.write{g s i:Nat}{vals vs:List Value}(h:Obj H g s vals true)(hn:i+vs.length≤vals.length):∃H',H.write ⟨g,i,some 0⟩ vs=some H'∧Obj H' g s (setCells vals i vs) true∧H'.next=H.next∧∀g',g'≠g→H'.objs.get g'=H.objs.get g':=by
 unfold AH.write;unfold Obj at h;simp only[h,List.getElem?_cons_zero,A0c,hn,decide_true,Bool.and_self,cond_true];refine⟨_,rfl,?_,rfl,fun g' hg=>?_⟩
 ·unfold Obj
  rw[A1f,if_pos rfl];simp[A6e]
 ·rw[A1f,if_neg hg]
theorem Obj.new(s:Nat)(vals:List Value):Obj (H.new s vals).2 H.next s vals true:=Tr.get_set_eq _ _ _
theorem C98{s g:Nat}{vals:List Value}(hg:g≠H.next):(H.new s vals).2.objs.get g=H.objs.get g:=Tr.get_set_ne _ hg _
def Old(n:Nat)(H H':AH):Prop:=∀g,g<n→H'.objs.get g=H.objs.get g
theorem Old.refl(n:Nat)(H:AH):Old n H H:=fun _ _=>rfl
theorem Old.trans{n:Nat}{H1 H2 H3:AH}(h:Old n H1 H2)(k:Old n H2 H3):Old n H1 H3:=fun g hg=>(k g hg).trans (h g hg)
theorem Old.weak{n m:Nat}{H1 H2:AH}(h:Old n H1 H2)(hm:m≤n):Old m H1 H2:=fun g hg=>h g (Nat.lt_of_lt_of_le hg hm)
theorem Old.grow{H1 H2:AH}(h:Old H1.next H1 H2)(hw:Wf H1):HGrow H1 H2:=fun g o hg=>by rw[h g (hw g o hg)];exact hg
theorem Old.new(s:Nat)(vals:List Value):Old H.next H (H.new s vals).2:=fun g hg=>C98 (Nat.ne_of_lt hg)
theorem Wf.new(h:Wf H)(s:Nat)(vals:List Value):Wf (H.new s vals).2:=h.push _
structure Kept(H H':AH):Prop where
 old:Old H.next H H'
 next:H.next≤H'.next
 wf:Wf H'
theorem Kept.refl(h:Wf H):Kept H H:=⟨Old.refl _ _,Nat.le_refl _,h⟩
theorem Kept.trans{H1 H2 H3:AH}(h:Kept H1 H2)(k:Kept H2 H3):Kept H1 H3:=⟨h.old.trans (k.old.weak h.next),Nat.le_trans h.next k.next,k.wf⟩
theorem Kept.new(h:Wf H)(s:Nat)(vals:List Value):Kept H (H.new s vals).2:=⟨Old.new s vals,Nat.le_succ _,h.new s vals⟩
theorem Kept.grow{H1 H2:AH}(h:Kept H1 H2)(hw:Wf H1):HGrow H1 H2:=h.old.grow hw
theorem A8d{c:Code}{S:List Item}{Q:Fr→AH→Prop}(I:Nat→Fr→AH→Prop){m:Nat}{F:Fr}{H:AH}(h0:I m F H)
  (body:∀m F H,I m F H→(∀m' F' H',m'<m→I m' F' H'→wp P O (.inLoop c :: S) Q F' H')→wp P O (.code c :: .inLoop c :: S) Q F H):wp P O (.inLoop c :: S) Q F H:=by
 induction m using Nat.strongRecOn generalizing F H with
 | _ m ih=>
  rw[wp_inLoop];exact body m F H h0 (fun m' F' H' hm hI=>ih m' hm hI)
theorem B8v{c:Code}{S:List Item}{Q:Fr→AH→Prop}(n:Nat)(I:Nat→Fr→AH→Prop){i:Nat}{F:Fr}{H:AH}(hi:i≤n)(h0:I i F H)
  (body:∀i F H,i≤n→I i F H→(∀F' H',i<n→I (i+1) F' H'→wp P O (.inLoop c :: S) Q F' H')→wp P O (.code c :: .inLoop c :: S) Q F H):wp P O (.inLoop c :: S) Q F H:=
 A8d (fun m F H=>∃i,i≤n∧m=n-i∧I i F H) ⟨i,hi,rfl,h0⟩ fun m F H ⟨i,h1,h2,h3⟩ k=>body i F H h1 h3 fun F' H' hlt h4=>k (n-(i+1)) F' H' (by omega) ⟨i+1,by omega,rfl,h4⟩
end
def Sl(H:AH)(v:Value)(s:Nat)(l:List (List Value)):Prop:=
 ∃a cap,v=.slice a l.length cap∧(∀x∈l,x.length=s)∧(a=none→l=[]∧cap=0)∧
  (l≠[]→∃g o k,a=some ⟨g,o,some k⟩∧∀(i:Nat) x,l[i]?=some x→H.cells ⟨g,o+i*s,some k⟩ s=some x)
section
variable {P:Program} {H H':AH} {v:Value} {s:Nat} {l:List (List Value)}
theorem Sl.grow(h:Sl H v s l)(hg:HGrow H H'):Sl H' v s l:=by
 obtain⟨a,cap,h1,h2,h3,h4⟩:=h;refine⟨a,cap,h1,h2,h3,fun hn=>?_⟩;obtain⟨g,o,k,h5,h6⟩:=h4 hn;exact⟨g,o,k,h5,fun i x hx=>A8l hg (h6 i x hx)⟩
theorem Sl.nil(H:AH)(s:Nat):Sl H (.slice none 0 0) s []:=⟨none,0,rfl,fun x h=>(by cases h),fun _=>⟨rfl,rfl⟩,fun h=>absurd rfl h⟩
theorem Sl.isCell(h:Sl H v s l):isCell v=true:=by
 obtain⟨a,cap,rfl,_⟩:=h;rfl
theorem Sl.len{t e:Nat}(hu:P.underlying t=some (.slice e))(h:Sl H v s l)(H':AH):A3a P .len [t] [v] H'=some (.int .i64 (l.length:Int),H'):=by
 obtain⟨a,cap,rfl,_⟩:=h;exact A0g hu
theorem C5t{a:Addr}{n:Nat}{x:List Value}(h:H.cells a n=some x):∀(j:Nat) u,x[j]?=some u→H.cell ⟨a.block,a.off+j,a.spot⟩=some u:=by
 intro j u hj;unfold AH.cells at h;unfold AH.cell;have hrow:H.row? ⟨a.block,a.off+j,a.spot⟩=H.row? a:=rfl;rw[hrow];cases hr:H.row? a with
 | none=>rw[hr]at h;cases h
 | some r=>
  rw[hr]at h;obtain⟨h1,h2,h3⟩:=A6k h;subst h2;rw[List.getElem?_take]at hj;split at hj
  ·rw[List.getElem?_drop]at hj;exact hj
  ·cases hj
theorem Sl.at{t e:Nat}(hu:P.underlying t=some (.slice e))(hs:A5b P e=some s)(h:Sl H v s l){i:Nat}{x:List Value}(hx:l[i]?=some x)(j:IntKind):
  ∃g o k,A4b P t v (.int j (i:Int))=some (.pointer (some ⟨g,o,some k⟩))∧H.cells ⟨g,o,some k⟩ s=some x∧∀(q:Nat) u,x[q]?=some u→H.cell ⟨g,o+q,some k⟩=some u:=by
 obtain⟨a,cap,rfl,h2,h3,h4⟩:=h;have hi:=(List.getElem?_eq_some_iff.1 hx).1;obtain⟨g,o,k,rfl,h6⟩:=h4 (by rintro rfl;simp at hx);exact⟨g,o+i*s,k,A2u hu hs hi,h6 i x hx,C5t (h6 i x hx)⟩
theorem RD.slice{K:Type}{f t e:Nat}{cs:List Value}{d:DataW K}(hu:P.underlying t=some (.slice e))(hs:P.cellsOf e=s)(h:RD P H f t cs d):
  ∃l:List (List Value),∃ds:List (DataW K),(∃u,cs=[u]∧Sl H u s l)∧l.length=ds.length∧(∀(i:Nat) x y,l[i]?=some x→ds[i]?=some y→∃f',RD P H f' e x y)∧(d=.nil∧ds=[]∨∃sp,d=.slice ds sp):=by
 cases f with
 | zero=>exact h.elim
 | succ f=>
  unfold RD at h;rw[hu]at h;rcases h with⟨rfl,rfl⟩|⟨a,len,cap,es,sp,rfl,rfl,h1,h2,h3,h4,h5⟩
  ·exact⟨[],[],⟨_,rfl,Sl.nil H s⟩,rfl,fun i x y h=>by simp at h,.inl ⟨rfl,rfl⟩⟩
  ·subst hs
   have hall:∀i,i<len→∃c x,es[i]?=some x∧H.cells (plus a (i*P.cellsOf e)) (P.cellsOf e)=some c∧RD P H f e c x:=by
    intro i hi;have hx:es[i]?=some (es[i]'(by omega)):=List.getElem?_eq_getElem (by omega);obtain⟨c,k1,k2⟩:=h5 i _ hx;exact⟨c,_,hx,k1,k2⟩
   have hget:∀i,i<len→((List.range len).map fun i=>(H.cells (plus a (i*P.cellsOf e)) (P.cellsOf e)).getD [])[i]?=H.cells (plus a (i*P.cellsOf e)) (P.cellsOf e):=by
    intro i hi;obtain⟨c,x,_,k1,_⟩:=hall i hi;rw[List.getElem?_map,List.getElem?_range hi,k1];simp[k1]
   have hlt:∀(i:Nat) x,((List.range len).map fun i=>(H.cells (plus a (i*P.cellsOf e)) (P.cellsOf e)).getD [])[i]?=some x→i<len:=by
    intro i x hx;have:=(List.getElem?_eq_some_iff.1 hx).1
    simpa using this
   refine⟨(List.range len).map fun i=>(H.cells (plus a (i*P.cellsOf e)) (P.cellsOf e)).getD [],es,⟨_,rfl,some a,cap,by simp,fun x hx=>?_,fun h=>(by cases h),fun hn=>?_⟩,by simp[h1],fun i x y hx hy=>?_,.inr ⟨sp,rfl⟩⟩
   ·obtain⟨i,hi,rfl⟩:=List.mem_map.1 hx
    obtain⟨c,x,_,k1,_⟩:=hall i (by simpa using hi);rw[k1];unfold AH.cells at k1;split at k1
    ·exact(A6k k1).2.2
    ·cases k1
   ·have hl : 0 < len := by
      cases len with
      | zero => exact absurd rfl hn
      | succ n => omega
    obtain⟨g, o, sp'⟩ := a;have hsp := h4 hl;cases sp' with
    | none => cases hsp
    | some k =>
      refine⟨g, o, k, rfl, fun i x hx => ?_⟩;have hi := hlt i x hx;rw[hget i hi]at hx;exact hx
   ·have hi:=hlt i x hx
    obtain⟨c,z,k0,k1,k2⟩:=hall i hi;rw[hget i hi,k1]at hx;injection hx with hx
    subst hx;rw[hy]at k0;injection k0 with k0
    subst k0;exact⟨f,k2⟩
end
structure ArcD where
 fr:Int
 inn:ByteArray
 out:ByteArray
 to:Int
 cost:Int
structure EndD where
 state:Int
 cost:Int
structure NetD where
 sigma:List ByteArray
 states:Int
 arcs:List ArcD
 ends:List EndD
def ArcD.cells(a:ArcD):List Value:=[.int .i64 a.fr,.string a.inn,.string a.out,.int .i64 a.to,.int .i64 a.cost]
def EndD.cells(e:EndD):List Value:=[.int .i64 e.state,.int .i64 e.cost]
def A6b(s:ByteArray):List Value:=[.string s]
structure A6v(H:AH)(v:Value)(N:NetD) where
 sg:Value
 ar:Value
 en:Value
 eq:v=.agg #[sg,.int .i64 N.states,ar,en]
 hsg:Sl H sg 1 (N.sigma.map A6b)
 har:Sl H ar 5 (N.arcs.map ArcD.cells)
 hen:Sl H en 2 (N.ends.map EndD.cells)
section
variable {P:Program} {t:TypeId} {c:Bool} {j:IntKind} {a b:Int} {x y:ByteArray}
theorem A5e(j:IntKind):A1n j j=true:=by cases j<;>rfl
theorem b_add:abin P t c .add (.int j a) (.int j b)=some (.int j (j.wrap (a+b))):=by simp only[abin,A5e,cond_true,aint]
theorem b_sub:abin P t c .sub (.int j a) (.int j b)=some (.int j (j.wrap (a-b))):=by simp only[abin,A5e,cond_true,aint]
theorem b_mul:abin P t c .mul (.int j a) (.int j b)=some (.int j (j.wrap (a*b))):=by simp only[abin,A5e,cond_true,aint]
theorem b_lss:abin P t c .lss (.int j a) (.int j b)=some (.bool (decide (a<b))):=by
 simp only[abin,A5e,cond_true,aint,A7k];by_cases h:a<b
 ·simp[h]
 ·simp[h];omega
theorem b_leq:abin P t c .leq (.int j a) (.int j b)=some (.bool (decide (a≤b))):=by simp only[abin,A5e,cond_true,aint,A7k]
theorem b_gtr:abin P t c .gtr (.int j a) (.int j b)=some (.bool (decide (b<a))):=by
 simp only[abin,A5e,cond_true,aint,A7k];by_cases h:b<a
 ·simp[h]
 ·simp[h];omega
theorem b_geq:abin P t c .geq (.int j a) (.int j b)=some (.bool (decide (b≤a))):=by simp only[abin,A5e,cond_true,aint,A7k]
theorem b_eql:abin P t c .eql (.int j a) (.int j b)=some (.bool (decide (a=b))):=by simp only[abin,A5e,cond_true,aint,A3q];rfl
theorem b_neq:abin P t c .neq (.int j a) (.int j b)=some (.bool (!decide (a=b))):=by simp only[abin,A5e,cond_true,aint,A3q];rfl
theorem A6y:∀{l m:List UInt8},A0l l m=true↔l=m
 | [],[]=>by simp[A0l]
 | [],_ :: _=>by simp[A0l]
 | _ :: _,[]=>by simp[A0l]
 | p :: l,q :: m=>by
  simp only[A0l,Bool.and_eq_true,A1b,decide_eq_true_eq,A6y,List.cons.injEq];exact⟨fun⟨h1,h2⟩=>⟨UInt8.toNat_inj.1 h1,h2⟩,fun⟨h1,h2⟩=>⟨by rw[h1],h2⟩⟩
theorem A5t(x y:ByteArray):A0l x.data.toList y.data.toList=decide (x=y):=by
 by_cases h:x=y
 ·subst h;simp[A6y.2 rfl]
 ·simp only[h,decide_false]
  cases hb:A0l x.data.toList y.data.toList with
  | false=>rfl
  | true=>
   have:=A6y.1 hb;exact absurd (ByteArray.ext (Array.toList_inj.1 this)) h
theorem s_eql:abin P t c .eql (.string x) (.string y)=some (.bool (decide (x=y))):=by simp only[abin,astr,A5t]
theorem s_neq:abin P t c .neq (.string x) (.string y)=some (.bool (!decide (x=y))):=by simp only[abin,astr,A5t]
def A9r(x y:ByteArray):Bool:=A3p x.data.toList y.data.toList
theorem s_lss:abin P t c .lss (.string x) (.string y)=some (.bool (A9r x y)):=by simp only[abin,astr,A9r]
theorem s_leq:abin P t c .leq (.string x) (.string y)=some (.bool (A9r x y||decide (x=y))):=by simp only[abin,astr,A9r,A5t]
theorem s_gtr:abin P t c .gtr (.string x) (.string y)=some (.bool !(A9r x y||decide (x=y))):=by simp only[abin,astr,A9r,A5t]
theorem s_geq:abin P t c .geq (.string x) (.string y)=some (.bool !A9r x y):=by simp only[abin,astr,A9r]
theorem u_not{z:Bool}:aun .not (.bool z)=some (.bool !z):=rfl
theorem wrap64{n:Int}(h1:-9223372036854775808≤n)(h2:n<9223372036854775808):IntKind.wrap .i64 n=n:=by
 simp only[IntKind.wrap];simp[IntKind.bits,IntKind.signed];omega
theorem wrap_succ{i n:Nat}(h:i<n)(hn:n≤1048576):IntKind.wrap .i64 ((i:Int)+1)=((i+1:Nat):Int):=by
 rw[wrap64 (by omega) (by omega)];rfl
theorem A2a{i n:Nat}:decide ((i:Int)<(n:Int))=decide (i<n):=by simp
theorem C76{k:IntKind}:abin P t c .shr (.int j a) (.int k b)=A4j false j a b:=rfl
theorem A4y{s d:TypeId}{k:IntKind}{n:Int}{y:TypeDesc}{H:AH}(h1:P.underlying s=some y)(h2:P.underlying d=some (.int k)):A2i P s d (.int j n) H=some (.int k (k.wrap n),H):=by
 unfold A2i;rw[h1,h2]
theorem B1m{i:Nat}{u:UInt8}(hu:P.underlying t=some .string)(h:x.data.toList[i]?=some u):B6c P t (.string x) (.int j (i:Int))=some (.int .u8 u.toNat):=by
 show B6c P t (.string x) (.int j (.ofNat i))=_;unfold B6c;simp only[hu,h,Option.map_some]
end
def calm(ops:List Oper):Bool:=ops.all fun o=>!isEff o
section
variable {P:Program} {call:A1d}
theorem B8o:∀{ops:List Oper} {bs:List Nat} {i:Nat},calm ops=true→A1y ops bs i 0=true
 | [],bs,i,_=>by simp[A1y]
 | o :: ops,[],i,_=>by simp[A1y]
 | o :: ops,b :: bs,i,h=>by
  simp only[calm,List.all_cons,Bool.and_eq_true,Bool.not_eq_true']at h;simp only[A1y,Nat.zero_and,h.1,cond_false];rw[B8o (ops:=ops) h.2];rfl
theorem B43{all:List Oper}{bs:List Nat}(hc:calm all=true):∀(m i:Nat) (ps:List Pend) (F:Fr) (H:AH),i+m=all.length→A4e P call all bs (List.range' i m) ps F H=A6o P call all (all.drop i) F H
 | 0,i,ps,F,H,h=>by
  rw[List.drop_of_length_le (by omega)];rfl
 | m+1,i,ps,F,H,h=>by
  have hi:i<all.length:=by omega
  rw[List.drop_eq_getElem_cons hi,List.range'_succ];have ho:all[i]?=some all[i]:=List.getElem?_eq_getElem hi;have hE:isEff all[i]=false:=by
   have:=List.all_eq_true.1 hc _ (List.getElem_mem hi)
   simpa using this
  generalize all[i]=o at ho hE;have ih:=B43 (bs:=bs) hc m (i+1);simp only[A4e,A6o,ho,hE,cond_false];cases hw:A3m all F o with
  | none=>rfl
  | some b=>
   cases b with
   | false=>exact ih _ _ _ (by omega)
   | true=>
    simp only;cases hop:aop P call F H o with
    | none=>rfl
    | some r=>
     obtain⟨v,H1⟩:=r;simp only;cases hM:A2d o with
     | true=>
      obtain⟨x,hx⟩:=A4l hM hop;have:H1.objs.get H.next=some x:=by rw[hx];exact A1q H x
      simp only[cond_true,this];exact ih _ _ _ (by omega)
     | false=>
      simp only[cond_false];cases isRead o
      ·exact ih _ _ _ (by omega)
      ·exact ih _ _ _ (by omega)
theorem B8l{ops:List Oper}{F:Fr}{H:AH}(hc:calm ops=true):region P call ops true F H=region P call ops false F H:=by
 unfold region;simp only[cond_true,cond_false];have:A53 ops (A6j ops)=List.range' 0 ops.length:=by
  unfold A53;rw[B8o hc];simp only[cond_true];exact List.range_eq_range'
 rw[this,B43 hc ops.length 0 [] F H (by omega),List.drop_zero]
end
variable {P:Program} {O:A1d} {S:List Item} {Q:Fr→AH→Prop} {F:Fr} {H:AH}
theorem D7a{id:Nat}{ops:Array Oper}(hc:calm ops.toList=true):wp P O (.code (.region id ops true) :: S) Q F H↔wpo P O ops.toList ops.toList (wp P O S Q) F H:=by
 rw[B5z];constructor
 ·rintro⟨n,F1,H1,h1,h2⟩
  rw[B8l hc]at h1;exact⟨n,F1,H1,h1,h2⟩
 ·rintro⟨n,F1,H1,h1,h2⟩
  refine⟨n,F1,H1,?_,h2⟩;rw[B8l hc];exact h1
section
variable {K:Fr→AH→Prop} {all ops:List Oper} {dst:Option Tmp} {ty:TypeId} {pos:String} {aft:Array Edge} {op:Op} {j:Nat} {want:Bool}
theorem B31(h:((all[j]?).bind (·.dst)).bind F.get=some (.bool want)):wpo P O all (⟨dst,op,ty,pos,aft,some (j,want)⟩ :: ops) K F H↔wpo P O all (⟨dst,op,ty,pos,aft,none⟩ :: ops) K F H:=by
 rw[C2c,h];simp
theorem B65(h:((all[j]?).bind (·.dst)).bind F.get=some (.bool !want)):wpo P O all (⟨dst,op,ty,pos,aft,some (j,want)⟩ :: ops) K F H↔wpo P O all ops K (put F dst undef) H:=by
 rw[C2c,h];cases want<;>simp
end
end Go.Proofs.Sh
/- The order of texts. -/
namespace Go.Proofs.Sh
open Go
theorem A48:∀{x y z:List UInt8},A3p x y=true→A3p y z=true→A3p x z=true
 | _,[],_,h,_=>by simp[A3p]at h
 | _,_ :: _,[],_,h=>by simp[A3p]at h
 | [],_ :: _,_ :: _,_,_=>rfl
 | a :: x,b :: y,c :: z,h,k=>by
  simp only[A3p,Bool.or_eq_true,Bool.and_eq_true,A1b,A1j,decide_eq_true_eq]at h k ⊢;rcases h with h|⟨h1,h2⟩<;>rcases k with k|⟨k1,k2⟩
  ·exact .inl (by omega)
  ·exact .inl (by omega)
  ·exact .inl (by omega)
  ·exact .inr ⟨by omega,A48 h2 k2⟩
theorem A13:∀(x:List UInt8),A3p x x=false
 | []=>rfl
 | a :: x=>by
  simp only[A3p,A13 x,A1j,Bool.and_false,Bool.or_false,decide_eq_false_iff_not];omega
theorem A34{x y z:ByteArray}(h:A9r x y=true)(k:A9r y z=true):A9r x z=true:=A48 h k
theorem B5c(x:ByteArray):A9r x x=false:=A13 _
def Asc(l:List ByteArray):Prop:=∀(i j:Nat) x y,i<j→l[i]?=some x→l[j]?=some y→A9r x y=true
theorem C46{l:List ByteArray}(ha:Asc l)(x:ByteArray){k:Nat}(h1:∀(i:Nat) y,i<k→l[i]?=some y→A9r y x=true)(h2:∀(i:Nat) y,k≤i→l[i]?=some y→A9r y x=false):l[k]?=some x↔x∈l:=by
 constructor
 ·exact List.mem_of_getElem?
 ·intro h
  obtain⟨i,hi⟩:=List.mem_iff_getElem?.1 h;rcases Nat.lt_trichotomy i k with h3|h3|h3
  ·have:=h1 i x h3 hi
   rw[B5c]at this;cases this
  ·rw[←h3];exact hi
  ·have hil:=(List.getElem?_eq_some_iff.1 hi).1
   have hk:l[k]?=some (l[k]'(by omega)):=List.getElem?_eq_getElem (by omega);have h4:=ha k i _ _ h3 hk hi;rw[h2 k _ (Nat.le_refl k) hk]at h4;cases h4
def A7r(l:List ByteArray)(x:ByteArray):Bool:=l.any fun y=>decide (y=x)
theorem A9g{l:List ByteArray}{x:ByteArray}:A7r l x=true↔x∈l:=by
 simp[A7r]
def Same(W:List Nat)(F F':Fr):Prop:=∀t,W.contains t=false→F'.get t=F.get t
theorem Same.rfl'{W:List Nat}(F:Fr):Same W F F:=fun _ _=>rfl
theorem Same.put{W:List Nat}{F F':Fr}{t:Nat}{v:Value}(h:Same W F F')(ht:W.contains t=true):Same W F (put F' (some t) v):=by
 intro u hu;rw[A90 _ (by rintro rfl;rw[ht]at hu;cases hu)];exact h u hu
theorem Same.trans{W:List Nat}{F F1 F2:Fr}(h:Same W F F1)(k:Same W F1 F2):Same W F F2:=fun t ht=>(k t ht).trans (h t ht)
section
variable {P:Program} {O:A1d} {H:AH}
theorem A0d{c:Code}{S:List Item}{Q:Fr→AH→Prop}{F:Fr}{H:AH}(n t:Nat)(W:List Nat)(I:Nat→Fr→AH→Prop)
  (ht:F.get t=some (.int .i64 0)) (h0:I 0 F H)
  (step:∀i F' H',i<n→Same W F F'→F'.get t=some (.int .i64 (i:Int))→I i F' H'→
   (∀F'' H'',Same W F' F''→F''.get t=some (.int .i64 ((i+1:Nat):Int))→I (i+1) F'' H''→wp P O (.inLoop c :: S) Q F'' H'')→wp P O (.code c :: .inLoop c :: S) Q F' H')
  (done:∀F' H',Same W F F'→F'.get t=some (.int .i64 (n:Int))→I n F' H'→wp P O (.code c :: .inLoop c :: S) Q F' H'):
  wp P O (.inLoop c :: S) Q F H:=by
 refine B8v n (fun i F' H'=>Same W F F'∧F'.get t=some (.int .i64 (i:Int))∧I i F' H') (Nat.zero_le n) ⟨Same.rfl' F,ht,h0⟩ ?_;rintro i F' H' hi ⟨h1,h2,h3⟩ k;by_cases hlt:i<n
 ·exact step i F' H' hlt h1 h2 h3 fun F'' H'' s1 s2 s3=>k F'' H'' hlt ⟨h1.trans s1,s2,s3⟩
 ·have:i=n:=by omega
  subst this;exact done F' H' h1 h2 h3
structure Chg(X:Nat→Prop)(H H':AH):Prop where
 old:∀g,g<H.next→¬X g→H'.objs.get g=H.objs.get g
 next:H.next≤H'.next
 wf:Wf H'
def none':Nat→Prop:=fun _=>False
theorem Chg.refl{X:Nat→Prop}(h:Wf H):Chg X H H:=⟨fun _ _ _=>rfl,Nat.le_refl _,h⟩
theorem Chg.trans{X:Nat→Prop}{H1 H2 H3:AH}(h:Chg X H1 H2)(k:Chg X H2 H3):Chg X H1 H3:=
 ⟨fun g hg hx=>(k.old g (Nat.lt_of_lt_of_le hg h.next) hx).trans (h.old g hg hx),Nat.le_trans h.next k.next,k.wf⟩
theorem Chg.then{X Y:Nat→Prop}{H1 H2 H3:AH}(h:Chg X H1 H2)(k:Chg Y H2 H3)(hy:∀g,Y g→g<H1.next→X g):Chg X H1 H3:=
 ⟨fun g hg hx=>(k.old g (Nat.lt_of_lt_of_le hg h.next) fun hy'=>hx (hy g hy' hg)).trans (h.old g hg hx),Nat.le_trans h.next k.next,k.wf⟩
theorem Chg.weak{X Y:Nat→Prop}{H1 H2:AH}(h:Chg X H1 H2)(hx:∀g,X g→Y g):Chg Y H1 H2:=⟨fun g hg hy=>h.old g hg fun k=>hy (hx g k),h.next,h.wf⟩
theorem Kept.chg{X:Nat→Prop}{H1 H2:AH}(h:Kept H1 H2):Chg X H1 H2:=⟨fun g hg _=>h.old g hg,h.next,h.wf⟩
theorem Chg.kept{X:Nat→Prop}{H1 H2:AH}(h:Chg X H1 H2)(hx:∀g,g<H1.next→¬X g):Kept H1 H2:=⟨fun g hg=>h.old g hg (hx g hg),h.next,h.wf⟩
theorem Chg.push{X:Nat→Prop}(h:Wf H)(o:AObj):Chg X H (H.push o).2:=
 ⟨fun g hg _=>Tr.get_set_ne _ (Nat.ne_of_lt hg) _,Nat.le_succ _,h.push o⟩
theorem Chg.put{X:Nat→Prop}(h:Wf H){g:Nat}(hg:g<H.next)(hx:X g)(o:AObj):Chg X H (H.put g o):=
 ⟨fun g' _ hx'=>by rw[A1f,if_neg];rintro rfl;exact hx' hx,Nat.le_refl _,h.put hg o⟩
def Arr(H:AH)(g k:Nat)(s:Nat)(vals:List Value):Prop:=
 ∃rs r,H.objs.get g=some (.rows rs true)∧rs[k]?=some r∧r.ok=true∧r.esz=s∧r.vals=vals
section
variable {g k s:Nat} {vals:List Value}
theorem Obj.arr(h:Obj H g s vals true):Arr H g 0 s vals:=⟨_,_,h,rfl,rfl,rfl,rfl⟩
theorem Arr.keep{H':AH}(h:Arr H g k s vals)(hg:H'.objs.get g=H.objs.get g):Arr H' g k s vals:=by
 obtain⟨rs,r,h1,h2,h3,h4,h5⟩:=h;exact⟨rs,r,by rw[hg,h1],h2,h3,h4,h5⟩
theorem Arr.lt(h:Arr H g k s vals)(hw:Wf H):g<H.next:=by
 obtain⟨rs,r,h1,_⟩:=h;exact hw _ _ h1
theorem Arr.row(h:Arr H g k s vals)(o:Nat):∃r,H.row? ⟨g,o,some k⟩=some r∧r.vals=vals∧r.esz=s:=by
 obtain⟨rs,r,h1,h2,h3,h4,h5⟩:=h;refine⟨r,?_,h5,h4⟩;unfold AH.row?;simp only[h1,h2,h3,cond_true]
theorem Arr.cell(h:Arr H g k s vals)(i:Nat):H.cell ⟨g,i,some k⟩=vals[i]?:=by
 obtain⟨r,h1,h2,h3⟩:=h.row i;unfold AH.cell;rw[h1,←h2]
theorem Arr.cells(h:Arr H g k s vals){i n:Nat}(hn:i+n≤vals.length):H.cells ⟨g,i,some k⟩ n=some ((vals.drop i).take n):=by
 obtain⟨r,h1,h2,h3⟩:=h.row i;unfold AH.cells;rw[h1];simp only[A4m,h2,A0c,hn,decide_true,cond_true]
theorem Arr.esz(h:Arr H g k s vals)(i:Nat):A83 H ⟨g,i,some k⟩ s=true:=by
 obtain⟨r,h1,h2,h3⟩:=h.row i;unfold A83;rw[h1];simp[h3]
theorem Arr.write(h:Arr H g k s vals)(hw:Wf H){i:Nat}{vs:List Value}(hn:i+vs.length≤vals.length):
  ∃H',H.write ⟨g,i,some k⟩ vs=some H'∧Arr H' g k s (setCells vals i vs)∧H'.next=H.next∧Chg (fun x=>x=g) H H':=by
 have hlt:=h.lt hw;obtain⟨rs,r,h1,h2,h3,h4,h5⟩:=h;unfold AH.write;simp only[h1,h2,h3,h5,A0c,hn,decide_true,Bool.and_self,cond_true];refine⟨_,rfl,?_,rfl,Chg.put (X:=fun x=>x=g) hw hlt rfl _⟩;refine⟨_,{ r with vals:=setCells vals i vs },by rw[A1f,if_pos rfl],?_,h3,h4,rfl⟩;rw[A7l,h2];simp[h3]
end
def flat(l:List (List Value)):List Value:=l.flatten
theorem flat_length{s:Nat}:∀{l:List (List Value)},(∀x∈l,x.length=s)→(flat l).length=l.length*s
 | [],_=>by simp[flat]
 | x :: l,h=>by
  have h1:=h x List.mem_cons_self;have h2:=flat_length (l:=l) fun y hy=>h y (List.mem_cons_of_mem _ hy);simp only[flat,List.flatten_cons,List.length_append,List.length_cons]at h2 ⊢;rw[h2,h1,Nat.succ_mul];omega
theorem B5j{s:Nat}:∀{l:List (List Value)} {i:Nat} {x:List Value},(∀x∈l,x.length=s)→l[i]?=some x→((flat l).drop (i*s)).take s=x
 | [],i,x,_,h=>by simp at h
 | y :: l,0,x,h,e=>by
  have h1:=h y List.mem_cons_self;simp only[List.getElem?_cons_zero,Option.some.injEq]at e;subst e;simp[flat,←h1]
 | y :: l,i+1,x,h,e=>by
  have h1:=h y List.mem_cons_self;have h2:=B5j (l:=l) (fun z hz=>h z (List.mem_cons_of_mem _ hz)) (by simpa using e);rw[←h2];simp only[flat,List.flatten_cons,Nat.succ_mul];rw[List.drop_append,List.drop_of_length_le (by omega),List.nil_append]
  congr 2
  omega
theorem A8o(l m:List (List Value)):flat (l++m)=flat l++flat m:=by simp[flat]
theorem A5z:∀(vs a b:List Value),vs.length≤b.length→setCells (a++b) a.length vs=a++vs++b.drop vs.length
 | [],a,b,_=>by simp[setCells]
 | v :: vs,a,[],h=>by simp at h
 | v :: vs,a,x :: b,h=>by
  have e:(a++x :: b).set a.length v=(a++[v])++b:=by
   rw[List.set_append_right _ _ (Nat.le_refl _)];simp
  have ih:=A5z vs (a++[v]) b (by simpa using h);simp only[List.length_append,List.length_cons,List.length_nil]at ih;simp only[setCells,e,Nat.zero_add]at ih ⊢;rw[ih];simp
inductive Buf(H:AH)(s:Nat):Value→List (List Value)→Option Nat→Prop where
 | void (a:Option Addr):Buf H s (.slice a 0 0) [] none
 | own (g k cap : Nat) (l : List (List Value)) (vals : List Value) (h : Arr H g k s vals) (h0 : 0 < A5p cap) (h1 : A5p cap * s = vals.length) (h2 : l.length ≤ A5p cap) (h3 : vals.take (l.length * s) = flat l) (h4 : ∀ x ∈ l, x.length = s) :
     Buf H s (.slice (some ⟨g, 0, some k⟩) l.length cap) l (some g)
section
variable {s:Nat} {v:Value} {l:List (List Value)} {b:Option Nat}
theorem Buf.keep{H':AH}(h:Buf H s v l b)(hg:∀g,b=some g→H'.objs.get g=H.objs.get g):Buf H' s v l b:=by
 cases h with
 | void a=>exact .void a
 | own g k cap l vals h h0 h1 h2 h3 h4=>exact .own g k cap l vals (h.keep (hg g rfl)) h0 h1 h2 h3 h4
theorem Buf.lt(h:Buf H s v l b)(hw:Wf H):∀g,b=some g→g<H.next:=by
 rintro g rfl;cases h with
 | own g k cap l vals h=>exact h.lt hw
theorem Buf.chg{X:Nat→Prop}{H':AH}(h:Buf H s v l b)(hw:Wf H)(hc:Chg X H H')(hx:∀g,b=some g→¬X g):Buf H' s v l b:=
 h.keep fun g hg=>hc.old g (h.lt hw g hg) (hx g hg)
theorem Buf.kept{H':AH}(h:Buf H s v l b)(hw:Wf H)(hc:Kept H H'):Buf H' s v l b:=
 h.keep fun g hg=>hc.old g (h.lt hw g hg)
theorem Buf.wide(h:Buf H s v l b):∀x∈l,x.length=s:=by
 cases h with
 | void a=>intro x hx;cases hx
 | own g k cap l vals h h0 h1 h2 h3 h4=>exact h4
theorem Buf.isCell(h:Buf H s v l b):isCell v=true:=by cases h<;>rfl
theorem Buf.sl(h:Buf H s v l b):(∃n c,v=.slice none n c∧n=0)∧l=[]∨Sl H v s l:=by
 cases h with
 | void a=>
  cases a with
  | none=>exact .inl ⟨⟨0,0,rfl,rfl⟩,rfl⟩
  | some a=>exact .inr ⟨some a,0,rfl,(fun x h=>by cases h),(fun h=>by cases h),fun h=>absurd rfl h⟩
 | own g k cap l vals h h0 h1 h2 h3 h4=>
  refine .inr ⟨some ⟨g,0,some k⟩,cap,rfl,h4,(fun h=>by cases h),fun hn=>⟨g,0,k,rfl,fun i x hx=>?_⟩⟩;have hi:=(List.getElem?_eq_some_iff.1 hx).1;have hle:(i+1)*s≤l.length*s:=Nat.mul_le_mul_right s hi;have hle2:l.length*s≤vals.length:=by rw[←h1];exact Nat.mul_le_mul_right s h2
  rw[Nat.succ_mul]at hle;rw[Nat.zero_add,h.cells (by omega),←B5j h4 hx,←h3];rw[List.drop_take,List.take_take,Nat.min_eq_left (by omega)]
theorem Buf.toSl(h:Buf H s v l b):Sl H v s l:=by
 rcases h.sl with⟨⟨n,c,rfl,rfl⟩,rfl⟩|h'
 ·cases h with
  | void a=>exact Sl.nil H s
 ·exact h'
theorem A0o(n:Nat):A5p (n+big)=n:=by
 unfold A5p;rw[Nat.ble_eq_true_of_le (by omega)];simp
theorem B5f{c:Nat}(h:c<big):A5p c=c:=by
 unfold A5p;rw[A0c];simp[Nat.not_le.2 h]
theorem Buf.fresh{xs:List (List Value)}(hw:Wf H)(hx:∀x∈xs,x.length=s)(hn:xs≠[])(cap:Nat)(hc:A5p cap=xs.length):
  Buf (H.new s (flat xs)).2 s (.slice (some ⟨H.next,0,some 0⟩) xs.length cap) xs (some H.next):=by
 refine .own H.next 0 cap xs (flat xs) (Obj.new s (flat xs)).arr ?_ ?_ ?_ ?_ hx
 ·rw[hc];exact List.length_pos_iff.2 hn
 ·rw[hc,flat_length hx]
 ·rw[hc];exact Nat.le_refl _
 ·rw[←flat_length hx,List.take_length]
theorem Buf.append{a:Option Addr}{len cap:Nat}(hb:Buf H s (.slice a len cap) l b)(hw:Wf H){xs:List (List Value)}(hx:∀x∈xs,x.length=s):
  ∃v' H' b',A5d s a len cap xs.length (flat xs) H=some (v',H')∧Buf H' s v' (l++xs) b'∧Chg (fun g=>b=some g) H H'∧(b'=b∨b'=some H.next∧H.next<H'.next):=by
 cases xs with
 | nil=>
  refine⟨_,H,b,rfl,by simpa using hb,Chg.refl hw,.inl rfl⟩
 | cons x xs=>
  have hne:Nat.beq (x :: xs).length 0=false:=by simp[A1b]
  have hxl:=flat_length hx;generalize hxs:x :: xs=ys at *;have hys:ys≠[]:=by rw[←hxs];simp
  cases hb with
  | void a=>
   have e:A5d s a 0 0 ys.length (flat ys) H=some (.slice (some ⟨H.next,0,some 0⟩) ys.length (ys.length+big),(H.new s (flat ys)).2):=by
    unfold A5d;rw[hne];cases a<;>rfl
   refine⟨_,_,_,e,?_,(Kept.new hw s (flat ys)).chg,.inr ⟨rfl,Nat.lt_succ_self _⟩⟩;exact Buf.fresh hw hx hys _ (A0o _)
  | own g k cap l vals h h0 h1 h2 h3 h4=>
   have hc0:Nat.beq cap 0=false:=by
    rw[A1b];have:cap≠0:=by rintro rfl;simp[A5p,A0c,big]at h0
    simp[this]
   have hll:l.length*s≤vals.length:=by rw[←h1];exact Nat.mul_le_mul_right s h2
   have hcells:H.cells (⟨g,0,some k⟩:Addr) (l.length*s)=some (flat l):=by
    rw[h.cells (by omega),List.drop_zero,h3]
   by_cases hfit:l.length+ys.length≤A5p cap
   ·have hroom : l.length * s + (flat ys).length ≤ vals.length := by
      rw[hxl, ←Nat.add_mul, ←h1];exact Nat.mul_le_mul_right s hfit
    obtain⟨H', hw', ha', hn', hg'⟩ := h.write hw (i := l.length*s) (vs := flat ys) hroom;have e : A5d s (some ⟨g, 0, some k⟩) l.length cap ys.length (flat ys) H = some (.slice (some ⟨g, 0, some k⟩) (l.length + ys.length) cap, H') := by
      unfold A5d;simp only[hne, hc0, cond_false, A0c, hfit, decide_true, cond_true, plus, Nat.zero_add, hw', Option.map_some]
    refine⟨_, H', some g, e, ?_, hg'.weak (fun x hx => by rw[hx]), .inl rfl⟩;have e2 : vals = flat l ++ vals.drop (l.length*s) := by
      rw[←h3, List.take_append_drop]
    have e3 : setCells vals (l.length*s) (flat ys) = flat l ++ flat ys ++ (vals.drop (l.length*s)).drop (flat ys).length := by
      have := A5z (flat ys) (flat l) (vals.drop (l.length*s)) (by simp;omega);rw[←e2, flat_length h4]at this;exact this
    rw[←List.length_append];refine .own g k cap (l ++ ys) _ ha' h0 ?_ ?_ ?_ ?_
    · rw[A6f, h1]
    · simpa using hfit
    · have hl2 : (l ++ ys).length * s = (flat l ++ flat ys).length := by
        rw[List.length_append, List.length_append, flat_length h4, hxl, Nat.add_mul]
      rw[e3, hl2, List.take_left', A8o];rfl
    · intro y hy
      rcases List.mem_append.1 hy with hy|hy
      · exact h4 y hy
      · exact hx y hy
   ·have hall : ∀ y ∈ l ++ ys, y.length = s := by
      intro y hy;rcases List.mem_append.1 hy with hy|hy
      · exact h4 y hy
      · exact hx y hy
    have hapne : l ++ ys ≠ [] := by simp[hys]
    cases hex : A9w cap with
    | true =>
      have e : A5d s (some ⟨g, 0, some k⟩) l.length cap ys.length (flat ys) H = some (.slice (some ⟨H.next, 0, some 0⟩) (l.length + ys.length) (l.length + ys.length + big), (H.new s (flat l ++ flat ys)).2) := by
        unfold A5d;simp only[hne, hc0, cond_false, A0c, hfit, decide_false, hcells, Option.bind_some, hex, cond_true];rfl
      refine⟨_, _, _, e, ?_, (Kept.new hw s _).chg, .inr ⟨rfl, Nat.lt_succ_self _⟩⟩;rw[←List.length_append, ←A8o];exact Buf.fresh hw hall hapne _ (by rw[A0o])
    | false =>
      have hlt := h.lt hw;obtain⟨rs, r, g1, g2, g3, g4, g5⟩ := h
      have e : ∃ H', A5d s (some ⟨g, 0, some k⟩) l.length cap ys.length (flat ys) H = some (.slice (some ⟨g, 0, some rs.length⟩) (l.length + ys.length) (l.length + ys.length + big), H') ∧
          H' = H.put g (.rows (A6e (r.pos + 0 + l.length*s) (r.pos + 0 + l.length*s + ys.length*s) rs.length r 0 rs ++ [{ pos := r.pos + 0, esz := s, vals := flat l ++ flat ys, ok := true }]) true) := by
        refine⟨_, ?_, rfl⟩;unfold A5d;simp only[hne, hc0, cond_false, A0c, hfit, decide_false, hcells, Option.bind_some, hex, g1, g2, g4, A1b, decide_true, Bool.not_true]
      obtain⟨H', e, e2⟩ := e;refine⟨_, H', some g, e, ?_, ?_, .inl rfl⟩
      · rw[←List.length_append]
        refine .own g rs.length ((l ++ ys).length + big) (l ++ ys) (flat l ++ flat ys) ?_ ?_ ?_ ?_ ?_ hall
        · have e4 := A1f H g g (.rows (A6e (r.pos + 0 + l.length*s) (r.pos + 0 + l.length*s + ys.length*s) rs.length r 0 rs ++ [{ pos := r.pos + 0, esz := s, vals := flat l ++ flat ys, ok := true }]) true)
          rw[if_pos rfl, ←e2]at e4;refine⟨_, { pos := r.pos + 0, esz := s, vals := flat l ++ flat ys, ok := true }, e4, ?_, rfl, rfl, rfl⟩;rw[List.getElem?_append_right (by rw[A9d];exact Nat.le_refl _), A9d];simp
        · rw[A0o, List.length_append];have := List.length_pos_iff.2 hys;omega
        · rw[A0o, List.length_append (as := flat l), flat_length h4, hxl, List.length_append, Nat.add_mul]
        · rw[A0o];exact Nat.le_refl _
        · rw[List.length_append, Nat.add_mul, ←flat_length (l := l) h4, ←hxl, ←List.length_append, List.take_length, A8o]
      · rw[e2]
        exact Chg.put (X := fun x => some g = some x) hw hlt rfl _
end
end
def A16:List Oper→List Nat→Nat→Nat→Bool
 | o :: os,b :: bs,i,pb=>bif isEff o then Nat.beq (pb &&& b) pb&&A16 os bs (i+1) pb else A16 os bs (i+1) (bif A2d o||isRead o then pb ||| 2^i else pb)
 | _,_,_,_=>true
def C85(ops:List Oper):Bool:=
 let bs:=A6j ops
 Nat.beq bs.length ops.length&&A1y ops bs 0 0&&A16 ops bs 0 0
section
variable {P:Program} {call:A1d}
theorem A0u{all:List Oper}{H:AH}{b:Nat}:∀{ps:List Pend},(∀p∈ps,b.testBit p.at_=true)→A8h P call all H b ps=some []
 | [],_=>rfl
 | .read i F v :: ps,h=>by
  have h1:b.testBit i=true:=h _ List.mem_cons_self;simp only[A8h,h1,cond_true];exact A0u fun p hp=>h p (List.mem_cons_of_mem _ hp)
 | .made i g x :: ps,h=>by
  have h1:b.testBit i=true:=h _ List.mem_cons_self;simp only[A8h,h1,cond_true];exact A0u fun p hp=>h p (List.mem_cons_of_mem _ hp)
theorem B10{all:List Oper}{bs:List Nat}(hb:bs.length=all.length):∀(m i pb:Nat) (ps:List Pend) (F:Fr) (H:AH),i+m=all.length→(∀p∈ps,pb.testBit p.at_=true)→A16 (all.drop i) (bs.drop i) i pb=true→
  A4e P call all bs (List.range' i m) ps F H=A6o P call all (all.drop i) F H
 | 0,i,pb,ps,F,H,h,_,_=>by
  rw[List.drop_of_length_le (by omega)];rfl
 | m+1,i,pb,ps,F,H,h,hps,hf=>by
  have hi:i<all.length:=by omega
  have hib:i<bs.length:=by omega
  rw[List.drop_eq_getElem_cons hi,List.drop_eq_getElem_cons hib]at hf;rw[List.drop_eq_getElem_cons hi,List.range'_succ];have ho:all[i]?=some all[i]:=List.getElem?_eq_getElem hi;have hbi:bs[i]?=some bs[i]:=List.getElem?_eq_getElem hib;generalize all[i]=o at ho hf;generalize bs[i]=b at hbi hf;have ih:=fun pb ps F H h1 h2=>B10 hb m (i+1) pb ps F H (by omega) h1 h2;simp only[A16]at hf;simp only[A4e,A6o,ho];have hmono:∀{c:Bool},∀p∈ps,(bif c then pb ||| 2^i else pb).testBit p.at_=true:=by
   intro c p hp;cases c with
   | false=>exact hps p hp
   | true=>simp only[cond_true,Nat.testBit_or,hps p hp,Bool.true_or]
  cases hE:isEff o with
  | true=>
   rw[hE]at hf;simp only[cond_true,Bool.and_eq_true,A1b,decide_eq_true_eq]at hf;have hall:∀p∈ps,b.testBit p.at_=true:=by
    intro p hp;have h1:=hps p hp;rw[←hf.1,Nat.testBit_and,Bool.and_eq_true]at h1;exact h1.2
   cases hw:A3m all F o with
   | none=>rfl
   | some w=>
    cases w with
    | false=>exact ih pb ps _ _ hps hf.2
    | true=>
     simp only;cases hop:aop P call F H o with
     | none=>rfl
     | some r=>
      obtain⟨v,H1⟩:=r;simp only[cond_true,hbi,Option.getD_some,A0u hall];exact ih pb [] _ _ (fun p hp=>by cases hp) hf.2
  | false=>
   rw[hE]at hf;simp only[cond_false]at hf;cases hw:A3m all F o with
   | none=>rfl
   | some w=>
    cases w with
    | false=>exact ih _ ps _ _ hmono hf
    | true=>
     simp only;cases hop:aop P call F H o with
     | none=>rfl
     | some r=>
      obtain⟨v,H1⟩:=r;simp only[cond_false];cases hM:A2d o with
      | true=>
       obtain⟨x,hx⟩:=A4l hM hop;have hxg:H1.objs.get H.next=some x:=by rw[hx];exact A1q H x
       simp only[cond_true,hxg];rw[hM]at hf;simp only[Bool.true_or,cond_true]at hf;refine ih _ _ _ _ (fun p hp=>?_) hf;rcases List.mem_cons.1 hp with rfl|hp
       ·simp[Pend.at_]
       ·exact hmono (c:=true) p hp
      | false=>
       simp only[cond_false];rw[hM]at hf;cases hR:isRead o with
       | true=>
        rw[hR]at hf;simp only[Bool.or_true,cond_true]at hf;simp only[cond_true];refine ih _ _ _ _ (fun p hp=>?_) hf;rcases List.mem_cons.1 hp with rfl|hp
        ·simp[Pend.at_]
        ·exact hmono (c:=true) p hp
       | false=>
        rw[hR]at hf;simp only[Bool.or_false,cond_false]at hf ⊢;exact ih _ _ _ _ hps hf
theorem B1k{ops:List Oper}{F:Fr}{H:AH}(hc:C85 ops=true):region P call ops true F H=region P call ops false F H:=by
 simp only[C85,Bool.and_eq_true,A1b,decide_eq_true_eq]at hc;obtain⟨⟨h1,h2⟩,h3⟩:=hc;unfold region;simp only[cond_true,cond_false];have:A53 ops (A6j ops)=List.range' 0 ops.length:=by
  unfold A53;rw[h2];simp only[cond_true];exact List.range_eq_range'
 rw[this,B10 h1 ops.length 0 0 [] F H (by omega) (fun p hp=>by cases hp) (by simpa using h3),List.drop_zero]
end
variable {P:Program} {O:A1d} {S:List Item} {Q:Fr→AH→Prop} {F:Fr} {H:AH}
theorem A7c{id:Nat}{ops:Array Oper}(hc:C85 ops.toList=true):wp P O (.code (.region id ops true) :: S) Q F H↔wpo P O ops.toList ops.toList (wp P O S Q) F H:=by
 rw[B5z];constructor
 ·rintro⟨n,F1,H1,h1,h2⟩
  rw[B1k hc]at h1;exact⟨n,F1,H1,h1,h2⟩
 ·rintro⟨n,F1,H1,h1,h2⟩
  refine⟨n,F1,H1,?_,h2⟩;rw[B1k hc];exact h1
end Go.Proofs.Sh
/- Open regions whose effects only add to the memory, or wait for what is read ahead of them. -/
namespace Go.Proofs.Sh
open Go
def flagsOf(ops:List Oper)(bs:List Nat):List Nat→Nat→List (Nat×Bool)
 | [],_=>[]
 | i :: l,pb=>match ops[i]? with
  | none=>[]
  | some o => bif isEff o then (i, Nat.beq (pb &&& (bs[i]?).getD 0) pb) :: flagsOf ops bs l pb
      else bif A2d o||isRead o then (i, false) :: flagsOf ops bs l (pb ||| 2^i) else (i, true) :: flagsOf ops bs l pb
def order(ops:List Oper):List (Nat×Bool):=flagsOf ops (A6j ops) (A53 ops (A6j ops)) 0
def B7m(o:Oper)(F':Fr)(H H':AH):Prop:=
 (isRead o=true→∃t,o.dst=some t∧∀v,F'.get t=some v→veq v v=true)∧(A2d o=true→∀x,H'.objs.get H.next=some x→B2a x x=true)
def wpg(P:Program)(O:A1d)(all:List Oper):List (Nat×Bool)→(Fr→AH→Prop)→Fr→AH→Prop
 | [],K,F,H=>K F H
 | (i,fl) :: l,K,F,H=>match all[i]? with
  | some o=>wpo P O all [o] (fun F' H'=>(isEff o=true→Wf H'∧(fl=false→HGrow H H'))∧(isEff o=false→fl=false→B7m o F' H H')∧wpg P O all l K F' H') F H
  | none=>False
section
variable {P:Program}
theorem B6n{c c':A1d}{F:Fr}{H:AH}{o:Oper}(hE:isEff o=false):aop P c F H o=aop P c' F H o:=by
 unfold isEff at hE;unfold aop;cases hop:o.op<;>rw[hop]at hE<;>simp only at hE ⊢<;>try rfl
 case makeMap t r=>cases r<;>rfl
 case call x=>
  cases hc:x.callee with
  | builtin b=>rfl
  | value f=>rw[hc]at hE;cases hE
  | invoke r m=>rw[hc]at hE;cases hE
def Valid(P:Program)(all:List Oper)(H:AH):Pend→Prop
 | .read i F v=>∃o,all[i]?=some o∧isEff o=false∧A2d o=false∧(∀c,aop P c F H o=some (v,H))∧veq v v=true
 | .made i g x=>H.objs.get g=some x∧B2a x x=true
theorem Valid.grow{all:List Oper}{H H':AH}(hg:HGrow H H'):∀{p:Pend},Valid P all H p→Valid P all H' p
 | .read i F v,⟨o,h1,h2,h3,h4,h5⟩=>⟨o,h1,h2,h3,fun c=>(A3n hg h2 h3 (h4 c)).1,h5⟩
 | .made i g x,⟨h1,h2⟩=>⟨hg _ _ h1,h2⟩
theorem A3y{c:A1d}{all:List Oper}{H:AH}{b:Nat}:∀{ps:List Pend},(∀p∈ps,Valid P all H p)→∃ps',A8h P c all H b ps=some ps'∧∀p∈ps',p∈ps
 | [],_=>⟨[],rfl,fun p h=>h⟩
 | .read i F v :: ps,h=>by
  obtain⟨l,h1,h2⟩:=A3y (c:=c) (b:=b) (ps:=ps) fun p hp=>h p (List.mem_cons_of_mem _ hp)
  obtain⟨o,k1,k2,k3,k4,k5⟩:=h _ List.mem_cons_self;simp only[A8h,k1,k4,k5,cond_true,h1,Option.map_some];cases b.testBit i with
  | true=>exact⟨l,rfl,fun p hp=>List.mem_cons_of_mem _ (h2 p hp)⟩
  | false=>
   refine⟨_,rfl,fun p hp=>?_⟩;rcases List.mem_cons.1 hp with rfl|hp
   ·exact List.mem_cons_self
   ·exact List.mem_cons_of_mem _ (h2 p hp)
 | .made i g x :: ps,h=>by
  obtain⟨l,h1,h2⟩:=A3y (c:=c) (b:=b) (ps:=ps) fun p hp=>h p (List.mem_cons_of_mem _ hp)
  obtain⟨k1,k2⟩:=h _ List.mem_cons_self;simp only[A8h,k1,k2,cond_true,h1,Option.map_some];cases b.testBit i with
  | true=>exact⟨l,rfl,fun p hp=>List.mem_cons_of_mem _ (h2 p hp)⟩
  | false=>
   refine⟨_,rfl,fun p hp=>?_⟩;rcases List.mem_cons.1 hp with rfl|hp
   ·exact List.mem_cons_self
   ·exact List.mem_cons_of_mem _ (h2 p hp)
theorem A5k{O:A1d}{all:List Oper}{bs:List Nat}{K:Fr→AH→Prop}:∀(l:List Nat) (pb:Nat) (ps:List Pend) (F:Fr) (H:AH),Wf H→(∀p∈ps,Valid P all H p∧pb.testBit p.at_=true)→wpg P O all (flagsOf all bs l pb) K F H→
  (∀i∈l,i<all.length)→wpd P O all bs l ps K F H
 | [],pb,ps,F,H,_,hps,h,_=>⟨0,F,H,rfl,h⟩
 | i :: l,pb,ps,F,H,hwf,hps,h,hl=>by
  have hi:=hl i List.mem_cons_self;have hl':∀i∈l,i<all.length:=fun j hj=>hl j (List.mem_cons_of_mem _ hj);have ho:all[i]?=some all[i]:=List.getElem?_eq_getElem hi;generalize all[i]=o at ho;simp only[flagsOf,ho]at h
  have go : ∀ (fl : Bool) (rest : List (Nat × Bool)), wpg P O all ((i, fl) :: rest) K F H → ∃ b, A3m all F o = some b ∧
      (b = true → ∃v H1, OpTo P O F H o v H1 ∧ (isEff o = true → Wf H1 ∧ (fl = false → HGrow H H1)) ∧ (isEff o = false → fl = false → B7m o (put F o.dst v) H H1) ∧ wpg P O all rest K (put F o.dst v) H1) ∧
      (b = false → wpg P O all rest K (put F o.dst undef) H) := by
    intro fl rest hh;simp only[wpg, ho]at hh;rw[A9x]at hh;obtain⟨b, h1, h2, h3⟩ := hh;refine⟨b, h1, fun hb => ?_, fun hb => ?_⟩
    · obtain⟨v, H1, h4, h5⟩ := h2 hb
      rw[A5x]at h5;exact⟨v, H1, h4, h5⟩
    · have := h3 hb
      rw[A5x]at this;exact this.2.2
  have skip:∀{F1:Fr} {H1:AH},A3m all F o=some false→F1=put F o.dst undef→H1=H→wpd P O all bs l ps K F1 H1→wpd P O all bs (i :: l) ps K F H:=by
   rintro F1 H1 hw rfl rfl ⟨n,F2,H2,h1,h2⟩;refine⟨n,F2,H2,?_,h2⟩;simp only[A4e,ho,hw];exact h1
  have hmono:∀{pb':Nat},(∀k,pb.testBit k=true→pb'.testBit k=true)→∀p∈ps,Valid P all H p∧pb'.testBit p.at_=true:=fun hp p h=>⟨(hps p h).1,hp _ (hps p h).2⟩
  have hp2:∀k,pb.testBit k=true→(pb ||| 2^i).testBit k=true:=fun k hk=>by simp[hk]
  cases hE:isEff o with
  | true=>
   rw[hE]at h;simp only[cond_true]at h;obtain⟨b,hw,ht,hf⟩:=go _ _ h;cases b with
   | false=>exact skip hw rfl rfl (A5k l pb ps _ _ hwf hps (hf rfl) hl')
   | true=>
    obtain⟨v,H1,⟨n,hn⟩,hgr,_,hrest⟩:=ht rfl;obtain⟨hwf1,hgr⟩:=hgr hE;cases hcov:Nat.beq (pb &&& (bs[i]?).getD 0) pb with
    | true=>
     have hall:∀p∈ps,((bs[i]?).getD 0).testBit p.at_=true:=by
      intro p hp;have h1:=(hps p hp).2;rw[←Nat.eq_of_beq_eq_true hcov,Nat.testBit_and,Bool.and_eq_true]at h1;exact h1.2
     obtain⟨m,F2,H2,h1,h2⟩:=A5k l pb [] _ _ hwf1 (fun p hp=>by cases hp) hrest hl';refine⟨n+m,F2,H2,?_,h2⟩;simp only[A4e,ho,hw,A1i (A4c (Nat.le_add_right n m)) hn,hE,cond_true,A0u hall];exact A4d (A4c (Nat.le_add_left m n)) h1
    | false=>
     have hg:=hgr hcov;obtain⟨ps',r1,r2⟩:=A3y (P:=P) (c:=call P O 0) (b:=(bs[i]?).getD 0) (fun p hp=>(hps p hp).1.grow hg);obtain⟨m,F2,H2,h1,h2⟩:=A5k l pb ps' _ _ hwf1 (fun p hp=>⟨(hps p (r2 p hp)).1.grow hg,(hps p (r2 p hp)).2⟩) hrest hl';refine⟨n+m,F2,H2,?_,h2⟩;simp only[A4e,ho,hw,A1i (A4c (Nat.le_add_right n m)) hn,hE,cond_true,A2n (A4c (Nat.zero_le (n+m))) r1];exact A4d (A4c (Nat.le_add_left m n)) h1
  | false=>
   rw[hE]at h;simp only[cond_false]at h;cases hM:A2d o with
   | true=>
    rw[hM]at h;simp only[Bool.true_or,cond_true]at h;obtain⟨b,hw,ht,hf⟩:=go _ _ h;cases b with
    | false=>exact skip hw rfl rfl (A5k l _ ps _ _ hwf (hmono hp2) (hf rfl) hl')
    | true=>
     obtain⟨v,H1,⟨n,hn⟩,_,hst,hrest⟩:=ht rfl;obtain⟨x,hx⟩:=A4l hM hn;have hxg:H1.objs.get H.next=some x:=by rw[hx];exact A1q H x
     have hgrow:HGrow H H1:=by rw[hx];exact hwf.grow x
     have hwf1:Wf H1:=by rw[hx];exact hwf.push x
     obtain⟨m,F2,H2,h1,h2⟩:=A5k l (pb ||| 2^i) (.made i H.next x :: ps) _ _ hwf1 (fun p hp=>by
      rcases List.mem_cons.1 hp with rfl|hp
      ·exact⟨⟨hxg,(hst hE rfl).2 hM x hxg⟩,by simp[Pend.at_]⟩
      ·exact⟨(hps p hp).1.grow hgrow,hp2 _ (hps p hp).2⟩) hrest hl'
     refine⟨n+m,F2,H2,?_,h2⟩;simp only[A4e,ho,hw,A1i (A4c (Nat.le_add_right n m)) hn,hE,cond_false,hM,cond_true,hxg];exact A4d (A4c (Nat.le_add_left m n)) h1
   | false=>
    rw[hM]at h;simp only[Bool.false_or]at h;have hsame:∀{v:Value} {H1:AH} {n:Nat},aop P (call P O n) F H o=some (v,H1)→H1=H:=fun hn=>(A3n (HGrow.refl H) hE hM hn).2;cases hR:isRead o with
    | true=>
     rw[hR]at h;simp only[cond_true]at h;obtain⟨b,hw,ht,hf⟩:=go _ _ h;cases b with
     | false=>exact skip hw rfl rfl (A5k l _ ps _ _ hwf (hmono hp2) (hf rfl) hl')
     | true=>
      obtain⟨v,H1,⟨n,hn⟩,_,hst,hrest⟩:=ht rfl;have:=hsame hn;subst this;cases hd:o.dst with
      | none=>
       obtain⟨t,ht⟩:=(hst hE rfl).1 hR;rw[hd]at ht;cases ht.1
      | some t=>
       obtain⟨t',h5,h6⟩:=(hst hE rfl).1 hR;rw[hd]at h5 h6;injection h5 with h5
       subst h5;have hveq:veq v v=true:=h6 v (A81 _ _ _);obtain⟨m,F2,H2,h1,h2⟩:=A5k l (pb ||| 2^i) (.read i F v :: ps) _ _ hwf (fun p hp=>by
        rcases List.mem_cons.1 hp with rfl|hp
        ·exact⟨⟨o,ho,hE,hM,fun c=>by rw[←hn];exact B6n hE,hveq⟩,by simp[Pend.at_]⟩
        ·exact⟨(hps p hp).1,hp2 _ (hps p hp).2⟩) hrest hl'
       refine⟨n+m,F2,H2,?_,h2⟩;simp only[A4e,ho,hw,A1i (A4c (Nat.le_add_right n m)) hn,hE,cond_false,hM,hR,cond_true];exact A4d (A4c (Nat.le_add_left m n)) h1
    | false=>
     rw[hR]at h;simp only[cond_false]at h;obtain⟨b,hw,ht,hf⟩:=go _ _ h;cases b with
     | false=>exact skip hw rfl rfl (A5k l _ ps _ _ hwf hps (hf rfl) hl')
     | true=>
      obtain⟨v,H1,⟨n,hn⟩,_,_,hrest⟩:=ht rfl;have:=hsame hn;subst this;obtain⟨m,F2,H2,h1,h2⟩:=A5k l pb ps _ _ hwf hps hrest hl';refine⟨n+m,F2,H2,?_,h2⟩;simp only[A4e,ho,hw,A1i (A4c (Nat.le_add_right n m)) hn,hE,cond_false,hM,hR];exact A4d (A4c (Nat.le_add_left m n)) h1
end
variable {P:Program} {O:A1d} {S:List Item} {Q:Fr→AH→Prop} {F:Fr} {H:AH}
theorem A6u{id:Nat}{ops:Array Oper}{fl:List (Nat×Bool)}(hf:order ops.toList=fl)(hb:((A53 ops.toList (A6j ops.toList)).all fun i=>Nat.blt i ops.toList.length)=true)(hw:Wf H)(h:wpg P O ops.toList fl (wp P O S Q) F H):wp P O (.code (.region id ops true) :: S) Q F H:=by
 rw[C2a];subst hf;refine A5k _ 0 [] F H hw (fun p hp=>by cases hp) h fun i hi=>?_;have:=List.all_eq_true.1 hb i hi;rw[A1j]at this
 simpa using this
theorem B83{c:Operand}{a b:Code}(h:ev F c=some (.bool true)):wp P O (.code (.cond c a b) :: S) Q F H↔wp P O (.code a :: S) Q F H:=by
 rw[wp_cond,h];simp
theorem A66{c:Operand}{a b:Code}(h:ev F c=some (.bool false)):wp P O (.code (.cond c a b) :: S) Q F H↔wp P O (.code b :: S) Q F H:=by
 rw[wp_cond,h];simp
theorem B23{K:Fr→AH→Prop}{all ops:List Oper}{dst:Option Tmp}{ty:TypeId}{pos:String}{aft:Array Edge}{op:Op}{j:Nat}{want:Bool}(h:((all[j]?).bind (·.dst)).bind F.get=some undef):
  wpo P O all (⟨dst,op,ty,pos,aft,some (j,want)⟩ :: ops) K F H↔wpo P O all ops K (put F dst undef) H:=by
 rw[C2c,h];simp[undef]
end Go.Proofs.Sh
/- New memory that is written at once;nets in memory. -/
namespace Go.Proofs.Sh
open Go
theorem Tr.setF_setF{α:Type}(x y:α):∀(f:Nat) (t:Tr α) (n:Nat),n<f→Tr.setF f (Tr.setF f t n x) n y=Tr.setF f t n y
 | 0,_,_,h=>by omega
 | f+1,t,n,h=>by
  cases t with
  | nil=>
   simp only[Tr.setF];cases h0:Nat.beq n 0 with
   | true=>simp only[cond_true,Tr.setF,h0]
   | false=>
    have hn:n≠0:=by rintro rfl;simp[]at h0
    cases h1:Nat.beq (n % 2) 1 with
    | true=>simp only[cond_true,cond_false,Tr.setF,h0,h1];rw[Tr.setF_setF x y f .nil (n/2) (by omega)]
    | false=>simp only[cond_false,Tr.setF,h0,h1];rw[Tr.setF_setF x y f .nil (n/2-1) (by omega)]
  | node v l r=>
   simp only[Tr.setF];cases h0:Nat.beq n 0 with
   | true=>simp only[cond_true,Tr.setF,h0]
   | false=>
    have hn:n≠0:=by rintro rfl;simp[]at h0
    cases h1:Nat.beq (n % 2) 1 with
    | true=>simp only[cond_true,cond_false,Tr.setF,h0,h1];rw[Tr.setF_setF x y f l (n/2) (by omega)]
    | false=>simp only[cond_false,Tr.setF,h0,h1];rw[Tr.setF_setF x y f r (n/2-1) (by omega)]
theorem Tr.set_set{α:Type}(t:Tr α)(n:Nat)(x y:α):(t.set n x).set n y=t.set n y:=by rw[Tr.set_eq,Tr.set_eq,Tr.set_eq];exact Tr.setF_setF x y _ t n (Nat.lt_succ_self n)
section
variable {H:AH}
theorem B2c:∀{zs vs:List Value},zs.length=vs.length→setCells zs 0 vs=vs:=by
 intro zs vs h;refine List.ext_getElem? fun i=>?_;rw[A6g vs zs 0 i (by omega)];by_cases hi:i<vs.length
 ·simp[hi]
 ·rw[if_neg (by omega),List.getElem?_eq_none (by omega),List.getElem?_eq_none (by omega)]
theorem A3l{s:Nat}{zs vs:List Value}(h:zs.length=vs.length):(H.new s zs).2.write ⟨H.next,0,some 0⟩ vs=some (H.new s vs).2:=by
 unfold AH.write;have e:(H.new s zs).2.objs.get H.next=some (.rows [{ pos:=0,esz:=s,vals:=zs,ok:=true }] true):=Tr.get_set_eq _ _ _;simp only[e,List.getElem?_cons_zero,A0c,h,Nat.zero_add,Nat.le_refl,decide_true,Bool.and_self,cond_true];simp only[A6e,A1b,decide_true,cond_true,B2c h];unfold AH.put AH.new AH.push;simp only[Tr.set_set]
theorem HGrow.new(hw:Wf H)(s:Nat)(vs:List Value):HGrow H (H.new s vs).2:=hw.grow _
end
structure NetBox(H:AH)(g:Nat)(sg ar en:Value)(N:NetD):Prop where
 c0:H.cell ⟨g,0,some 0⟩=some sg
 c1:H.cell ⟨g,1,some 0⟩=some (.int .i64 N.states)
 c2:H.cell ⟨g,2,some 0⟩=some ar
 c3:H.cell ⟨g,3,some 0⟩=some en
 ca:H.cells ⟨g,0,some 0⟩ 4=some [sg,.int .i64 N.states,ar,en]
 hsg:Sl H sg 1 (N.sigma.map A6b)
 har:Sl H ar 5 (N.arcs.map ArcD.cells)
 hen:Sl H en 2 (N.ends.map EndD.cells)
section
variable {H H':AH} {g:Nat} {sg ar en:Value} {N:NetD}
theorem NetBox.grow(h:NetBox H g sg ar en N)(hg:HGrow H H'):NetBox H' g sg ar en N:=
 ⟨A2b hg h.c0,A2b hg h.c1,A2b hg h.c2,A2b hg h.c3,A8l hg h.ca,h.hsg.grow hg,h.har.grow hg,h.hen.grow hg⟩
theorem NetBox.kept(h:NetBox H g sg ar en N)(hw:Wf H)(hk:Kept H H'):NetBox H' g sg ar en N:=h.grow (hk.grow hw)
theorem NetBox.new(h:NetBox H g sg ar en N)(hw:Wf H)(s:Nat)(vs:List Value):NetBox (H.new s vs).2 g sg ar en N:=h.grow (HGrow.new hw s vs)
def NetBox.netAt(h:NetBox H g sg ar en N):A6v H (.agg #[sg,.int .i64 N.states,ar,en]) N:=⟨sg,ar,en,rfl,h.hsg,h.har,h.hen⟩
theorem NetBox.of(hw:Wf H)(hsg:Sl H sg 1 (N.sigma.map A6b))(har:Sl H ar 5 (N.arcs.map ArcD.cells))(hen:Sl H en 2 (N.ends.map EndD.cells)):
  NetBox (H.new 4 [sg,.int .i64 N.states,ar,en]).2 H.next sg ar en N:=by
 have hO:=Obj.new (H:=H) 4 [sg,.int .i64 N.states,ar,en];have hg:=HGrow.new hw 4 [sg,.int .i64 N.states,ar,en];exact⟨hO.cell,hO.cell,hO.cell,hO.cell,hO.cells (by simp),hsg.grow hg,har.grow hg,hen.grow hg⟩
end
structure A0f(N:NetD):Prop where
 sg:N.sigma.length≤1048576
 ar:N.arcs.length≤1048576
 en:N.ends.length≤1048576
 sx:∀x∈N.sigma,x.size≤1048576
theorem Sl.agg{v:Value}{s:Nat}{l:List (List Value)}{H:AH}(h:Sl H v s l):∀cs,v≠.agg cs:=by
 obtain⟨a,cap,rfl,_⟩:=h;intro cs hc;cases hc
theorem Kept.news{H H':AH}(h:Kept H H')(s:Nat)(vs:List Value):Kept H (H'.new s vs).2:=h.trans (Kept.new h.wf s vs)
section
variable {P:Program} {H:AH} {v:Value} {s:Nat} {l:List (List Value)}
theorem B6z{s:Nat}{vals:List Value}:∀{l:List (List Value)} {o:Nat},l≠[]→(∀(i:Nat) x,l[i]?=some x→A4m vals (o+i*s) s=some x)→A4m vals o (l.length*s)=some (flat l)
 | [],_,h,_=>absurd rfl h
 | x :: l,o,_,hx=>by
  have h0:=hx 0 x rfl;rw[Nat.zero_mul,Nat.add_zero]at h0;obtain⟨a1,a2,a3⟩:=A6k h0;by_cases hl:l=[]
  ·subst hl
   simp only[List.length_cons,List.length_nil,Nat.zero_add,Nat.one_mul];rw[h0];simp[flat]
  ·have ih := B6z (s := s) (vals := vals) (l := l) (o := o + s) hl fun i y hy => by
     have := hx (i + 1) y (by simpa using hy);rw[Nat.succ_mul]at this;rw[←this];congr 1;omega
   obtain⟨b1, b2, b3⟩ := A6k ih;unfold A4m;have hle : o + (x :: l).length*s ≤ vals.length := by
     rw[List.length_cons, Nat.succ_mul];omega
   rw[A0c, decide_eq_true hle];simp only[cond_true, Option.some.injEq];have : (x :: l).length*s = s + l.length*s := by rw[List.length_cons, Nat.succ_mul, Nat.add_comm]
   rw[this, List.take_add, ←a2, List.drop_drop, ←b2];simp[flat]
theorem Sl.cellsAll(h:Sl H v s l)(hl:l≠[]):∃g o k cap,v=.slice (some ⟨g,o,some k⟩) l.length cap∧H.cells ⟨g,o,some k⟩ (l.length*s)=some (flat l):=by
 obtain⟨a,cap,rfl,h2,h3,h4⟩:=h;obtain⟨g,o,k,rfl,h6⟩:=h4 hl;refine⟨g,o,k,cap,rfl,?_⟩;have hrow:∀o',H.row? ⟨g,o',some k⟩=H.row? ⟨g,o,some k⟩:=fun _=>rfl;unfold AH.cells;cases hr:H.row? ⟨g,o,some k⟩ with
 | none=>
  cases l with
  | nil=>exact absurd rfl hl
  | cons x l=>
   have:=h6 0 x rfl;unfold AH.cells at this;rw[hrow,hr]at this;cases this
 | some r=>
  simp only;refine B6z hl fun i x hx=>?_;have:=h6 i x hx;unfold AH.cells at this;rw[hrow,hr]at this;exact this
theorem Sl.newCells(h:Sl H v s l):newCells s H v=some (l.length,flat l):=by
 by_cases hl:l=[]
 ·subst hl
  obtain⟨a,cap,rfl,_⟩:=h;cases a<;>rfl
 ·obtain⟨g,o,k,cap,rfl,hc⟩:=h.cellsAll hl
  unfold Sh.newCells;have:Nat.beq l.length 0=false:=by rw[A1b];simpa using hl
  simp only[this,cond_false,hc,Option.map_some]
theorem Sl.srcKind{t e:Nat}(hu:P.underlying t=some (.slice e))(h:Sl H v s l):srcKind P t v=true:=by
 obtain⟨a,cap,rfl,_⟩:=h;unfold Sh.srcKind;rw[hu]
theorem B0m:∀{l:List Value},(∀x∈l,veq x x=true)→veqs l l=true
 | [],_=>by simp[veqs]
 | x :: l,h=>by
  simp only[veqs,h x List.mem_cons_self,Bool.true_and];exact B0m fun y hy=>h y (List.mem_cons_of_mem _ hy)
theorem A24(a:Addr):B5p a a=true:=by
 obtain⟨b,o,s⟩:=a;cases s<;>simp[B5p,D8a]
theorem A3h{k:IntKind}{n:Int}:veq (.int k n) (.int k n)=true:=by simp[veq,A5e,A3q]
theorem veq_str{x:ByteArray}:veq (.string x) (.string x)=true:=by simp only[veq,A5t,decide_true]
theorem C7e{a:Option Addr}:veq (.pointer a) (.pointer a)=true:=by cases a<;>simp[veq,A24]
theorem A5l{a:Option Addr}{m c:Nat}:veq (.slice a m c) (.slice a m c)=true:=by cases a<;>simp[veq,A24]
theorem A0x{l:List Value}(h:veqs l l=true):veq (.agg l.toArray) (.agg l.toArray)=true:=by simpa [veq] using h
theorem A7m:veqs [] []=true:=by simp[veqs]
theorem A1k{a:Value}{l:List Value}:veqs (a :: l) (a :: l)=(veq a a&&veqs l l):=by simp[veqs]
theorem Sl.veq(h:Sl H v s l):veq v v=true:=by
 obtain⟨a,cap,rfl,_⟩:=h;exact A5l
theorem Buf.veq{b:Option Nat}(h:Buf H s v l b):Sh.veq v v=true:=by cases h<;>exact A5l
theorem C9z(F:Fr):ev F (.const (.slice none 0 0))=some (.slice none 0 0):=rfl
theorem C56(F:Fr):ev F (.const (.pointer none))=some (.pointer none):=rfl
theorem C7y(F:Fr):ev F (.const (.map none))=some (.map none):=rfl
theorem A08{t t' e:Nat}{z x:Value}{base:Option Addr}{len cap n:Nat}{new:List Value}(hu:P.underlying t=some (.slice e))(hi:((P.info? e).map fun i=>Nat.beq i.size s&&Nat.ble i.bytes 4096)=some true)
    (hz:zeroAt P e=some z) (hl:(A6a z).length=s) (h1:1≤s) (hx:Sh.srcKind P t' x=true) (hn:Sh.newCells s H x=some (n,new)) (hb:len+n≤17179869184):
    A3a P .append [t,t'] [.slice base len cap,x] H=A5d s base len cap n new H:=by
  obtain⟨i,hi1,hi2⟩:=Option.map_eq_some_iff.1 hi;simp only[Bool.and_eq_true,A1b,A0c,decide_eq_true_eq]at hi2;obtain⟨hsz,hby⟩:=hi2;subst hsz;unfold A3a;simp only[hu,hi1,hz,Option.bind_some,hx,A0c,h1,A1b,hl,decide_true,Bool.and_self,cond_true,hn];have h2:(len+n)*i.bytes≤70368744177664:=by
    calc (len + n) * i.bytes ≤ 17179869184 * 4096 := Nat.mul_le_mul hb hby
      _≤70368744177664:=by decide
  have h3:len+n≤70368744177664:=by omega
  simp only[h2,h3,decide_true,Bool.and_self,cond_true]
theorem A7g{t e:Nat}{c:Bool}{a:Option Addr}{n m:Nat}(hu:P.underlying t=some (.slice e)):abin P t c .eql (.slice a n m) (.slice none 0 0)=some (.bool a.isNone):=by
 unfold abin aeq B8z;simp only[cond_true];unfold A1g eqT;rw[hu];cases a<;>rfl
theorem A6c{t e:Nat}{c:Bool}{a:Option Addr}{n m:Nat}(hu:P.underlying t=some (.slice e)):abin P t c .neq (.slice a n m) (.slice none 0 0)=some (.bool a.isSome):=by
 unfold abin aeq B8z;simp only[cond_true];unfold A1g eqT;rw[hu];cases a<;>rfl
theorem A0h{t e:Nat}{z:Value}(hu:P.underlying t=some (.slice e))(hs:A5b P e=some s)(hz:zeroAt P e=some z)(hl:(A6a z).length=s)(h1:1≤s):
  A4a P t 0 [] H=some (.slice (some ⟨H.next,0,some 0⟩) 0 0,(H.new s []).2):=by
 unfold A4a;simp only[hu,hs,hz,Option.bind_some,A0c,h1,A1b,hl,decide_true,Bool.and_self,Nat.zero_mul,Nat.zero_le,cond_true,repl,A3w,Option.map_some];rfl
theorem A2l{t e:Nat}{z x:Value}(hu:P.underlying t=some (.slice e))(hs:A5b P e=some s)(hz:zeroAt P e=some z)(hl:(A6a z).length=s)(h1:1≤s)(h2:s≤16777216)(hx:(A6a x).length=s)(hc:(A6a x).all isCell=true):
  A4a P t 1 [(0,x)] H=some (.slice (some ⟨H.next,0,some 0⟩) 1 1,(H.new s (A6a x)).2):=by
 unfold A4a;have e1:repl 1 (A6a z)=A6a z:=by simp[repl]
 simp only[hu,hs,hz,Option.bind_some,A0c,h1,A1b,hl,decide_true,Bool.and_self,Nat.one_mul,h2,cond_true,e1,A3w,Nat.zero_mul,Nat.zero_add,hx,hc,Nat.le_refl,Option.map_some];rw[B2c (by rw[hl,hx])];rfl
end
section
variable {P:Program} {H:AH} {K:Type} {f t:Nat} {cs:List Value} {d:DataW K}
theorem RD.str(hu:P.underlying t=some .string)(h:RD P H f t cs d):∃s:ByteArray,cs=[.string s]∧d=.lit (.string s.data.toList):=by
 cases f with
 | zero=>exact h.elim
 | succ f=>
  unfold RD at h;rw[hu]at h;obtain⟨s,h1,h2,_⟩:=h;exact⟨s,h1,h2⟩
theorem RD.int(hu:P.underlying t=some (.int .i64))(h:RD P H f t cs d):∃n,cs=[.int .i64 n]∧-9223372036854775808≤n∧n<9223372036854775808:=by
 cases f with
 | zero=>exact h.elim
 | succ f=>
  unfold RD at h;rw[hu]at h;obtain⟨n,h1,h2,h3⟩:=h;refine⟨n,h1,?_⟩;simp only[Lit.wf,Bool.and_eq_true,decide_eq_true_eq,show IntKind.min .i64=-9223372036854775808 from rfl,show IntKind.max .i64=9223372036854775807 from rfl]at h3;omega
theorem RD.struct{fs:Array Field}(hu:P.underlying t=some (.struct fs))(h:RD P H f t cs d):∃f',∃ds,d=.agg ds∧cs.length=P.cellsOf t∧ds.length=fs.size∧∀(i:Nat) fd x,fs[i]?=some fd→ds[i]?=some x→RD P H f' fd.type ((cs.drop fd.offset).take (P.cellsOf fd.type)) x:=by
 cases f with
 | zero=>exact h.elim
 | succ f=>
  unfold RD at h;rw[hu]at h;exact⟨f,h⟩
end
theorem RDs.cons_inv{K:Type}{P:Program}{H:AH}{t:TypeId}{ts:List TypeId}{vs:List Value}{ds:List (DataW K)}(h:RDs P H (t :: ts) vs ds):∃v vs' d ds',vs=v :: vs'∧ds=d :: ds'∧(∃f,RD P H f t (A6a v) d)∧RDs P H ts vs' ds':=by
 cases vs with
 | nil=>exact h.elim
 | cons v vs=>
  cases ds with
  | nil=>exact h.elim
  | cons d ds=>exact⟨v,vs,d,ds,rfl,rfl,h.1,h.2⟩
theorem RDs.nil_inv{K:Type}{P:Program}{H:AH}{vs:List Value}{ds:List (DataW K)}(h:RDs P H [] vs ds):vs=[]∧ds=[]:=by
 cases vs with
 | nil=>
  cases ds with
  | nil=>exact⟨rfl,rfl⟩
  | cons d ds=>exact h.elim
 | cons v vs=>exact h.elim
theorem stepDn:type_of% (And.intro @wp_seq (And.intro @D7a (And.intro @wp_block (And.intro @wp_skip (And.intro @B5a (And.intro @wp_region (And.intro @wp_ret (And.intro @wp_nil (And.intro @B83 (And.intro @A66 (And.intro @wp_loop (And.intro @wp_exit (And.intro @A5x (And.intro @o_move (And.intro @B9k (And.intro @o_load (And.intro @B77 (And.intro @C25 (And.intro @o_unOp (And.intro @B0g (And.intro @C78 (And.intro @C0g (And.intro @o_box (And.intro @C32 (And.intro @C02 (And.intro @D5b (And.intro @D9c (And.intro @B4c (And.intro @C0y (And.intro @C4j (And.intro @B4j (And.intro @B6i (And.intro @C8p (And.intro @B08 (And.intro @B18 (And.intro @B9s (And.intro @B0t (And.intro @B93 (And.intro @o_pick (And.intro @B31 (And.intro @B65 (And.intro @B23 (@o_call))))))))))))))))))))))))))))))))))))))))))):=And.intro @wp_seq (And.intro @D7a (And.intro @wp_block (And.intro @wp_skip (And.intro @B5a (And.intro @wp_region (And.intro @wp_ret (And.intro @wp_nil (And.intro @B83 (And.intro @A66 (And.intro @wp_loop (And.intro @wp_exit (And.intro @A5x (And.intro @o_move (And.intro @B9k (And.intro @o_load (And.intro @B77 (And.intro @C25 (And.intro @o_unOp (And.intro @B0g (And.intro @C78 (And.intro @C0g (And.intro @o_box (And.intro @C32 (And.intro @C02 (And.intro @D5b (And.intro @D9c (And.intro @B4c (And.intro @C0y (And.intro @C4j (And.intro @B4j (And.intro @B6i (And.intro @C8p (And.intro @B08 (And.intro @B18 (And.intro @B9s (And.intro @B0t (And.intro @B93 (And.intro @o_pick (And.intro @B31 (And.intro @B65 (And.intro @B23 (@o_call))))))))))))))))))))))))))))))))))))))))))
theorem stepUp:type_of% (And.intro @Bool.not_false (And.intro @Bool.not_true (And.intro @Bool.not_not (And.intro @Bool.and_self (And.intro @Bool.true_and (And.intro @Bool.false_and (And.intro @Bool.and_false (And.intro @Bool.or_false (And.intro @Bool.false_or (And.intro @Bool.true_or (And.intro @Bool.or_true (And.intro @Bool.and_true (And.intro @false_implies (And.intro @and_true (And.intro @true_and (And.intro @not_true_eq_false (And.intro @not_false_eq_true (And.intro @Bool.false_eq_true (And.intro @and_assoc (And.intro @Nat.zero_add (And.intro @Nat.add_zero (And.intro @C0w (And.intro @ev_int (And.intro @C2y (And.intro @ev_str (And.intro @C2w (And.intro @C9z (And.intro @C56 (And.intro @C7y (And.intro @A81 (And.intro @A90 (And.intro @C7l (And.intro @B2r (And.intro @Value.bool.injEq (And.intro @Value.func.injEq (And.intro @Fn.func.injEq (And.intro @b_add (And.intro @b_sub (And.intro @b_mul (And.intro @b_lss (And.intro @b_leq (And.intro @b_gtr (And.intro @b_geq (And.intro @b_eql (And.intro @b_neq (And.intro @s_eql (And.intro @s_neq (And.intro @s_lss (And.intro @s_leq (And.intro @s_gtr (And.intro @s_geq (@u_not)))))))))))))))))))))))))))))))))))))))))))))))))))):=And.intro @Bool.not_false (And.intro @Bool.not_true (And.intro @Bool.not_not (And.intro @Bool.and_self (And.intro @Bool.true_and (And.intro @Bool.false_and (And.intro @Bool.and_false (And.intro @Bool.or_false (And.intro @Bool.false_or (And.intro @Bool.true_or (And.intro @Bool.or_true (And.intro @Bool.and_true (And.intro @false_implies (And.intro @and_true (And.intro @true_and (And.intro @not_true_eq_false (And.intro @not_false_eq_true (And.intro @Bool.false_eq_true (And.intro @and_assoc (And.intro @Nat.zero_add (And.intro @Nat.add_zero (And.intro @C0w (And.intro @ev_int (And.intro @C2y (And.intro @ev_str (And.intro @C2w (And.intro @C9z (And.intro @C56 (And.intro @C7y (And.intro @A81 (And.intro @A90 (And.intro @C7l (And.intro @B2r (And.intro @Value.bool.injEq (And.intro @Value.func.injEq (And.intro @Fn.func.injEq (And.intro @b_add (And.intro @b_sub (And.intro @b_mul (And.intro @b_lss (And.intro @b_leq (And.intro @b_gtr (And.intro @b_geq (And.intro @b_eql (And.intro @b_neq (And.intro @s_eql (And.intro @s_neq (And.intro @s_lss (And.intro @s_leq (And.intro @s_gtr (And.intro @s_geq (@u_not)))))))))))))))))))))))))))))))))))))))))))))))))))
theorem st:type_of% (And.intro @stepUp (And.intro @forall_const.{0} (And.intro @forall_const.{1} (And.intro @implies_true.{0} (And.intro @implies_true.{1} (And.intro @eq_self.{1} (And.intro @ne_eq.{1} (And.intro @if_true.{1} (And.intro @if_false.{1} (And.intro @beq_self_eq_true.{0} (And.intro @cond_true.{1} (And.intro @cond_false.{1} (And.intro @List.all_cons.{0} (And.intro @List.all_nil.{0} (And.intro @List.getElem?_cons_zero.{0} (And.intro @List.getElem?_cons_succ.{0} (And.intro @List.nil_append.{0} (And.intro @List.append_nil.{0} (And.intro @Option.bind_some.{0,0} (And.intro @Option.map_some.{0,0} (And.intro @Option.some.injEq.{0} (And.intro @exists_eq_left'.{1} (And.intro @exists_eq'.{1} (And.intro @exists_eq.{1} (And.intro @Prod.mk.injEq.{0,0} (And.intro @exists_and_left.{1} (And.intro @calm.eq_1 (And.intro @evs.eq_1 (And.intro @evs.eq_2 (And.intro @evps.eq_1 (And.intro @evps.eq_2 (And.intro @evo.eq_1 (And.intro @evo.eq_2 (And.intro @resultsA.eq_1 (And.intro @resultsA.eq_2 (And.intro @resultsA.eq_3 (@Sh.unit.eq_1))))))))))))))))))))))))))))))))))))):=And.intro @stepUp (And.intro @forall_const.{0} (And.intro @forall_const.{1} (And.intro @implies_true.{0} (And.intro @implies_true.{1} (And.intro @eq_self.{1} (And.intro @ne_eq.{1} (And.intro @if_true.{1} (And.intro @if_false.{1} (And.intro @beq_self_eq_true.{0} (And.intro @cond_true.{1} (And.intro @cond_false.{1} (And.intro @List.all_cons.{0} (And.intro @List.all_nil.{0} (And.intro @List.getElem?_cons_zero.{0} (And.intro @List.getElem?_cons_succ.{0} (And.intro @List.nil_append.{0} (And.intro @List.append_nil.{0} (And.intro @Option.bind_some.{0,0} (And.intro @Option.map_some.{0,0} (And.intro @Option.some.injEq.{0} (And.intro @exists_eq_left'.{1} (And.intro @exists_eq'.{1} (And.intro @exists_eq.{1} (And.intro @Prod.mk.injEq.{0,0} (And.intro @exists_and_left.{1} (And.intro @calm.eq_1 (And.intro @evs.eq_1 (And.intro @evs.eq_2 (And.intro @evps.eq_1 (And.intro @evps.eq_2 (And.intro @evo.eq_1 (And.intro @evo.eq_2 (And.intro @resultsA.eq_1 (And.intro @resultsA.eq_2 (And.intro @resultsA.eq_3 (@Sh.unit.eq_1))))))))))))))))))))))))))))))))))))
theorem sy:type_of% (And.intro @st (And.intro @exitTo.eq_1 (And.intro @exitTo.eq_2 (And.intro @exitTo.eq_3 (And.intro @isEff.eq_1 (And.intro @isConst.eq_1 (And.intro @isConst.eq_2 (And.intro @Sh.one.eq_1 (@Sh.one.eq_2))))))))):=And.intro @st (And.intro @exitTo.eq_1 (And.intro @exitTo.eq_2 (And.intro @exitTo.eq_3 (And.intro @isEff.eq_1 (And.intro @isConst.eq_1 (And.intro @isConst.eq_2 (And.intro @Sh.one.eq_1 (@Sh.one.eq_2))))))))
theorem dn:type_of% @stepDn:=@stepDn
section
variable {α:Type}
structure TO(lt:α→α→Bool):Prop where
 irrefl:∀x,lt x x=false
 trans:∀{x y z},lt x y=true→lt y z=true→lt x z=true
 tri:∀x y,lt x y=true∨x=y∨lt y x=true
variable {lt:α→α→Bool}
theorem TO.le_trans(h:TO lt){x y z:α}(h1:lt y x=false)(h2:lt z y=false):lt z x=false:=by
 cases hc:lt z x with
 | false=>rfl
 | true=>
  rcases h.tri x y with h3|rfl|h3
  ·rw[h.trans hc h3]at h2;cases h2
  ·rw[hc]at h2;cases h2
  ·rw[h3]at h1;cases h1
theorem TO.asymm(h:TO lt){x y:α}(h1:lt x y=true):lt y x=false:=by
 cases hc:lt y x with
 | false=>rfl
 | true=>have:=h.trans h1 hc;rw[h.irrefl]at this;cases this
theorem TO.lt_le(h:TO lt){x y z:α}(h1:lt x y=true)(h2:lt z y=false):lt x z=true:=by
 rcases h.tri x z with h3|rfl|h3
 ·exact h3
 ·rw[h1]at h2;cases h2
 ·rw[h.trans h3 h1]at h2;cases h2
def A2c(x y:Int):Bool:=decide (x<y)
theorem intTO:TO A2c:=⟨fun x=>by simp[A2c],fun{x y z} h1 h2=>by simp[A2c]at *;omega,fun x y=>by simp[A2c];omega⟩
def swp(l:List α)(i j:Nat):List α:=match l[i]?,l[j]? with
 | some x,some y=>(l.set i y).set j x
 | _,_=>l
inductive Mix(a b:Nat):List α→List α→Prop
 | refl (l:List α):Mix a b l l
 | swap {l m:List α} {i j:Nat} (h:Mix a b l m) (hi:a≤i) (hi':i<b) (hj:a≤j) (hj':j<b):Mix a b l (swp m i j)
theorem A61(l:List α)(i j:Nat):(swp l i j).length=l.length:=by
 unfold swp;split<;>simp
theorem swp_get{l:List α}{i j:Nat}(hi:i<l.length)(hj:j<l.length)(k:Nat):(swp l i j)[k]?=if k=j then l[i]? else if k=i then l[j]? else l[k]?:=by
 unfold swp;rw[List.getElem?_eq_getElem hi,List.getElem?_eq_getElem hj];simp only[List.getElem?_set];by_cases h1:k=j
 ·subst h1;simp[hj]
 ·rw[if_neg (by omega),if_neg h1]
  by_cases h2:k=i
  ·subst h2;simp[hi]
  ·rw[if_neg (by omega),if_neg h2]
theorem swp_out{l:List α}{i j k:Nat}(hi:k≠i)(hj:k≠j):(swp l i j)[k]?=l[k]?:=by
 unfold swp;split
 ·simp only[List.getElem?_set]
  rw[if_neg (by omega),if_neg (by omega)]
 ·rfl
theorem A3z(p s:List α)(x y:α):(p++x :: s).set p.length y=p++y :: s:=by
 rw[List.set_append_right _ _ (Nat.le_refl _)];simp
theorem B2h{l:List α}{i j:Nat}(hij:i<j)(hj:j<l.length):(swp l i j).Perm l:=by
 have hi:i<l.length:=by omega
 have e1:l=l.take i++l[i] :: l.drop (i+1):=by rw[List.getElem_cons_drop,List.take_append_drop]
 have hj2:j-i-1<(l.drop (i+1)).length:=by simp;omega
 have e2:l.drop (i+1)=(l.drop (i+1)).take (j-i-1)++(l.drop (i+1))[j-i-1] :: (l.drop (i+1)).drop (j-i-1+1):=by rw[List.getElem_cons_drop,List.take_append_drop]
 have e3:(l.drop (i+1))[j-i-1]=l[j]:=by rw[List.getElem_drop];congr 1;omega
 rw[e3]at e2;have hp:(l.take i).length=i:=by simp;omega
 have hq:((l.drop (i+1)).take (j-i-1)).length=j-i-1:=by rw[List.length_take];omega
 have hx:l[i]?=some l[i]:=List.getElem?_eq_getElem hi;have hy:l[j]?=some l[j]:=List.getElem?_eq_getElem hj;generalize l[i]=x at *;generalize l[j]=y at *;generalize l.take i=p at *;generalize (l.drop (i+1)).take (j-i-1)=q at *;generalize (l.drop (i+1)).drop (j-i-1+1)=s at *;rw[e2]at e1;unfold swp;rw[hx,hy];simp only;have h1:l.set i y=p++y :: (q++y :: s):=by
  rw[e1];have:=A3z p (q++y :: s) x y;rw[hp]at this;exact this
 have h2:(l.set i y).set j x=p++y :: (q++x :: s):=by
  rw[h1];have hlen:(p++y :: q).length=j:=by simp[hp,hq];omega
  have:=A3z (p++y :: q) s y x;rw[hlen]at this
  simpa using this
 rw[h2,e1];refine List.Perm.append_left p ?_;have a1:(y :: (q++x :: s)).Perm (y :: x :: (q++s)):=List.Perm.cons y List.perm_middle;have a2:(x :: (q++y :: s)).Perm (x :: y :: (q++s)):=List.Perm.cons x List.perm_middle;exact a1.trans ((List.Perm.swap x y _).trans a2.symm)
theorem swp_comm(l:List α)(i j:Nat):swp l i j=swp l j i:=by
 by_cases hij:i=j
 ·rw[hij]
 ·unfold swp
  cases hi:l[i]? with
  | none=>cases hj:l[j]?<;>rfl
  | some x=>
   cases hj:l[j]? with
   | none=>rfl
   | some y=>exact List.set_comm _ _ hij
theorem swp_self(l:List α)(i:Nat):swp l i i=l:=by
 unfold swp;cases hi:l[i]? with
 | none=>rfl
 | some x=>
  have h1:i<l.length:=(List.getElem?_eq_some_iff.1 hi).1;have h2:x=l[i]:=((List.getElem?_eq_some_iff.1 hi).2).symm;simp[h2]
theorem swp_perm(l:List α)(i j:Nat):(swp l i j).Perm l:=by
 by_cases hi:i<l.length
 ·by_cases hj:j<l.length
  ·rcases Nat.lt_trichotomy i j with h|h|h
   ·exact B2h h hj
   ·rw[h,swp_self];
   ·rw[swp_comm];exact B2h h hi
  ·have:swp l i j=l:=by unfold swp;rw[List.getElem?_eq_none (by omega:l.length≤j)];split<;>simp_all
   rw[this]
 ·have:swp l i j=l:=by unfold swp;rw[List.getElem?_eq_none (by omega:l.length≤i)]
  rw[this]
namespace Mix
variable {a b:Nat} {l m n:List α}
theorem length(h:Mix a b l m):m.length=l.length:=by
 induction h with
 | refl=>rfl
 | swap _ _ _ _ _ ih=>rw[A61,ih]
theorem out(h:Mix a b l m){k:Nat}(hk:k<a∨b≤k):m[k]?=l[k]?:=by
 induction h with
 | refl=>rfl
 | swap _ h1 h2 h3 h4 ih=>rw[swp_out (by omega) (by omega),ih]
theorem perm(h:Mix a b l m):m.Perm l:=by
 induction h with
 | refl=>exact List.Perm.refl _
 | swap _ _ _ _ _ ih=>exact(swp_perm _ _ _).trans ih
theorem trans(h:Mix a b l m)(k:Mix a b m n):Mix a b l n:=by
 induction k with
 | refl=>exact h
 | swap _ h1 h2 h3 h4 ih=>exact .swap ih h1 h2 h3 h4
theorem wide{a' b':Nat}(h:Mix a b l m)(ha:a'≤a)(hb:b≤b'):Mix a' b' l m:=by
 induction h with
 | refl=>exact .refl _
 | swap _ h1 h2 h3 h4 ih=>exact .swap ih (by omega) (by omega) (by omega) (by omega)
theorem all{p:α→Prop}(h:Mix a b l m)(hb:b≤l.length)(hp:∀(i:Nat) x,a≤i→i<b→l[i]?=some x→p x):∀(i:Nat) x,a≤i→i<b→m[i]?=some x→p x:=by
 induction h with
 | refl=>exact hp
 | swap h0 h1 h2 h3 h4 ih=>
  have hl:=h0.length;intro i x hi1 hi2 hx;rw[swp_get (by omega) (by omega)]at hx;split at hx
  ·exact ih _ _ h1 h2 hx
  ·split at hx
   ·exact ih _ _ h3 h4 hx
   ·exact ih _ _ hi1 hi2 hx
end Mix
def Srt(lt:α→α→Bool)(a b:Nat)(l:List α):Prop:=∀(i j:Nat) x y,a≤i→i≤j→j<b→l[i]?=some x→l[j]?=some y→lt y x=false
theorem C3j(h:TO lt){a b:Nat}{l:List α}(hs:∀(i:Nat) x y,a≤i→i+1<b→l[i]?=some x→l[i+1]?=some y→lt y x=false):Srt lt a b l:=by
 intro i j x y hi hij hj hx hy;obtain⟨d,rfl⟩:∃d,j=i+d:=⟨j-i,by omega⟩
 induction d generalizing y with
 | zero=>rw[Nat.add_zero]at hy;rw[hx]at hy;rw[←Option.some.inj hy];exact h.irrefl x
 | succ d ih=>
  have hl:=(List.getElem?_eq_some_iff.1 hy).1;have hz:l[i+d]?=some (l[i+d]'(by omega)):=List.getElem?_eq_getElem (by omega);exact h.le_trans (ih _ (by omega) (by omega) hz) (hs (i+d) _ _ (by omega) (by omega) hz hy)
end
section
variable {H:AH} {g k:Nat} {xs:List Value}
def Cells(H:AH)(g k n:Nat)(xs:List Value):Prop:=∃vals,Arr H g k 1 vals∧vals.length=n∧xs.length≤n∧vals.take xs.length=xs
variable {n:Nat}
theorem Cells.keep{H':AH}(h:Cells H g k n xs)(hg:H'.objs.get g=H.objs.get g):Cells H' g k n xs:=by
 obtain⟨vals,h1,h2⟩:=h;exact⟨vals,h1.keep hg,h2⟩
theorem Cells.lt(h:Cells H g k n xs)(hw:Wf H):g<H.next:=by
 obtain⟨vals,h1,_⟩:=h;exact h1.lt hw
theorem Cells.chg{H':AH}{X:Nat→Prop}(h:Cells H g k n xs)(hw:Wf H)(hc:Chg X H H')(hx:¬X g):Cells H' g k n xs:=h.keep (hc.old g (h.lt hw) hx)
theorem Cells.kept{H':AH}(h:Cells H g k n xs)(hw:Wf H)(hc:Kept H H'):Cells H' g k n xs:=h.keep (hc.old g (h.lt hw))
theorem Cells.cell(h:Cells H g k n xs){i:Nat}{x:Value}(hx:xs[i]?=some x):H.cell ⟨g,i,some k⟩=some x:=by
 obtain⟨vals,h1,h0,h2,h3⟩:=h;rw[h1.cell,←hx,←h3,List.getElem?_take,if_pos (List.getElem?_eq_some_iff.1 hx).1]
theorem setCells_one(l:List Value)(i:Nat)(x:Value):setCells l i [x]=l.set i x:=rfl
theorem Cells.write(h:Cells H g k n xs)(hw:Wf H){i:Nat}(x:Value)(hi:i<xs.length):∃H',H.write ⟨g,i,some k⟩ [x]=some H'∧Cells H' g k n (xs.set i x)∧Chg (fun y=>y=g) H H'∧H'.next=H.next:=by
 obtain⟨vals,h1,h0,h2,h3⟩:=h;obtain⟨H',e1,e2,e3,e4⟩:=h1.write hw (i:=i) (vs:=[x]) (by simp;omega);refine⟨H',e1,⟨_,e2,?_,?_,?_⟩,e4,e3⟩
 ·rw[setCells_one];simpa using h0
 ·simpa using h2
 ·rw[setCells_one,List.length_set,List.take_set,h3]
theorem Cells.swap(h:Cells H g k n xs)(hw:Wf H){i j:Nat}{x y:Value}(hx:xs[i]?=some x)(hy:xs[j]?=some y):
  ∃H1 H2,H.write ⟨g,i,some k⟩ [y]=some H1∧H1.write ⟨g,j,some k⟩ [x]=some H2∧Cells H2 g k n (swp xs i j)∧Chg (fun y=>y=g) H H2∧H2.next=H.next:=by
 have hi:=(List.getElem?_eq_some_iff.1 hx).1;have hj:=(List.getElem?_eq_some_iff.1 hy).1;obtain⟨H1,e1,e2,e3,e4⟩:=h.write hw y hi;obtain⟨H2,f1,f2,f3,f4⟩:=e2.write e3.wf x (i:=j) (by simpa using hj);refine⟨H1,H2,e1,f1,?_,e3.trans f3,by rw[f4,e4]⟩;unfold swp;rw[hx,hy];exact f2
theorem swp_map{α β:Type}(f:α→β)(l:List α)(i j:Nat):swp (l.map f) i j=(swp l i j).map f:=by
 unfold swp;rw[List.getElem?_map,List.getElem?_map];cases l[i]?<;>cases l[j]?<;>simp[List.map_set]
theorem B96{α:Type}(f:α→Value)(l:List α):flat (l.map fun x=>[f x])=l.map f:=by
 induction l with
 | nil=>rfl
 | cons x l ih=>simp only[flat,List.map_cons,List.flatten_cons]at ih ⊢;rw[ih];rfl
theorem Buf.cells{α:Type}{f:α→Value}{v:Value}{l:List α}{g:Nat}(h:Buf H 1 v (l.map fun x=>[f x]) (some g)):∃k cap n,v=.slice (some ⟨g,0,some k⟩) l.length cap∧Cells H g k n (l.map f)∧
  ∀(H':AH) (l':List α),l'.length=l.length→Cells H' g k n (l'.map f)→Buf H' 1 v (l'.map fun x=>[f x]) (some g):=by
 generalize hL:(l.map fun x=>[f x])=L at h;cases h with
 | own g k cap L vals ha h0 h1 h2 h3 h4=>
  subst hL;rw[B96]at h3;simp only[List.length_map,Nat.mul_one]at h1 h2 h3 ⊢;refine⟨k,cap,vals.length,rfl,⟨vals,ha,rfl,by simp;omega,by simpa using h3⟩,?_⟩;rintro H' l' hl ⟨vals',b1,b0,b2,b3⟩;have:=Buf.own (H:=H') (s:=1) g k cap (l'.map fun x=>[f x]) vals' b1 h0 (by rw[Nat.mul_one,b0,←h1]) (by simpa [hl] using h2) (by rw[B96];simp only[List.length_map,Nat.mul_one]at b3 ⊢;exact b3) (fun x hx=>by
   obtain⟨a,_,rfl⟩:=List.mem_map.1 hx;rfl)
  simpa [hl] using this
end
def tabOk(tab:Array UInt8):Bool:=(List.range 256).all fun y=>match tab.toList[y]? with
 | some u=>Nat.blt y (2^u.toNat)&&(Nat.beq y 0||Nat.ble (2^u.toNat) (2*y))&&Nat.ble u.toNat 8
 | none=>false
theorem B6u{P:Program}{t:TypeId}{j:IntKind}{tab:Array UInt8}{y:Nat}{K:Value→Prop}(hu:P.underlying t=some .string)(hok:tabOk tab=true)(hy:y<256)
  (h:∀u:Nat,y<2^u→(y≠0→2^u≤2*y)→u≤8→K (.int .u8 (u:Int))):∃v,B6c P t (.string ⟨tab⟩) (.int j (y:Int))=some v∧K v:=by
 have h1:=List.all_eq_true.1 hok y (List.mem_range.2 hy);split at h1
 ·rename_i u hget
  simp only[Bool.and_eq_true,Bool.or_eq_true,A1j,A1b,A0c,decide_eq_true_eq]at h1;exact⟨_,B1m hu hget,h u.toNat h1.1.1 (fun h0=>h1.1.2.resolve_left h0) h1.2⟩
 ·cases h1
theorem A8u{n:Int}(h1:0≤n)(h2:n<18446744073709551616):IntKind.wrap .u64 n=n:=by
 simp only[IntKind.wrap];simp[IntKind.bits,IntKind.signed];omega
theorem C89{n:Int}(h1:0≤n)(h2:n<256):IntKind.wrap .u8 n=n:=by
 simp only[IntKind.wrap];simp[IntKind.bits,IntKind.signed];omega
theorem C43{x c:Nat}(hc:c≤64):A4j false .u64 (x:Int) (c:Int)=some (.int .u64 ((x/2^c:Nat):Int)):=by
 unfold A4j;have h1:A4v 0 (c:Int)=true:=by rw[A7k];simp
 have h2:min (c:Int).toNat IntKind.u64.bits=c:=by simp[IntKind.bits];omega
 simp only[h1,cond_true,h2,cond_false];rw[Int.fdiv_eq_ediv_of_nonneg _ (Int.pow_nonneg (by decide))]
 norm_cast
theorem shl_one{c:Nat}(hc:c<64):A4j true .u64 1 (c:Int)=some (.int .u64 ((2^c:Nat):Int)):=by
 unfold A4j;have h1:A4v 0 (c:Int)=true:=by rw[A7k];simp
 have h2:min (c:Int).toNat IntKind.u64.bits=c:=by simp[IntKind.bits];omega
 simp only[h1,cond_true,h2];have h3:(2:Nat)^c<2^64:=Nat.pow_lt_pow_right (by decide) hc;have h4:((1:Int)*2^c)=((2^c:Nat):Int):=by rw[Int.one_mul];norm_cast
 have h5:((2^c:Nat):Int)<((18446744073709551616:Nat):Int):=Int.ofNat_lt.2 h3;rw[h4,A8u (Int.natCast_nonneg _) h5]
section
variable {P:Program} {t:TypeId} {c:Bool} {j k:IntKind} {a b:Int}
theorem b_shl:abin P t c .shl (.int j a) (.int k b)=A4j true j a b:=rfl
theorem B89(h:b≠0):abin P t c .quo (.int j a) (.int j b)=some (.int j (j.wrap (a.tdiv b))):=by
 simp only[abin,A5e,cond_true,aint,A3q,show (b == 0)=false from by simpa using h,cond_false]
theorem b_xor:abin P t c .xor (.int j a) (.int j b)=some (.int j (j.wrap ((BitVec.ofInt j.bits a) ^^^ (BitVec.ofInt j.bits b)).toNat)):=by simp only[abin,A5e,cond_true,aint]
theorem b_and:abin P t c .and (.int j a) (.int j b)=some (.int j (j.wrap ((BitVec.ofInt j.bits a) &&& (BitVec.ofInt j.bits b)).toNat)):=by simp only[abin,A5e,cond_true,aint]
end
theorem B5t{left:Bool}{k:IntKind}{a:Int}{b:Nat}:∃z,A4j left k a (b:Int)=some (.int k z):=by
 unfold A4j;have h1:A4v 0 (b:Int)=true:=by rw[A7k];simp
 simp only[h1,cond_true];exact⟨_,rfl⟩
theorem and_le(z:Int){m:Nat}(hm:m<18446744073709551616):∃q:Nat,q≤m∧IntKind.wrap .u64 ((BitVec.ofInt IntKind.u64.bits z) &&& (BitVec.ofInt IntKind.u64.bits (m:Int))).toNat=(q:Int):=by
 refine⟨((BitVec.ofInt IntKind.u64.bits z) &&& (BitVec.ofInt IntKind.u64.bits (m:Int))).toNat,?_,?_⟩
 ·rw[BitVec.toNat_and]
  refine Nat.le_trans Nat.and_le_right ?_;rw[BitVec.toNat_ofInt];simp[IntKind.bits];omega
 ·have:=((BitVec.ofInt IntKind.u64.bits z) &&& (BitVec.ofInt IntKind.u64.bits (m:Int))).isLt
  simp only[IntKind.bits]at this ⊢;exact A8u (by omega) (by omega)
def A63:Code→Bool
 | .ret=>false
 | .seq a b=>A63 a&&A63 b
 | .cond _ a b=>A63 a&&A63 b
 | .block _ c=>A63 c
 | .loop c=>A63 c
 | _=>true
def C4n:Item→Bool
 | .code c=>A63 c
 | .inLoop c=>A63 c
 | _=>true
section
variable {P:Program} {O:A1d}
theorem A06{id:Nat}:∀{T S T':List Item},exitTo id T=some T'→exitTo id (T++S)=some (T'++S)
 | [],_,_,h=>by simp[exitTo]at h
 | x :: T,S,T',h=>by
  have ih:=@A06 id T S;cases x<;>simp only[List.cons_append,exitTo]at h ⊢<;>first
   | exact ih h
   | (split at h
      · rename_i hc;rw[if_pos hc];injection h with h;rw[h]
      · rename_i hc;rw[if_neg hc];exact ih h)
   | (cases h)
theorem B1d{id:Nat}:∀{T T':List Item},exitTo id T=some T'→(∀x∈T,C4n x=true)→∀x∈T',C4n x=true
 | [],_,h,_=>by simp[exitTo]at h
 | y :: T,T',h,hn=>by
  have ih:=fun h'=>@B1d id T T' h' fun x hx=>hn x (List.mem_cons_of_mem _ hx);cases y<;>simp only[exitTo]at h<;>first
   | exact ih h
   | (split at h
      · injection h with h;subst h;exact fun x hx => hn x (List.mem_cons_of_mem _ hx)
      · exact ih h)
   | (cases h)
theorem A9j{F':Fr}{H':AH}:∀(n:Nat) (T:List Item) (F:Fr) (H:AH),(∀x∈T,C4n x=true)→run P O n T F H=some (F',H')→∀{S:List Item} {Q:Fr→AH→Prop},wp P O S Q F' H'→wp P O (T++S) Q F H
 | 0,T,F,H,_,h,S,Q,k=>by cases h
 | n+1,[],F,H,_,h,S,Q,k=>by
  injection h with h
  injection h with h1 h2
  subst h1 h2;exact k
 | n+1,.inBlock id :: T,F,H,hn,h,S,Q,k=>by
  rw[List.cons_append,B5a];exact A9j n T F H (fun x hx=>hn x (List.mem_cons_of_mem _ hx)) h k
 | n+1,.inLoop c :: T,F,H,hn,h,S,Q,k=>by
  rw[List.cons_append,wp_inLoop];exact A9j n (.code c :: .inLoop c :: T) F H (fun x hx=>by
   rcases List.mem_cons.1 hx with rfl|hx
   ·exact hn (.inLoop c) List.mem_cons_self
   ·exact hn x hx) h k
 | n+1,.code c :: T,F,H,hn,h,S,Q,k=>by
  have hT:∀x∈T,C4n x=true:=fun x hx=>hn x (List.mem_cons_of_mem _ hx);have hc:A63 c=true:=hn (.code c) List.mem_cons_self;rw[List.cons_append];cases c with
  | skip=>rw[wp_skip];exact A9j n T F H hT h k
  | seq a b=>
   rw[wp_seq];simp only[A63,Bool.and_eq_true]at hc;exact A9j n (.code a :: .code b :: T) F H (fun x hx=>by
    rcases List.mem_cons.1 hx with rfl|hx
    ·exact hc.1
    ·rcases List.mem_cons.1 hx with rfl|hx
     ·exact hc.2
     ·exact hT x hx) h k
  | cond c a b=>
   simp only[A63,Bool.and_eq_true]at hc;have h':(match ev F c with|some (.bool true)=>run P O n (.code a :: T) F H|some (.bool false)=>run P O n (.code b :: T) F H|_=>none)=some (F',H'):=h;rw[wp_cond];split at h'
   ·rename_i he
    refine⟨true,he,fun _=>?_,fun h=>by cases h⟩;exact A9j n (.code a :: T) F H (fun x hx=>by
     rcases List.mem_cons.1 hx with rfl|hx
     ·exact hc.1
     ·exact hT x hx) h' k
   ·rename_i he
    refine⟨false,he,(fun h=>by cases h),fun _=>?_⟩;exact A9j n (.code b :: T) F H (fun x hx=>by
     rcases List.mem_cons.1 hx with rfl|hx
     ·exact hc.2
     ·exact hT x hx) h' k
   ·cases h'
  | block id c=>
   rw[wp_block];exact A9j n (.code c :: .inBlock id :: T) F H (fun x hx=>by
    rcases List.mem_cons.1 hx with rfl|hx
    ·exact hc
    ·rcases List.mem_cons.1 hx with rfl|hx
     ·rfl
     ·exact hT x hx) h k
  | loop c=>
   rw[wp_loop,wp_inLoop];exact A9j n (.code c :: .inLoop c :: T) F H (fun x hx=>by
    rcases List.mem_cons.1 hx with rfl|hx
    ·exact hc
    ·rcases List.mem_cons.1 hx with rfl|hx
     ·exact hc
     ·exact hT x hx) h k
  | exit id=>
   have h':(match exitTo id T with|some S'=>run P O n S' F H|none=>none)=some (F',H'):=h;split at h'
   ·rename_i T' he
    rw[wp_exit];exact⟨T'++S,A06 he,A9j n T' F H (B1d he hT) h' k⟩
   ·cases h'
  | ret=>cases hc
  | region id ops draw=>
   have h':(match region P (call P O n) ops.toList draw F H with|some (F',H')=>run P O n T F' H'|none=>none)=some (F',H'):=h;split at h'
   ·rename_i F1 H1 he
    rw[B5z];exact⟨n,F1,H1,he,A9j n T F1 H1 hT h' k⟩
   ·cases h'
  | _=>cases h
theorem B11{c:Code}{S:List Item}{Q:Fr→AH→Prop}{F:Fr}{H:AH}(M:Fr→AH→Prop)(hc:A63 c=true)(h:wp P O [.code c] M F H)(k:∀F' H',M F' H'→wp P O S Q F' H'):wp P O (.code c :: S) Q F H:=by
 obtain⟨n,F',H',h1,h2⟩:=h;exact A9j n [.code c] F H (fun x hx=>by
  rcases List.mem_cons.1 hx with rfl|hx
  ·exact hc
  ·cases hx) h1 (k F' H' h2)
theorem C22{c:Operand}{a b:Code}{S:List Item}{Q:Fr→AH→Prop}{F:Fr}{H:AH}(M:Fr→AH→Prop)(hc:A63 (.cond c a b)=true)(h:wp P O [.code (.cond c a b)] M F H)(k:∀F' H',M F' H'→wp P O S Q F' H'):wp P O (.code (.cond c a b) :: S) Q F H:=B11 M hc h k
theorem B47{id:Nat}{c:Code}{S:List Item}{Q:Fr→AH→Prop}{F:Fr}{H:AH}(M:Fr→AH→Prop)(hc:A63 c=true)(h:wp P O [.inLoop c,.inBlock id] M F H)(k:∀F' H',M F' H'→wp P O S Q F' H'):wp P O (.inLoop c :: .inBlock id :: S) Q F H:=by
 obtain⟨n,F',H',h1,h2⟩:=h;exact A9j n [.inLoop c,.inBlock id] F H (fun x hx=>by
  simp only[List.mem_cons,List.not_mem_nil,or_false]at hx;rcases hx with rfl|rfl
  ·exact hc
  ·rfl) h1 (k F' H' h2)
end
theorem A3t{i n:Nat}:decide ((i:Int)≤(n:Int))=decide (i≤n):=by simp
theorem nat_eq{i n:Nat}:decide ((i:Int)=(n:Int))=decide (i=n):=decide_eq_decide.2 Int.ofNat_inj
theorem wp_cut{P:Program}{O:A1d}{c:Code}{S:List Item}{Q:Fr→AH→Prop}{F:Fr}{H:AH}(N:Fr→AH→Prop)(k:∀F' H',N F' H'→wp P O S Q F' H')(h:(∀F' H',N F' H'→wp P O S Q F' H')→wp P O (.code c :: S) Q F H):wp P O (.code c :: S) Q F H:=h k
section
variable {α:Type} {lt:α→α→Bool}
def P3(lt:α→α→Bool)(a a' b' b:Nat)(l:List α):Prop:=∀(p q:Nat) x y,a≤p→p<q→q<b→¬(a'≤p∧q<b')→l[p]?=some x→l[q]?=some y→lt y x=false
theorem P3.mix{a a' b' b:Nat}{l m:List α}(h:P3 lt a a' b' b l)(ha:a≤a')(hb':b'≤b)(hm:Mix a' b' l m)(hl:b'≤l.length):P3 lt a a' b' b m:=by
 intro p q x y h1 h2 h3 h4 hx hy;by_cases hp:a'≤p∧p<b'
 ·have hq:b'≤q:=by omega
  rw[hm.out (.inr hq)]at hy;exact hm.all (p:=fun x=>lt y x=false) hl (fun i z hi1 hi2 hz=>h i q z y (by omega) (by omega) h3 (by omega) hz hy) p x hp.1 hp.2 hx
 ·rw[hm.out (by omega)]at hx
  by_cases hq:a'≤q∧q<b'
  ·exact hm.all (p:=fun y=>lt y x=false) hl (fun i z hi1 hi2 hz=>h p i x z h1 (by omega) (by omega) (by omega) hx hz) q y hq.1 hq.2 hy
  ·rw[hm.out (by omega)]at hy
   exact h p q x y h1 h2 h3 h4 hx hy
theorem P3.srt(hT:TO lt){a a' b' b:Nat}{l:List α}(h:P3 lt a a' b' b l)(hs:Srt lt a' b' l):Srt lt a b l:=by
 intro i j x y h1 h2 h3 hx hy;by_cases hij:i=j
 ·subst hij;rw[hx]at hy;rw[←Option.some.inj hy];exact hT.irrefl x
 ·by_cases hin:a'≤i∧j<b'
  ·exact hs i j x y hin.1 h2 hin.2 hx hy
  ·exact h i j x y h1 (by omega) h3 hin hx hy
theorem P3.part(hT:TO lt){a a' b' b m:Nat}{l:List α}{y:α}(h:P3 lt a a' b' b l)(hm1:a'≤m)(hm2:m<b')(hy:l[m]?=some y)
  (hl:∀(q:Nat) x,a'≤q→q<m→l[q]?=some x→lt x y=true) (hr:∀(q:Nat) x,m<q→q<b'→l[q]?=some x→lt x y=false):
  (Srt lt a' m l→P3 lt a (m+1) b' b l)∧(Srt lt (m+1) b' l→P3 lt a a' m b l):=by
 have cross:∀(p q:Nat) x z,a'≤p→p≤m→m≤q→q<b'→p<q→l[p]?=some x→l[q]?=some z→lt z x=false:=by
  intro p q x z h1 h2 h3 h4 h5 hx hz;by_cases hp:p=m
  ·subst hp
   rw[hy]at hx;rw[←Option.some.inj hx];exact hr q z h5 h4 hz
  ·have hxy:=hl p x h1 (by omega) hx
   by_cases hq:q=m
   ·subst hq
    rw[hy]at hz;rw[←Option.some.inj hz];exact hT.asymm hxy
   ·exact hT.asymm (hT.lt_le hxy (hr q z (by omega) h4 hz))
 refine⟨fun hs p q x z h1 h2 h3 h4 hx hz=>?_,fun hs p q x z h1 h2 h3 h4 hx hz=>?_⟩
 ·by_cases hin:a'≤p∧q<b'
  ·by_cases hq:q<m
   ·exact hs p q x z hin.1 (by omega) hq hx hz
   ·exact cross p q x z hin.1 (by omega) (by omega) hin.2 h2 hx hz
  ·exact h p q x z h1 h2 h3 hin hx hz
 ·by_cases hin:a'≤p∧q<b'
  ·by_cases hp:m<p
   ·exact hs p q x z (by omega) (by omega) hin.2 hx hz
   ·exact cross p q x z hin.1 (by omega) (by omega) hin.2 h2 hx hz
  ·exact h p q x z h1 h2 h3 hin hx hz
end
structure JagR(H:AH)(v:Value)(s:Nat)(rows:List (List (List Value)))(vals:List Value):Prop where
 sl:Sl H v 1 (vals.map fun x=>[x])
 len:vals.length=rows.length
 row:∀(i:Nat) w r,vals[i]?=some w→rows[i]?=some r→Sl H w s r
theorem JagR.grow{H H':AH}{v:Value}{s:Nat}{rows:List (List (List Value))}{vals:List Value}(h:JagR H v s rows vals)(hg:HGrow H H'):JagR H' v s rows vals:=
 ⟨h.sl.grow hg,h.len,fun i w r h1 h2=>(h.row i w r h1 h2).grow hg⟩
theorem Buf.shape{H:AH}{s:Nat}{v:Value}{l:List (List Value)}{o:Option Nat}(h:Buf H s v l o):∃a cap,v=.slice a l.length cap:=by
 cases h with
 | void a=>exact⟨a,0,rfl⟩
 | own g k cap l vals=>exact⟨_,_,rfl⟩
section
variable {P:Program} {H:AH}
theorem A8x(n:Nat)(z:Value):repl n [z]=List.replicate n z:=by
 induction n with
 | zero=>rfl
 | succ n ih=>simp[repl,ih,List.replicate_succ]
theorem A93{t e s:Nat}{z:Value}(hu:P.underlying t=some (.slice e))(hi:((P.info? e).map fun i=>Nat.beq i.size s&&Nat.ble i.bytes 4096)=some true)(hz:zeroAt P e=some z)(hl:(A6a z).length=s)(h1:1≤s){l c:Nat}(hlc:l≤c)(hc:c≤17179869184):
    A4f P t (.int .i64 (l:Int)) (.int .i64 (c:Int)) H=some (.slice (some ⟨H.next,0,some 0⟩) l c,(H.new s (repl c (A6a z))).2):=by
  obtain⟨i,hi1,hi2⟩:=Option.map_eq_some_iff.1 hi;simp only[Bool.and_eq_true,A1b,A0c,decide_eq_true_eq]at hi2;obtain⟨hsz,hby⟩:=hi2;subst hsz;show A4f P t (.int .i64 (.ofNat l)) (.int .i64 (.ofNat c)) H=_;unfold A4f;have h2:i.bytes*c≤281474976710656:=by
    calc i.bytes * c ≤ 4096 * 17179869184 := Nat.mul_le_mul hby hc
      _≤281474976710656:=by decide
  have h3:c≤281474976710656:=by omega
  simp only[hu,hi1,hz,Option.bind_some,A0c,h1,A1b,hl,hlc,h2,h3,decide_true,Bool.and_self,cond_true];rfl
theorem Buf.room(hw:Wf H)(z:Value){c:Nat}(hc:c≤17179869184):Buf (H.new 1 (List.replicate c z)).2 1 (.slice (some ⟨H.next,0,some 0⟩) 0 c) [] (if c=0 then none else some H.next):=by
 by_cases h:c=0
 ·subst h;rw[if_pos rfl];exact .void _
 ·rw[if_neg h]
  have e:=B5f (c:=c) (by unfold big;omega);exact .own H.next 0 c [] _ (Obj.new (H:=H) 1 _).arr (by rw[e];omega) (by rw[e];simp) (Nat.zero_le _) (by simp[flat]) (fun x hx=>by cases hx)
theorem Buf.fill(hw:Wf H)(z:Value){c:Nat}(hc:c≤17179869184):Buf (H.new 1 (List.replicate c z)).2 1 (.slice (some ⟨H.next,0,some 0⟩) c c) (List.replicate c [z]) (if c=0 then none else some H.next):=by
 by_cases h:c=0
 ·subst h;rw[if_pos rfl];exact .void _
 ·rw[if_neg h]
  have e:=B5f (c:=c) (by unfold big;omega);have hf:flat (List.replicate c [z])=List.replicate c z:=by
   clear h hc e
   induction c with
   | zero=>rfl
   | succ c ih=>simp only[flat,List.replicate_succ,List.flatten_cons]at ih ⊢;rw[ih];rfl
  have:=Buf.own (H:=(H.new 1 (List.replicate c z)).2) (s:=1) H.next 0 c (List.replicate c [z]) (List.replicate c z) (Obj.new (H:=H) 1 _).arr (by rw[e];omega) (by rw[e];simp) (by rw[e];simp) (by rw[hf];simp) (fun x hx=>by rw[List.eq_of_mem_replicate hx];rfl)
  simpa using this
end
section
variable {P:Program} {H:AH} {s:Nat}
theorem C61{x:List Value}(hx:x.length=s):newCells s (H.new s x).2 (.slice (some ⟨H.next,0,some 0⟩) 1 1)=some (1,x):=by
 have h:Obj (H.new s x).2 H.next s x true:=Obj.new s x;unfold newCells;have:Nat.beq 1 0=false:=rfl;simp only[this,cond_false,Nat.one_mul];rw[h.cells (by omega),List.drop_zero,←hx,List.take_length];rfl
theorem A3k{t e:Nat}{z:Value}{base:Option Addr}{len cap:Nat}{x:List Value}(hu:P.underlying t=some (.slice e))(hi:((P.info? e).map fun i=>Nat.beq i.size s&&Nat.ble i.bytes 4096)=some true)
  (hz:zeroAt P e=some z) (hl:(A6a z).length=s) (h1:1≤s) (hx:x.length=s) (hb:len≤17179869183):
  A3a P .append [t,t] [.slice base len cap,.slice (some ⟨H.next,0,some 0⟩) 1 1] (H.new s x).2=A5d s base len cap 1 x (H.new s x).2:=
 A08 hu hi hz hl h1 (by unfold srcKind;rw[hu]) (C61 hx) (by omega)
theorem Buf.push{v:Value}{l:List (List Value)}{b:Option Nat}(h:Buf H s v l b)(hw:Wf H){x:List Value}(hx:x.length=s):
  ∃a cap v' H' b',v=.slice a l.length cap∧A5d s a l.length cap 1 x (H.new s x).2=some (v',H')∧Buf H' s v' (l++[x]) b'∧Chg (fun g=>b=some g) H H'∧(∀g,b'=some g→b=some g∨H.next≤g):=by
 obtain⟨a,cap,rfl⟩:=h.shape;have hk:=Kept.new hw s x;obtain⟨v',H',b',e1,e2,e3,e4⟩:=(h.kept hw hk).append hk.wf (xs:=[x]) (by intro y hy;rw[List.mem_singleton.1 hy];exact hx);have hflat:flat [x]=x:=by simp[flat]
 rw[hflat]at e1;refine⟨a,cap,v',H',b',rfl,e1,e2,hk.chg.trans e3,fun g hg=>?_⟩;rcases e4 with h4|⟨h4,_⟩
 ·exact .inl (by rw[←h4,hg])
 ·rw[h4]at hg;injection hg with hg
  have:=hk.next;exact .inr (by omega)
theorem Buf.set{v:Value}{l:List (List Value)}{b:Option Nat}(h:Buf H s v l b)(hw:Wf H){i:Nat}{x:List Value}(hi:i<l.length)(hx:x.length=s):
  ∃p H',(∀{t e:Nat} {j:IntKind},P.underlying t=some (.slice e)→A5b P e=some s→A4b P t v (.int j (i:Int))=some (.pointer (some p)))∧H.write p x=some H'∧Buf H' s v (l.set i x) b∧Chg (fun g=>b=some g) H H'∧H'.next=H.next:=by
 cases h with
 | void a=>simp at hi
 | own g k cap l vals ha h0 h1 h2 h3 h4=>
  have hll:l.length*s≤vals.length:=by rw[←h1];exact Nat.mul_le_mul_right s h2
  have hle:(i+1)*s≤l.length*s:=Nat.mul_le_mul_right s hi;rw[Nat.succ_mul]at hle;obtain⟨H',e1,e2,e3,e4⟩:=ha.write hw (i:=i*s) (vs:=x) (by omega);refine⟨⟨g,0+i*s,some k⟩,H',fun hu hs=>A2u hu hs hi,by rw[Nat.zero_add];exact e1,?_,e4.weak (fun y hy=>by rw[hy]),e3⟩;have hflat:(setCells vals (i*s) x).take (l.length*s)=flat (l.set i x):=by
   have hset:flat (l.set i x)=setCells (flat l) (i*s) x:=by
    clear ha h0 h1 h2 h3 e1 e2 hll hle;refine List.ext_getElem? fun q=>?_;have hw':∀y∈l.set i x,y.length=s:=by
     intro y hy;rcases List.mem_or_eq_of_mem_set hy with h|h
     ·exact h4 y h
     ·rw[h];exact hx
    have hfl:=flat_length h4;have hfl':=flat_length hw';rw[List.length_set]at hfl';have hbound:i*s+x.length≤(flat l).length:=by
     rw[hfl,hx];have:(i+1)*s≤l.length*s:=Nat.mul_le_mul_right s hi;rw[Nat.succ_mul]at this;exact this
    rw[A6g x (flat l) (i*s) q hbound];by_cases hs0:s=0
    ·have hx0:x.length=0:=by omega
     rw[if_neg (by omega)];have z1:(flat l).length=0:=by rw[hfl,hs0,Nat.mul_zero]
     have z2:(flat (l.set i x)).length=0:=by rw[hfl',hs0,Nat.mul_zero]
     rw[List.getElem?_eq_none (by omega),List.getElem?_eq_none (by omega)]
    by_cases hq:q<l.length*s
    ·have hqd:q/s<l.length:=(Nat.div_lt_iff_lt_mul (by omega)).2 hq
     have hmod:q % s<s:=Nat.mod_lt _ (by omega);have hqe:q=q/s*s+q % s:=by rw[Nat.mul_comm];exact(Nat.div_add_mod q s).symm
     have part:∀(m:List (List Value)) (y:List Value),(∀z∈m,z.length=s)→m[q/s]?=some y→(flat m)[q]?=y[q % s]?:=by
      intro m y hm hy;have:=B5j hm hy;rw[←this,List.getElem?_take,if_pos hmod,List.getElem?_drop,←hqe]
     by_cases hqi:q/s=i
     ·have h5:(l.set i x)[q/s]?=some x:=by rw[hqi,List.getElem?_set,if_pos rfl,if_pos hi]
      rw[part _ _ hw' h5];have h6:i*s≤q∧q<i*s+x.length:=by rw[hx,←hqi];omega
      rw[if_pos h6]
      congr 1
      rw[←hqi];omega
     ·have h5:(l.set i x)[q/s]?=some l[q/s]:=by rw[List.getElem?_set,if_neg (fun h=>hqi h.symm),List.getElem?_eq_getElem hqd]
      have h6:l[q/s]?=some l[q/s]:=List.getElem?_eq_getElem hqd;rw[part _ _ hw' h5,if_neg,part _ _ h4 h6];rintro⟨h7,h8⟩;rw[hx]at h8;apply hqi;exact Nat.div_eq_of_lt_le (by omega) (by rw[Nat.succ_mul];omega)
    ·rw[if_neg (by omega),List.getElem?_eq_none (by omega),List.getElem?_eq_none (by omega)]
   rw[hset,←h3];refine List.ext_getElem? fun q=>?_;rw[List.getElem?_take,A6g x vals (i*s) q (by omega),A6g x (vals.take (l.length*s)) (i*s) q (by rw[List.length_take];omega),List.getElem?_take];by_cases hq:q<l.length*s
   ·rw[if_pos hq,if_pos hq]
   ·rw[if_neg hq,if_neg hq,if_neg (by omega)]
  have:=Buf.own (H:=H') (s:=s) g k cap (l.set i x) _ e2 h0 (by rw[A6f];exact h1) (by simpa using h2) (by rw[List.length_set];exact hflat) (fun y hy=>by
   rcases List.mem_or_eq_of_mem_set hy with h|h
   ·exact h4 y h
   ·rw[h];exact hx)
  rw[List.length_set]at this;exact this
end
structure Jag(H:AH)(v:Value)(ot:Option Nat)(s:Nat)(vals:List Value)(rows:List (List (List Value)))(obs:List (Option Nat)):Prop where
 top:Buf H 1 v (vals.map fun x=>[x]) ot
 len1:vals.length=rows.length
 len2:obs.length=rows.length
 row:∀(i:Nat) v r o,vals[i]?=some v→rows[i]?=some r→obs[i]?=some o→Buf H s v r o
 far:∀(i g:Nat),ot=some g→obs[i]?≠some (some g)
 apart:∀(i j:Nat) o,i≠j→obs[i]?=some (some o)→obs[j]?≠some (some o)
def JIn(ot:Option Nat)(obs:List (Option Nat))(y:Nat):Prop:=ot=some y∨∃i:Nat,obs[i]?=some (some y)
section
variable {H:AH} {s:Nat} {v:Value} {ot:Option Nat} {vals:List Value} {rows:List (List (List Value))} {obs:List (Option Nat)}
theorem Jag.keep{H':AH}(h:Jag H v ot s vals rows obs)(hs:∀y,JIn ot obs y→H'.objs.get y=H.objs.get y):Jag H' v ot s vals rows obs:=
 ⟨h.top.keep fun g hg=>hs g (.inl hg),h.len1,h.len2,fun i v r o h1 h2 h3=>(h.row i v r o h1 h2 h3).keep fun y hy=>hs y (.inr ⟨i,by rw[h3,hy]⟩),h.far,h.apart⟩
theorem Jag.lt(h:Jag H v ot s vals rows obs)(hw:Wf H):∀y,JIn ot obs y→y<H.next:=by
 rintro y (hy|⟨i,hi⟩)
 ·exact h.top.lt hw y hy
 ·have hlt:=(List.getElem?_eq_some_iff.1 hi).1
  have hv:vals[i]?=some (vals[i]'(by rw[h.len1,←h.len2];exact hlt)):=List.getElem?_eq_getElem _;have hr:rows[i]?=some (rows[i]'(by rw[←h.len2];exact hlt)):=List.getElem?_eq_getElem _;exact(h.row i _ _ _ hv hr hi).lt hw y rfl
theorem Jag.chg{X:Nat→Prop}{H':AH}(h:Jag H v ot s vals rows obs)(hw:Wf H)(hc:Chg X H H')(hx:∀y,JIn ot obs y→¬X y):Jag H' v ot s vals rows obs:=
 h.keep fun y hy=>hc.old y (h.lt hw y hy) (hx y hy)
theorem Jag.kept{H':AH}(h:Jag H v ot s vals rows obs)(hw:Wf H)(hk:Kept H H'):Jag H' v ot s vals rows obs:=h.keep fun y hy=>hk.old y (h.lt hw y hy)
theorem Jag.val(h:Jag H v ot s vals rows obs){i:Nat}{r:List (List Value)}(hr:rows[i]?=some r):∃w o,vals[i]?=some w∧obs[i]?=some o∧Buf H s w r o:=by
 have hlt:=(List.getElem?_eq_some_iff.1 hr).1;have hv:vals[i]?=some (vals[i]'(by rw[h.len1];exact hlt)):=List.getElem?_eq_getElem _;have ho:obs[i]?=some (obs[i]'(by rw[h.len2];exact hlt)):=List.getElem?_eq_getElem _;exact⟨_,_,hv,ho,h.row i _ _ _ hv hr ho⟩
theorem Jag.push{P:Program}(h:Jag H v ot s vals rows obs)(hw:Wf H){i:Nat}{r:List (List Value)}{x:List Value}(hr:rows[i]?=some r)(hx:x.length=s):
  ∃w a cap w' H2 H3 o' p,vals[i]?=some w∧w=.slice a r.length cap∧A5d s a r.length cap 1 x (H.new s x).2=some (w',H2)∧(∀{t e:Nat} {j:IntKind},P.underlying t=some (.slice e)→A5b P e=some 1→A4b P t v (.int j (i:Int))=some (.pointer (some p)))∧
   H2.write p [w']=some H3∧Jag H3 v ot s (vals.set i w') (rows.set i (r++[x])) (obs.set i o')∧Chg (JIn ot obs) H H3∧Chg (JIn ot obs) H H2∧isCell w'=true∧(∀y,JIn ot (obs.set i o') y→JIn ot obs y∨H.next≤y):=by
 obtain⟨w,o,hv,ho,hb⟩:=h.val hr;have hil:=(List.getElem?_eq_some_iff.1 hr).1;obtain⟨a,cap,w',H2,o',rfl,e1,e2,e3,e4⟩:=hb.push hw hx;have hog:∀g,ot=some g→o≠some g:=fun g hg hh=>h.far i g hg (by rw[ho,hh]);have ht2:Buf H2 1 v (vals.map fun x=>[x]) ot:=h.top.chg hw e3 fun g hg hh=>hog g hg hh;obtain⟨p,H3,f0,f1,f2,f3,f4⟩:=ht2.set (P:=P) e3.wf (i:=i) (x:=[w']) (by simp[h.len1];exact hil) rfl;have hc2:Chg (JIn ot obs) H H2:=e3.weak fun y hy=>.inr ⟨i,by rw[ho,hy]⟩;have hc3:Chg (JIn ot obs) H H3:=hc2.trans (f3.weak fun y hy=>.inl hy);have hng:∀g,ot=some g→o'≠some g:=by
  intro g hg hh;rcases e4 g hh with h4|h4
  ·exact hog g hg h4
  ·have:=h.top.lt hw g hg
   omega
 have hin:∀y,JIn ot (obs.set i o') y→JIn ot obs y∨H.next≤y:=by
  rintro y (hy|⟨j,hj⟩)
  ·exact .inl (.inl hy)
  ·rw[List.getElem?_set]at hj
   split at hj
   ·rename_i hij
    split at hj
    ·injection hj with hj
     rcases e4 y hj with h4|h4
     ·exact .inl (.inr ⟨i,by rw[ho,h4]⟩)
     ·exact .inr h4
    ·cases hj
   ·exact .inl (.inr ⟨j,hj⟩)
 refine⟨_,a,cap,w',H2,H3,o',p,hv,rfl,e1,f0,f1,⟨?_,by simp[h.len1],by simp[h.len2],fun j w q z h1 h2 h3=>?_,fun j g hg hj=>?_,fun j j' z hjj h1 h2=>?_⟩,hc3,hc2,e2.isCell,hin⟩
 ·rw[List.map_set];exact f2
 ·have hil1:i<vals.length:=by rw[h.len1];exact hil
  have hil2:i<obs.length:=by rw[h.len2];exact hil
  rw[List.getElem?_set]at h1 h2 h3;by_cases hij:i=j
  ·subst hij
   rw[if_pos rfl,if_pos hil1]at h1;rw[if_pos rfl,if_pos hil]at h2;rw[if_pos rfl,if_pos hil2]at h3;injection h1 with h1;injection h2 with h2;injection h3 with h3
   subst h1 h2 h3;exact e2.chg e3.wf f3 fun y hy hyg=>hng y hyg hy
  ·rw[if_neg hij]at h1 h2 h3
   have hbj:=h.row j w q z h1 h2 h3;refine(hbj.chg hw e3 fun y hy hyo=>?_).chg e3.wf f3 fun y hy hyg=>?_
   ·exact h.apart i j y hij (by rw[ho,hyo]) (by rw[h3,hy])
   ·exact h.far j y hyg (by rw[h3,hy])
 ·rw[List.getElem?_set]at hj
  split at hj
  ·split at hj
   ·injection hj with hj;exact hng g hg hj
   ·cases hj
  ·exact h.far j g hg hj
 ·have hnew : ∀ (m : Nat) z, m ≠ i → obs[m]? = some (some z) → o' ≠ some z := by
    rintro m z hm hmz hz;rcases e4 z hz with h4|h4
    · exact h.apart i m z (fun h => hm h.symm) (by rw[ho, h4]) hmz
    · have := h.lt hw z (.inr ⟨m, hmz⟩)
      omega
  rw[List.getElem?_set]at h1 h2;by_cases hij : i = j
  · rw[if_pos hij]at h1
    split at h1
    · injection h1 with h1
      rw[if_neg (by omega)]at h2;exact hnew j' z (by omega) h2 h1
    · cases h1
  · rw[if_neg hij]at h1
    by_cases hij' : i = j'
    · rw[if_pos hij']at h2
      split at h2
      · injection h2 with h2
        exact hnew j z (by omega) h1 h2
      · cases h2
    · rw[if_neg hij']at h2
      exact h.apart j j' z hjj h1 h2
theorem Jag.read(h:Jag H v ot s vals rows obs):JagR H v s rows vals:=by
 refine⟨h.top.toSl,h.len1,fun i w r h1 h2=>?_⟩;have hil:=(List.getElem?_eq_some_iff.1 h2).1;have ho:obs[i]?=some (obs[i]'(by rw[h.len2];exact hil)):=List.getElem?_eq_getElem _;exact(h.row i w r _ h1 h2 ho).toSl
theorem Jag.make(hw:Wf H)(s:Nat){n:Nat}(hn:n≤17179869184):Jag (H.new 1 (List.replicate n (.slice none 0 0))).2 (.slice (some ⟨H.next,0,some 0⟩) n n) (if n=0 then none else some H.next) s (List.replicate n (.slice none 0 0)) (List.replicate n []) (List.replicate n none):=by
 refine⟨by simpa using Buf.fill hw (.slice none 0 0) hn,by simp,by simp,fun i v r o h1 h2 h3=>?_,fun i g _ h=>?_,fun i j o _ h=>?_⟩
 ·rw[List.getElem?_replicate]at h1 h2 h3
  split at h1
  ·rw[if_pos (by assumption)]at h2 h3
   injection h1 with h1;injection h2 with h2;injection h3 with h3
   subst h1 h2 h3;exact .void none
  ·cases h1
 ·rw[List.getElem?_replicate]at h
  split at h<;>cases h
 ·rw[List.getElem?_replicate]at h
  split at h<;>cases h
end
def A1l(l:List ByteArray)(x:ByteArray):Int:=match l.findIdx? (fun y=>decide (y=x)) with
 | some i=>(i:Int)
 | none=>-1
theorem B0s{l:List ByteArray}{x:ByteArray}(h:x∉l):A1l l x=-1:=by
 unfold A1l;have:l.findIdx? (fun y=>decide (y=x))=none:=by
  rw[List.findIdx?_eq_none_iff];intro y hy;simp only[decide_eq_false_iff_not];rintro rfl;exact h hy
 rw[this]
theorem A4w{l:List ByteArray}{x:ByteArray}{k:Nat}(ha:Asc l)(h:l[k]?=some x):A1l l x=(k:Int):=by
 unfold A1l;have:l.findIdx? (fun y=>decide (y=x))=some k:=by
  rw[List.findIdx?_eq_some_iff_getElem];obtain⟨hk,e⟩:=List.getElem?_eq_some_iff.1 h;refine⟨hk,by simpa using e,fun j hj=>?_⟩;simp only[decide_eq_true_eq];intro hjx;have h2:=ha j k _ _ hj (List.getElem?_eq_getElem (by omega)) h;rw[hjx,B5c]at h2;cases h2
 rw[this]
def C07:Operand→List Nat
 | .tmp t=>[t]
 | _=>[]
def B8y(ops:List Oper)(j:Nat):List Nat:=match (ops[j]?).bind (·.dst) with
 | some t=>[t]
 | none=>[]
def B5w(ops:List Oper)(o:Oper):List Nat:=o.op.operands.toList.flatMap C07++(match o.dst with|some t=>[t]|none=>[])++(match o.guard with|some (j,_)=>B8y ops j|none=>[])
def A98(ops:List Oper)(o:Oper):List Nat:=o.op.operands.toList.flatMap C07++(match o.guard with|some (j,_)=>B8y ops j|none=>[])
def B9h(ops:List Oper)(ts l:List Nat):Bool:=l.all fun k=>(B8y ops k).all fun d=>!ts.contains d
def C5c(ops:List Oper):List Nat→Bool
 | []=>true
 | i :: l=>(match ops[i]? with
  | some o=>bif isRead o&&!isEff o then o.dst.isSome&&((match o.dst with|some t=>!(A98 ops o).contains t|none=>true)&&B9h ops (B5w ops o) l) else true
  | none=>false)&&C5c ops l
def B7p(ops:List Oper)(bs:List Nat):List Nat→List Nat→List (Nat×List Nat)
 | [],_=>[]
 | i :: l,pb=>match ops[i]? with
  | none=>[]
  | some o => bif isEff o then (i, pb.filter fun k => !((bs[i]?).getD 0).testBit k) :: B7p ops bs l (bif o.guard.isSome then pb else pb.filter fun k => !((bs[i]?).getD 0).testBit k)
      else bif A2d o||isRead o then (i, []) :: B7p ops bs l (i :: pb) else (i, []) :: B7p ops bs l pb
def orderR(ops:List Oper):List (Nat×List Nat):=B7p ops (A6j ops) (A53 ops (A6j ops)) []
def again(P:Program)(O:A1d)(all:List Oper):List Nat→Fr→AH→Prop
 | [],_,_=>True
 | i :: is, F, H => (match all[i]? with
     | some o => A2d o = false ∧ wpo P O all [o] (fun F2 _ => match o.dst with
       | some t => F2.get t = F.get t ∧ ∀v, F.get t = some v → veq v v = true
       | none => False) F H
     | none => False) ∧ again P O all is F H
def wpr(P:Program)(O:A1d)(all:List Oper):List (Nat×List Nat)→(Fr→AH→Prop)→Fr→AH→Prop
 | [],K,F,H=>K F H
 | (i,fl) :: l,K,F,H=>match all[i]? with
  | some o=>wpo P O all [o] (fun F' H'=>again P O all fl F' H'∧wpr P O all l K F' H') F H
  | none=>False
section
variable {P:Program}
def Val(P:Program)(all:List Oper)(H:AH):Pend→Prop
 | .read i F v=>∃o,all[i]?=some o∧∃v' H',(∀c,aop P c F H o=some (v',H'))∧veq v v'=true
 | .made i g x=>∃y,H.objs.get g=some y∧B2a x y=true
theorem A7w{c:A1d}{all:List Oper}{H:AH}{b:Nat}:∀{ps:List Pend},(∀p∈ps,b.testBit p.at_=false→Val P all H p)→A8h P c all H b ps=some (ps.filter fun p=>!b.testBit p.at_)
 | [],_=>rfl
 | .read i F v :: ps,h=>by
  have h1:=A7w (c:=c) (b:=b) (ps:=ps) fun p hp=>h p (List.mem_cons_of_mem _ hp);cases hb:b.testBit i with
  | true=>simp only[A8h,hb,cond_true,h1,List.filter_cons,Pend.at_,Bool.not_true,if_false,Bool.false_eq_true]
  | false=>
   obtain⟨o,k1,v',H',k4,k5⟩:=h _ List.mem_cons_self hb;simp only[A8h,hb,k1,k4,k5,cond_true,cond_false,h1,Option.map_some,List.filter_cons,Pend.at_,Bool.not_false,if_true]
 | .made i g x :: ps,h=>by
  have h1:=A7w (c:=c) (b:=b) (ps:=ps) fun p hp=>h p (List.mem_cons_of_mem _ hp);cases hb:b.testBit i with
  | true=>simp only[A8h,hb,cond_true,h1,List.filter_cons,Pend.at_,Bool.not_true,if_false,Bool.false_eq_true]
  | false=>
   obtain⟨y,k1,k2⟩:=h _ List.mem_cons_self hb;simp only[A8h,hb,k1,k2,cond_true,cond_false,h1,Option.map_some,List.filter_cons,Pend.at_,Bool.not_false,if_true]
def Live(all:List Oper)(G:Fr)(l:List Nat):Pend→Prop
 | .read i F v=>∃o t,all[i]?=some o∧isEff o=false∧o.dst=some t∧G.get t=some v∧A3m all G o=some true∧(∀x∈o.op.operands.toList,ev F x=ev G x)∧B9h all (B5w all o) l=true
 | .made i _ _=>∃o,all[i]?=some o∧A2d o=true
theorem C75{F:Fr}{d:Option Nat}{v:Value}{x:Operand}(h:∀t,d=some t→t∉C07 x):ev (put F d v) x=ev F x:=by
 cases d with
 | none=>rfl
 | some t=>
  have:=h t rfl;cases x with
  | tmp u=>
   simp only[C07,List.mem_singleton]at this;exact A90 F (fun e=>this e.symm) v
  | _=>rfl
theorem get_put{F:Fr}{d:Option Nat}{v:Value}{u:Nat}(h:∀t,d=some t→u≠t):(put F d v).get u=F.get u:=by
 cases d with
 | none=>rfl
 | some t=>exact A90 F (h t rfl) v
theorem Live.put{all:List Oper}{G:Fr}{l:List Nat}{i:Nat}{o:Oper}{v:Value}(ho:all[i]?=some o):∀{p:Pend},Live all G (i :: l) p→Live all (put G o.dst v) l p
 | .made _ _ _,h=>h
 | .read k F w,⟨o',t,h1,h2,h3,h4,h5,h6,h7⟩=>by
  unfold B9h at h7;rw[List.all_cons,Bool.and_eq_true]at h7;have hd:∀d,o.dst=some d→d∉B5w all o':=by
   intro d hd;have:=h7.1;unfold B8y at this;rw[ho,Option.bind_some,hd]at this
   simpa using this
  have hm:∀d,o.dst=some d→d∉o'.op.operands.toList.flatMap C07∧d≠t∧∀j w,o'.guard=some (j,w)→d∉B8y all j:=by
   intro d hdd;have:=hd d hdd;unfold B5w at this;rw[List.mem_append,List.mem_append,h3]at this;refine⟨fun h=>this (.inl (.inl h)),fun h=>this (.inl (.inr (by simp[h]))),fun j w hj h=>this (.inr (by rw[hj];exact h))⟩
  refine⟨o',t,h1,h2,h3,?_,?_,fun x hx=>?_,h7.2⟩
  ·rw[get_put fun d hdd=>(hm d hdd).2.1.symm];exact h4
  ·unfold A3m at h5 ⊢
   cases hg:o'.guard with
   | none=>rfl
   | some q=>
    obtain⟨j,w⟩:=q;rw[hg]at h5;simp only at h5 ⊢;cases hj:(all[j]?).bind (·.dst) with
    | none=>rw[hj]at h5;cases h5
    | some u=>
     rw[hj]at h5;simp only[Option.bind_some]at h5 ⊢;rw[get_put fun d hdd e=>(hm d hdd).2.2 j w hg (by unfold B8y;rw[hj];simp[e])];exact h5
  ·rw[h6 x hx]
   exact(C75 fun d hdd hin=>(hm d hdd).1 (List.mem_flatMap.2 ⟨x,hx,hin⟩)).symm
theorem B67{O:A1d}{all:List Oper}{l:List Nat}{F:Fr}{H:AH}{is:List Nat}(h:again P O all is F H)(p:Pend)(hp:Live all F l p)(hin:p.at_∈is):Val P all H p:=by
 induction is with
 | nil=>cases hin
 | cons i is ih=>
  obtain⟨h1,h2⟩:=h;rcases List.mem_cons.1 hin with e|hin
  ·cases p with
   | made k g x=>
    obtain⟨o,k1,k2⟩:=hp;simp only[Pend.at_]at e;subst e;rw[k1]at h1;rw[h1.1]at k2;cases k2
   | read k G w=>
    obtain⟨o,t,k1,k2,k3,k4,k5,k6,k7⟩:=hp;simp only[Pend.at_]at e;subst e;rw[k1]at h1;obtain⟨_,h1⟩:=h1;rw[A9x]at h1;obtain⟨b,m1,m2,_⟩:=h1;rw[k5]at m1;injection m1 with m1
    obtain⟨v',H',⟨n,hn⟩,m3⟩:=m2 m1.symm;rw[A5x,k3]at m3;simp only[A81]at m3;obtain⟨m3,m4⟩:=m3;rw[k4]at m3 m4;injection m3 with m3
    refine⟨o,k1,v',H',fun c=>?_,by rw[m3];exact m4 w rfl⟩;rw[B40 k6,←hn];exact B6n k2
  ·exact ih h2 hin
theorem A4o{O:A1d}{all:List Oper}{bs:List Nat}{K:Fr→AH→Prop}:∀(l pb:List Nat) (ps:List Pend) (F:Fr) (H:AH),(∀p∈ps,p.at_∈pb∧Live all F l p)→wpr P O all (B7p all bs l pb) K F H→
  (∀i∈l,i<all.length)→C5c all l=true→wpd P O all bs l ps K F H
 | [],pb,ps,F,H,_,h,_,_=>⟨0,F,H,rfl,h⟩
 | i :: l,pb,ps,F,H,hc,h,hl,hsep=>by
  have hi:=hl i List.mem_cons_self;have hl':∀i∈l,i<all.length:=fun j hj=>hl j (List.mem_cons_of_mem _ hj);have ho:all[i]?=some all[i]:=List.getElem?_eq_getElem hi;generalize all[i]=o at ho;simp only[B7p,ho]at h;simp only[C5c,ho,Bool.and_eq_true]at hsep;obtain⟨hsep0,hsep⟩:=hsep
  have go : ∀ (fl : List Nat) (rest : List (Nat × List Nat)), wpr P O all ((i, fl) :: rest) K F H → ∃ b, A3m all F o = some b ∧
      (b = true → ∃v H1, OpTo P O F H o v H1 ∧ again P O all fl (put F o.dst v) H1 ∧ wpr P O all rest K (put F o.dst v) H1) ∧
      (b = false → wpr P O all rest K (put F o.dst undef) H) := by
    intro fl rest hh;simp only[wpr, ho]at hh;rw[A9x]at hh;obtain⟨b, h1, h2, h3⟩ := hh;refine⟨b, h1, fun hb => ?_, fun hb => ?_⟩
    · obtain⟨v, H1, h4, h5⟩ := h2 hb
      rw[A5x]at h5;exact⟨v, H1, h4, h5⟩
    · have := h3 hb
      rw[A5x]at this;exact this.2
  have skip:∀{F1:Fr} {H1:AH},A3m all F o=some false→F1=put F o.dst undef→H1=H→wpd P O all bs l ps K F1 H1→wpd P O all bs (i :: l) ps K F H:=by
   rintro F1 H1 hw rfl rfl ⟨n,F2,H2,h1,h2⟩;refine⟨n,F2,H2,?_,h2⟩;simp only[A4e,ho,hw];exact h1
  have step:∀(v:Value) (pb':List Nat),(∀k∈pb,k∈pb')→∀p∈ps,p.at_∈pb'∧Live all (put F o.dst v) l p:=fun v pb' hb p hp=>⟨hb _ (hc p hp).1,(hc p hp).2.put ho⟩
  cases hE:isEff o with
  | true=>
   rw[hE]at h;simp only[cond_true]at h;obtain⟨b,hw,ht,hf⟩:=go _ _ h;cases b with
   | false=>
    have hg:o.guard.isSome=true:=by
     unfold A3m at hw;cases hgd:o.guard with
     | none=>rw[hgd]at hw;cases hw
     | some x=>rfl
    have hf:=hf rfl;rw[hg]at hf;exact skip hw rfl rfl (A4o l _ ps _ _ (step _ _ fun k hk=>by simpa using hk) hf hl' hsep)
   | true=>
    obtain⟨v,H1,⟨n,hn⟩,hh,hrest⟩:=ht rfl;have hval:∀p∈ps,((bs[i]?).getD 0).testBit p.at_=false→Val P all H1 p:=by
     intro p hp hb;obtain⟨q1,q2⟩:=step v pb (fun _ h=>h) p hp;exact B67 hh p q2 (List.mem_filter.2 ⟨q1,by rw[hb];rfl⟩)
    obtain⟨m,F2,H2,h1,h2⟩:=A4o l _ (ps.filter fun p=>!((bs[i]?).getD 0).testBit p.at_) _ _ (fun p hp=>by
     obtain⟨k1,k2⟩:=List.mem_filter.1 hp;obtain⟨q1,q2⟩:=step v pb (fun _ h=>h) p k1;refine⟨?_,q2⟩;cases o.guard.isSome with
     | true=>exact q1
     | false=>exact List.mem_filter.2 ⟨q1,k2⟩) hrest hl' hsep
    refine⟨n+m,F2,H2,?_,h2⟩;simp only[A4e,ho,hw,A1i (A4c (Nat.le_add_right n m)) hn,hE,cond_true,A7w hval];exact A4d (A4c (Nat.le_add_left m n)) h1
  | false=>
   rw[hE]at h;simp only[cond_false]at h;cases hM:A2d o with
   | true=>
    rw[hM]at h;simp only[Bool.true_or,cond_true]at h;obtain⟨b,hw,ht,hf⟩:=go _ _ h;cases b with
    | false=>exact skip hw rfl rfl (A4o l _ ps _ _ (step _ _ fun k hk=>List.mem_cons_of_mem _ hk) (hf rfl) hl' hsep)
    | true=>
     obtain⟨v,H1,⟨n,hn⟩,_,hrest⟩:=ht rfl;obtain⟨x,hx⟩:=A4l hM hn;have hxg:H1.objs.get H.next=some x:=by rw[hx];exact A1q H x
     obtain⟨m,F2,H2,h1,h2⟩:=A4o l (i :: pb) (.made i H.next x :: ps) _ _ (fun p hp=>by
      rcases List.mem_cons.1 hp with rfl|hp
      ·exact⟨List.mem_cons_self,o,ho,hM⟩
      ·exact step v _ (fun k hk=>List.mem_cons_of_mem _ hk) p hp) hrest hl' hsep
     refine⟨n+m,F2,H2,?_,h2⟩;simp only[A4e,ho,hw,A1i (A4c (Nat.le_add_right n m)) hn,hE,cond_false,hM,cond_true,hxg];exact A4d (A4c (Nat.le_add_left m n)) h1
   | false=>
    rw[hM]at h;simp only[Bool.false_or]at h;have hsame:∀{v:Value} {H1:AH} {n:Nat},aop P (call P O n) F H o=some (v,H1)→H1=H:=fun hn=>(A3n (HGrow.refl H) hE hM hn).2;cases hR:isRead o with
    | true=>
     rw[hR]at h hsep0;simp only[cond_true]at h;simp only[hE,Bool.not_false,Bool.and_self,cond_true,Bool.and_eq_true]at hsep0;obtain⟨b,hw,ht,hf⟩:=go _ _ h;cases b with
     | false=>exact skip hw rfl rfl (A4o l _ ps _ _ (step _ _ fun k hk=>List.mem_cons_of_mem _ hk) (hf rfl) hl' hsep)
     | true=>
      obtain⟨v,H1,⟨n,hn⟩,_,hrest⟩:=ht rfl;have:=hsame hn;subst this;obtain⟨t,hd⟩:=Option.isSome_iff_exists.1 hsep0.1;have hw':A3m all (put F o.dst v) o=some true:=by
       unfold A3m at hw ⊢;cases hg:o.guard with
       | none=>rfl
       | some q=>
        obtain⟨j,w⟩:=q;rw[hg]at hw;simp only at hw ⊢;cases hj:(all[j]?).bind (·.dst) with
        | none=>rw[hj]at hw;cases hw
        | some u=>
         rw[hj]at hw;simp only[Option.bind_some]at hw ⊢;have hself:=hsep0.2.1;rw[hd]at hself ⊢;rw[get_put fun d hdd e=>by
          injection hdd with hdd
          subst hdd e;have:u∈A98 all o:=List.mem_append.2 (.inr (by simp[hg,B8y,hj]));simp[this]at hself]
         exact hw
      have hev:∀x∈o.op.operands.toList,ev F x=ev (put F o.dst v) x:=by
       intro x hx;refine(C75 fun d hdd hin=>?_).symm;have hself:=hsep0.2.1;rw[hdd]at hself;have:d∈A98 all o:=List.mem_append.2 (.inl (List.mem_flatMap.2 ⟨x,hx,hin⟩));simp[this]at hself
      obtain⟨m,F2,H2,h1,h2⟩:=A4o l (i :: pb) (.read i F v :: ps) _ _ (fun p hp=>by
       rcases List.mem_cons.1 hp with rfl|hp
       ·exact⟨List.mem_cons_self,o,t,ho,hE,hd,by rw[hd,A81],hw',hev,hsep0.2.2⟩
       ·exact step v _ (fun k hk=>List.mem_cons_of_mem _ hk) p hp) hrest hl' hsep
      refine⟨n+m,F2,H2,?_,h2⟩;simp only[A4e,ho,hw,A1i (A4c (Nat.le_add_right n m)) hn,hE,cond_false,hM,hR,cond_true];exact A4d (A4c (Nat.le_add_left m n)) h1
    | false=>
     rw[hR]at h;simp only[cond_false]at h;obtain⟨b,hw,ht,hf⟩:=go _ _ h;cases b with
     | false=>exact skip hw rfl rfl (A4o l _ ps _ _ (step _ _ fun k hk=>hk) (hf rfl) hl' hsep)
     | true=>
      obtain⟨v,H1,⟨n,hn⟩,_,hrest⟩:=ht rfl;have:=hsame hn;subst this;obtain⟨m,F2,H2,h1,h2⟩:=A4o l pb ps _ _ (step v _ fun k hk=>hk) hrest hl' hsep;refine⟨n+m,F2,H2,?_,h2⟩;simp only[A4e,ho,hw,A1i (A4c (Nat.le_add_right n m)) hn,hE,cond_false,hM,hR];exact A4d (A4c (Nat.le_add_left m n)) h1
end
variable {P:Program} {O:A1d} {S:List Item} {Q:Fr→AH→Prop} {F:Fr} {H:AH}
theorem A8n{id:Nat}{ops:Array Oper}{fl:List (Nat×List Nat)}(hf:orderR ops.toList=fl)(hb:((A53 ops.toList (A6j ops.toList)).all fun i=>Nat.blt i ops.toList.length)=true)(hs:C5c ops.toList (A53 ops.toList (A6j ops.toList))=true)(h:wpr P O ops.toList fl (wp P O S Q) F H):wp P O (.code (.region id ops true) :: S) Q F H:=by
 rw[C2a];subst hf;refine A4o _ [] [] F H (fun p hp=>by cases hp) h (fun i hi=>?_) hs;have:=List.all_eq_true.1 hb i hi;rw[A1j]at this;exact of_decide_eq_true this
end Go.Proofs.Sh
/- Automata without a program: what is reached, what is marked, what a word leads to. -/
namespace Go.Proofs.Sh
open Go
theorem Jag.pushAt{P:Program}{t e:Nat}{H:AH}{s:Nat}{v:Value}{ot:Option Nat}{vals:List Value}{rows:List (List (List Value))}{obs:List (Option Nat)}(hu:P.underlying t=some (.slice e))(hs:A5b P e=some 1)
  (h:Jag H v ot s vals rows obs) (hw:Wf H) {i:Nat} {r:List (List Value)} {x:List Value} (hr:rows[i]?=some r) (hx:x.length=s):
  ∃a cap w' H2 H3 o' p,A5d s a r.length cap 1 x (H.new s x).2=some (w',H2)∧A4b P t v (.int .i64 (i:Int))=some (.pointer (some p))∧H.cell p=some (.slice a r.length cap)∧H2.write p [w']=some H3∧
   Jag H3 v ot s (vals.set i w') (rows.set i (r++[x])) (obs.set i o')∧Chg (JIn ot obs) H H3∧Chg (JIn ot obs) H H2∧isCell w'=true∧(∀y,JIn ot (obs.set i o') y→JIn ot obs y∨H.next≤y):=by
 obtain⟨w,a,cap,w',H2,H3,o',p,h1,h2,h3,h4,h5,h6,h7,h8,h9,h10⟩:=h.push (P:=P) hw hr hx;subst h2;refine⟨a,cap,w',H2,H3,o',p,h3,h4 hu hs,?_,h5,h6,h7,h8,h9,h10⟩;obtain⟨q,o,k,hia,hcs,hcc⟩:=h.top.toSl.at hu hs (i:=i) (x:=[.slice a r.length cap]) (by simp[h1]) .i64;have hy:=hcc 0 _ rfl;rw[h4 hu hs]at hia;injection hia with hia;injection hia with hia;injection hia with hia
 subst hia
 simpa using hy
theorem A5j{P:Program}{t:Nat}{fs:Array Field}{z:Value}{pl:List (Nat×Nat)}{ps:List (Nat×Value)}{l:List Value}(hu:P.underlying t=some (.struct fs))(hz:zeroAt P t=some z)(hp:placesOf P fs.toList=some pl)(hf:A3w (fun i=>pl[i]?) (A6a z) ps=some l):
  A9n P t ps=some (.agg l.toArray):=by
 unfold A9n;rw[hz,hu];simp only[Option.bind_some];rw[hp];simp only[Option.bind_some,hf,Option.map_some]
inductive Clo(R:Nat→Nat→Prop)(S:Nat→Prop):Nat→Prop
 | base {s:Nat}:S s→Clo R S s
 | step {s t:Nat}:Clo R S s→R s t→Clo R S t
theorem Clo.of{R:Nat→Nat→Prop}{S Q:Nat→Prop}(h1:∀s,S s→Q s)(h2:∀s t,Q s→R s t→Q t){t:Nat}(h:Clo R S t):Q t:=by
 induction h with
 | base h=>exact h1 _ h
 | step _ hr ih=>exact h2 _ _ ih hr
theorem Clo.iff{R:Nat→Nat→Prop}{S:Nat→Prop}{l:List Nat}(h0:∀s,S s→s∈l)(h1:∀s∈l,Clo R S s)(h2:∀s∈l,∀t,R s t→t∈l)(t:Nat):t∈l↔Clo R S t:=
 ⟨h1 t,fun h=>h.of h0 fun s t hs hr=>h2 s hs t hr⟩
theorem A17{n:Nat}:∀{l:List Nat},l.Nodup→(∀x∈l,x<n)→l.length≤n:=by
 induction n with
 | zero=>
  intro l _ h;cases l with
  | nil=>exact Nat.le_refl _
  | cons x l=>exact absurd (h x List.mem_cons_self) (Nat.not_lt_zero _)
 | succ n ih=>
  intro l hn h;by_cases hm:n∈l
  ·have h1:(l.erase n).Nodup:=hn.erase n
   have h2:∀x∈l.erase n,x<n:=by
    intro x hx;have h3:=(hn.mem_erase_iff).1 hx;have:=h x h3.2;omega
   have:=ih h1 h2;rw[List.length_erase_of_mem hm]at this;omega
  ·have h2 : ∀ x ∈ l, x < n := by
     intro x hx;have := h x hx;have : x ≠ n := fun e => hm (e ▸ hx);omega
   have := ih hn h2;omega
structure Marks(n:Nat)(seen:List Bool)(out:List Nat):Prop where
 len:seen.length=n
 nod:out.Nodup
 iff:∀t:Nat,seen[t]?=some true↔t∈out
theorem Marks.lt{n:Nat}{seen:List Bool}{out:List Nat}(h:Marks n seen out){t:Nat}(ht:t∈out):t<n:=by
 have:=(h.iff t).2 ht;have:=(List.getElem?_eq_some_iff.1 this).1;rw[←h.len];exact this
theorem Marks.le{n:Nat}{seen:List Bool}{out:List Nat}(h:Marks n seen out):out.length≤n:=A17 h.nod fun _ hx=>h.lt hx
theorem Marks.empty(n:Nat):Marks n (List.replicate n false) []:=by
 refine⟨by simp,List.nodup_nil,fun t=>?_⟩;rw[List.getElem?_replicate];split<;>simp
theorem Marks.add{n:Nat}{seen:List Bool}{out:List Nat}(h:Marks n seen out){t:Nat}(ht:t<n)(hs:t∉out):Marks n (seen.set t true) (out++[t]):=by
 refine⟨by simp[h.len],?_,fun u=>?_⟩
 ·rw[List.nodup_append]
  refine⟨h.nod,by simp,fun a ha b hb=>?_⟩;rw[List.mem_singleton]at hb;rintro rfl;exact hs (hb ▸ ha)
 ·rw[List.getElem?_set,List.mem_append,List.mem_singleton,h.len]
  by_cases hu:t=u
  ·subst hu;simp[ht]
  ·rw[if_neg hu,h.iff u]
   constructor
   ·exact fun h=>.inl h
   ·rintro(h|h)
    ·exact h
    ·exact absurd h.symm hu
theorem Marks.not{n:Nat}{seen:List Bool}{out:List Nat}(h:Marks n seen out){t:Nat}(ht:t<n):∃b,seen[t]?=some b∧(b=true↔t∈out):=by
 have hl:t<seen.length:=by rw[h.len];exact ht
 refine⟨seen[t],List.getElem?_eq_getElem hl,?_⟩;rw[←h.iff t,List.getElem?_eq_getElem hl];simp
def RunS{L:Type}(E:Nat→Nat→Prop)(A:L→Nat→Nat→Prop):(Nat→Prop)→List L→Nat→Prop
 | S,[]=>S
 | S,x :: w=>RunS E A (Clo E fun t=>∃s,S s∧A x s t) w
theorem RunS.congr{L M:Type}{E E':Nat→Nat→Prop}{A:L→Nat→Nat→Prop}{B:M→Nat→Nat→Prop}{f:L→M}(hE:∀s t,E s t↔E' s t):∀{w:List L} {S S':Nat→Prop},(∀s,S s↔S' s)→(∀x∈w,∀s t,A x s t↔B (f x) s t)→∀t,RunS E A S w t↔RunS E' B S' (w.map f) t
 | [],S,S',hS,hA,t=>hS t
 | x :: w,S,S',hS,hA,t=>by
  have e:E=E':=funext fun s=>funext fun t=>propext (hE s t);subst e;simp only[RunS,List.map_cons];refine RunS.congr (fun _ _=>Iff.rfl) (fun s=>?_) (fun y hy=>hA y (List.mem_cons_of_mem _ hy)) t;have:(fun t=>∃s,S s∧A x s t)=fun t=>∃s,S' s∧B (f x) s t:=by
   funext t
   apply propext;constructor
   ·rintro⟨s,h1,h2⟩;exact⟨s,(hS s).1 h1,(hA x List.mem_cons_self s t).1 h2⟩
   ·rintro⟨s,h1,h2⟩;exact⟨s,(hS s).2 h1,(hA x List.mem_cons_self s t).2 h2⟩
  rw[this]
theorem RunS.none{L:Type}{E:Nat→Nat→Prop}{A:L→Nat→Nat→Prop}:∀{w:List L} {S:Nat→Prop},(∀s,¬S s)→∀t,¬RunS E A S w t
 | [],S,h,t=>h t
 | x :: w,S,h,t=>by
  simp only[RunS];refine RunS.none (fun s hs=>?_) t;exact hs.of (Q:=fun _=>False) (fun t ⟨s,h1,_⟩=>h s h1) fun _ _ h _=>h
def rowsOf{α β:Type}(key:α→Int)(f:α→β)(n:Nat)(l:List α):List (List β):=(List.range n).map fun(s:Nat)=>(l.filter fun a=>decide (key a=(s:Int))).map f
theorem A2e{α β:Type}{key:α→Int}{f:α→β}{n:Nat}{l:List α}:(rowsOf key f n l).length=n:=by simp[rowsOf]
theorem A2k{α β:Type}{key:α→Int}{f:α→β}{n:Nat}{l:List α}{s:Nat}(h:s<n):(rowsOf key f n l)[s]?=some ((l.filter fun a=>decide (key a=(s:Int))).map f):=by
 simp[rowsOf,h]
theorem B3k{α β:Type}{key:α→Int}{f:α→β}{n:Nat}:rowsOf key f n ([]:List α)=List.replicate n []:=by
 refine List.ext_getElem? fun i=>?_;by_cases h:i<n
 ·rw[A2k h,List.getElem?_replicate,if_pos h];rfl
 ·rw[List.getElem?_eq_none (by rw[A2e];omega),List.getElem?_eq_none (by simp;omega)]
theorem A94{α β:Type}{key:α→Int}{f:α→β}{n:Nat}{l:List α}{a:α}{s:Nat}(hs:s<n)(ha:key a=(s:Int)):
  rowsOf key f n (l++[a])=(rowsOf key f n l).set s ((l.filter fun a=>decide (key a=(s:Int))).map f++[f a]):=by
 refine List.ext_getElem? fun i=>?_;rw[List.getElem?_set,A2e,if_pos hs];by_cases h:i<n
 ·rw[A2k h,A2k h]
  by_cases hi:s=i
  ·subst hi;rw[if_pos rfl];simp[List.filter_append,ha]
  ·rw[if_neg hi,List.filter_append,List.map_append]
   have:¬(key a=(i:Int)):=by rw[ha];omega
   simp[this]
 ·have h1:s≠i:=by omega
  rw[if_neg h1,List.getElem?_eq_none (by rw[A2e];omega),List.getElem?_eq_none (by rw[A2e];omega)]
theorem A1s{α β:Type}{key:α→Int}{f:α→β}{n:Nat}{l:List α}{s:Nat}{r:List β}(hr:(rowsOf key f n l)[s]?=some r)(y:β):y∈r↔∃a∈l,key a=(s:Int)∧f a=y:=by
 have hs:=(List.getElem?_eq_some_iff.1 hr).1;rw[A2e]at hs;rw[A2k hs]at hr;injection hr with hr
 subst hr;simp only[List.mem_map,List.mem_filter,decide_eq_true_eq];constructor
 ·rintro⟨a,⟨h1,h2⟩,h3⟩;exact⟨a,h1,h2,h3⟩
 ·rintro⟨a,h1,h2,h3⟩;exact⟨a,⟨h1,h2⟩,h3⟩
theorem A37{α β:Type}{key:α→Int}{f:α→β}{n:Nat}{l:List α}{s:Nat}{r:List β}(hr:(rowsOf key f n l)[s]?=some r):r.length≤l.length:=by
 have hs:=(List.getElem?_eq_some_iff.1 hr).1;rw[A2e]at hs;rw[A2k hs]at hr;injection hr with hr
 subst hr;rw[List.length_map];exact List.length_filter_le _ _
def leastOf:List Int→Int
 | []=>0
 | c :: l=>l.foldl (fun c x=>if x<c then x else c) c
theorem B34(l:List Int)(x:Int):leastOf (l++[x])=if l=[]∨x<leastOf l then x else leastOf l:=by
 cases l with
 | nil=>simp[leastOf]
 | cons c l=>simp[leastOf,List.foldl_append]
theorem B53:∀{l:List Int},(∀x∈l,x=0)→leastOf l=0
 | [],_=>rfl
 | c :: l,h=>by
  have h0:=h c List.mem_cons_self;subst h0;have:∀l:List Int,(∀x∈l,x=0)→l.foldl (fun c x=>if x<c then x else c) 0=0:=by
   intro l
   induction l with
   | nil=>intro _;rfl
   | cons x l ih=>
    intro h;have hx:=h x List.mem_cons_self;subst hx
    simpa using ih fun y hy=>h y (List.mem_cons_of_mem _ hy)
  exact this l fun x hx=>h x (List.mem_cons_of_mem _ hx)
def NetD.goes(N:NetD)(x:ByteArray)(s t:Nat):Prop:=∃a∈N.arcs,a.fr=(s:Int)∧a.inn=x∧a.to=(t:Int)
def NetD.isEnd(N:NetD)(s:Nat):Prop:=∃e∈N.ends,e.state=(s:Int)
def A4n:ByteArray:=⟨#[]⟩
def NetD.clo(N:NetD):(Nat→Prop)→Nat→Prop:=Clo (N.goes A4n)
def NetD.run(N:NetD)(w:List ByteArray):Nat→Prop:=RunS (N.goes A4n) N.goes (N.clo fun s=>s=0) w
def NetD.alive(N:NetD):Nat→Prop:=Clo (fun s t=>∃x,N.goes x t s) N.isEnd
def intC(n:Int):List Value:=[.int .i64 n]
structure GrB(H:AH)(base g:Nat)(sv av ev cv:Value)(os ot oe oc:Option Nat)(vals:List Value)(obs:List (Option Nat))(sigma:List ByteArray)(rows:List (List (List Value)))(ends costs:List Int):Prop where
 arr:Arr H g 0 4 [sv,av,ev,cv]
 sg:Buf H 1 sv (sigma.map A6b) os
 jag:Jag H av ot 4 vals rows obs
 en:Buf H 1 ev (ends.map intC) oe
 co:Buf H 1 cv (costs.map intC) oc
 fg:base≤g
 fs:∀y,os=some y→base≤y
 fj:∀y,JIn ot obs y→base≤y
 fe:∀y,oe=some y→base≤y
 fc:∀y,oc=some y→base≤y
 gs:os≠some g
 gj:¬JIn ot obs g
 ge:oe≠some g
 gc:oc≠some g
 sj:∀y,os=some y→¬JIn ot obs y
 se:∀y,os=some y→oe≠some y
 sc:∀y,os=some y→oc≠some y
 je:∀y,oe=some y→¬JIn ot obs y
 jc:∀y,oc=some y→¬JIn ot obs y
 ec:∀y,oe=some y→oc≠some y
def Gr(H:AH)(base g:Nat)(sigma:List ByteArray)(rows:List (List (List Value)))(ends costs:List Int):Prop:=
 ∃sv av ev cv os ot oe oc vals obs,GrB H base g sv av ev cv os ot oe oc vals obs sigma rows ends costs
theorem GrB.chg{H H':AH}{base g:Nat}{sv av ev cv:Value}{os ot oe oc:Option Nat}{vals:List Value}{obs:List (Option Nat)}{sigma:List ByteArray}{rows:List (List (List Value))}{ends costs:List Int}
  (h:GrB H base g sv av ev cv os ot oe oc vals obs sigma rows ends costs) (hw:Wf H) {X:Nat→Prop} (hc:Chg X H H') (hx:∀y,base≤y→¬X y):GrB H' base g sv av ev cv os ot oe oc vals obs sigma rows ends costs:=
 { h with
  arr:=h.arr.keep (hc.old g (h.arr.lt hw) (hx g h.fg))
  sg:=h.sg.chg hw hc fun y hy=>hx y (h.fs y hy)
  jag:=h.jag.chg hw hc fun y hy=>hx y (h.fj y hy)
  en:=h.en.chg hw hc fun y hy=>hx y (h.fe y hy)
  co:=h.co.chg hw hc fun y hy=>hx y (h.fc y hy) }
theorem Gr.kept{H H':AH}{base g:Nat}{sigma:List ByteArray}{rows:List (List (List Value))}{ends costs:List Int}(h:Gr H base g sigma rows ends costs)(hw:Wf H)(hk:Kept H H'):Gr H' base g sigma rows ends costs:=by
 obtain⟨sv,av,ev,cv,os,ot,oe,oc,vals,obs,h⟩:=h;exact⟨sv,av,ev,cv,os,ot,oe,oc,vals,obs,h.chg hw (hk.chg (X:=none')) fun _ _ h=>h⟩
structure GrR(H:AH)(g:Nat)(sv av ev cv:Value)(vals:List Value)(sigma:List ByteArray)(rows:List (List (List Value)))(ends costs:List Int):Prop where
 arr:Arr H g 0 4 [sv,av,ev,cv]
 sg:Sl H sv 1 (sigma.map A6b)
 jag:JagR H av 4 rows vals
 en:Sl H ev 1 (ends.map intC)
 co:Sl H cv 1 (costs.map intC)
theorem GrR.kept{H H':AH}{g:Nat}{sv av ev cv:Value}{vals:List Value}{sigma:List ByteArray}{rows:List (List (List Value))}{ends costs:List Int}(h:GrR H g sv av ev cv vals sigma rows ends costs)(hw:Wf H)(hk:Kept H H'):GrR H' g sv av ev cv vals sigma rows ends costs:=
 ⟨h.arr.keep (hk.old g (h.arr.lt hw)),h.sg.grow (hk.grow hw),h.jag.grow (hk.grow hw),h.en.grow (hk.grow hw),h.co.grow (hk.grow hw)⟩
theorem Gr.read{H:AH}{base g:Nat}{sigma:List ByteArray}{rows:List (List (List Value))}{ends costs:List Int}(h:Gr H base g sigma rows ends costs):∃sv av ev cv vals,GrR H g sv av ev cv vals sigma rows ends costs:=by
 obtain⟨sv,av,ev,cv,os,ot,oe,oc,vals,obs,h⟩:=h;exact⟨sv,av,ev,cv,vals,h.arr,h.sg.toSl,h.jag.read,h.en.toSl,h.co.toSl⟩
theorem Kept.then{H0 H H':AH}{base:Nat}(h:Kept H0 H)(hb:H0.next≤base)(hc:Chg (fun y=>base≤y) H H'):Kept H0 H':=
 ⟨fun y hy=>by rw[hc.old y (Nat.lt_of_lt_of_le hy h.next) (by omega)];exact h.old y hy,Nat.le_trans h.next hc.next,hc.wf⟩
def C1b(sigma:List ByteArray)(a:ArcD):List Value:=[.int .i64 a.to,.int .i64 (A1l sigma a.inn),.int .i64 (A1l sigma a.out),.int .i64 a.cost]
def B9c(N:NetD)(l:List ArcD):List (List (List Value)):=rowsOf ArcD.fr (C1b N.sigma) N.states.toNat l
def A1h(N:NetD)(l:List EndD):List Int:=(rowsOf EndD.state EndD.cost N.states.toNat l).map fun r=>(r.length:Int)
def A9i(N:NetD)(l:List EndD):List Int:=(rowsOf EndD.state EndD.cost N.states.toNat l).map leastOf
theorem A1a{i n:Nat}(h:i<n)(hn:n≤4611686018427387904):IntKind.wrap .i64 ((i:Int)+1)=((i+1:Nat):Int):=by
 rw[wrap64 (by omega) (by omega)];rfl
def natC(n:Nat):List Value:=[.int .i64 (n:Int)]
def A0z(b:Bool):List Value:=[.bool b]
def rEdge(e:ByteArray×Nat):List Value:=[.string e.1,.int .i64 (e.2:Int)]
def rCells(E:List (List (ByteArray×Nat))):List (List (List Value)):=E.map fun r=>r.map rEdge
structure RG(H:AH)(v:Value)(n:Nat)(E:List (List (ByteArray×Nat)))(ends:List Bool)(ev bv:Value)(vals:List Value):Prop where
 eq:v=.agg #[.int .i64 0,ev,bv]
 ed:JagR H ev 2 (rCells E) vals
 en:Sl H bv 1 (ends.map A0z)
 le:E.length=n
 ln:ends.length=n
 n1:1≤n
 n2:n≤100000
 to:∀(s:Nat) r,E[s]?=some r→r.length≤60000∧∀e∈r,e.2<n
theorem RG.kept{H H':AH}{v:Value}{n:Nat}{E:List (List (ByteArray×Nat))}{ends:List Bool}{ev bv:Value}{vals:List Value}(h:RG H v n E ends ev bv vals)(hw:Wf H)(hk:Kept H H'):RG H' v n E ends ev bv vals:=
 { h with ed:=h.ed.grow (hk.grow hw),en:=h.en.grow (hk.grow hw) }
structure RBox(H:AH)(g n:Nat)(E:List (List (ByteArray×Nat)))(ends:List Bool)(ev bv:Value)(vals:List Value):Prop where
 c0:H.cell ⟨g,0,some 0⟩=some (.int .i64 0)
 c1:H.cell ⟨g,1,some 0⟩=some ev
 c2:H.cell ⟨g,2,some 0⟩=some bv
 ca:H.cells ⟨g,0,some 0⟩ 3=some [.int .i64 0,ev,bv]
 rg:RG H (.agg #[.int .i64 0,ev,bv]) n E ends ev bv vals
theorem RBox.kept{H H':AH}{g n:Nat}{E:List (List (ByteArray×Nat))}{ends:List Bool}{ev bv:Value}{vals:List Value}(h:RBox H g n E ends ev bv vals)(hw:Wf H)(hk:Kept H H'):RBox H' g n E ends ev bv vals:=
 ⟨A2b (hk.grow hw) h.c0,A2b (hk.grow hw) h.c1,A2b (hk.grow hw) h.c2,A8l (hk.grow hw) h.ca,h.rg.kept hw hk⟩
theorem RBox.of{H:AH}{v:Value}{n:Nat}{E:List (List (ByteArray×Nat))}{ends:List Bool}{ev bv:Value}{vals:List Value}(h:RG H v n E ends ev bv vals)(hw:Wf H):RBox (H.new 3 [.int .i64 0,ev,bv]).2 H.next n E ends ev bv vals:=by
 have ho:=(Obj.new (H:=H) 3 [.int .i64 0,ev,bv]).arr;have hk:=Kept.new hw 3 [.int .i64 0,ev,bv];have h':=h.kept hw hk;rw[h.eq]at h';exact⟨ho.cell 0,ho.cell 1,ho.cell 2,ho.cells (i:=0) (n:=3) (by simp),h'⟩
theorem JagR.at{P:Program}{t e s i:Nat}{H:AH}{v:Value}{rows:List (List (List Value))}{vals:List Value}{r:List (List Value)}(hu:P.underlying t=some (.slice e))(hs:A5b P e=some 1)(h:JagR H v s rows vals)(hr:rows[i]?=some r):
  ∃g o k w,A4b P t v (.int .i64 (i:Int))=some (.pointer (some ⟨g,o,some k⟩))∧H.cell ⟨g,o,some k⟩=some w∧Sl H w s r:=by
 have hil:=(List.getElem?_eq_some_iff.1 hr).1;have hv:vals[i]?=some (vals[i]'(by rw[h.len];exact hil)):=List.getElem?_eq_getElem _;obtain⟨g,o,k,hia,hcs,hcc⟩:=h.sl.at hu hs (i:=i) (x:=[vals[i]'(by rw[h.len];exact hil)]) (by simp[hv]) .i64;have:=hcc 0 _ rfl;exact⟨g,o,k,_,hia,by simpa using this,h.row i _ _ hv hr⟩
end Go.Proofs.Sh
