/- A part of the proof: ShMaps. -/
import Derived.Test.YtjjgodccecehlaaGreatMClose2RelChained3
set_option linter.unusedVariables false
set_option linter.unusedSimpArgs false
/- Maps in memory;stacks;the program's graph that is read. -/
set_option linter.unusedSectionVars false
namespace Go.Proofs.Sh
open Go
section
variable {α:Type} [DecidableEq α] {P:Program} {H:AH}
structure MapIs(H:AH)(g:Nat)(f:α→Value)(l:List (α×Value)):Prop where
 ob:H.objs.get g=some (.map (l.map fun p=>(f p.1,p.2)))
theorem MapIs.keep{H':AH}{g:Nat}{f:α→Value}{l:List (α×Value)}(h:MapIs H g f l)(hg:H'.objs.get g=H.objs.get g):MapIs H' g f l:=⟨by rw[hg];exact h.ob⟩
theorem MapIs.lt{g:Nat}{f:α→Value}{l:List (α×Value)}(h:MapIs H g f l)(hw:Wf H):g<H.next:=hw _ _ h.ob
theorem B8h{kt:Nat}{f:α→Value}(heq:∀a b,eqT P A1g kt (f a) (f b)=some (decide (a=b)))(a:α):∀(l:List (α×Value)) (i:Nat),
    B6w P kt (f a) (l.map fun p => (f p.1, p.2)) i = some ((l.findIdx? fun p => decide (a = p.1)).map (· + i))
  | [],_=>rfl
  | p :: l,i=>by
    simp only[List.map_cons,B6w,heq,List.findIdx?_cons];by_cases h:a=p.1
    · simp[h]
    · simp only[decide_eq_false h,Bool.false_eq_true,if_false]
      rw[B8h heq a l (i+1)];cases l.findIdx? fun p=>decide (a=p.1) with
      | none=>rfl
      | some k=>simp;omega
def A7q(l:List (α×Value))(a:α):Option Value:=(l.find? fun p=>decide (a=p.1)).map (·.2)
theorem MapIs.look{t kt e g:Nat}{z:Value}{f:α→Value}{l:List (α×Value)}{ok:Bool}(hu:P.underlying t=some (.map kt e))(hz:zeroAt P e=some z)(hk:∀a,A9l P kt (f a)=true)(heq:∀a b,eqT P A1g kt (f a) (f b)=some (decide (a=b)))
    (h:MapIs H g f l) (a:α):A4r P t (.map (some g)) (f a) ok H=some (bif ok then .tuple #[(A7q l a).getD z,.bool (A7q l a).isSome] else (A7q l a).getD z):=by
  unfold A4r;simp only[hu,entries,h.ob,Option.bind_some,hk a,cond_true,B8h heq a l 0];have : (l.findIdx? fun p => decide (a = p.1)).map (· + 0) = l.findIdx? fun p => decide (a = p.1) := by cases l.findIdx? fun p => decide (a = p.1)<;>rfl
  rw[this];have key:found P e (l.map fun p=>(f p.1,p.2)) (l.findIdx? fun p=>decide (a=p.1))=some ((A7q l a).getD z,(A7q l a).isSome):=by
    cases hi:l.findIdx? fun p=>decide (a=p.1) with
    | none=>
      rw[List.findIdx?_eq_none_iff]at hi;have:l.find? (fun p=>decide (a=p.1))=none:=List.find?_eq_none.2 fun p hp=>by simpa using hi p hp
      simp[found,A7q,this,hz]
    | some i=>
      obtain⟨h1,h2,h3⟩:=List.findIdx?_eq_some_iff_getElem.1 hi;have:l.find? (fun p=>decide (a=p.1))=some l[i]:=by
        rw[List.find?_eq_some_iff_getElem];exact⟨h2,i,h1,rfl,fun j hj=>by simpa using h3 j hj⟩
      simp[found,A7q,this,h1]
  rw[key];cases ok<;>rfl
theorem MapIs.add{t kt e g:Nat}{f:α→Value}{l:List (α×Value)}(hu:P.underlying t=some (.map kt e))(hk:∀a,A9l P kt (f a)=true)(heq:∀a b,eqT P A1g kt (f a) (f b)=some (decide (a=b)))
  (h:MapIs H g f l) (hw:Wf H) {a:α} (ha:A7q l a=none) (v:Value):∃H',A3g P t (.map (some g)) (f a) v H=some H'∧MapIs H' g f (l++[(a,v)])∧Chg (fun y=>y=g) H H'∧H'.next=H.next:=by
 have hi:l.findIdx? (fun p=>decide (a=p.1))=none:=by
  rw[List.findIdx?_eq_none_iff];intro p hp;unfold A7q at ha;rw[Option.map_eq_none_iff,List.find?_eq_none]at ha
  simpa using ha p hp
 refine⟨H.put g (.map ((l++[(a,v)]).map fun(p:α×Value)=>(f p.1,p.2))),?_,⟨Tr.get_set_eq _ _ _⟩,Chg.put (X:=fun y=>y=g) hw (h.lt hw) rfl _,rfl⟩;unfold A3g;simp only[hu,h.ob,hk a,cond_true,B8h heq a l 0,hi,Option.map_none,Option.bind_some,List.map_append,List.map_cons,List.map_nil]
end
theorem Kept.push{H:AH}(hw:Wf H)(o:AObj):Kept H (H.push o).2:=(Chg.push (X:=none') hw o).kept fun _ _ h=>h
theorem MapIs.new{α:Type}{H:AH}{f:α→Value}:MapIs (H.push (.map [])).2 H.next f ([]:List (α×Value)):=⟨A1q H _⟩
theorem Buf.pop{H:AH}{s:Nat}{v:Value}{l:List (List Value)}{x:List Value}{b:Option Nat}(h:Buf H s v (l++[x]) b):
  ∃v',(∀{P:Program} {t e:Nat} {H':AH},P.underlying t=some (.slice e)→A5b P e=some s→A7s P t H' v none (some (.int .i64 (l.length:Int))) none=some v')∧Buf H s v' l b:=by
 generalize hm:l++[x]=m at h;cases h with
 | void a=>simp at hm
 | own g k cap l2 vals ha h0 h1 h2 h3 h4=>
  subst hm;refine⟨.slice (some ⟨g,0,some k⟩) l.length cap,fun{P t e H'} hu hs=>?_,?_⟩
  ·rw[List.length_append,List.length_singleton]at h2
   show A7s P t H' _ none (some (.int .i64 (.ofNat l.length))) none=_;unfold A7s;simp only[hu,hs,bound,Option.bind_some];have e1:Nat.ble 0 l.length=true:=by simp
   have e2:Nat.ble l.length (A5p cap)=true:=Nat.ble_eq_true_of_le (by omega);have e3:Nat.beq 0 0=true:=rfl;simp only[e1,e2,e3,Bool.or_true,Bool.true_or,Bool.and_self,cond_true,Nat.sub_zero]
  ·rw[List.length_append,List.length_singleton]at h2
   refine .own g k cap l vals ha h0 h1 (by omega) ?_ (fun y hy=>h4 y (List.mem_append_left _ hy));have hfl:(flat l).length=l.length*s:=flat_length fun y hy=>h4 y (List.mem_append_left _ hy);have hle:l.length*s≤(l++[x]).length*s:=Nat.mul_le_mul_right s (by simp);have:=congrArg (List.take (l.length*s)) h3;rw[List.take_take,Nat.min_eq_left hle,A8o]at this;rw[this,←hfl,List.take_left'];rfl
def A9a(e:Nat×Int×Int×Int):List Value:=[.int .i64 (e.1:Int),.int .i64 e.2.1,.int .i64 e.2.2.1,.int .i64 e.2.2.2]
def A8b(E:List (List (Nat×Int×Int×Int))):List (List (List Value)):=E.map fun r=>r.map A9a
def A1e(E:List (List (Nat×Int×Int×Int)))(p:Int→Prop)(s t:Nat):Prop:=∃r,E[s]?=some r∧∃e∈r,e.1=t∧p e.2.1
structure PG(H:AH)(g n rb:Nat)(E:List (List (Nat×Int×Int×Int)))(ends:List Int)(sv av ev cv:Value)(vals:List Value)(sigma:List ByteArray)(costs:List Int):Prop where
 gr:GrR H g sv av ev cv vals sigma (A8b E) ends costs
 le:E.length=n
 ln:ends.length=n
 n1:1≤n
 n2:n≤100000
 to:∀(s:Nat) r,E[s]?=some r→r.length≤rb∧∀e∈r,e.1<n
theorem PG.kept{H H':AH}{g n rb:Nat}{E:List (List (Nat×Int×Int×Int))}{ends:List Int}{sv av ev cv:Value}{vals:List Value}{sigma:List ByteArray}{costs:List Int}(h:PG H g n rb E ends sv av ev cv vals sigma costs)(hw:Wf H)(hk:Kept H H'):PG H' g n rb E ends sv av ev cv vals sigma costs:=
 { h with gr:=h.gr.kept hw hk }
theorem C3v{E:List (List (Nat×Int×Int×Int))}{t s:Nat}{r:List (Nat×Int×Int×Int)}{x:Int×Int×Int}(hr:E[t]?=some r)(p:Int→Prop)(a b:Nat):
  A1e (E.set t (r++[(s,x)])) p a b↔A1e E p a b∨a=t∧p x.1∧b=s:=by
 have ht:=(List.getElem?_eq_some_iff.1 hr).1;unfold A1e;rw[List.getElem?_set];by_cases h:t=a
 ·subst h
  rw[if_pos rfl,if_pos ht,hr];constructor
  ·rintro⟨r',h1,e,h2,h3,h4⟩
   rw[←Option.some.inj h1]at h2;rcases List.mem_append.1 h2 with h2|h2
   ·exact .inl ⟨r,rfl,e,h2,h3,h4⟩
   ·rw[List.mem_singleton]at h2
    subst h2;exact .inr ⟨rfl,h4,h3.symm⟩
  ·rintro(⟨r',h1,e,h2,h3,h4⟩|⟨_,h1,h2⟩)
   ·rw[←Option.some.inj h1]at h2
    exact⟨_,rfl,e,List.mem_append_left _ h2,h3,h4⟩
   ·exact⟨_,rfl,(s,x),List.mem_append_right _ List.mem_cons_self,h2.symm,h1⟩
 ·rw[if_neg h]
  constructor
  ·exact .inl
  ·rintro(h1|⟨h1,_⟩)
   ·exact h1
   ·exact absurd h1.symm h
theorem MB.put{P:Program}{H:AH}{base n:Nat}{sv:Value}{os:Option Nat}{seen:List Bool}{out:List Nat}{tb eb:Nat}(hu:P.underlying tb=some (.slice eb))(hs:A5b P eb=some 1)(h:MB H base n sv os seen out)(hw:Wf H){t:Nat}(ht:t<n):
  ∃p H' seen' out',A4b P tb sv (.int .i64 (t:Int))=some (.pointer (some p))∧H.write p [.bool true]=some H'∧MB H' base n sv os seen' out'∧Chg (fun y=>os=some y) H H'∧∀x,x∈out'↔x∈out∨x=t:=by
 by_cases hin:t∈out
 ·obtain⟨p,H',e1,e2,e3,e4,e5⟩:=h.bf.set (P:=P) hw (i:=t) (x:=A0z true) (by simp[h.ms.len,ht]) rfl
  have hst:(h.ms.iff t).2 hin=(h.ms.iff t).2 hin:=rfl;have hsame:seen.set t true=seen:=by
   have hb:=(h.ms.iff t).2 hin;refine List.ext_getElem? fun i=>?_;rw[List.getElem?_set];by_cases hi:t=i
   ·subst hi;rw[if_pos rfl,if_pos (by rw[h.ms.len];exact ht),hb]
   ·rw[if_neg hi]
  have e3':(List.map A0z seen).set t (A0z true)=seen.map A0z:=by rw[←List.map_set,hsame]
  rw[e3']at e3;exact⟨p,H',seen,out,e1 hu hs,e2,⟨h.ms,e3,h.fr⟩,e4,fun x=>⟨.inl,fun hx=>hx.elim id fun e=>e ▸ hin⟩⟩
 ·obtain⟨p,H',e1,e2,e3,e4,e5,e6⟩:=h.set hu hs hw ht hin
  exact⟨p,H',_,_,e1,e3,e4,e5,fun x=>by rw[List.mem_append,List.mem_singleton]⟩
end Go.Proofs.Sh
