/- A part of the proof: ShMarks, ShMaps, ShKeys, ShMade, ShRev, ShBits, ShPairs, ShQueue. -/
import Derived.Test.YtnoengaghabmjaaGreatDoorMClose3RelComposes1
set_option linter.unusedVariables false
set_option linter.unusedSimpArgs false
/- Marks of states and lists of states in memory, while they are made. -/
set_option linter.unusedVariables false
set_option linter.unusedSimpArgs false
namespace Go.Proofs.Sh
open Go
structure MB (H:AH) (base n:Nat) (sv:Value) (os:Option Nat) (seen:List Bool) (out:List Nat):Prop where
 ms:Marks n seen out
 bf:Buf H 1 sv (seen.map A98) os
 fr:∀ y,os=some y→base≤y
structure LB (H:AH) (base:Nat) (os:Option Nat) (z:Value) (l:List Nat) (ob:Option Nat):Prop where
 bf:Buf H 1 z (l.map natC) ob
 fr:∀ y,ob=some y→base≤y∧os≠some y
theorem MB.kept {H H':AH} {base n:Nat} {sv:Value} {os:Option Nat} {seen:List Bool} {out:List Nat} (h:MB H base n sv os seen out) (hw:Wf H) (hk:Kept H H'):MB H' base n sv os seen out:=⟨h.ms,h.bf.kept hw hk,h.fr⟩
theorem LB.kept {H H':AH} {base:Nat} {os:Option Nat} {z:Value} {l:List Nat} {ob:Option Nat} (h:LB H base os z l ob) (hw:Wf H) (hk:Kept H H'):LB H' base os z l ob:=⟨h.bf.kept hw hk,h.fr⟩
section
variable {P:Program} {H:AH} {base n:Nat} {sv z:Value} {os ob:Option Nat} {seen:List Bool} {out l:List Nat}
theorem Sl.elem {t e s:Nat} {v:Value} {m:List (List Value)} {u:Value} (hu:P.underlying t=some (.slice e)) (hs:A9b P e=some 1) (h:Sl H v 1 m) {i:Nat} (hx:m[i]?=some [u]):
  ∃ p,A8d P t v (.int .i64 (i:Int))=some (.pointer (some p))∧H.cell p=some u:=by
 obtain ⟨g,o,k,h1,h2,h3⟩:=h.at hu hs hx .i64
 exact ⟨_,h1,by simpa using h3 0 _ rfl⟩
theorem MB.see {tb eb:Nat} (hu:P.underlying tb=some (.slice eb)) (hs:A9b P eb=some 1) (h:MB H base n sv os seen out) {t:Nat} (ht:t < n):
  ∃ p,A8d P tb sv (.int .i64 (t:Int))=some (.pointer (some p))∧H.cell p=some (.bool (decide (t∈out))):=by
 obtain ⟨b,h1,h2⟩:=h.ms.not ht
 have:b=decide (t∈out):=by
  cases b with
  | true=>exact (decide_eq_true (h2.1 rfl)).symm
  | false=>exact (decide_eq_false fun h=>by cases h2.2 h).symm
 subst this
 exact Sl.elem (s:=1) hu hs h.bf.toSl (by rw [List.getElem?_map,h1]; rfl)
theorem MB.set {tb eb:Nat} (hu:P.underlying tb=some (.slice eb)) (hs:A9b P eb=some 1) (h:MB H base n sv os seen out) (hw:Wf H) {t:Nat} (ht:t < n) (hn:t∉out):
  ∃ p H',A8d P tb sv (.int .i64 (t:Int))=some (.pointer (some p))∧H.cell p=some (.bool false)∧H.write p [.bool true]=some H'∧MB H' base n sv os (seen.set t true) (out++[t])∧Chg (fun y=>os=some y) H H'∧H'.next=H.next:=by
 obtain ⟨p,H',e1,e2,e3,e4,e5⟩:=h.bf.set (P:=P) hw (i:=t) (x:=A98 true) (by simp [h.ms.len,ht]) rfl
 obtain ⟨q,k1,k2⟩:=h.see hu hs ht
 have e1':=e1 hu hs (j:=.i64)
 rw [k1] at e1'
 injection e1' with e; injection e with e; injection e with e
 subst e
 rw [decide_eq_false hn] at k2
 exact ⟨q,H',k1,k2,e2,⟨h.ms.add ht hn,by rw [List.map_set]; exact e3,h.fr⟩,e4,e5⟩
theorem LB.chg {X:Nat→Prop} {H':AH} (h:LB H base os z l ob) (hw:Wf H) (hc:Chg X H H') (hx:∀ y,X y→os=some y):LB H' base os z l ob:=
 ⟨h.bf.chg hw hc fun y hy hX=>(h.fr y hy).2 (hx y hX),h.fr⟩
theorem LB.push (h:LB H base os z l ob) (hb:base≤H.next) (ho:∀ y,os=some y→y < H.next) (hw:Wf H) (t:Nat):
  ∃ a cap w' H' ob',z=.slice a l.length cap∧A6e 1 a l.length cap 1 (natC t) (H.new 1 (natC t)).2=some (w',H')∧LB H' base os w' (l++[t]) ob'∧Chg (fun y=>ob=some y) H H'∧isCell w'=true:=by
 obtain ⟨a,cap,w',H',ob',e1,e2,e3,e4,e5⟩:=h.bf.push hw (x:=natC t) rfl
 rw [List.length_map] at e1 e2
 refine ⟨a,cap,w',H',ob',e1,e2,⟨by rw [List.map_append]; exact e3,fun y hy=>?_⟩,e4,e3.isCell⟩
 rcases e5 y hy with h1 | h1
 ·exact h.fr y h1
 ·exact ⟨by omega,fun h2=>by have:=ho y h2; omega⟩
theorem MB.chg {X:Nat→Prop} {H':AH} (h:MB H base n sv os seen out) (hw:Wf H) (hc:Chg X H H') (hx:∀ y,X y→os≠some y):MB H' base n sv os seen out:=
 ⟨h.ms,h.bf.chg hw hc fun y hy hX=>hx y hX hy,h.fr⟩
theorem MB.lt (h:MB H base n sv os seen out) (hw:Wf H):∀ y,os=some y→y < H.next:=h.bf.lt hw
end
def SetOut (H H':AH) (r:Value) (n:Nat) (Q:Nat→Prop):Prop:=
 Kept H H'∧∃ out:List Nat,∃ b,Buf H' 1 r (out.map natC) b∧(∀ y,b=some y→H.next≤y)∧out.Nodup∧(∀ t∈out,t < n)∧∀ t,t∈out↔Q t
theorem SetOut.iff {H H':AH} {r:Value} {n:Nat} {Q Q':Nat→Prop} (h:SetOut H H' r n Q) (hq:∀ t,Q t↔Q' t):SetOut H H' r n Q':=by
 obtain ⟨h1,out,b,h2,h3,h4,h5,h6⟩:=h
 exact ⟨h1,out,b,h2,h3,h4,h5,fun t=>(h6 t).trans (hq t)⟩
theorem RunS.append {L:Type} {E:Nat→Nat→Prop} {A:L→Nat→Nat→Prop}:∀ {u w:List L} {S:Nat→Prop},RunS E A S (u++w)=RunS E A (RunS E A S u) w
 | [],w,S=>rfl
 | x :: u,w,S=>by simp only [List.cons_append,RunS]; exact RunS.append
theorem Same.sub {W W2:List Nat} {F F':Fr} (h:Same W2 F F') (hs:W2.all (fun t=>W.contains t)=true):Same W F F':=by
 intro t ht
 refine h t ?_
 cases h2:W2.contains t with
 | false=>rfl
 | true=>
  have:=List.all_eq_true.1 hs t (by simpa using h2)
  rw [this] at ht; cases ht
end Go.Proofs.Sh
/- Maps in memory; stacks; the program's graph that is read. -/
set_option linter.unusedSectionVars false
namespace Go.Proofs.Sh
open Go
section
variable {α:Type} [DecidableEq α] {P:Program} {H:AH}
structure MapIs (H:AH) (g:Nat) (f:α→Value) (l:List (α×Value)):Prop where
 ob:H.objs.get g=some (.map (l.map fun p=>(f p.1,p.2)))
theorem MapIs.keep {H':AH} {g:Nat} {f:α→Value} {l:List (α×Value)} (h:MapIs H g f l) (hg:H'.objs.get g=H.objs.get g):MapIs H' g f l:=⟨by rw [hg]; exact h.ob⟩
theorem MapIs.lt {g:Nat} {f:α→Value} {l:List (α×Value)} (h:MapIs H g f l) (hw:Wf H):g < H.next:=hw _ _ h.ob
theorem B4b {kt:Nat} {f:α→Value} (heq:∀ a b,eqT P A4f kt (f a) (f b)=some (decide (a=b))) (a:α):∀ (l:List (α×Value)) (i:Nat),
    B6p P kt (f a) (l.map fun p => (f p.1, p.2)) i = some ((l.findIdx? fun p => decide (a = p.1)).map (· + i))
  | [],_=>rfl
  | p :: l,i=>by
    simp only [List.map_cons,B6p,heq,List.findIdx?_cons]
    by_cases h:a=p.1
    · simp [h]
    · simp only [decide_eq_false h,Bool.false_eq_true,if_false]
      rw [B4b heq a l (i+1)]
      cases l.findIdx? fun p=>decide (a=p.1) with
      | none=>rfl
      | some k=>simp; omega
def A6q (l:List (α×Value)) (a:α):Option Value:=(l.find? fun p=>decide (a=p.1)).map (·.2)
theorem MapIs.look {t kt e g:Nat} {z:Value} {f:α→Value} {l:List (α×Value)} {ok:Bool} (hu:P.underlying t=some (.map kt e)) (hz:zeroAt P e=some z) (hk:∀ a,A4j P kt (f a)=true) (heq:∀ a b,eqT P A4f kt (f a) (f b)=some (decide (a=b)))
    (h:MapIs H g f l) (a:α):A6n P t (.map (some g)) (f a) ok H=some (bif ok then .tuple #[(A6q l a).getD z,.bool (A6q l a).isSome] else (A6q l a).getD z):=by
  unfold A6n
  simp only [hu,entries,h.ob,Option.bind_some,hk a,cond_true,B4b heq a l 0,Option.map_id']
  have : (l.findIdx? fun p => decide (a = p.1)).map (· + 0) = l.findIdx? fun p => decide (a = p.1) := by cases l.findIdx? fun p => decide (a = p.1) <;> rfl
  rw [this]
  have key:found P e (l.map fun p=>(f p.1,p.2)) (l.findIdx? fun p=>decide (a=p.1))=some ((A6q l a).getD z,(A6q l a).isSome):=by
    cases hi:l.findIdx? fun p=>decide (a=p.1) with
    | none=>
      rw [List.findIdx?_eq_none_iff] at hi
      have:l.find? (fun p=>decide (a=p.1))=none:=List.find?_eq_none.2 fun p hp=>by simpa using hi p hp
      simp [found,A6q,this,hz]
    | some i=>
      obtain ⟨h1,h2,h3⟩:=List.findIdx?_eq_some_iff_getElem.1 hi
      have:l.find? (fun p=>decide (a=p.1))=some l[i]:=by
        rw [List.find?_eq_some_iff_getElem]
        exact ⟨h2,i,h1,rfl,fun j hj=>by simpa using h3 j hj⟩
      simp [found,A6q,this,h1]
  rw [key]
  cases ok <;> rfl
theorem MapIs.add {t kt e g:Nat} {f:α→Value} {l:List (α×Value)} (hu:P.underlying t=some (.map kt e)) (hk:∀ a,A4j P kt (f a)=true) (heq:∀ a b,eqT P A4f kt (f a) (f b)=some (decide (a=b)))
  (h:MapIs H g f l) (hw:Wf H) {a:α} (ha:A6q l a=none) (v:Value):∃ H',A3e P t (.map (some g)) (f a) v H=some H'∧MapIs H' g f (l++[(a,v)])∧Chg (fun y=>y=g) H H'∧H'.next=H.next:=by
 have hi:l.findIdx? (fun p=>decide (a=p.1))=none:=by
  rw [List.findIdx?_eq_none_iff]
  intro p hp
  unfold A6q at ha
  rw [Option.map_eq_none_iff,List.find?_eq_none] at ha
  simpa using ha p hp
 refine ⟨H.put g (.map ((l++[(a,v)]).map fun (p:α×Value)=>(f p.1,p.2))),?_,⟨Tr.get_set_eq _ _ _⟩,Chg.put (X:=fun y=>y=g) hw (h.lt hw) rfl _,rfl⟩
 unfold A3e
 simp only [hu,h.ob,hk a,cond_true,B4b heq a l 0,hi,Option.map_none,Option.bind_some,List.map_append,List.map_cons,List.map_nil]
end
theorem Kept.push {H:AH} (hw:Wf H) (o:AObj):Kept H (H.push o).2:=(Chg.push (X:=none') hw o).kept fun _ _ h=>h
theorem MapIs.new {α:Type} {H:AH} {f:α→Value}:MapIs (H.push (.map [])).2 H.next f ([]:List (α×Value)):=⟨A1q H _⟩
def A3h (e:Nat×Int×Int×Int):List Value:=[.int .i64 (e.1:Int),.int .i64 e.2.1,.int .i64 e.2.2.1,.int .i64 e.2.2.2]
def A5l (E:List (List (Nat×Int×Int×Int))):List (List (List Value)):=E.map fun r=>r.map A3h
structure PG (H:AH) (g n rb:Nat) (E:List (List (Nat×Int×Int×Int))) (ends:List Int) (sv av ev cv:Value) (vals:List Value) (sigma:List ByteArray) (costs:List Int):Prop where
 gr:GrR H g sv av ev cv vals sigma (A5l E) ends costs
 le:E.length=n
 ln:ends.length=n
 n1:1≤n
 n2:n≤3000
 to:∀ (s:Nat) r,E[s]?=some r→r.length≤rb∧∀ e∈r,e.1 < n
theorem PG.kept {H H':AH} {g n rb:Nat} {E:List (List (Nat×Int×Int×Int))} {ends:List Int} {sv av ev cv:Value} {vals:List Value} {sigma:List ByteArray} {costs:List Int} (h:PG H g n rb E ends sv av ev cv vals sigma costs) (hw:Wf H) (hk:Kept H H'):PG H' g n rb E ends sv av ev cv vals sigma costs:=
 { h with gr:=h.gr.kept hw hk }
theorem MB.put {P:Program} {H:AH} {base n:Nat} {sv:Value} {os:Option Nat} {seen:List Bool} {out:List Nat} {tb eb:Nat} (hu:P.underlying tb=some (.slice eb)) (hs:A9b P eb=some 1) (h:MB H base n sv os seen out) (hw:Wf H) {t:Nat} (ht:t < n):
  ∃ p H' seen' out',A8d P tb sv (.int .i64 (t:Int))=some (.pointer (some p))∧H.write p [.bool true]=some H'∧MB H' base n sv os seen' out'∧Chg (fun y=>os=some y) H H'∧∀ x,x∈out'↔x∈out∨x=t:=by
 by_cases hin:t∈out
 ·obtain ⟨p,H',e1,e2,e3,e4,e5⟩:=h.bf.set (P:=P) hw (i:=t) (x:=A98 true) (by simp [h.ms.len,ht]) rfl
  have hst:(h.ms.iff t).2 hin=(h.ms.iff t).2 hin:=rfl
  have hsame:seen.set t true=seen:=by
   have hb:=(h.ms.iff t).2 hin
   refine List.ext_getElem? fun i=>?_
   rw [List.getElem?_set]
   by_cases hi:t=i
   ·subst hi; rw [if_pos rfl,if_pos (by rw [h.ms.len]; exact ht),hb]
   ·rw [if_neg hi]
  have e3':(List.map A98 seen).set t (A98 true)=seen.map A98:=by rw [← List.map_set,hsame]
  rw [e3'] at e3
  exact ⟨p,H',seen,out,e1 hu hs,e2,⟨h.ms,e3,h.fr⟩,e4,fun x=>⟨.inl,fun hx=>hx.elim id fun e=>e ▸ hin⟩⟩
 ·obtain ⟨p,H',e1,e2,e3,e4,e5,e6⟩:=h.set hu hs hw ht hin
  exact ⟨p,H',_,_,e1,e3,e4,e5,fun x=>by rw [List.mem_append,List.mem_singleton]⟩
end Go.Proofs.Sh
/- Maps that have true for some keys. -/
namespace Go.Proofs.Sh
open Go
theorem B8l {α:Type} [DecidableEq α] (v:Value) (D:List α) (t:α):A6q (D.map fun t=>(t,v)) t=if t∈D then some v else none:=by
 unfold A6q
 by_cases h:t∈D
 ·rw [if_pos h]
  cases hf:(D.map fun t=>(t,v)).find? fun p=>decide (t=p.1) with
  | none=>
   rw [List.find?_eq_none] at hf
   have:=hf (t,v) (List.mem_map.2 ⟨t,h,rfl⟩)
   simp at this
  | some p=>
   have:=List.mem_of_find?_eq_some hf
   obtain ⟨u,_,rfl⟩:=List.mem_map.1 this
   rfl
 ·rw [if_neg h]
  have:(D.map fun t=>(t,v)).find? (fun p=>decide (t=p.1))=none:=by
   rw [List.find?_eq_none]
   rintro p hp
   obtain ⟨u,hu,rfl⟩:=List.mem_map.1 hp
   simp only [decide_eq_true_eq]
   rintro rfl
   exact h hu
  rw [this]; rfl
def SetIs {α:Type} (H:AH) (g:Nat) (f:α→Value) (D:List α):Prop:=MapIs H g f (D.map fun t=>(t,.bool true))
theorem SetIs.new {α:Type} {H:AH} {f:α→Value}:SetIs (H.push (.map [])).2 H.next f ([]:List α):=MapIs.new
section
variable {α:Type} [DecidableEq α] {P:Program} {H:AH} {t kt e g:Nat} {f:α→Value} {D:List α}
theorem SetIs.keep {H':AH} (h:SetIs H g f D) (hg:H'.objs.get g=H.objs.get g):SetIs H' g f D:=MapIs.keep h hg
theorem SetIs.lt (h:SetIs H g f D) (hw:Wf H):g < H.next:=MapIs.lt h hw
theorem SetIs.look (hu:P.underlying t=some (.map kt e)) (hz:zeroAt P e=some (.bool false)) (hk:∀ a,A4j P kt (f a)=true) (heq:∀ a b,eqT P A4f kt (f a) (f b)=some (decide (a=b)))
  (h:SetIs H g f D) (a:α):A6n P t (.map (some g)) (f a) false H=some (.bool (decide (a∈D))):=by
 have:=MapIs.look (ok:=false) hu hz hk heq h a
 rw [this,B8l]
 by_cases hd:a∈D <;> simp [hd]
theorem SetIs.add (hu:P.underlying t=some (.map kt e)) (hk:∀ a,A4j P kt (f a)=true) (heq:∀ a b,eqT P A4f kt (f a) (f b)=some (decide (a=b)))
  (h:SetIs H g f D) (hw:Wf H) {a:α} (ha:a∉D):∃ H',A3e P t (.map (some g)) (f a) (.bool true) H=some H'∧SetIs H' g f (D++[a])∧Chg (fun y=>y=g) H H'∧H'.next=H.next:=by
 obtain ⟨H',h1,h2,h3,h4⟩:=MapIs.add hu hk heq h hw (a:=a) (by rw [B8l,if_neg ha]) (.bool true)
 exact ⟨H',h1,by unfold SetIs; rw [List.map_append]; exact h2,h3,h4⟩
end
theorem C5a {a b c:Nat} {l:List (Nat×Nat×Nat)} (hn:l.Nodup) (h:∀ p∈l,p.1 < a∧p.2.1 < b∧p.2.2 < c):l.length≤a * b * c:=by
  have h1:(l.map fun p=>(p.1 * b+p.2.1) * c+p.2.2).Nodup:=by
    rw [List.nodup_iff_pairwise_ne] at hn ⊢
    rw [List.pairwise_map]
    refine hn.imp_of_mem fun {p q} hp hq hne he=>hne ?_
    obtain ⟨h1,h2,h3⟩:=h p hp
    obtain ⟨h4,h5,h6⟩:=h q hq
    have e3:p.2.2=q.2.2:=by
      have := congrArg (· % c) he
      simp only [Nat.mul_comm _ c,Nat.mul_add_mod] at this
      rwa [Nat.mod_eq_of_lt h3,Nat.mod_eq_of_lt h6] at this
    have e2:p.1 * b+p.2.1=q.1 * b+q.2.1:=by
      rw [e3] at he
      exact Nat.eq_of_mul_eq_mul_right (by omega) (Nat.add_right_cancel he)
    have e1:p.2.1=q.2.1:=by
      have := congrArg (· % b) e2
      simp only [Nat.mul_comm _ b,Nat.mul_add_mod] at this
      rwa [Nat.mod_eq_of_lt h2,Nat.mod_eq_of_lt h5] at this
    have e0:p.1=q.1:=by
      rw [e1] at e2
      exact Nat.eq_of_mul_eq_mul_right (by omega) (Nat.add_right_cancel e2)
    exact Prod.ext e0 (Prod.ext e1 e3)
  have h2:=B16 (n:=a * b * c) h1 fun x hx=>by
    obtain ⟨p,hp,rfl⟩:=List.mem_map.1 hx
    obtain ⟨h1,h2,h3⟩:=h p hp
    have e1:p.1 * b+p.2.1 < a * b:=by
      have:(p.1+1) * b≤a * b:=Nat.mul_le_mul_right b h1
      rw [Nat.succ_mul] at this
      omega
    have:(p.1 * b+p.2.1+1) * c≤a * b * c:=Nat.mul_le_mul_right c e1
    rw [Nat.succ_mul] at this
    show (p.1 * b+p.2.1) * c+p.2.2 < a * b * c
    omega
  rwa [List.length_map] at h2
end Go.Proofs.Sh
/- Open regions with effects in place, of which room that is made ahead of them is shown to be as it was. -/
namespace Go.Proofs.Sh
open Go
def B5c (ops:List Oper) (bs:List Nat):List Nat→List Nat→List Nat→List (Nat×List Nat×List Bool×List Bool)
 | [],_,_=>[]
 | i :: l,pb,mb=>match ops[i]? with
  | none=>[]
  | some o => bif isEff o then
        (i, pb.filter (fun k => !((bs[i]?).getD 0).testBit k), mb.map (fun k => !((bs[i]?).getD 0).testBit k), mb.map (fun k => o.guard.isSome || !((bs[i]?).getD 0).testBit k)) ::
          B5c ops bs l (bif o.guard.isSome then pb else pb.filter fun k => !((bs[i]?).getD 0).testBit k) (mb.filter fun k => o.guard.isSome || !((bs[i]?).getD 0).testBit k)
      else bif A2c o then (i, [], [], []) :: B5c ops bs l pb (i :: mb)
      else bif isRead o then (i, [], [], []) :: B5c ops bs l (i :: pb) mb else (i, [], [], []) :: B5c ops bs l pb mb
def orderM (ops:List Oper):List (Nat×List Nat×List Bool×List Bool):=B5c ops (A3k ops) (A02 ops (A3k ops)) [] []
def B9c {α:Type}:List Bool→List α→List α
 | true :: bs,p :: ps=>p :: B9c bs ps
 | false :: bs,p :: ps=>B9c bs ps
 | _,_=>[]
def C6o:List (AH→Prop)→AH→Prop
 | [],_=>True
 | p :: ps,H=>p H∧C6o ps H
def C0p (g:Nat) (H1 H2:AH):Prop:=∀ x,H1.objs.get g=some x→H2.objs.get g=some x∧A66 x x=true
def B3u (o:Oper) (kp:List Bool) (ms:List (AH→Prop)) (H H':AH):List (AH→Prop):=bif isEff o then B9c kp ms else bif A2c o then C0p H.next H' :: ms else ms
def wpm (P:Program) (O:A5d) (all:List Oper):List (Nat×List Nat×List Bool×List Bool)→List (AH→Prop)→(Fr→AH→Prop)→Fr→AH→Prop
 | [],_,K,F,H=>K F H
 | (i,fl,ml,kp) :: l,ms,K,F,H=>match all[i]? with
  | some o=>wpo P O all [o] (fun F' H'=>again P O all fl F' H'∧(isEff o=true→C6o (B9c ml ms) H')∧wpm P O all l (B3u o kp ms H H') K F' H') F H
  | none=>False
section
variable {P:Program}
theorem B8e {α:Type} (f:Nat→Bool):∀ (is:List Nat) (qs:List α),(is.filter f).zip (B9c (is.map f) qs)=(is.zip qs).filter fun z=>f z.1
 | [],_=>by simp
 | i :: is,[]=>by
  have:B9c ((i :: is).map f) ([]:List α)=[]:=by
   simp only [List.map_cons]
   cases f i <;> rfl
  rw [this]; simp
 | i :: is,q :: qs=>by
  have ih:=B8e f is qs
  cases hf:f i with
  | true=>simp [B9c,hf,ih]
  | false=>simp [B9c,hf,ih]
theorem B3t {H:AH}:∀ {qs:List (AH→Prop)},C6o qs H→∀ q∈qs,q H
 | q :: qs,h,r,hr=>by
  rcases List.mem_cons.1 hr with rfl | hr
  ·exact h.1
  ·exact B3t h.2 r hr
def LiveM (all:List Oper) (G:Fr) (l:List Nat) (pb mb:List Nat) (ms:List (AH→Prop)) (p:Pend):Prop:=match p with
 | .read i F v=>p.at_∈pb∧Live all G l p
 | .made i g x=>∃ z∈mb.zip ms,z.1=i∧∀ H,z.2 H→Val P all H p
theorem LiveM.put {all:List Oper} {G:Fr} {l:List Nat} {pb pb' mb:List Nat} {ms:List (AH→Prop)} {i:Nat} {o:Oper} {v:Value} (ho:all[i]?=some o) {p:Pend} (h:LiveM (P:=P) all G (i :: l) pb mb ms p) (hb:∀ k∈pb,k∈pb'):LiveM (P:=P) all (put G o.dst v) l pb' mb ms p:=by
 cases p with
 | read k F w=>exact ⟨hb _ h.1,h.2.put ho⟩
 | made k g x=>exact h
theorem LiveM.more {all:List Oper} {G:Fr} {l:List Nat} {pb mb:List Nat} {ms:List (AH→Prop)} {p:Pend} {i:Nat} {q:AH→Prop} (h:LiveM (P:=P) all G l pb mb ms p):LiveM (P:=P) all G l pb (i :: mb) (q :: ms) p:=by
 cases p with
 | read k F w=>exact h
 | made k g x=>
  obtain ⟨z,h1,h2⟩:=h
  exact ⟨z,List.mem_cons_of_mem _ h1,h2⟩
theorem LiveM.keep {all:List Oper} {G:Fr} {l:List Nat} {pb pb' mb:List Nat} {ms:List (AH→Prop)} {p:Pend} {f:Nat→Bool} (h:LiveM (P:=P) all G l pb mb ms p) (hp:p.at_∈pb→p.at_∈pb') (hf:f p.at_=true):LiveM (P:=P) all G l pb' (mb.filter f) (B9c (mb.map f) ms) p:=by
 cases p with
 | read k F w=>exact ⟨hp h.1,h.2⟩
 | made k g x=>
  obtain ⟨z,h1,h2,h3⟩:=h
  refine ⟨z,?_,h2,h3⟩
  rw [B8e]
  exact List.mem_filter.2 ⟨h1,by rw [h2]; exact hf⟩
theorem A8o {O:A5d} {all:List Oper} {bs:List Nat} {K:Fr→AH→Prop}:∀ (l pb mb:List Nat) (ms:List (AH→Prop)) (ps:List Pend) (F:Fr) (H:AH),(∀ p∈ps,LiveM (P:=P) all F l pb mb ms p)→wpm P O all (B5c all bs l pb mb) ms K F H→
  (∀ i∈l,i < all.length)→B52 all l=true→wpd P O all bs l ps K F H
 | [],pb,mb,ms,ps,F,H,_,h,_,_=>⟨0,F,H,rfl,h⟩
 | i :: l,pb,mb,ms,ps,F,H,hc,h,hl,hsep=>by
  have hi:=hl i List.mem_cons_self
  have hl':∀ i∈l,i < all.length:=fun j hj=>hl j (List.mem_cons_of_mem _ hj)
  have ho:all[i]?=some all[i]:=List.getElem?_eq_getElem hi
  generalize all[i]=o at ho
  simp only [B5c,ho] at h
  simp only [B52,ho,Bool.and_eq_true] at hsep
  obtain ⟨hsep0,hsep⟩:=hsep
  have go : ∀ (fl : List Nat) (ml kp : List Bool) (rest : List (Nat × List Nat × List Bool × List Bool)), wpm P O all ((i, fl, ml, kp) :: rest) ms K F H → ∃ b, A5m all F o = some b ∧
      (b = true → ∃ v H1, OpTo P O F H o v H1 ∧ again P O all fl (put F o.dst v) H1 ∧ (isEff o = true → C6o (B9c ml ms) H1) ∧ wpm P O all rest (B3u o kp ms H H1) K (put F o.dst v) H1) ∧
      (b = false → wpm P O all rest (B3u o kp ms H H) K (put F o.dst undef) H) := by
    intro fl ml kp rest hh
    simp only [wpm, ho] at hh
    rw [A0u] at hh
    obtain ⟨b, h1, h2, h3⟩ := hh
    refine ⟨b, h1, fun hb => ?_, fun hb => ?_⟩
    · obtain ⟨v, H1, h4, h5⟩ := h2 hb
      rw [A1v] at h5
      exact ⟨v, H1, h4, h5⟩
    · have := h3 hb
      rw [A1v] at this
      exact this.2.2
  have skip:∀ {F1:Fr} {H1:AH},A5m all F o=some false→F1=put F o.dst undef→H1=H→wpd P O all bs l ps K F1 H1→wpd P O all bs (i :: l) ps K F H:=by
   rintro F1 H1 hw rfl rfl ⟨n,F2,H2,h1,h2⟩
   refine ⟨n,F2,H2,?_,h2⟩
   simp only [A4e,ho,hw]
   exact h1
  have step:∀ (v:Value) (pb':List Nat),(∀ k∈pb,k∈pb')→∀ p∈ps,LiveM (P:=P) all (put F o.dst v) l pb' mb ms p:=fun v pb' hb p hp=>(hc p hp).put ho hb
  cases hE:isEff o with
  | true=>
   rw [hE] at h
   simp only [cond_true] at h
   obtain ⟨b,hw,ht,hf⟩:=go _ _ _ _ h
   simp only [B3u,hE,cond_true,forall_const] at ht hf
   cases b with
   | false=>
    have hg:o.guard.isSome=true:=by
     unfold A5m at hw
     cases hgd:o.guard with
     | none=>rw [hgd] at hw; cases hw
     | some x=>rfl
    have hf:=hf rfl
    rw [hg] at hf
    exact skip hw rfl rfl (A8o l _ _ _ ps _ _ (fun p hp=>(step undef pb (fun _ h=>h) p hp).keep (f:=fun k=>true || !((bs[i]?).getD 0).testBit k) (fun h=>h) rfl) hf hl' hsep)
   | true=>
    obtain ⟨v,H1,⟨n,hn⟩,hag,hh,hrest⟩:=ht rfl
    have hval:∀ p∈ps,((bs[i]?).getD 0).testBit p.at_=false→Val P all H1 p:=by
     intro p hp hb
     have q:=step v pb (fun _ h=>h) p hp
     cases p with
     | read k F0 w=>exact B2s hag _ q.2 (List.mem_filter.2 ⟨q.1,by rw [hb]; rfl⟩)
     | made k g x=>
      obtain ⟨z,hz,h1,h2⟩:=q
      have hz':z∈(mb.zip ms).filter fun z=>!((bs[i]?).getD 0).testBit z.1:=List.mem_filter.2 ⟨hz,by rw [h1]; simp only [Pend.at_] at hb; rw [hb]; rfl⟩
      rw [← B8e (fun k=>!((bs[i]?).getD 0).testBit k)] at hz'
      exact h2 H1 (B3t hh _ (List.of_mem_zip hz').2)
    obtain ⟨m,F2,H2,h1,h2⟩:=A8o l _ _ _ (ps.filter fun p=>!((bs[i]?).getD 0).testBit p.at_) _ _ (fun p hp=>by
     obtain ⟨k1,k2⟩:=List.mem_filter.1 hp
     refine (step v pb (fun _ h=>h) p k1).keep (fun hq=>?_) (by rw [k2]; exact Bool.or_true _)
     cases o.guard.isSome with
     | true=>exact hq
     | false=>exact List.mem_filter.2 ⟨hq,k2⟩) hrest hl' hsep
    refine ⟨n+m,F2,H2,?_,h2⟩
    simp only [A4e,ho,hw,A9i (A5c (Nat.le_add_right n m)) hn,hE,cond_true,A7u hval]
    exact A6d (A5c (Nat.le_add_left m n)) h1
  | false=>
   rw [hE] at h
   simp only [cond_false] at h
   cases hM:A2c o with
   | true=>
    rw [hM] at h
    simp only [cond_true] at h
    obtain ⟨b,hw,ht,hf⟩:=go _ _ _ _ h
    simp only [B3u,hE,hM,cond_true,cond_false,reduceCtorEq,false_implies,true_and] at ht hf
    cases b with
    | false=>exact skip hw rfl rfl (A8o l _ _ _ ps _ _ (fun p hp=>(step undef pb (fun _ h=>h) p hp).more) (hf rfl) hl' hsep)
    | true=>
     obtain ⟨v,H1,⟨n,hn⟩,_,hrest⟩:=ht rfl
     obtain ⟨x,hx⟩:=A7l hM hn
     have hxg:H1.objs.get H.next=some x:=by rw [hx]; exact A1q H x
     obtain ⟨m,F2,H2,h1,h2⟩:=A8o l _ _ _ (.made i H.next x :: ps) _ _ (fun p hp=>by
      rcases List.mem_cons.1 hp with rfl | hp
      ·exact ⟨_,List.mem_cons_self,rfl,fun H3 h3=>⟨x,h3 x hxg⟩⟩
      ·exact (step v pb (fun _ h=>h) p hp).more) hrest hl' hsep
     refine ⟨n+m,F2,H2,?_,h2⟩
     simp only [A4e,ho,hw,A9i (A5c (Nat.le_add_right n m)) hn,hE,cond_false,hM,cond_true,hxg]
     exact A6d (A5c (Nat.le_add_left m n)) h1
   | false=>
    rw [hM] at h
    simp only [cond_false] at h
    have hsame:∀ {v:Value} {H1:AH} {n:Nat},aop P (call P O n) F H o=some (v,H1)→H1=H:=fun hn=>(A1o (HGrow.refl H) hE hM hn).2
    cases hR:isRead o with
    | true=>
     rw [hR] at h hsep0
     simp only [cond_true] at h
     simp only [hE,Bool.not_false,Bool.and_self,cond_true,Bool.and_eq_true] at hsep0
     obtain ⟨b,hw,ht,hf⟩:=go _ _ _ _ h
     simp only [B3u,hE,hM,cond_false,reduceCtorEq,false_implies,true_and] at ht hf
     cases b with
     | false=>exact skip hw rfl rfl (A8o l _ _ _ ps _ _ (step _ _ fun k hk=>List.mem_cons_of_mem _ hk) (hf rfl) hl' hsep)
     | true=>
      obtain ⟨v,H1,⟨n,hn⟩,_,hrest⟩:=ht rfl
      have:=hsame hn
      subst this
      obtain ⟨t,hd⟩:=Option.isSome_iff_exists.1 hsep0.1
      have hw':A5m all (put F o.dst v) o=some true:=by
       unfold A5m at hw ⊢
       cases hg:o.guard with
       | none=>rfl
       | some q=>
        obtain ⟨j,w⟩:=q
        rw [hg] at hw
        simp only at hw ⊢
        cases hj:(all[j]?).bind (·.dst) with
        | none=>rw [hj] at hw; cases hw
        | some u=>
         rw [hj] at hw
         simp only [Option.bind_some] at hw ⊢
         have hself:=hsep0.2.1
         rw [hd] at hself ⊢
         rw [get_put fun d hdd e=>by
          injection hdd with hdd
          subst hdd e
          have:u∈A03 all o:=List.mem_append.2 (.inr (by simp [hg,B6s,hj]))
          simp [this] at hself]
         exact hw
      have hev:∀ x∈o.op.operands.toList,ev F x=ev (put F o.dst v) x:=by
       intro x hx
       refine (C3s fun d hdd hin=>?_).symm
       have hself:=hsep0.2.1
       rw [hdd] at hself
       have:d∈A03 all o:=List.mem_append.2 (.inl (List.mem_flatMap.2 ⟨x,hx,hin⟩))
       simp [this] at hself
      obtain ⟨m,F2,H2,h1,h2⟩:=A8o l (i :: pb) mb ms (.read i F v :: ps) _ _ (fun p hp=>by
       rcases List.mem_cons.1 hp with rfl | hp
       ·exact ⟨List.mem_cons_self,o,t,ho,hE,hd,by rw [hd,A3y],hw',hev,hsep0.2.2⟩
       ·exact step v _ (fun k hk=>List.mem_cons_of_mem _ hk) p hp) hrest hl' hsep
      refine ⟨n+m,F2,H2,?_,h2⟩
      simp only [A4e,ho,hw,A9i (A5c (Nat.le_add_right n m)) hn,hE,cond_false,hM,hR,cond_true]
      exact A6d (A5c (Nat.le_add_left m n)) h1
    | false=>
     rw [hR] at h
     simp only [cond_false] at h
     obtain ⟨b,hw,ht,hf⟩:=go _ _ _ _ h
     simp only [B3u,hE,hM,cond_false,reduceCtorEq,false_implies,true_and] at ht hf
     cases b with
     | false=>exact skip hw rfl rfl (A8o l _ _ _ ps _ _ (step _ _ fun k hk=>hk) (hf rfl) hl' hsep)
     | true=>
      obtain ⟨v,H1,⟨n,hn⟩,_,hrest⟩:=ht rfl
      have:=hsame hn
      subst this
      obtain ⟨m,F2,H2,h1,h2⟩:=A8o l pb mb ms ps _ _ (step v _ fun k hk=>hk) hrest hl' hsep
      refine ⟨n+m,F2,H2,?_,h2⟩
      simp only [A4e,ho,hw,A9i (A5c (Nat.le_add_right n m)) hn,hE,cond_false,hM,hR]
      exact A6d (A5c (Nat.le_add_left m n)) h1
end
variable {P:Program} {O:A5d} {S:List Item} {Q:Fr→AH→Prop} {F:Fr} {H:AH}
theorem wp_made {id:Nat} {ops:Array Oper} {fl:List (Nat×List Nat×List Bool×List Bool)} (hf:orderM ops.toList=fl) (hb:((A02 ops.toList (A3k ops.toList)).all fun i=>Nat.blt i ops.toList.length)=true) (hs:B52 ops.toList (A02 ops.toList (A3k ops.toList))=true) (h:wpm P O ops.toList fl [] (wp P O S Q) F H):wp P O (.code (.region id ops true) :: S) Q F H:=by
 rw [B32]
 subst hf
 refine A8o _ [] [] [] [] F H (fun p hp=>by cases hp) h (fun i hi=>?_) hs
 have:=List.all_eq_true.1 hb i hi
 rw [A9j] at this
 exact of_decide_eq_true this
end Go.Proofs.Sh
/- Paths, words read from their ends; a graph in memory that keeps to its own places. -/
namespace Go.Proofs.Sh
open Go
inductive Path (G:ByteArray→Nat→Nat→Prop):Nat→List ByteArray→Nat→Prop
 | nil (s:Nat):Path G s [] s
 | eps {s t u:Nat} {w:List ByteArray}:G A1m s t→Path G t w u→Path G s w u
 | sym {s t u:Nat} {w:List ByteArray} {x:ByteArray}:x≠A1m→G x s t→Path G t w u→Path G s (x :: w) u
section
variable {G:ByteArray→Nat→Nat→Prop}
theorem Path.append {s t v:Nat} {a b:List ByteArray} (h:Path G s a t) (k:Path G t b v):Path G s (a++b) v:=by
 induction h with
 | nil s=>exact k
 | eps h _ ih=>exact .eps h (ih k)
 | sym hx h _ ih=>exact .sym hx h (ih k)
theorem Path.ne {s t:Nat} {w:List ByteArray} (h:Path G s w t):∀ x∈w,x≠A1m:=by
 induction h with
 | nil s=>intro x hx; cases hx
 | eps _ _ ih=>exact ih
 | sym hx _ _ ih=>
  intro y hy
  rcases List.mem_cons.1 hy with rfl | hy
  ·exact hx
  ·exact ih y hy
end
def ownG (g:Nat) (os ot oe oc:Option Nat) (obs:List (Option Nat)) (y:Nat):Prop:=y=g∨os=some y∨JIn ot obs y∨oe=some y∨oc=some y
def GrX (H:AH) (X:Nat→Prop) (g:Nat) (sigma:List ByteArray) (rows:List (List (List Value))) (ends costs:List Int):Prop:=
 ∃ sv av ev cv os ot oe oc vals obs,GrB H 0 g sv av ev cv os ot oe oc vals obs sigma rows ends costs∧∀ y,ownG g os ot oe oc obs y→X y
section
variable {H H':AH} {X Z:Nat→Prop} {base g:Nat} {sigma:List ByteArray} {rows:List (List (List Value))} {ends costs:List Int}
theorem Gr.own (h:Gr H base g sigma rows ends costs) (hw:Wf H):GrX H (fun y=>base≤y∧y < H.next) g sigma rows ends costs:=by
 obtain ⟨sv,av,ev,cv,os,ot,oe,oc,vals,obs,h⟩:=h
 refine ⟨sv,av,ev,cv,os,ot,oe,oc,vals,obs,{ h with fg:=Nat.zero_le _,fs:=fun _ _=>Nat.zero_le _,fj:=fun _ _=>Nat.zero_le _,fe:=fun _ _=>Nat.zero_le _,fc:=fun _ _=>Nat.zero_le _ },?_⟩
 rintro y (rfl | hy | hy | hy | hy)
 ·exact ⟨h.fg,h.arr.lt hw⟩
 ·exact ⟨h.fs y hy,h.sg.lt hw y hy⟩
 ·exact ⟨h.fj y hy,h.jag.lt hw y hy⟩
 ·exact ⟨h.fe y hy,h.en.lt hw y hy⟩
 ·exact ⟨h.fc y hy,h.co.lt hw y hy⟩
theorem GrX.mono (h:GrX H X g sigma rows ends costs) (hx:∀ y,X y→Z y):GrX H Z g sigma rows ends costs:=by
 obtain ⟨sv,av,ev,cv,os,ot,oe,oc,vals,obs,h,ho⟩:=h
 exact ⟨sv,av,ev,cv,os,ot,oe,oc,vals,obs,h,fun y hy=>hx y (ho y hy)⟩
theorem GrX.chg (h:GrX H X g sigma rows ends costs) (hw:Wf H) (hc:Chg Z H H') (hx:∀ y,X y→¬Z y):GrX H' X g sigma rows ends costs:=by
 obtain ⟨sv,av,ev,cv,os,ot,oe,oc,vals,obs,h,ho⟩:=h
 refine ⟨sv,av,ev,cv,os,ot,oe,oc,vals,obs,{ h with arr:=h.arr.keep (hc.old g (h.arr.lt hw) (hx g (ho g (.inl rfl)))),sg:=h.sg.chg hw hc fun y hy=>hx y (ho y (.inr (.inl hy))),jag:=h.jag.chg hw hc fun y hy=>hx y (ho y (.inr (.inr (.inl hy)))),en:=h.en.chg hw hc fun y hy=>hx y (ho y (.inr (.inr (.inr (.inl hy))))),co:=h.co.chg hw hc fun y hy=>hx y (ho y (.inr (.inr (.inr (.inr hy))))) },ho⟩
theorem GrX.kept (h:GrX H X g sigma rows ends costs) (hw:Wf H) (hk:Kept H H'):GrX H' X g sigma rows ends costs:=h.chg hw (hk.chg (X:=none')) fun _ _ h=>h
theorem GrX.read (h:GrX H X g sigma rows ends costs):∃ sv av ev cv vals,GrR H g sv av ev cv vals sigma rows ends costs:=by
 obtain ⟨sv,av,ev,cv,os,ot,oe,oc,vals,obs,h,_⟩:=h
 exact ⟨sv,av,ev,cv,vals,h.arr,h.sg.toSl,h.jag.read,h.en.toSl,h.co.toSl⟩
end
theorem Jag.addRow {H:AH} {s:Nat} {v:Value} {ot:Option Nat} {vals:List Value} {rows:List (List (List Value))} {obs:List (Option Nat)} (h:Jag H v ot s vals rows obs) (hw:Wf H):
  ∃ a cap v' H' ot',v=.slice a rows.length cap∧A6e 1 a rows.length cap 1 [.slice none 0 0] H=some (v',H')∧Jag H' v' ot' s (vals++[.slice none 0 0]) (rows++[[]]) (obs++[none])∧Chg (fun y=>ot=some y) H H'∧isCell v'=true∧(∀ y,JIn ot' (obs++[none]) y→JIn ot obs y∨H.next≤y):=by
 have hl:(vals.map fun x=>[x]).length=rows.length:=by rw [List.length_map,h.len1]
 obtain ⟨a,cap,hv⟩:=h.top.shape
 rw [hl] at hv
 subst hv
 obtain ⟨v',H',ot',e1,e2,e3,e4⟩:=h.top.append hw (xs:=[[.slice none 0 0]]) (by simp)
 have hfl:flat [[Value.slice none 0 0]]=[.slice none 0 0]:=by simp [flat]
 rw [hfl] at e1
 have hin:∀ y,JIn ot' (obs++[none]) y→JIn ot obs y∨H.next≤y:=by
  rintro y (hy | ⟨i,hy⟩)
  ·rcases e4 with h4 | ⟨h4,_⟩
   ·exact .inl (.inl (by rw [← h4]; exact hy))
   ·rw [h4] at hy; exact .inr (by rw [← Option.some.inj hy]; exact Nat.le_refl _)
  ·by_cases hi:i < obs.length
   ·rw [List.getElem?_append_left hi] at hy; exact .inl (.inr ⟨i,hy⟩)
   ·rw [List.getElem?_append_right (by omega)] at hy
    cases hj:i - obs.length with
    | zero=>rw [hj] at hy; simp at hy
    | succ j=>rw [hj] at hy; simp at hy
 have hob:∀ (i:Nat) o,(obs++[none])[i]?=some (some o)→obs[i]?=some (some o):=by
  intro i o hy
  by_cases hi:i < obs.length
  ·rw [List.getElem?_append_left hi] at hy; exact hy
  ·rw [List.getElem?_append_right (by omega)] at hy
   cases hj:i - obs.length with
   | zero=>rw [hj] at hy; simp at hy
   | succ j=>rw [hj] at hy; simp at hy
 refine ⟨a,cap,v',H',ot',rfl,e1,⟨by rw [List.map_append]; exact e2,by simp [h.len1],by simp [h.len2],fun i w r o h1 h2 h3=>?_,fun i y hy hi=>?_,fun i j o hij h1 h2=>h.apart i j o hij (hob i o h1) (hob j o h2)⟩,e3,e2.isCell,hin⟩
 ·by_cases hi:i < rows.length
  ·rw [List.getElem?_append_left (by rw [h.len1]; exact hi)] at h1
   rw [List.getElem?_append_left hi] at h2
   rw [List.getElem?_append_left (by rw [h.len2]; exact hi)] at h3
   exact (h.row i w r o h1 h2 h3).chg hw e3 fun y hy hyo=>h.far i y hyo (by rw [h3,hy])
  ·have hl1:=h.len1
   have hl2:=h.len2
   rw [List.getElem?_append_right (by omega)] at h1 h2 h3
   have hi0:i - rows.length=0:=by
    have:=(List.getElem?_eq_some_iff.1 h2).1
    simp at this; omega
   rw [hl1,hi0] at h1
   rw [hi0] at h2
   rw [hl2,hi0] at h3
   simp only [List.getElem?_cons_zero,Option.some.injEq] at h1 h2 h3
   subst h1 h2 h3
   exact .void none
 ·have h5:=hob i y hi
  rcases e4 with h4 | ⟨h4,_⟩
  ·exact h.far i y (by rw [← h4]; exact hy) h5
  ·have h6:=h.lt hw y (.inr ⟨i,h5⟩)
   rw [h4] at hy
   have:=Option.some.inj hy
   omega
end Go.Proofs.Sh
/- Numbers of 64 bits as sets of places; what is reached, of any kind, and by layers. -/
namespace Go.Proofs.Sh
open Go
section
variable {P:Program} {t:TypeId} {c:Bool}
end
inductive Cl {α:Type} (R:α→α→Prop) (S:α→Prop):α→Prop
 | base {s:α}:S s→Cl R S s
 | step {s t:α}:Cl R S s→R s t→Cl R S t
theorem Cl.of {α:Type} {R:α→α→Prop} {S Q:α→Prop} (h1:∀ s,S s→Q s) (h2:∀ s t,Q s→R s t→Q t) {t:α} (h:Cl R S t):Q t:=by
 induction h with
 | base h=>exact h1 _ h
 | step _ hr ih=>exact h2 _ _ ih hr
theorem Cl.congr {α:Type} {R R':α→α→Prop} {S S':α→Prop} (h1:∀ s,S s→S' s) (h2:∀ s t,R s t→R' s t) {t:α} (h:Cl R S t):Cl R' S' t:=
 h.of (fun s hs=>.base (h1 s hs)) fun s t hs hr=>.step hs (h2 s t hr)
def C4q {α:Type} (E:α→α→Prop) (A:Nat→α→α→Prop) (S:α→Prop):Nat→α→Prop
 | 0=>Cl E S
 | i+1=>Cl E fun b=>∃ a,C4q E A S i a∧A i a b
theorem layers {α:Type} {E:α→α→Prop} {A:Nat→α→α→Prop} {S:α→Prop} {i:Nat} {a:α}:
  Cl (fun p q:Nat×α=>p.1=q.1∧E p.2 q.2∨q.1=p.1+1∧A p.1 p.2 q.2) (fun p=>p.1=0∧S p.2) (i,a)↔C4q E A S i a:=by
 constructor
 ·intro h
  have:∀ p:Nat×α,Cl (fun p q:Nat×α=>p.1=q.1∧E p.2 q.2∨q.1=p.1+1∧A p.1 p.2 q.2) (fun p=>p.1=0∧S p.2) p→C4q E A S p.1 p.2:=by
   intro p hp
   refine hp.of (Q:=fun p=>C4q E A S p.1 p.2) ?_ ?_
   ·rintro ⟨i,a⟩ ⟨rfl,hs⟩
    exact .base hs
   ·rintro ⟨i,a⟩ ⟨k,b⟩ hl (⟨h1,h2⟩ | ⟨h1,h2⟩)
    ·simp only at h1 h2 hl
     subst h1
     cases i with
     | zero=>exact .step hl h2
     | succ i=>exact .step hl h2
    ·simp only at h1 h2 hl
     subst h1
     exact .base ⟨a,hl,h2⟩
  exact this _ h
 ·induction i generalizing a with
  | zero=>
   intro h
   refine Cl.of (Q:=fun a=>Cl _ _ ((0:Nat),a)) ?_ ?_ (show Cl E S a from h)
   ·exact fun s hs=>.base ⟨rfl,hs⟩
   ·exact fun s t hs hr=>.step hs (.inl ⟨rfl,hr⟩)
  | succ i ih=>
   intro h
   refine Cl.of (Q:=fun a=>Cl _ _ (i+1,a)) ?_ ?_ (show Cl E (fun b=>∃ a,C4q E A S i a∧A i a b) a from h)
   ·rintro b ⟨a,h1,h2⟩
    exact .step (ih h1) (.inr ⟨rfl,h2⟩)
   ·exact fun s t hs hr=>.step hs (.inl ⟨rfl,hr⟩)
end Go.Proofs.Sh
/- Relations of words without a program: ways along edges that read a symbol, or none, on either side; places in two words. -/
namespace Go.Proofs.Sh
open Go
section
variable {σ τ α:Type}
abbrev Arcs (σ α:Type):=σ→Option α→Option α→σ→Prop
inductive Way (A:Arcs σ α):σ→List α→List α→σ→Prop
 | nil (s:σ):Way A s [] [] s
 | cons {s t u:σ} {a b:Option α} {x y:List α}:A s a b t→Way A t x y u→Way A s (a.toList++x) (b.toList++y) u
theorem Way.app {A:Arcs σ α} {s t u:σ} {x y z w:List α} (h:Way A s x y t) (k:Way A t z w u):Way A s (x++z) (y++w) u:=by
 induction h with
 | nil s=>exact k
 | cons h1 _ ih=>rw [List.append_assoc,List.append_assoc]; exact .cons h1 (ih k)
theorem Way.one {A:Arcs σ α} {s t:σ} {a b:Option α} (h:A s a b t):Way A s a.toList b.toList t:=by
 have:=Way.cons h (Way.nil (A:=A) t)
 simpa using this
theorem Way.mono {A B:Arcs σ α} (h:∀ s a b t,A s a b t→B s a b t) {s t:σ} {x y:List α} (k:Way A s x y t):Way B s x y t:=by
 induction k with
 | nil s=>exact .nil s
 | cons h1 _ ih=>exact .cons (h _ _ _ _ h1) ih
theorem Way.map {β:Type} {A:Arcs σ α} {B:Arcs σ β} {f:α→β} (h:∀ s a b t,A s a b t→B s (a.map f) (b.map f) t) {s t:σ} {x y:List α} (k:Way A s x y t):Way B s (x.map f) (y.map f) t:=by
 induction k with
 | nil s=>exact .nil s
 | @cons s t u a b x y h1 _ ih=>
  have e:∀ o:Option α,(o.map f).toList=o.toList.map f:=fun o=>by cases o <;> rfl
  rw [List.map_append,List.map_append,← e,← e]
  exact .cons (h _ _ _ _ h1) ih
theorem Way.move {A:Arcs σ α} {B:Arcs τ α} {g:σ→τ} (h:∀ s a b t,A s a b t→B (g s) a b (g t)) {s t:σ} {x y:List α} (k:Way A s x y t):Way B (g s) x y (g t):=by
 induction k with
 | nil s=>exact .nil _
 | cons h1 _ ih=>exact .cons (h _ _ _ _ h1) ih
theorem Way.swap {A B:Arcs σ α} (h:∀ s a b t,A s a b t→B s b a t) {s t:σ} {x y:List α} (k:Way A s x y t):Way B s y x t:=by
 induction k with
 | nil s=>exact .nil _
 | cons h1 _ ih=>exact .cons (h _ _ _ _ h1) ih
theorem Way.keeps {A:Arcs σ α} {Q:σ→Prop} (h:∀ s a b t,Q s→A s a b t→Q t) {s t:σ} {x y:List α} (k:Way A s x y t) (hs:Q s):Q t:=by
 induction k with
 | nil s=>exact hs
 | cons h1 _ ih=>exact ih (h _ _ _ _ hs h1)
def B0o (w:List α) (i:Nat) (o:Option α) (j:Nat):Prop:=
 match o with
 | none=>j=i
 | some s=>w[i]?=some s∧j=i+1
theorem A49 {w:List α} {i j:Nat} {o:Option α} (h:B0o w i o j) (hi:i≤w.length):j≤w.length:=by
 cases o with
 | none=>rw [show j=i from h]; exact hi
 | some s=>have:=(List.getElem?_eq_some_iff.1 h.1).1; rw [h.2]; omega
theorem B5h {w:List α} {i j:Nat} {o:Option α} (h:B0o w i o j):w.drop i=o.toList++w.drop j∧j=i+o.toList.length:=by
 cases o with
 | none=>rw [show j=i from h]; exact ⟨rfl,rfl⟩
 | some s=>
  obtain ⟨h1,rfl⟩:=h
  obtain ⟨h2,h3⟩:=List.getElem?_eq_some_iff.1 h1
  rw [List.drop_eq_getElem_cons h2,h3]
  exact ⟨rfl,rfl⟩
theorem B17 {w:List α} {i:Nat} {o:Option α} {u:List α} (h:w.drop i=o.toList++u):B0o w i o (i+o.toList.length)∧w.drop (i+o.toList.length)=u:=by
 cases o with
 | none=>exact ⟨rfl,h⟩
 | some s=>
  have h':w.drop i=s :: u:=h
  have hl:i < w.length:=by
   rcases Nat.lt_or_ge i w.length with h1 | h1
   ·exact h1
   ·rw [List.drop_of_length_le h1] at h'; cases h'
  rw [List.drop_eq_getElem_cons hl] at h'
  injection h' with h1 h2
  exact ⟨⟨by rw [List.getElem?_eq_getElem hl,h1],rfl⟩,h2⟩
def A2t (A:Arcs σ α) (x y:List α) (p q:σ×Nat×Nat):Prop:=∃ a b,A p.1 a b q.1∧B0o x p.2.1 a q.2.1∧B0o y p.2.2 b q.2.2
theorem Cl.trans {β:Type} {R:β→β→Prop} {S:β→Prop} {p t:β} (h:Cl R (fun q=>q=p) t) (hp:Cl R S p):Cl R S t:=
 h.of (Q:=Cl R S) (fun s hs=>by rw [hs]; exact hp) fun s t hs hr=>.step hs hr
theorem way_step {A:Arcs σ α} {s t:σ} {u v:List α} (h:Way A s u v t) {x y x' y':List α} {i j:Nat} (hx:x.drop i=u++x') (hy:y.drop j=v++y'):
  Cl (A2t A x y) (fun q=>q=(s,i,j)) (t,i+u.length,j+v.length):=by
 induction h generalizing i j with
 | nil s=>exact .base rfl
 | @cons s t w a b u v h1 _ ih=>
  rw [List.append_assoc] at hx hy
  obtain ⟨h2,h3⟩:=B17 hx
  obtain ⟨h4,h5⟩:=B17 hy
  have:=ih h3 h5
  rw [List.length_append,List.length_append,← Nat.add_assoc,← Nat.add_assoc]
  exact this.trans (.step (.base rfl) ⟨a,b,h1,h2,h4⟩)
theorem step_way {A:Arcs σ α} {x y:List α} {S:σ×Nat×Nat→Prop} {p:σ×Nat×Nat} (h:Cl (A2t A x y) S p):
  ∃ q u v,S q∧Way A q.1 u v p.1∧x.drop q.2.1=u++x.drop p.2.1∧y.drop q.2.2=v++y.drop p.2.2∧p.2.1=q.2.1+u.length∧p.2.2=q.2.2+v.length:=by
 refine h.of (Q:=fun p=>∃ q u v,S q∧Way A q.1 u v p.1∧x.drop q.2.1=u++x.drop p.2.1∧y.drop q.2.2=v++y.drop p.2.2∧p.2.1=q.2.1+u.length∧p.2.2=q.2.2+v.length) ?_ ?_
 ·intro q hq
  exact ⟨q,[],[],hq,.nil _,rfl,rfl,rfl,rfl⟩
 ·rintro p r ⟨q,u,v,h1,h2,h3,h4,h5,h6⟩ ⟨a,b,h7,h8,h9⟩
  obtain ⟨h10,h11⟩:=B5h h8
  obtain ⟨h12,h13⟩:=B5h h9
  refine ⟨q,u++a.toList,v++b.toList,h1,h2.app (Way.one h7),?_,?_,?_,?_⟩
  ·rw [h3,h10,List.append_assoc]
  ·rw [h4,h12,List.append_assoc]
  ·rw [h11,h5,List.length_append]; omega
  ·rw [h13,h6,List.length_append]; omega
theorem places {A:Arcs σ α} {x y:List α} {s t:σ}:Cl (A2t A x y) (fun q=>q=(s,0,0)) (t,x.length,y.length)↔Way A s x y t:=by
 constructor
 ·intro h
  obtain ⟨q,u,v,rfl,h1,h2,h3,_,_⟩:=step_way h
  simp only [List.drop_zero,List.drop_length,List.append_nil] at h2 h3
  rw [h2,h3]; exact h1
 ·intro h
  have:=way_step h (x:=x) (y:=y) (x':=[]) (y':=[]) (i:=0) (j:=0) (by simp) (by simp)
  simpa using this
end
end Go.Proofs.Sh
/- A list that grows, with a map of what is in it. -/
namespace Go.Proofs.Sh
open Go
def A7p {α:Type} (cell:α→List Value) (a:α):Value:=.agg (cell a).toArray
structure QS {α:Type} (H:AH) (s:Nat) (cell:α→List Value) (base g:Nat) (z:Value) (ob:Option Nat) (T:List α):Prop where
 td:Buf H s z (T.map cell) ob
 sn:SetIs H g (A7p cell) T
 nd:T.Nodup
 b0:base≤g
 tb:∀ y,ob=some y→base≤y∧y≠g
def QO (g:Nat) (ob:Option Nat) (y:Nat):Prop:=y=g∨ob=some y
section
variable {α:Type} [DecidableEq α] {P:Program} {H H':AH} {s base g:Nat} {cell:α→List Value} {z:Value} {ob:Option Nat} {T:List α}
theorem QS.lt (h:QS H s cell base g z ob T) (hw:Wf H):∀ y,QO g ob y→y < H.next:=by
 rintro y (rfl | hy)
 ·exact h.sn.lt hw
 ·exact h.td.lt hw y hy
theorem QS.ge (h:QS H s cell base g z ob T):∀ y,QO g ob y→base≤y:=by
 rintro y (rfl | hy)
 ·exact h.b0
 ·exact (h.tb y hy).1
theorem QS.chg (h:QS H s cell base g z ob T) (hw:Wf H) {X:Nat→Prop} (hc:Chg X H H') (hx:∀ y,X y→¬QO g ob y):QS H' s cell base g z ob T:=
 ⟨h.td.chg hw hc fun y hy hX=>hx y hX (.inr hy),h.sn.keep (hc.old g (h.sn.lt hw) fun hX=>hx g hX (.inl rfl)),h.nd,h.b0,h.tb⟩
theorem QS.kept (h:QS H s cell base g z ob T) (hw:Wf H) (hk:Kept H H'):QS H' s cell base g z ob T:=h.chg hw (hk.chg (X:=none')) fun y hy=>hy.elim
theorem QS.start {H:AH} (hw:Wf H) (hb:base≤H.next):QS (H.push (.map [])).2 s cell base H.next (.slice none 0 0) none ([]:List α):=
 ⟨.void none,SetIs.new,List.nodup_nil,hb,fun y hy=>by cases hy⟩
theorem QS.read {t e:Nat} (hu:P.underlying t=some (.slice e)) (hs:A9b P e=some s) (h:QS H s cell base g z ob T) {i:Nat} {a:α} (ha:T[i]?=some a):
  ∃ p,A8d P t z (.int .i64 (i:Int))=some (.pointer (some p))∧H.cells p s=some (cell a):=by
 obtain ⟨q,o,k,h1,h2,h3⟩:=h.td.toSl.at hu hs (i:=i) (x:=cell a) (by simp [ha]) .i64
 exact ⟨_,h1,h2⟩
theorem QS.len {t e:Nat} (hu:P.underlying t=some (.slice e)) (h:QS H s cell base g z ob T) (H':AH):A5a P .len [t] [z] H'=some (.int .i64 (T.length:Int),H'):=by
 rw [h.td.toSl.len hu,List.length_map]
theorem QS.add {tm kt e ts:Nat} (hu:P.underlying tm=some (.map kt e)) (hk:∀ a,A4j P kt (A7p cell a)=true) (heq:∀ a b,eqT P A4f kt (A7p cell a) (A7p cell b)=some (decide (a=b))) (hc:∀ a,(cell a).length=s)
  (hA:∀ (H:AH) (len cap:Nat) (b:Option Addr) (x:List Value),x.length=s→len≤1073741823→A5a P .append [ts,ts] [.slice b len cap,.slice (some ⟨H.next,0,some 0⟩) 1 1] (H.new s x).2=A6e s b len cap 1 x (H.new s x).2)
  (h:QS H s cell base g z ob T) (hw:Wf H) (hb:base≤H.next) {a:α} (ha:a∉T) (hl:T.length≤1073741823):
  ∃ H1 b cap z' H3 ob',A3e P tm (.map (some g)) (A7p cell a) (.bool true) H=some H1∧Chg (fun y=>y=g) H H1∧H1.next=H.next∧z=.slice b T.length cap∧
   A5a P .append [ts,ts] [.slice b T.length cap,.slice (some ⟨H1.next,0,some 0⟩) 1 1] (H1.new s (cell a)).2=some (z',H3)∧
   QS H3 s cell base g z' ob' (T++[a])∧Chg (QO g ob) H H3∧∀ y,QO g ob' y→QO g ob y∨H.next≤y:=by
 obtain ⟨H1,a1,a2,a3,a4⟩:=h.sn.add hu hk heq hw ha
 have b1:Buf H1 s z (T.map cell) ob:=h.td.chg hw a3 fun y hy hX=>(h.tb y hy).2 hX
 obtain ⟨b,cap,z',H3,ob',e1,e2,e3,e4,e5⟩:=b1.push a3.wf (x:=cell a) (hc a)
 rw [List.length_map] at e1 e2
 have ha':=hA H1 T.length cap b (cell a) (hc a) hl
 rw [e2] at ha'
 have hgl:=h.sn.lt hw
 refine ⟨H1,b,cap,z',H3,ob',a1,a3,a4,e1,ha',⟨?_,a2.keep (e4.old g (by omega) fun hX=>(h.tb g hX).2 rfl),?_,h.b0,fun y hy=>?_⟩,(a3.weak fun y hy=>.inl hy).trans (e4.weak fun y hy=>.inr hy),fun y hy=>?_⟩
 ·rw [List.map_append]; exact e3
 ·rw [List.nodup_append]
  exact ⟨h.nd,by simp,fun x hx y hy=>by rw [List.mem_singleton.1 hy]; rintro rfl; exact ha hx⟩
 ·rcases e5 y hy with h1 | h1
  ·exact h.tb y h1
  ·exact ⟨by omega,by omega⟩
 ·rcases hy with rfl | hy
  ·exact .inl (.inl rfl)
  ·rcases e5 y hy with h1 | h1
   ·exact .inl (.inr h1)
   ·exact .inr (by omega)
end
theorem C0v {P:Program} {O:A5d} {all ops:List Oper} {b:Code} {S:List Item} {Q:Fr→AH→Prop} {F:Fr} {H:AH} (M:Fr→AH→Prop) (hb:A95 b=true) (h:wpo P O all ops (wp P O [.code b] M) F H) (k:∀ F' H',M F' H'→wp P O S Q F' H'):wpo P O all ops (wp P O (.code b :: S) Q) F H:=by
 obtain ⟨n,F1,H1,h1,h2⟩:=h
 exact ⟨n,F1,H1,h1,wp_mid M hb h2 k⟩
theorem C9g {P:Program} {H:AH} {t e:Nat} {z x y:Value} (hu:P.underlying t=some (.slice e)) (hs:A9b P e=some 1) (hz:zeroAt P e=some z) (hl:isCell z=true) (hx:isCell x=true) (hy:isCell y=true):
  A4a P t 2 [(0,x),(1,y)] H=some (.slice (some ⟨H.next,0,some 0⟩) 2 2,(H.new 1 [x,y]).2):=by
 unfold A4a
 have e1:repl 2 (A8a z)=[z,z]:=by rw [A8b hl]; rfl
 simp only [hu,hs,hz,Option.bind_some,e1,A5r]
 rw [A8b hl,A8b hx,A8b hy]
 simp [hx,hy,setCells,A6a,A0c]
 rfl
theorem Cl.iff {α:Type} {R:α→α→Prop} {S:α→Prop} {l:List α} (h0:∀ s,S s→s∈l) (h1:∀ s∈l,Cl R S s) (h2:∀ s∈l,∀ t,R s t→t∈l) (t:α):t∈l↔Cl R S t:=
 ⟨h1 t,fun h=>h.of h0 fun s t hs hr=>h2 s hs t hr⟩
end Go.Proofs.Sh
