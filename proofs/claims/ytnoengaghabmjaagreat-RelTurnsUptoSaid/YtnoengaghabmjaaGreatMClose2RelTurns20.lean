/- A part of the proof: AbovePair, RelSlot, MakeKit, TurnP, Sides, SideFns, Sides2, IndexFuncArc, Sided, LawRelKit, IsOver, DataIn. -/
import Derived.Test.YtnoengaghabmjaaGreatMClose2RelTurns18
import Derived.Test.YtnoengaghabmjaaGreatMClose2RelTurns12
import Derived.Test.YtnoengaghabmjaaGreatMClose2RelTurns14
import Derived.Test.YtnoengaghabmjaaGreatMClose2RelTurns19
import Derived.Test.YtnoengaghabmjaaGreatMClose2RelTurns8
import Derived.Test.YtnoengaghabmjaaGreatMClose2RelTurns2
import Derived.Test.YtnoengaghabmjaaGreatMClose2RelTurns1
import Derived.Test.YtnoengaghabmjaaGreatMClose2RelTurns9
import Derived.Test.YtnoengaghabmjaaGreatRows
set_option linter.unusedVariables false
set_option linter.unusedSimpArgs false
/- A word that is above some word of an acceptor is a pair with itself. -/
set_option maxHeartbeats 4000000
set_option maxRecDepth 20000
set_option linter.unusedSimpArgs false
set_option linter.unusedVariables false
namespace Go.Proofs.YtnoengaghabmjaaGreat
open Go Go.Proofs Go.Proofs.Sh
theorem B23 {x:ByteArray}:labT x=none↔x=A7f:=by
 unfold labT
 split <;> simp_all
theorem B86 {x y:ByteArray} (hy:y≠A7f):labT x=some y↔x=y:=by
 unfold labT
 split
 ·rename_i h
  subst h
  exact ⟨fun h=>(by cases h),fun h=>absurd h.symm hy⟩
 ·simp
theorem B3x {N:NetD} {s t:Nat} {x y:List ByteArray} (h:Sh.Way (A6k N) s x y t):∀ z∈x,z≠A7f:=by
 induction h with
 | nil s=>intro z hz; cases hz
 | @cons s r t a b x y h1 _ ih=>
  intro z hz
  rcases List.mem_append.1 hz with h2 | h2
  ·obtain ⟨c,_,_,h3,_⟩:=h1
   cases a with
   | none=>cases h2
   | some w=>
    have e:z=w:=List.mem_singleton.1 (by simpa using h2)
    subst e
    intro e2
    subst e2
    unfold labT at h3
    split at h3
    ·cases h3
    ·rename_i h4
     exact h4 (Option.some.inj h3)
  ·exact ih z h2
theorem B8d {N:NetD} {w:List ByteArray} (hw:∀ x∈w,x≠A7f) (t:Nat):N.run w t↔∃ y,Sh.Way (A6k N) 0 w y t:=by
 have h:=C20 (A:=A6k N) (w:=w) (S:=fun s=>s=0) (t:=t)
 have e0:∀ s t,N.goes A7f s t↔∃ b,A6k N s none b t:=fun s t=>by
  unfold NetD.goes A6k
  constructor
  ·rintro ⟨a,h1,h2,h3,h4⟩; exact ⟨_,a,h1,h2,B23.2 h3,rfl,h4⟩
  ·rintro ⟨b,a,h1,h2,h3,_,h4⟩; exact ⟨a,h1,h2,B23.1 h3,h4⟩
 have e1:∀ x∈w,∀ s t,N.goes x s t↔∃ b,A6k N s (some (id x)) b t:=fun x hx s t=>by
  unfold NetD.goes A6k
  constructor
  ·rintro ⟨a,h1,h2,h3,h4⟩; exact ⟨_,a,h1,h2,(B86 (hw x hx)).2 h3,rfl,h4⟩
  ·rintro ⟨b,a,h1,h2,h3,_,h4⟩; exact ⟨a,h1,h2,(B86 (hw x hx)).1 h3,h4⟩
 have ec:∀ s,N.clo (fun s=>s=0) s↔Clo (fun s t=>∃ b,A6k N s none b t) (fun s=>s=0) s:=fun s=>by
  have:N.goes A7f=fun s t=>∃ b,A6k N s none b t:=funext fun s=>funext fun t=>propext (e0 s t)
  unfold NetD.clo
  rw [this]
 have h2:=RunS.congr (f:=id) e0 ec e1 t (B:=fun x s t=>∃ b,A6k N s (some x) b t)
 rw [List.map_id] at h2
 unfold NetD.run
 rw [h2,h]
 constructor
 ·rintro ⟨s,rfl,h⟩; exact h
 ·intro h; exact ⟨0,rfl,h⟩
theorem B7q {N:NetD} (hl:∀ a∈N.arcs,a.inn=a.out) (w:List ByteArray):A5p N w↔A7k N w w:=by
 unfold A5p A7k RelP
 have hal:∀ s a b t,A6k N s a b t→a=b:=by
  rintro s a b t ⟨c,hc,_,rfl,rfl,_⟩
  rw [hl c hc]
 constructor
 ·rintro ⟨h1,t,h2,h3⟩
  obtain ⟨y,h4⟩:=(B8d h1 t).1 h2
  have:=B42 hal h4
  subst this
  exact ⟨t,h3,h4⟩
 ·rintro ⟨t,h3,h4⟩
  have h1:=B3x h4
  exact ⟨h1,t,(B8d h1 t).2 ⟨w,h4⟩,h3⟩
end Go.Proofs.YtnoengaghabmjaaGreat
/- What functions that join nets have alike: the place of the result, what comes out. -/
namespace Go.Proofs.YtnoengaghabmjaaGreat
open Go Go.Proofs Go.Proofs.Sh
def A5z:Value:=.agg #[.slice none 0 0,.int .i64 0,.slice none 0 0,.slice none 0 0]
def JoinOut (H H':AH) (sigma:List ByteArray) (err:Int) (P:List ByteArray→List ByteArray→Prop) (r:Value):Prop:=
 Kept H H'∧∃ mv,r=.tuple #[mv,.int .i64 err]∧(err≠0→mv=A5z)∧(err=0→∃ M:NetD,(∀ H2,(∀ y,H.next≤y→H2.objs.get y=H'.objs.get y)→Nonempty (A4h H2 mv M))∧A3b M∧A5f M=0∧M.sigma=sigma∧∀ x y,A7k M x y↔P x y)
structure Slot (H0:AH) (go:Nat):Prop where
 ob:Sh.Obj H0 go 4 [.slice none 0 0,.int .i64 0,.slice none 0 0,.slice none 0 0] true
 lt:go < H0.next
theorem Slot.new {H:AH}:Slot (H.new 4 [.slice none 0 0,.int .i64 0,.slice none 0 0,.slice none 0 0]).2 H.next:=⟨Sh.Obj.new (H:=H) 4 _,Nat.lt_succ_self _⟩
theorem Slot.put {H0 H':AH} {go:Nat} (h:Slot H0 go) (hk:Kept H0 H') {a b c d:Value} (ha:isCell a=true) (hb:isCell b=true) (hc:isCell c=true) (hd:isCell d=true):
  ∃ H'',A4f Tryz.prog 26 H' (.agg #[a,b,c,d]) (.pointer (some ⟨go,0,some 0⟩))=some H''∧H''.cells ⟨go,0,some 0⟩ 4=some [a,b,c,d]∧Chg (fun y=>y=go) H' H''∧H''.next=H'.next:=by
 have o0':Sh.Obj H' go 4 [.slice none 0 0,.int .i64 0,.slice none 0 0,.slice none 0 0] true:=by
  have o0:=h.ob
  unfold Sh.Obj at o0 ⊢
  rw [hk.old go h.lt]; exact o0
 obtain ⟨H6,w6,ar6,v6,z6⟩:=o0'.arr.write hk.wf (i:=0) (vs:=[a,b,c,d]) (by simp)
 have sc6:setCells [.slice none 0 0,.int .i64 0,.slice none 0 0,.slice none 0 0] 0 [a,b,c,d]=[a,b,c,d]:=rfl
 rw [sc6] at ar6
 refine ⟨H6,?_,ar6.cells (i:=0) (n:=4) (by simp),z6,v6⟩
 rw [A7p (vs:=[a,b,c,d]) A0w rfl (by simp [ha,hb,hc,hd])]
 exact w6
theorem netZ:A2m Tryz.prog 26 []=some (.agg #[.slice none 0 0,.int .i64 0,.slice none 0 0,.slice none 0 0]):=by
 have va:∀ xs:Array Value,A0b (.agg xs)=xs.toList:=fun _=>rfl
 refine A0i (pl:=[(0,1),(1,1),(2,1),(3,1)]) Tryz.underlying26 A04 (by kernel_rfl) ?_
 simp [A5u,va]
theorem JoinOut.bad {H H':AH} {sigma:List ByteArray} {err:Int} {P:List ByteArray→List ByteArray→Prop} (hk:Kept H H') (he:err≠0):JoinOut H H' sigma err P (.tuple #[.agg [Value.slice none 0 0,.int .i64 0,.slice none 0 0,.slice none 0 0].toArray,.int .i64 err]):=
 ⟨hk,_,rfl,fun _=>rfl,fun h=>absurd h he⟩
theorem A03 (N:NetD):(A7m N).length=N.states.toNat:=by unfold A7m; rw [A3g]
theorem A72 (N:NetD):(A2l N N.ends).length=N.states.toNat:=by unfold A2l; rw [List.length_map,A3g]
theorem A7y (N:NetD):(A0l N N.ends).length=N.states.toNat:=by unfold A0l; rw [List.length_map,A3g]
theorem B96 {N:NetD} (h:A5f N=0):∀ r∈A7m N,∀ e∈r,e.1 < N.states.toNat∧e.2.1 < (N.sigma.length:Int)∧e.2.2.1 < (N.sigma.length:Int)∧e.2.2.2=0:=fun r hr e he=>by
 obtain ⟨hok,_,hf⟩:=A1i h
 obtain ⟨s,hs⟩:=List.mem_iff_getElem?.1 hr
 obtain ⟨a,ha,_,rfl⟩:=(A3r hs e).1 he
 obtain ⟨_,_,k1,k2,k3,k4⟩:=hok.arc a ha
 simp only [NetD.free,Bool.and_eq_true,List.all_eq_true,decide_eq_true_eq] at hf
 exact ⟨by simp only; omega,B3b hok k3,B3b hok k4,hf.1 a ha⟩
theorem A7w {N:NetD} (h:A5f N=0):∀ r∈A7m N,r.length≤60000∧∀ e∈r,e.1 < N.states.toNat:=fun r hr=>by
 obtain ⟨hok,_,_⟩:=A1i h
 obtain ⟨s,hs⟩:=List.mem_iff_getElem?.1 hr
 exact ⟨Nat.le_trans (A0x hs) hok.ar,fun e he=>(B96 h r hr e he).1⟩
theorem B6m {N:NetD} (h:A5f N=0):∀ c∈A0l N N.ends,c=0:=fun c hc=>by
 obtain ⟨hok,_,hf⟩:=A1i h
 simp only [NetD.free,Bool.and_eq_true,List.all_eq_true,decide_eq_true_eq] at hf
 unfold A0l at hc
 obtain ⟨r,hr,rfl⟩:=List.mem_map.1 hc
 obtain ⟨s,hs⟩:=List.mem_iff_getElem?.1 hr
 refine B6z fun x hx=>?_
 obtain ⟨e,he,_,rfl⟩:=(A3r hs x).1 hx
 exact hf.2 e he
theorem B24 {l:List Int} (h:∀ c∈l,c=0) (s:Nat):l.getD s 0=0:=by
 rw [List.getD_eq_getElem?_getD]
 cases hg:l[s]? with
 | none=>rfl
 | some c=>exact h c (List.mem_of_getElem? hg)
theorem C1k {H:AH} (h:Wf H) {y:Nat} (hy:H.next≤y):H.objs.get y=none:=by
 cases hg:H.objs.get y with
 | none=>rfl
 | some x=>have:=h y x hg; omega
theorem B9p {N:NetD} (h:A5f N=0):((A7m N).map List.length).sum=N.arcs.length:=by
 obtain ⟨hok,_,_⟩:=A1i h
 unfold A7m
 have key:∀ (l:List ArcD),(∀ a∈l,0≤a.fr∧a.fr < N.states)→((rowsOf ArcD.fr (fun a=>(a.to.toNat,A9s N.sigma a.inn,A9s N.sigma a.out,a.cost)) N.states.toNat l).map List.length).sum=l.length:=fun l hl=>by
  unfold rowsOf
  rw [List.map_map]
  have e:(List.length ∘ fun (s:Nat)=>(l.filter fun a=>decide (a.fr=(s:Int))).map fun a=>(a.to.toNat,A9s N.sigma a.inn,A9s N.sigma a.out,a.cost))=fun (s:Nat)=>(l.filter fun a=>decide (a.fr=(s:Int))).length:=by
   funext s; simp
  rw [e]
  clear e
  induction l with
  | nil=>
   generalize N.states.toNat=m
   induction m with
   | zero=>rfl
   | succ m ihm=>rw [List.range_succ,List.map_append,List.sum_append,ihm]; rfl
  | cons a l ih=>
   have h1:=ih fun b hb=>hl b (List.mem_cons_of_mem _ hb)
   obtain ⟨h2,h3⟩:=hl a List.mem_cons_self
   have h4:∀ (m:Nat),((List.range m).map fun (s:Nat)=>((a :: l).filter fun b=>decide (b.fr=(s:Int))).length).sum=((List.range m).map fun (s:Nat)=>(l.filter fun b=>decide (b.fr=(s:Int))).length).sum+(if a.fr.toNat < m then 1 else 0):=fun m=>by
    induction m with
    | zero=>simp
    | succ m ihm=>
     rw [List.range_succ,List.map_append,List.sum_append,List.map_append,List.sum_append,ihm]
     simp only [List.map_cons,List.map_nil,List.sum_cons,List.sum_nil,Nat.add_zero]
     by_cases hm:a.fr=(m:Int)
     ·rw [List.filter_cons_of_pos (by simpa using hm),if_neg (by omega),if_pos (by omega),List.length_cons]; omega
     ·rw [List.filter_cons_of_neg (by simpa using hm)]
      by_cases hlt:a.fr.toNat < m
      ·rw [if_pos hlt,if_pos (by omega)]; omega
      ·rw [if_neg hlt,if_neg (by omega)]; omega
   rw [h4,h1,if_pos (by omega),List.length_cons]
 exact key N.arcs fun a ha=>⟨(hok.arc a ha).1,(hok.arc a ha).2.1⟩
end Go.Proofs.YtnoengaghabmjaaGreat
/- What comes out of functions that make one net of another one. -/
namespace Go.Proofs.YtnoengaghabmjaaGreat
open Go Go.Proofs Go.Proofs.Sh
def MakeOut (H H':AH) (sigma:List ByteArray) (err:Int) (P:List ByteArray→List ByteArray→Prop) (Q:NetD→Prop) (r:Value):Prop:=
 Kept H H'∧∃ mv,r=.tuple #[mv,.int .i64 err]∧(err≠0→mv=A5z)∧(err=0→∃ M:NetD,(∀ H2,(∀ y,H.next≤y→H2.objs.get y=H'.objs.get y)→Nonempty (A4h H2 mv M))∧A3b M∧A5f M=0∧M.sigma=sigma∧(∀ x y,A7k M x y↔P x y)∧Q M)
theorem MakeOut.bad {H H':AH} {sigma:List ByteArray} {err:Int} {P:List ByteArray→List ByteArray→Prop} {Q:NetD→Prop} (hk:Kept H H') (he:err≠0):MakeOut H H' sigma err P Q (.tuple #[.agg [Value.slice none 0 0,.int .i64 0,.slice none 0 0,.slice none 0 0].toArray,.int .i64 err]):=
 ⟨hk,_,rfl,fun _=>rfl,fun h=>absurd h he⟩
theorem MakeOut.put {H H3 H4:AH} {go:Nat} {sigma:List ByteArray} {P:List ByteArray→List ByteArray→Prop} {Q:NetD→Prop} {mv:Value} {M:NetD} (sl:Slot H3 go) (gol:H.next≤go) (k3:Kept H H3) (k4:Kept H3 H4) {base:Nat} (hb:H3.next≤base) (hM:∀ H2,(∀ y,base≤y→H2.objs.get y=H4.objs.get y)→Nonempty (A4h H2 mv M)) (m1:A3b M) (m2:A5f M=0) (m3:M.sigma=sigma) (m4:∀ x y,A7k M x y↔P x y) (m5:Q M):
  ∃ H5 sg ar en,mv=.agg #[sg,.int .i64 M.states,ar,en]∧A4f Tryz.prog 26 H4 mv (.pointer (some ⟨go,0,some 0⟩))=some H5∧H5.cells ⟨go,0,some 0⟩ 4=some [sg,.int .i64 M.states,ar,en]∧Wf H5∧MakeOut H H5 sigma 0 P Q (.tuple #[.agg [sg,.int .i64 M.states,ar,en].toArray,.int .i64 0]):=by
 obtain ⟨⟨sgM,arM,enM,rfl,z1,z2,z3⟩⟩:=hM H4 fun _ _=>rfl
 obtain ⟨H5,s5,c5,z5,x5⟩:=sl.put k4 z1.isCell (show isCell (.int .i64 M.states)=true from rfl) z2.isCell z3.isCell
 have hgl:=sl.lt
 refine ⟨H5,sgM,arM,enM,rfl,s5,c5,z5.wf,(k3.trans k4).then gol (z5.weak fun y hy=>by omega),_,rfl,fun h=>absurd rfl h,fun _=>⟨M,fun H6 h6=>hM H6 fun y hy=>(h6 y (by have:=k3.next; omega)).trans ?_,m1,m2,m3,m4,m5⟩⟩
 by_cases hyl:y < H4.next
 ·exact z5.old y hyl (by omega)
 ·have q1:=C1k k4.wf (y:=y) (by omega)
  have q2:=C1k z5.wf (y:=y) (by omega)
  rw [q1,q2]
theorem MakeOut.pass {H H3 H5 H6:AH} {go:Nat} {sigma:List ByteArray} {err:Int} {P:List ByteArray→List ByteArray→Prop} {Q:NetD→Prop} {mv:Value} (sl:Slot H3 go) (gol:H.next≤go) (k3:Kept H H3) (k5:Kept H3 H5) (k6:Kept H5 H6) (hbad:err≠0→mv=A5z)
  (hok:err=0→∃ M:NetD,(∀ H2,(∀ y,H5.next≤y→H2.objs.get y=H6.objs.get y)→Nonempty (A4h H2 mv M))∧A3b M∧A5f M=0∧M.sigma=sigma∧(∀ x y,A7k M x y↔P x y)∧Q M):
  ∃ H7 sg st ar en,mv=.agg #[sg,.int .i64 st,ar,en]∧A4f Tryz.prog 26 H6 mv (.pointer (some ⟨go,0,some 0⟩))=some H7∧H7.cells ⟨go,0,some 0⟩ 4=some [sg,.int .i64 st,ar,en]∧Wf H7∧MakeOut H H7 sigma err P Q (.tuple #[.agg [sg,.int .i64 st,ar,en].toArray,.int .i64 err]):=by
 have k56:=k5.trans k6
 have hgl:=sl.lt
 by_cases hE:err=0
 case neg=>
  have hz:=hbad hE
  unfold A5z at hz
  subst hz
  obtain ⟨Hz,sz,cz,zz,_⟩:=sl.put k56 (a:=.slice none 0 0) (b:=.int .i64 0) (c:=.slice none 0 0) (d:=.slice none 0 0) rfl rfl rfl rfl
  exact ⟨Hz,_,_,_,_,rfl,sz,cz,zz.wf,MakeOut.bad ((k3.trans k56).then gol (zz.weak fun y hy=>by omega)) hE⟩
 obtain ⟨M,hM,m1,m2,m3,m4,m5⟩:=hok hE
 subst hE
 obtain ⟨H7,sg,ar,en,e1,e2,e3,e4,e5⟩:=MakeOut.put (P:=P) (Q:=Q) sl gol k3 k56 k5.next hM m1 m2 m3 m4 m5
 exact ⟨H7,sg,M.states,ar,en,e1,e2,e3,e4,e5⟩
theorem B1e {sigma:List ByteArray} {E:List (List GE)} {ends costs:List Int} {n:Nat} {M:NetD} (hM:B5c sigma E ends costs n M) (h:∀ r∈E,∀ e∈r,e.2.1=e.2.2.1):∀ a∈M.arcs,a.inn=a.out:=by
 intro a ha
 obtain ⟨s,r,hr,e,he,rfl⟩:=(hM.arc a).1 ha
 unfold B7c
 simp only [h r (List.mem_of_getElem? hr) e he]
end Go.Proofs.YtnoengaghabmjaaGreat
/- What one relation is made to, without a walk. -/
namespace Go.Proofs.YtnoengaghabmjaaGreat
open Go Go.Proofs Go.Proofs.Sh
def A97 (N:NetD):Bool:=N.arcs.any fun a=>!decide (a.inn=a.out)
def A10 (N:NetD):Bool:=decide (300 < N.states) || decide (50000 < N.arcs.length) || decide (50000 < N.ends.length)
def A2b (N:NetD) (kd:Nat):Int:=if A5f N≠0 then A5f N else match kd with
 | 0=>if A97 N=true then 6 else 0
 | 1=>if A10 N=true then 3 else 0
 | 2=>0
 | 3=>if decide (300 < N.states)=true then 3 else 0
 | 4=>if decide (300 < N.states)=true then 3 else 0
 | _=>0
def B76 (a:ArcD):ArcD:={ a with inn:=a.out,out:=a.inn }
def B9a (N:NetD):NetD:={ N with arcs:=N.arcs.map B76 }
def A7i (N:NetD) (kd:Nat) (x y:List ByteArray):Prop:=match kd with
 | 0=>x=y∧A5p N x
 | 1=>ManyP (A7k N) x y
 | 2=>A7k N y x
 | 3=>x=y∧A5p N x
 | 4=>x=y∧A5p (B9a N) x
 | _=>A7k N x y
def C0q (M:NetD):Prop:=∀ i:Nat,1≤i→i < M.states.toNat→Clo (fun s t=>∃ a b,A6k M s a b t) (fun s=>s=0) i∧Clo (fun s t=>∃ a b,A6k M t a b s) M.isEnd i
def A5v (kd:Nat) (M:NetD):Prop:=match kd with
 | 3=>∀ a∈M.arcs,a.inn=a.out
 | 4=>∀ a∈M.arcs,a.inn=a.out
 | 5=>C0q M
 | _=>True
theorem B64 {N:NetD} (s:Nat) (a b:Option ByteArray) (t:Nat):A6k (B9a N) s a b t↔A6k N s b a t:=by
 unfold A6k B9a
 constructor
 ·rintro ⟨c,hc,h1,h2,h3,h4⟩
  obtain ⟨c0,h5,rfl⟩:=List.mem_map.1 hc
  exact ⟨c0,h5,h1,h3,h2,h4⟩
 ·rintro ⟨c,hc,h1,h2,h3,h4⟩
  exact ⟨B76 c,List.mem_map.2 ⟨c,hc,rfl⟩,h1,h3,h2,h4⟩
theorem B9n {N:NetD} (x:List ByteArray):A5p N x↔∃ y,A7k N x y:=by
 unfold A5p A7k RelP
 constructor
 ·rintro ⟨h1,t,h2,h3⟩
  obtain ⟨y,h4⟩:=(B8d h1 t).1 h2
  exact ⟨y,t,h3,h4⟩
 ·rintro ⟨y,t,h3,h4⟩
  have h1:=B3x h4
  exact ⟨h1,t,(B8d h1 t).2 ⟨y,h4⟩,h3⟩
theorem B41 {N:NetD} (x y:List ByteArray):A7k (B9a N) x y↔A7k N y x:=by
 unfold A7k RelP
 refine exists_congr fun t=>and_congr Iff.rfl ⟨fun h=>?_,fun h=>?_⟩
 ·exact h.swap fun s a b t hs=>(B64 _ _ _ _).1 hs
 ·exact h.swap fun s a b t hs=>(B64 _ _ _ _).2 hs
section
variable {α:Type} {A:Arcs Nat α} {F:Nat→Prop}
def upA (A:Arcs Nat α):Arcs Nat α:=fun s a b t=>a=b∧∃ c,A s a c t
def dnA (A:Arcs Nat α):Arcs Nat α:=fun s a b t=>a=b∧∃ c,A s c b t
theorem up_way {s t:Nat} {x y:List α}:Sh.Way (upA A) s x y t↔x=y∧∃ z,Sh.Way A s x z t:=by
 constructor
 ·intro h
  induction h with
  | nil s=>exact ⟨rfl,[],.nil s⟩
  | cons h1 _ ih=>
   obtain ⟨rfl,c,h2⟩:=h1
   obtain ⟨rfl,z,h3⟩:=ih
   exact ⟨rfl,_,.cons h2 h3⟩
 ·rintro ⟨rfl,z,h⟩
  induction h with
  | nil s=>exact .nil s
  | cons h1 _ ih=>exact Way.cons (A:=upA A) ⟨rfl,_,h1⟩ ih
theorem dn_way {s t:Nat} {x y:List α}:Sh.Way (dnA A) s x y t↔x=y∧∃ z,Sh.Way A s z y t:=by
 constructor
 ·intro h
  induction h with
  | nil s=>exact ⟨rfl,[],.nil s⟩
  | cons h1 _ ih=>
   obtain ⟨rfl,c,h2⟩:=h1
   obtain ⟨rfl,z,h3⟩:=ih
   exact ⟨rfl,_,.cons h2 h3⟩
 ·rintro ⟨rfl,z,h⟩
  induction h with
  | nil s=>exact .nil s
  | cons h1 _ ih=>exact Way.cons (A:=dnA A) ⟨rfl,_,h1⟩ ih
end
theorem B56 (E:List (List GE)) (s:Nat) (a b:Option Nat) (t:Nat):A0n (A8v C5b E) s a b t↔A0n E s b a t:=by
 rw [B2a]
 unfold A0n C5b
 constructor
 ·rintro ⟨r,h1,e,h2,h3,h4,h5⟩; exact ⟨r,h1,e,h2,h3,h5,h4⟩
 ·rintro ⟨r,h1,e,h2,h3,h4,h5⟩; exact ⟨r,h1,e,h2,h3,h5,h4⟩
theorem C4q (E:List (List GE)):A0n (A8v B1h E)=upA (A0n E):=by
 funext s a b t
 rw [eq_iff_iff,B2a]
 unfold upA A0n B1h
 constructor
 ·rintro ⟨r,h1,e,h2,h3,h4,h5⟩; exact ⟨by rw [← h4,← h5],_,r,h1,e,h2,h3,h4,rfl⟩
 ·rintro ⟨rfl,c,r,h1,e,h2,h3,h4,h5⟩; exact ⟨r,h1,e,h2,h3,h4,h4⟩
theorem C1p (E:List (List GE)):A0n (A8v B8g E)=dnA (A0n E):=by
 funext s a b t
 rw [eq_iff_iff,B2a]
 unfold dnA A0n B8g
 constructor
 ·rintro ⟨r,h1,e,h2,h3,h4,h5⟩; exact ⟨by rw [← h4,← h5],_,r,h1,e,h2,h3,rfl,h5⟩
 ·rintro ⟨rfl,c,r,h1,e,h2,h3,h4,h5⟩; exact ⟨r,h1,e,h2,h3,h5,h5⟩
theorem C6l {U:List Bool}:∀ {n i:Nat},1≤i→i < 1+A0k U n→∃ s,U[s]?=some true∧numU U s=i
 | 0,i,h1,h2=>by unfold A0k at h2; omega
 | n+1,i,h1,h2=>by
  by_cases h3:i < 1+A0k U n
  ·exact C6l h1 h3
  ·unfold A0k at h2
   split at h2
   ·rename_i h4
    refine ⟨n,h4.2,?_⟩
    unfold numU
    rw [if_pos h4]; omega
   ·omega
theorem trim_ok {sigma:List ByteArray} {E R:List (List GE)} {ends es cs:List Int} {U:List Bool} {n:Nat} {M:NetD} (hM:B5c sigma R es cs (1+A0k U n) M) (hR:A46 sigma R es cs (1+A0k U n)) (hs:A8j sigma=0)
  (hT:TrimR (A0n E) (A0n R) (fun s=>U[s]?=some true) (numU U) (endP ends) (endP es)) (hI:TrimI E ends U (1+A0k U n) n R es) (hUl:U.length=n):C0q M:=by
 intro i h1 h2
 have hst:=hM.st
 obtain ⟨s,hsu,rfl⟩:∃ s,U[s]?=some true∧numU U s=i:=C6l (U:=U) (n:=n) (by omega) (by omega)
 obtain ⟨okM,_,_⟩:=A1i (A4t hM hR hs)
 have hrows:=B4n hM hR hs
 have hgo:∀ s t,(∃ a b,A0n R s a b t)→∃ a b,A6k M s a b t:=by
  rintro s t ⟨a,b,h⟩
  rw [← hrows] at h
  obtain ⟨c,d,h3,_,_⟩:=(A30 okM s a b t).1 h
  exact ⟨c,d,h3⟩
 have hend:∀ t,endP es t→M.isEnd t:=by
  intro t ht
  unfold endP at ht
  refine ⟨_,(hM.fin _).2 ⟨t,?_,ht,rfl⟩,rfl⟩
  have:=hR.ln
  rcases Nat.lt_or_ge t es.length with h | h
  ·omega
  ·rw [List.getD_eq_getElem?_getD,List.getElem?_eq_none h] at ht
   exact absurd ht (Int.lt_irrefl 0)
 refine ⟨(hT.reach hsu).of (Q:=fun i=>Clo (fun s t=>∃ a b,A6k M s a b t) (fun s=>s=0) i) (fun s hs=>.base hs) fun s t h3 h4=>.step h3 (hgo s t h4),(hT.live hsu).of (Q:=fun i=>Clo (fun s t=>∃ a b,A6k M t a b s) M.isEnd i) (fun s hs=>.base (hend s hs)) fun s t h3 h4=>.step h3 (hgo t s h4)⟩
section
variable {N:NetD}
theorem C5l (okN:A1k N) {s t:Nat} {u v:List Nat} (h:Sh.Way (A0n (A7m N)) s u v t):∃ x y,Sh.Way (A6k N) s x y t∧u=x.map (ixN N.sigma)∧v=y.map (ixN N.sigma):=by
 induction h with
 | nil s=>exact ⟨[],[],.nil s,rfl,rfl⟩
 | cons h1 _ ih=>
  obtain ⟨c,d,h2,rfl,rfl⟩:=(A30 okN _ _ _ _).1 h1
  obtain ⟨x,y,h3,rfl,rfl⟩:=ih
  have e:∀ o:Option ByteArray,(o.map (ixN N.sigma)).toList=o.toList.map (ixN N.sigma):=fun o=>by cases o <;> rfl
  exact ⟨c.toList++x,d.toList++y,.cons h2 h3,by rw [List.map_append,e],by rw [List.map_append,e]⟩
theorem C3p (okN:A1k N) (hl:∀ a∈N.arcs,a.inn=a.out) (x y:List ByteArray):A7k N x y↔A7i N 0 x y:=by
 have hal:∀ s a b t,A6k N s a b t→a=b:=by
  rintro s a b t ⟨c,hc,_,rfl,rfl,_⟩
  rw [hl c hc]
 constructor
 ·rintro ⟨t,h1,h2⟩
  have:=B42 hal h2
  subst this
  exact ⟨rfl,(B7q hl x).2 ⟨t,h1,h2⟩⟩
 ·rintro ⟨rfl,h⟩
  exact (B7q hl x).1 h
theorem C4z (okN:A1k N) (x y:List ByteArray):(((∀ z∈x,z∈N.sigma)∧∀ z∈y,z∈N.sigma)∧RelP (A0n (A8v B1h (A7m N))) (endP (A2l N N.ends)) (x.map (ixN N.sigma)) (y.map (ixN N.sigma)))↔A7i N 3 x y:=by
 show _↔(x=y∧A5p N x)
 rw [B9n,C4q]
 constructor
 ·rintro ⟨⟨h1,h2⟩,t,h3,h4⟩
  obtain ⟨h5,z,h6⟩:=up_way.1 h4
  have h7:x=y:=A4r (S:=fun z=>z∈N.sigma) (B6a okN.asc) h1 h2 h5
  obtain ⟨x',z',h8,h9,rfl⟩:=C5l okN h6
  obtain ⟨h10,h11⟩:=B1d okN h8
  have h12:x=x':=A4r (S:=fun z=>z∈N.sigma) (B6a okN.asc) h1 h10 h9
  subst h12
  exact ⟨h7,z',t,(B0w okN t).1 h3,h8⟩
 ·rintro ⟨rfl,z,h⟩
  obtain ⟨⟨h1,_⟩,t,h3,h4⟩:=(A0r okN x z).1 h
  exact ⟨⟨h1,h1⟩,t,h3,up_way.2 ⟨rfl,_,h4⟩⟩
theorem C3v (okN:A1k N) (x y:List ByteArray):(((∀ z∈x,z∈N.sigma)∧∀ z∈y,z∈N.sigma)∧RelP (A0n (A8v B8g (A7m N))) (endP (A2l N N.ends)) (x.map (ixN N.sigma)) (y.map (ixN N.sigma)))↔A7i N 4 x y:=by
 show _↔(x=y∧A5p (B9a N) x)
 rw [B9n,C1p]
 constructor
 ·rintro ⟨⟨h1,h2⟩,t,h3,h4⟩
  obtain ⟨h5,z,h6⟩:=dn_way.1 h4
  have h7:x=y:=A4r (S:=fun z=>z∈N.sigma) (B6a okN.asc) h1 h2 h5
  obtain ⟨z',y',h8,rfl,h9⟩:=C5l okN h6
  obtain ⟨h10,h11⟩:=B1d okN h8
  have h12:y=y':=A4r (S:=fun z=>z∈N.sigma) (B6a okN.asc) h2 h11 h9
  subst h12
  exact ⟨h7,z',(B41 _ _).2 (by rw [h7]; exact ⟨t,(B0w okN t).1 h3,h8⟩)⟩
 ·rintro ⟨rfl,z,h⟩
  obtain ⟨⟨_,h1⟩,t,h3,h4⟩:=(A0r okN z x).1 ((B41 _ _).1 h)
  exact ⟨⟨h1,h1⟩,t,h3,dn_way.2 ⟨rfl,_,h4⟩⟩
theorem C2c (okN:A1k N) (x y:List ByteArray):(((∀ z∈x,z∈N.sigma)∧∀ z∈y,z∈N.sigma)∧RelP (A0n (A8v C5b (A7m N))) (endP (A2l N N.ends)) (x.map (ixN N.sigma)) (y.map (ixN N.sigma)))↔A7i N 2 x y:=by
 show _↔A7k N y x
 rw [A0r okN]
 unfold RelP
 constructor
 ·rintro ⟨⟨h1,h2⟩,t,h3,h4⟩
  exact ⟨⟨h2,h1⟩,t,h3,h4.swap fun s a b t hs=>(B56 _ _ _ _ _).1 hs⟩
 ·rintro ⟨⟨h1,h2⟩,t,h3,h4⟩
  exact ⟨⟨h2,h1⟩,t,h3,h4.swap fun s a b t hs=>(B56 _ _ _ _ _).2 hs⟩
theorem star_rel (okN:A1k N) (x y:List ByteArray):(((∀ z∈x,z∈N.sigma)∧∀ z∈y,z∈N.sigma)∧ManyP (RelP (A0n (A7m N)) (endP (A2l N N.ends))) (x.map (ixN N.sigma)) (y.map (ixN N.sigma)))↔A7i N 1 x y:=by
 show _↔ManyP (A7k N) x y
 constructor
 ·rintro ⟨⟨h1,h2⟩,h3⟩
  have key:∀ {u v:List Nat},ManyP (RelP (A0n (A7m N)) (endP (A2l N N.ends))) u v→∀ x y:List ByteArray,u=x.map (ixN N.sigma)→v=y.map (ixN N.sigma)→(∀ z∈x,z∈N.sigma)→(∀ z∈y,z∈N.sigma)→ManyP (A7k N) x y:=by
   intro u v h
   induction h with
   | nil=>
    intro x y e1 e2 _ _
    rw [List.map_eq_nil_iff.1 e1.symm,List.map_eq_nil_iff.1 e2.symm]
    exact .nil
   | @snoc u v u' v' _ h2 ih=>
    intro x y e1 e2 hx hy
    obtain ⟨x1,x2,rfl,rfl,rfl⟩:=List.map_eq_append_iff.1 e1.symm
    obtain ⟨y1,y2,rfl,rfl,rfl⟩:=List.map_eq_append_iff.1 e2.symm
    exact .snoc (ih x1 y1 rfl rfl (fun z hz=>hx z (List.mem_append_left _ hz)) fun z hz=>hy z (List.mem_append_left _ hz)) ((A0r okN x2 y2).2 ⟨⟨fun z hz=>hx z (List.mem_append_right _ hz),fun z hz=>hy z (List.mem_append_right _ hz)⟩,h2⟩)
  exact key h3 x y rfl rfl h1 h2
 ·intro h
  induction h with
  | nil=>exact ⟨⟨fun z hz=>(by cases hz),fun z hz=>(by cases hz)⟩,.nil⟩
  | @snoc x y u v _ h2 ih=>
   obtain ⟨⟨h3,h4⟩,h5⟩:=ih
   obtain ⟨⟨h6,h7⟩,h8⟩:=(A0r okN u v).1 h2
   refine ⟨⟨fun z hz=>(List.mem_append.1 hz).elim (h3 z) (h6 z),fun z hz=>(List.mem_append.1 hz).elim (h4 z) (h7 z)⟩,?_⟩
   rw [List.map_append,List.map_append]
   exact .snoc h5 h8
end
end Go.Proofs.YtnoengaghabmjaaGreat
/- The sides of a net's edges: the first symbol alone, the second alone. -/
namespace Go.Proofs.YtnoengaghabmjaaGreat
open Go Go.Proofs Go.Proofs.Sh
end Go.Proofs.YtnoengaghabmjaaGreat
/- rel.first and rel.second: a struct with a function. -/
namespace Go.Proofs.YtnoengaghabmjaaGreat
open Go Go.Proofs Go.Proofs.Sh
theorem B0b {H:AH} {v:Value} (hv:isCell v=true):anew Tryz.prog 61 H (.agg #[v])=some (.pointer (some ⟨H.next,0,some 0⟩),(H.new 1 [v]).2):=A4o (vs:=[v]) C3b rfl (by simp [hv])
theorem B3e {H:AH} {v:Value} {p:Addr} (hv:isCell v=true):A4f Tryz.prog 61 H (.agg #[v]) (.pointer (some p))=H.write p [v]:=A7p (vs:=[v]) C3b rfl (by simp [hv])
theorem B0u {H:AH} {a b:Value}:(H.new 1 [a]).2.write ⟨H.next,0,some 0⟩ [b]=some (H.new 1 [b]).2:=A4p rfl
theorem B4g {v:Value} (hv:isCell v=true):A2m Tryz.prog 61 [(0,v)]=some (.agg #[v]):=bld_61 hv
end Go.Proofs.YtnoengaghabmjaaGreat
/- The other sides of a net's edges: as they are, turned, above twice, below twice. -/
namespace Go.Proofs.YtnoengaghabmjaaGreat
open Go Go.Proofs Go.Proofs.Sh
theorem sideTurn {H:AH} {e:Nat×Int×Int×Int} (hw:Wf H):Sh.Call Tryz.prog (knows 10) 89 [.agg (A9e e).toArray] H (fun r H'=>Kept H H'∧r=.tuple #[.int .i64 (C5b e).1,.int .i64 (C5b e).2]):=by
 refine A4a rfl Tryz.func89 rfl (Nat.le_of_ble_eq_true rfl) ?_
 have hres:Tryz.f89.results.toList=[.tmp 2,.tmp 3]:=rfl
 have c1:(H.new 4 (A9e e)).2.cell ⟨H.next,1,some 0⟩=some (.int .i64 e.2.1):=A9i _ _ _
 have c2:(H.new 4 (A9e e)).2.cell ⟨H.next,2,some 0⟩=some (.int .i64 e.2.2.1):=A9i _ _ _
 simp only [↓Sh.dn,sx,Nat.reduceBEq,reduceCtorEq,Nat.reduceEqDiff,geNew]
 first | refine (A4d (by kernel_rfl)).2 ?_ | skip
 simp only [↓Sh.dn,sx,Nat.reduceBEq,reduceCtorEq,Nat.reduceEqDiff,c1,c2,hres]
 exact ⟨Kept.new hw 4 _,rfl⟩
theorem C0y {H:AH} (hw:Wf H):Sh.Call Tryz.prog (knows 10) 39 [] H (fun r H'=>Kept H H'∧r=.agg #[.func (.func 89) #[] #[]]):=by
 refine A4a rfl Tryz.func39 rfl (Nat.le_of_ble_eq_true rfl) ?_
 have hres:Tryz.f39.results.toList=[.cell 0 61]:=rfl
 have ca:(H.new 1 [Value.func (.func 89) #[] #[]]).2.cells ⟨H.next,0,some 0⟩ 1=some [Value.func (.func 89) #[] #[]]:=(Sh.Obj.new (H:=H) 1 _).cells (i:=0) (n:=1) (by simp)
 have hc:isCell (Value.func (.func 89) #[] #[])=true:=rfl
 simp only [↓Sh.dn,sx,Nat.reduceBEq,reduceCtorEq,Nat.reduceEqDiff,B0b (show isCell .nilFunc=true from rfl),B4g hc,B3e hc,B0u,hres,ca,Option.map_some]
 exact Kept.new hw 1 _
theorem C4w {H:AH} {e:Nat×Int×Int×Int} (hw:Wf H):Sh.Call Tryz.prog (knows 10) 137 [.agg (A9e e).toArray] H (fun r H'=>Kept H H'∧r=.tuple #[.int .i64 (B1h e).1,.int .i64 (B1h e).2]):=by
 refine A4a rfl Tryz.func137 rfl (Nat.le_of_ble_eq_true rfl) ?_
 have hres:Tryz.f137.results.toList=[.tmp 2,.tmp 3]:=rfl
 have c1:(H.new 4 (A9e e)).2.cell ⟨H.next,1,some 0⟩=some (.int .i64 e.2.1):=A9i _ _ _
 have c2:(H.new 4 (A9e e)).2.cell ⟨H.next,2,some 0⟩=some (.int .i64 e.2.2.1):=A9i _ _ _
 simp only [↓Sh.dn,sx,Nat.reduceBEq,reduceCtorEq,Nat.reduceEqDiff,geNew]
 first | refine (A4d (by kernel_rfl)).2 ?_ | skip
 simp only [↓Sh.dn,sx,Nat.reduceBEq,reduceCtorEq,Nat.reduceEqDiff,c1,c2,hres]
 exact ⟨Kept.new hw 4 _,rfl⟩
theorem C7p {H:AH} (hw:Wf H):Sh.Call Tryz.prog (knows 10) 105 [] H (fun r H'=>Kept H H'∧r=.agg #[.func (.func 137) #[] #[]]):=by
 refine A4a rfl Tryz.func105 rfl (Nat.le_of_ble_eq_true rfl) ?_
 have hres:Tryz.f105.results.toList=[.cell 0 61]:=rfl
 have ca:(H.new 1 [Value.func (.func 137) #[] #[]]).2.cells ⟨H.next,0,some 0⟩ 1=some [Value.func (.func 137) #[] #[]]:=(Sh.Obj.new (H:=H) 1 _).cells (i:=0) (n:=1) (by simp)
 have hc:isCell (Value.func (.func 137) #[] #[])=true:=rfl
 simp only [↓Sh.dn,sx,Nat.reduceBEq,reduceCtorEq,Nat.reduceEqDiff,B0b (show isCell .nilFunc=true from rfl),B4g hc,B3e hc,B0u,hres,ca,Option.map_some]
 exact Kept.new hw 1 _
theorem C27 {H:AH} {e:Nat×Int×Int×Int} (hw:Wf H):Sh.Call Tryz.prog (knows 10) 138 [.agg (A9e e).toArray] H (fun r H'=>Kept H H'∧r=.tuple #[.int .i64 (B8g e).1,.int .i64 (B8g e).2]):=by
 refine A4a rfl Tryz.func138 rfl (Nat.le_of_ble_eq_true rfl) ?_
 have hres:Tryz.f138.results.toList=[.tmp 2,.tmp 3]:=rfl
 have c1:(H.new 4 (A9e e)).2.cell ⟨H.next,1,some 0⟩=some (.int .i64 e.2.1):=A9i _ _ _
 have c2:(H.new 4 (A9e e)).2.cell ⟨H.next,2,some 0⟩=some (.int .i64 e.2.2.1):=A9i _ _ _
 simp only [↓Sh.dn,sx,Nat.reduceBEq,reduceCtorEq,Nat.reduceEqDiff,geNew]
 first | refine (A4d (by kernel_rfl)).2 ?_ | skip
 simp only [↓Sh.dn,sx,Nat.reduceBEq,reduceCtorEq,Nat.reduceEqDiff,c1,c2,hres]
 exact ⟨Kept.new hw 4 _,rfl⟩
theorem C8r {H:AH} (hw:Wf H):Sh.Call Tryz.prog (knows 10) 106 [] H (fun r H'=>Kept H H'∧r=.agg #[.func (.func 138) #[] #[]]):=by
 refine A4a rfl Tryz.func106 rfl (Nat.le_of_ble_eq_true rfl) ?_
 have hres:Tryz.f106.results.toList=[.cell 0 61]:=rfl
 have ca:(H.new 1 [Value.func (.func 138) #[] #[]]).2.cells ⟨H.next,0,some 0⟩ 1=some [Value.func (.func 138) #[] #[]]:=(Sh.Obj.new (H:=H) 1 _).cells (i:=0) (n:=1) (by simp)
 have hc:isCell (Value.func (.func 138) #[] #[])=true:=rfl
 simp only [↓Sh.dn,sx,Nat.reduceBEq,reduceCtorEq,Nat.reduceEqDiff,B0b (show isCell .nilFunc=true from rfl),B4g hc,B3e hc,B0u,hres,ca,Option.map_some]
 exact Kept.new hw 1 _
end Go.Proofs.YtnoengaghabmjaaGreat
/- slices.IndexFunc and ContainsFunc: whether some element is so. -/
namespace Go.Proofs.YtnoengaghabmjaaGreat
open Go Go.Proofs Go.Proofs.Sh
theorem B20 {H:AH} {v:Value} {l:List ArcD} {fid:Nat} {caps:List Value} (p:ArcD→Bool) (hs:Sl H v 5 (l.map ArcD.cells)) (hl:l.length≤1048576) (hw:Wf H)
  (hp:∀ H',Kept H H'→∀ x∈l,Sh.Call Tryz.prog (knows 10) fid ((fun a=>Value.agg a.cells.toArray) x :: caps) H' (fun r H''=>Kept H' H''∧r=.bool (p x))):
  Sh.Call Tryz.prog (knows 10) 141 [v,.func (.func fid) #[] caps.toArray] H (fun r H'=>Kept H H'∧∃ k:Int,r=.int .i64 k∧decide (0≤k)=l.any p):=by
 refine A4a rfl Tryz.func141 rfl (Nat.le_of_ble_eq_true rfl) ?_
 have hres:Tryz.f141.results.toList=[.tmp 4]:=rfl
 have hlen:=hs.len Tryz.underlying23 H
 simp only [↓Sh.dn,sx,Nat.reduceBEq,reduceCtorEq,Nat.reduceEqDiff,hlen,List.length_map]
 refine A0f l.length 8 [5,8,9,10,11,12,13,14,15,16,18] (fun i F H'=>Kept H H'∧(l.take i).any p=false) (by simp only [↓Sh.dn,sx,Nat.reduceBEq,reduceCtorEq,Nat.reduceEqDiff]) ⟨Kept.refl hw,rfl⟩ ?_ ?_
 ·rintro i F H' hlt hF f8 ⟨hk,hall⟩ k
  have hs1:=hs.grow (hk.grow hw)
  obtain ⟨g,o,kk,hia,hc,hcc⟩:=hs1.at Tryz.underlying23 A9l (i:=i) (x:=ArcD.cells l[i]) (by simp [hlt]) .i64
  have hld:=hc
  have f0:=hF 0 rfl
  have f1:=hF 1 rfl
  have f7:=hF 7 rfl
  simp only [↓Sh.dn,sx,Nat.reduceBEq,reduceCtorEq,Nat.reduceEqDiff] at f0 f1 f7
  obtain ⟨r,H2,hd,hk2,rfl⟩:=hp H' hk l[i] (List.getElem_mem hlt)
  simp only [↓Sh.dn,sx,Nat.reduceBEq,reduceCtorEq,Nat.reduceEqDiff,f0,f1,f7,f8,A5a,hlt,decide_true,hia,hld,Option.map_some,forall_const,reduceCtorEq,false_implies,and_true,true_and]
  refine ⟨_,_,hd,?_⟩
  cases hpv:p l[i] with
  | true=>
   simp only [↓Sh.dn,sx,Nat.reduceBEq,reduceCtorEq,Nat.reduceEqDiff,hres,forall_const,reduceCtorEq,false_implies,and_true,true_and]
   refine ⟨hk.trans hk2,_,rfl,?_⟩
   rw [List.any_eq_true.2 ⟨_,List.getElem_mem hlt,hpv⟩]
   simp
  | false=>
   simp only [↓Sh.dn,sx,Nat.reduceBEq,reduceCtorEq,Nat.reduceEqDiff,hres,f8,wrap_succ hlt hl,forall_const,reduceCtorEq,false_implies,and_true,true_and]
   refine k _ _ (by repeat (first | refine Same.put ?_ rfl | exact Same.rfl' _)) (by simp only [↓Sh.dn,sx,Nat.reduceBEq,reduceCtorEq,Nat.reduceEqDiff]) ⟨hk.trans hk2,?_⟩
   rw [List.take_add_one,List.getElem?_eq_getElem hlt]
   simp only [Option.toList,List.any_append,hall,List.any_cons,List.any_nil,hpv,Bool.or_false]
 ·rintro F H' hF f8 ⟨hk,hall⟩
  have f7:=hF 7 rfl
  simp only [↓Sh.dn,sx,Nat.reduceBEq,reduceCtorEq,Nat.reduceEqDiff] at f7
  rw [List.take_length] at hall
  simp only [↓Sh.dn,sx,Nat.reduceBEq,reduceCtorEq,Nat.reduceEqDiff,f7,f8,A5a,Nat.lt_irrefl,decide_false,hres,forall_const,reduceCtorEq,false_implies,and_true,true_and]
  exact ⟨hk,_,rfl,by rw [hall]; rfl⟩
theorem B7g {H:AH} {v:Value} {l:List ArcD} {fid:Nat} {caps:List Value} (p:ArcD→Bool) (hs:Sl H v 5 (l.map ArcD.cells)) (hl:l.length≤1048576) (hw:Wf H)
  (hp:∀ H',Kept H H'→∀ x∈l,Sh.Call Tryz.prog (knows 10) fid ((fun a=>Value.agg a.cells.toArray) x :: caps) H' (fun r H''=>Kept H' H''∧r=.bool (p x))):
  Sh.Call Tryz.prog (knows 10) 120 [v,.func (.func fid) #[] caps.toArray] H (fun r H'=>Kept H H'∧r=.bool (l.any p)):=by
 refine A4a rfl Tryz.func120 rfl (Nat.le_of_ble_eq_true rfl) ?_
 have hres:Tryz.f120.results.toList=[.tmp 4]:=rfl
 obtain ⟨r,H2,hd,hk,k,rfl,hk0⟩:=B20 p hs hl hw hp
 simp only [↓Sh.dn,sx,Nat.reduceBEq,reduceCtorEq,Nat.reduceEqDiff]
 refine ⟨_,_,hd,?_⟩
 simp only [↓Sh.dn,sx,Nat.reduceBEq,reduceCtorEq,Nat.reduceEqDiff,hres,hk0,and_true]
 exact hk
end Go.Proofs.YtnoengaghabmjaaGreat
/- Whether a net has arcs whose two symbols differ, by both. -/
namespace Go.Proofs.YtnoengaghabmjaaGreat
open Go Go.Proofs Go.Proofs.Sh
theorem sidedArc {H:AH} {a:ArcD} (hw:Wf H):Sh.Call Tryz.prog (knows 10) 121 [.agg a.cells.toArray] H (fun r H'=>Kept H H'∧r=.bool (!decide (a.inn=a.out))):=by
 refine A4a rfl Tryz.func121 rfl (Nat.le_of_ble_eq_true rfl) ?_
 have hres:Tryz.f121.results.toList=[.tmp 2]:=rfl
 simp only [↓Sh.dn,sx,Nat.reduceBEq,reduceCtorEq,Nat.reduceEqDiff,A5b,A5e,A8e,A9g,A1h,A5c,A7c,A2e,A7e,A5d,arc0,arc1,arc2,arc3,arc4,end0,end1,hres,Kept.new hw 5 a.cells]
theorem relSided {H:AH} {v:Value} {N:NetD} (h:A4h H v N) (hsm:A3b N) (hw:Wf H):
  Sh.Call Tryz.prog (knows 10) 71 [v] H (fun r H'=>Kept H H'∧r=.bool (N.arcs.any fun a=>!decide (a.inn=a.out))):=by
 refine A4a rfl Tryz.func71 rfl (Nat.le_of_ble_eq_true rfl) ?_
 have hres:Tryz.f71.results.toList=[.tmp 2]:=rfl
 obtain ⟨sg,ar,en,rfl,hsg,har,hen⟩:=h
 have hb1:=NetBox.of (N:=N) hw hsg har hen
 have hk1:Kept H (H.new 4 [sg,.int .i64 N.states,ar,en]).2:=Kept.new hw 4 _
 simp only [↓Sh.dn,sx,Nat.reduceBEq,reduceCtorEq,Nat.reduceEqDiff,A1g hsg.isCell har.isCell hen.isCell]
 generalize H.next=gg at hb1 ⊢
 generalize (H.new 4 [sg,.int .i64 N.states,ar,en]).2=H1 at hb1 hk1 ⊢
 obtain ⟨r,H3,hd3,hk3,rfl⟩:=B7g (caps:=[]) (fid:=121) (fun a=>!decide (a.inn=a.out)) hb1.har hsm.ar hk1.wf (fun H' hk a ha=>sidedArc hk.wf)
 simp only [↓Sh.dn,sx,Nat.reduceBEq,reduceCtorEq,Nat.reduceEqDiff,hb1.c0,hb1.c1,hb1.c2,hb1.c3,hb1.ca,A2a hb1,A1a hb1,A3a hb1]
 refine ⟨_,_,hd3,?_⟩
 simp only [↓Sh.dn,sx,Nat.reduceBEq,reduceCtorEq,Nat.reduceEqDiff,hres]
 exact hk1.trans hk3
theorem B1w {H:AH} {v:Value} {N:NetD} (h:A4h H v N) (hsm:A3b N) (hw:Wf H):
  Sh.Call Tryz.prog (knows 10) 56 [v] H (fun r H'=>Kept H H'∧r=.bool (!(N.arcs.any fun a=>!decide (a.inn=a.out)))):=by
 refine A4a rfl Tryz.func56 rfl (Nat.le_of_ble_eq_true rfl) ?_
 have hres:Tryz.f56.results.toList=[.tmp 2]:=rfl
 obtain ⟨sg,ar,en,rfl,hsg,har,hen⟩:=h
 have hb1:=NetBox.of (N:=N) hw hsg har hen
 have hk1:Kept H (H.new 4 [sg,.int .i64 N.states,ar,en]).2:=Kept.new hw 4 _
 simp only [↓Sh.dn,sx,Nat.reduceBEq,reduceCtorEq,Nat.reduceEqDiff,A1g hsg.isCell har.isCell hen.isCell]
 generalize H.next=gg at hb1 ⊢
 generalize (H.new 4 [sg,.int .i64 N.states,ar,en]).2=H1 at hb1 hk1 ⊢
 have hlen:=fun H'=>hb1.har.len Tryz.underlying23 H'
 simp only [List.length_map] at hlen
 have hs2:=hsm.ar
 refine A0f N.arcs.length 3 (List.range' 3 21) (fun i F H'=>H'=H1∧∀ a∈N.arcs.take i,a.inn=a.out) (by simp only [↓Sh.dn,sx,Nat.reduceBEq,reduceCtorEq,Nat.reduceEqDiff]) ⟨rfl,by simp⟩ ?_ ?_
 ·rintro i F H' hi hF f3 ⟨rfl,hall⟩ k
  have f1:=hF 1 rfl
  simp only [↓Sh.dn,sx,Nat.reduceBEq,reduceCtorEq,Nat.reduceEqDiff] at f1
  obtain ⟨ga,oa,ka,ja,_,ca⟩:=hb1.har.at Tryz.underlying23 A9l (i:=i) (x:=N.arcs[i].cells) (by simp [hi]) .i64
  have x1:=ca 1 (.string N.arcs[i].inn) rfl
  have x2:=ca 2 (.string N.arcs[i].out) rfl
  have htk:N.arcs.take (i+1)=N.arcs.take i++[N.arcs[i]]:=by rw [List.take_add_one,List.getElem?_eq_getElem hi]; rfl
  have hm:N.arcs[i]∈N.arcs:=List.getElem_mem hi
  generalize N.arcs[i]=a at x1 x2 htk hm
  simp only [↓Sh.dn,sx,Nat.reduceBEq,reduceCtorEq,Nat.reduceEqDiff,f1,f3,hb1.c0,hb1.c1,hb1.c2,hb1.c3,hb1.ca,A2a hb1,A1a hb1,A3a hb1,hlen,A5a,hi,decide_true]
  first | refine (A4d (by kernel_rfl)).2 ?_ | skip
  by_cases ha:a.inn=a.out
  ·simp only [↓Sh.dn,sx,Nat.reduceBEq,reduceCtorEq,Nat.reduceEqDiff,f1,f3,hb1.c0,hb1.c1,hb1.c2,hb1.c3,hb1.ca,A2a hb1,A1a hb1,A3a hb1,ja,x1,x2,ha,decide_true,A7a hi (by omega)]
   refine k _ _ (by repeat (first | refine Same.put ?_ rfl | exact Same.rfl' _)) (by simp only [↓Sh.dn,sx,Nat.reduceBEq,reduceCtorEq,Nat.reduceEqDiff]) ⟨rfl,fun b hb=>?_⟩
   rw [htk] at hb
   rcases List.mem_append.1 hb with h2 | h2
   ·exact hall b h2
   ·rw [List.mem_singleton.1 h2]; exact ha
  ·have hany:(N.arcs.any fun a=>!decide (a.inn=a.out))=true:=List.any_eq_true.2 ⟨a,hm,by rw [decide_eq_false ha]; rfl⟩
   simp only [↓Sh.dn,sx,Nat.reduceBEq,reduceCtorEq,Nat.reduceEqDiff,f1,f3,hb1.c0,hb1.c1,hb1.c2,hb1.c3,hb1.ca,A2a hb1,A1a hb1,A3a hb1,ja,x1,x2,ha,decide_false,hres,hany]
   exact hk1
 ·rintro F H' hF f3 ⟨rfl,hall⟩
  have f1:=hF 1 rfl
  simp only [↓Sh.dn,sx,Nat.reduceBEq,reduceCtorEq,Nat.reduceEqDiff] at f1
  rw [List.take_length] at hall
  have hany:(N.arcs.any fun a=>!decide (a.inn=a.out))=false:=by
   rw [List.any_eq_false]
   intro a ha
   rw [decide_eq_true (hall a ha)]; simp
  simp only [↓Sh.dn,sx,Nat.reduceBEq,reduceCtorEq,Nat.reduceEqDiff,f1,f3,hb1.c0,hb1.c1,hb1.c2,hb1.c3,hb1.ca,A2a hb1,A1a hb1,A3a hb1,hlen,A5a,Nat.lt_irrefl,decide_false,hres,hany]
  exact hk1
end Go.Proofs.YtnoengaghabmjaaGreat
/- What laws of relations have alike: whether nets and words are far too large. -/
namespace Go.Proofs.YtnoengaghabmjaaGreat
open Go Go.Proofs Go.Proofs.Sh
theorem lawLong {H:AH} {v:Value} {ws:List (List ByteArray)} {vs:List Value} (h:JagR H v 1 (ws.map fun w=>w.map A1b) vs) (hl:ws.length≤1048576):
  Sh.Call Tryz.prog (knows 10) 9 [v] H (fun r H'=>H'=H∧r=.bool (ws.any fun w=>decide (240 < w.length))):=by
 refine A4a rfl Tryz.func9 rfl (Nat.le_of_ble_eq_true rfl) ?_
 have hres:Tryz.f9.results.toList=[.tmp 2]:=rfl
 have hlen:∀ H',A6a Tryz.prog .len [30] [v] H'=some (.int .i64 (ws.length:Int),H'):=fun H'=>by
  rw [h.sl.len Tryz.underlying30,List.length_map,h.len,List.length_map]
 simp only [↓Sh.dn,sx,Nat.reduceBEq,reduceCtorEq,Nat.reduceEqDiff]
 refine A0f ws.length 3 (List.range' 3 14) (fun i F H'=>H'=H∧∀ w∈ws.take i,¬240 < w.length) (by simp only [↓Sh.dn,sx,Nat.reduceBEq,reduceCtorEq,Nat.reduceEqDiff]) ⟨rfl,by simp⟩ ?_ ?_
 ·rintro i F H' hi hF f3 ⟨rfl,hall⟩ k
  have f0:=hF 0 rfl
  simp only [↓Sh.dn,sx,Nat.reduceBEq,reduceCtorEq,Nat.reduceEqDiff] at f0
  obtain ⟨g1,o1,q1,w1,i1,c1,s1⟩:=h.at Tryz.underlying30 A99 (i:=i) (r:=ws[i].map A1b) (by rw [List.getElem?_map,List.getElem?_eq_getElem hi]; rfl)
  have htk:ws.take (i+1)=ws.take i++[ws[i]]:=by rw [List.take_add_one,List.getElem?_eq_getElem hi]; rfl
  have hm:ws[i]∈ws:=List.getElem_mem hi
  generalize ws[i]=w at s1 htk hm
  have hlw:=s1.len Tryz.underlying22 H'
  simp only [List.length_map] at hlw
  have d:decide ((240:Int) < (w.length:Int))=decide (240 < w.length):=decide_eq_decide.2 (by omega)
  by_cases hd:240 < w.length
  ·have:(ws.any fun w=>decide (240 < w.length))=true:=List.any_eq_true.2 ⟨w,hm,decide_eq_true hd⟩
   simp only [↓Sh.dn,sx,Nat.reduceBEq,reduceCtorEq,Nat.reduceEqDiff,f0,f3,hlen,A5a,hi,decide_true,i1,c1,hlw,d,hd,hres,this]
  ·simp only [↓Sh.dn,sx,Nat.reduceBEq,reduceCtorEq,Nat.reduceEqDiff,f0,f3,hlen,A5a,hi,decide_true,i1,c1,hlw,d,hd,decide_false,A7a hi (by omega)]
   refine k _ _ (by repeat (first | refine Same.put ?_ rfl | exact Same.rfl' _)) (by simp only [↓Sh.dn,sx,Nat.reduceBEq,reduceCtorEq,Nat.reduceEqDiff]) ⟨rfl,fun u hu=>?_⟩
   rw [htk] at hu
   rcases List.mem_append.1 hu with h2 | h2
   ·exact hall u h2
   ·rw [List.mem_singleton.1 h2]; exact hd
 ·rintro F H' hF f3 ⟨rfl,hall⟩
  have f0:=hF 0 rfl
  simp only [↓Sh.dn,sx,Nat.reduceBEq,reduceCtorEq,Nat.reduceEqDiff] at f0
  rw [List.take_length] at hall
  have:(ws.any fun w=>decide (240 < w.length))=false:=by
   rw [List.any_eq_false]
   intro w hw
   rw [decide_eq_true_eq]; exact hall w hw
  simp only [↓Sh.dn,sx,Nat.reduceBEq,reduceCtorEq,Nat.reduceEqDiff,f0,f3,hlen,A5a,Nat.lt_irrefl,decide_false,hres,this]
def NetRow (H:AH) (r:List Value):Prop:=∃ (N:NetD) (sg ar en:Value),r=[sg,.int .i64 N.states,ar,en]∧Sl H sg 1 (N.sigma.map A1b)∧Sl H ar 5 (N.arcs.map ArcD.cells)∧Sl H en 2 (N.ends.map EndD.cells)∧A3b N
theorem lawOver {H:AH} {v:Value} {rows:List (List Value)} (h:Sl H v 4 rows) (hl:rows.length≤1048576) (hr:∀ r∈rows,NetRow H r):
  Sh.Call Tryz.prog (knows 10) 8 [v] H (fun r H'=>H'=H∧∃ b,r=.bool b):=by
 refine A4a rfl Tryz.func8 rfl (Nat.le_of_ble_eq_true rfl) ?_
 have hres:Tryz.f8.results.toList=[.tmp 2]:=rfl
 have hlen:∀ H',A6a Tryz.prog .len [52] [v] H'=some (.int .i64 (rows.length:Int),H'):=fun H'=>h.len Tryz.underlying52 H'
 simp only [↓Sh.dn,sx,Nat.reduceBEq,reduceCtorEq,Nat.reduceEqDiff]
 refine A0f rows.length 4 (List.range' 3 100) (fun i F H'=>H'=H∧∃ n,F.get 3=some (.int .i64 n)) (by simp only [↓Sh.dn,sx,Nat.reduceBEq,reduceCtorEq,Nat.reduceEqDiff]) ⟨rfl,0,by simp only [↓Sh.dn,sx,Nat.reduceBEq,reduceCtorEq,Nat.reduceEqDiff]⟩ ?_ ?_
 ·rintro i F H' hi hF f4 ⟨rfl,n,f3⟩ k
  have f0:=hF 0 rfl
  simp only [↓Sh.dn,sx,Nat.reduceBEq,reduceCtorEq,Nat.reduceEqDiff] at f0
  obtain ⟨g1,o1,q1,i1,_,c1⟩:=h.at Tryz.underlying52 A0w (i:=i) (List.getElem?_eq_getElem hi) .i64
  obtain ⟨N,sg,ar,en,hrow,hsg,har,hen,hsm⟩:=hr _ (List.getElem_mem hi)
  have d0:=c1 0 sg (by rw [hrow]; rfl)
  have d2:=c1 2 ar (by rw [hrow]; rfl)
  have d3:=c1 3 en (by rw [hrow]; rfl)
  simp only [Nat.add_zero] at d0
  have l0:=fun H'=>hsg.len Tryz.underlying22 H'
  have l2:=fun H'=>har.len Tryz.underlying23 H'
  have l3:=fun H'=>hen.len Tryz.underlying24 H'
  simp only [List.length_map] at l0 l2 l3
  have hs0:=hsm.sg
  have hs2:=hsm.ar
  simp only [↓Sh.dn,sx,Nat.reduceBEq,reduceCtorEq,Nat.reduceEqDiff,f0,f4,hlen,A5a,hi,decide_true,i1,d0,l0]
  have e0:decide ((400:Int) < (N.sigma.length:Int))=decide (400 < N.sigma.length):=decide_eq_decide.2 (by omega)
  have e2:decide ((120000:Int) < (N.arcs.length:Int))=decide (120000 < N.arcs.length):=decide_eq_decide.2 (by omega)
  have e3:decide ((120000:Int) < (N.ends.length:Int))=decide (120000 < N.ends.length):=decide_eq_decide.2 (by omega)
  cases h0:decide (400 < N.sigma.length) with
  | true=>simp only [↓Sh.dn,sx,Nat.reduceBEq,reduceCtorEq,Nat.reduceEqDiff,e0,h0,hres]
  | false=>
  cases h2:decide (120000 < N.arcs.length) with
  | true=>simp only [↓Sh.dn,sx,Nat.reduceBEq,reduceCtorEq,Nat.reduceEqDiff,e0,h0,f0,f4,i1,d2,l2,e2,h2,hres]
  | false=>
  cases h3:decide (120000 < N.ends.length) with
  | true=>simp only [↓Sh.dn,sx,Nat.reduceBEq,reduceCtorEq,Nat.reduceEqDiff,e0,h0,f0,f4,i1,d2,l2,e2,h2,d3,l3,e3,h3,hres]
  | false=>
  simp only [↓Sh.dn,sx,Nat.reduceBEq,reduceCtorEq,Nat.reduceEqDiff,e0,h0,f0,f4,i1,d2,l2,e2,h2,d3,l3,e3,h3]
  refine A0f N.sigma.length 5 (List.range' 38 21++[3,5]) (fun q F2 H2=>H2=H'∧∃ n,F2.get 3=some (.int .i64 n)) (by simp only [↓Sh.dn,sx,Nat.reduceBEq,reduceCtorEq,Nat.reduceEqDiff]) ⟨rfl,n,by simp only [↓Sh.dn,sx,Nat.reduceBEq,reduceCtorEq,Nat.reduceEqDiff,f3]⟩ ?_ ?_
  ·rintro q F2 H2 hq hF2 f5 ⟨rfl,n2,g3⟩ k2
   have g0:=hF2 0 rfl
   have g4:=hF2 4 rfl
   simp only [↓Sh.dn,sx,Nat.reduceBEq,reduceCtorEq,Nat.reduceEqDiff,f0,f4] at g0 g4
   obtain ⟨p2,j2,e2'⟩:=Sl.elem (s:=1) Tryz.underlying22 A2n hsg (i:=q) (u:=.string N.sigma[q]) (by rw [List.getElem?_map,List.getElem?_eq_getElem hq]; rfl)
   simp only [↓Sh.dn,sx,Nat.reduceBEq,reduceCtorEq,Nat.reduceEqDiff,g0,g3,g4,f5,i1,d0,l0,A5a,hq,decide_true,j2,e2',A7a hq (by omega)]
   exact k2 _ _ (by repeat (first | refine Same.put ?_ rfl | exact Same.rfl' _)) (by simp only [↓Sh.dn,sx,Nat.reduceBEq,reduceCtorEq,Nat.reduceEqDiff]) ⟨rfl,_,by simp only [↓Sh.dn,sx,Nat.reduceBEq,reduceCtorEq,Nat.reduceEqDiff]; rfl⟩
  ·rintro F2 H2 hF2 f5 ⟨rfl,n2,g3⟩
   have g0:=hF2 0 rfl
   have g4:=hF2 4 rfl
   simp only [↓Sh.dn,sx,Nat.reduceBEq,reduceCtorEq,Nat.reduceEqDiff,f0,f4] at g0 g4
   simp only [↓Sh.dn,sx,Nat.reduceBEq,reduceCtorEq,Nat.reduceEqDiff,g0,g4,f5,i1,d0,l0,A5a,Nat.lt_irrefl,decide_false]
   refine A1f (m:=N.arcs.length) (fun m F3 H3=>H3=H2∧Same (List.range' 38 61++[3,6]) F2 F3∧∃ q n,m+q=N.arcs.length∧F3.get 6=some (.int .i64 ((q:Nat):Int))∧F3.get 3=some (.int .i64 n)) ⟨rfl,(by repeat (first | refine Same.put ?_ rfl | exact Same.rfl' _)),0,n2,by omega,by simp only [↓Sh.dn,sx,Nat.reduceBEq,reduceCtorEq,Nat.reduceEqDiff]; rfl,by simp only [↓Sh.dn,sx,Nat.reduceBEq,reduceCtorEq,Nat.reduceEqDiff,g3]⟩ ?_
   rintro m F3 H3 ⟨rfl,hS,q,n3,hmq,e6,e3'⟩ k3
   have u0:=hS 0 rfl
   have u4:=hS 4 rfl
   simp only [↓Sh.dn,sx,Nat.reduceBEq,reduceCtorEq,Nat.reduceEqDiff,g0,g4] at u0 u4
   have wi:=A7a hi (by omega)
   have fin:Same (List.range' 3 100) F F3:=by
    refine Same.trans ?_ (hS.sub rfl)
    refine Same.trans ?_ (hF2.sub rfl)
    exact (by repeat (first | refine Same.put ?_ rfl | exact Same.rfl' _))
   by_cases hq:q < N.arcs.length
   ·cases hn:decide (n3≤240000) with
    | false=>
     simp only [↓Sh.dn,sx,Nat.reduceBEq,reduceCtorEq,Nat.reduceEqDiff,u0,u4,e6,e3',i1,d2,l2,A5a,hq,decide_true,hn,wi]
     refine k _ _ ?_ (by simp only [↓Sh.dn,sx,Nat.reduceBEq,reduceCtorEq,Nat.reduceEqDiff]) ⟨rfl,n3,by simp only [↓Sh.dn,sx,Nat.reduceBEq,reduceCtorEq,Nat.reduceEqDiff,e3']⟩
     repeat refine Same.put ?_ rfl
     exact fin
    | true=>
     obtain ⟨ga,oa,ka,ja,_,ca⟩:=har.at Tryz.underlying23 A9l (i:=q) (x:=N.arcs[q].cells) (by simp [hq]) .i64
     have x1:=ca 1 (.string N.arcs[q].inn) rfl
     have x2:=ca 2 (.string N.arcs[q].out) rfl
     simp only [↓Sh.dn,sx,Nat.reduceBEq,reduceCtorEq,Nat.reduceEqDiff,u0,u4,e6,e3',i1,d2,l2,A5a,hq,decide_true,hn,ja,x1,x2,A7a hq (by omega)]
     refine k3 (N.arcs.length - (q+1)) _ _ (by omega) ⟨rfl,?_,q+1,_,by omega,by simp only [↓Sh.dn,sx,Nat.reduceBEq,reduceCtorEq,Nat.reduceEqDiff],by simp only [↓Sh.dn,sx,Nat.reduceBEq,reduceCtorEq,Nat.reduceEqDiff]; rfl⟩
     repeat refine Same.put ?_ rfl
     exact hS
   ·have hd:decide (q < N.arcs.length)=false:=decide_eq_false hq
    simp only [↓Sh.dn,sx,Nat.reduceBEq,reduceCtorEq,Nat.reduceEqDiff,u0,u4,e6,i1,d2,l2,A5a,hd,wi]
    refine k _ _ ?_ (by simp only [↓Sh.dn,sx,Nat.reduceBEq,reduceCtorEq,Nat.reduceEqDiff]) ⟨rfl,n3,by simp only [↓Sh.dn,sx,Nat.reduceBEq,reduceCtorEq,Nat.reduceEqDiff,e3']⟩
    repeat refine Same.put ?_ rfl
    exact fin
 ·rintro F H' hF f4 ⟨rfl,n,f3⟩
  have f0:=hF 0 rfl
  simp only [↓Sh.dn,sx,Nat.reduceBEq,reduceCtorEq,Nat.reduceEqDiff] at f0
  simp only [↓Sh.dn,sx,Nat.reduceBEq,reduceCtorEq,Nat.reduceEqDiff,f0,f3,f4,hlen,A5a,Nat.lt_irrefl,decide_false,hres]
end Go.Proofs.YtnoengaghabmjaaGreat
/- Whether there is far more in a net than may be. -/
namespace Go.Proofs.YtnoengaghabmjaaGreat
open Go Go.Proofs Go.Proofs.Sh
def B9u (l:List ByteArray):Nat:=(l.map fun s=>s.size).sum
end Go.Proofs.YtnoengaghabmjaaGreat
/- What comes in: lists of texts, nets. -/
namespace Go.Proofs.YtnoengaghabmjaaGreat
open Go Go.Proofs Go.Proofs.Sh
section
variable {K:Type}
theorem bulk_pos:∀ (d:DataW K),1≤Rows.uptoBulk d
 | .lit l=>by cases l <;> simp [Rows.uptoBulk]
 | .nil=>by simp [Rows.uptoBulk]
 | .ptr d=>by simp [Rows.uptoBulk]
 | .slice a b=>by simp [Rows.uptoBulk]
 | .agg a=>by simp [Rows.uptoBulk]
 | .iface n d=>by simp [Rows.uptoBulk]
 | .map es=>by simp [Rows.uptoBulk]
 | .held h=>by simp [Rows.uptoBulk]
theorem B3s:∀ (ds:List (DataW K)),ds.length≤Rows.uptoBulkAll ds
 | []=>Nat.zero_le _
 | d :: ds=>by
  have:=bulk_pos d
  have:=B3s ds
  simp only [Rows.uptoBulkAll,List.length_cons]; omega
theorem B6d:∀ {ds:List (DataW K)} {d:DataW K},d∈ds→Rows.uptoBulk d≤Rows.uptoBulkAll ds
 | d :: ds,x,h=>by
  simp only [Rows.uptoBulkAll]
  rcases List.mem_cons.1 h with rfl | h
  ·omega
  ·have:=B6d h; omega
theorem B7o {α β:Type} {f:α→β}:∀ {l:List β},(∀ x∈l,∃ a,x=f a)→∃ L:List α,l=L.map f
 | [],_=>⟨[],rfl⟩
 | x :: l,h=>by
  obtain ⟨a,rfl⟩:=h x List.mem_cons_self
  obtain ⟨L,rfl⟩:=B7o (l:=l) fun y hy=>h y (List.mem_cons_of_mem _ hy)
  exact ⟨a :: L,rfl⟩
theorem C6a {α:Type} {enc:α→List Value} {H:AH} {f t e s:Nat} {cs:List Value} {d:DataW K} (R:α→DataW K→Prop) (hu:Tryz.prog.underlying t=some (.slice e)) (hs:Tryz.prog.cellsOf e=s)
  (hR:∀ f x y,RD Tryz.prog H f e x y→∃ a,x=enc a∧R a y) (h:RD Tryz.prog H f t cs d):
  ∃ u,∃ L:List α,∃ ds,cs=[u]∧Sl H u s (L.map enc)∧L.length=ds.length∧(∀ (i:Nat) a y,L[i]?=some a→ds[i]?=some y→enc a=enc a→∃ a',enc a'=enc a∧R a' y)∧Rows.uptoBulkAll ds < Rows.uptoBulk d:=by
 obtain ⟨l,ds,⟨u,rfl,hsl⟩,hlen,hel,hd⟩:=RD.slice hu hs h
 have hget:∀ (i:Nat) x,l[i]?=some x→∃ y a,ds[i]?=some y∧x=enc a∧R a y:=by
  intro i x hx
  have hi:=(List.getElem?_eq_some_iff.1 hx).1
  have hy:ds[i]?=some (ds[i]'(by omega)):=List.getElem?_eq_getElem (by omega)
  obtain ⟨f',hf⟩:=hel i x _ hx hy
  obtain ⟨a,h1,h2⟩:=hR f' x _ hf
  exact ⟨_,a,hy,h1,h2⟩
 obtain ⟨L,rfl⟩:=B7o (f:=enc) (l:=l) fun x hx=>by
  obtain ⟨i,hi⟩:=List.mem_iff_getElem?.1 hx
  obtain ⟨y,a,_,h2,_⟩:=hget i x hi
  exact ⟨a,h2⟩
 refine ⟨u,L,ds,rfl,hsl,by simpa using hlen,fun i a y ha hy _=>?_,?_⟩
 ·obtain ⟨y',a',h1,h2,h3⟩:=hget i (enc a) (by simp [ha])
  rw [hy] at h1
  injection h1 with h1
  subst h1
  exact ⟨a',h2.symm,h3⟩
 ·rcases hd with ⟨rfl,rfl⟩ | ⟨sp,rfl⟩
  ·simp [Rows.uptoBulk,Rows.uptoBulkAll]
  ·simp only [Rows.uptoBulk]; omega
theorem C8u {H:AH} {f:Nat} {x:List Value} {y:DataW K} (h:RD Tryz.prog H f 9 x y):∃ s,x=A1b s∧y=.lit (.string s.data.toList):=RD.str Tryz.underlying9 h
theorem B0p {H:AH} {f:Nat} {x:List Value} {y:DataW K} (h:RD Tryz.prog H f 3 x y):∃ n,x=[.int .i64 n]∧-9223372036854775808≤n∧n < 9223372036854775808:=RD.int Tryz.underlying3 h
theorem B22:∀ {L:List ByteArray} {ds:List (DataW K)},L.length=ds.length→(∀ (i:Nat) a y,L[i]?=some a→ds[i]?=some y→y=.lit (.string a.data.toList))→Rows.uptoBulkAll ds=B9u L+L.length
 | [],[],_,_=>rfl
 | [],_ :: _,h,_=>by simp at h
 | _ :: _,[],h,_=>by simp at h
 | a :: L,d :: ds,h,hr=>by
  have h0:=hr 0 a d rfl rfl
  have ih:=B22 (L:=L) (ds:=ds) (by simpa using h) fun i a y h1 h2=>hr (i+1) a y (by simpa using h1) (by simpa using h2)
  subst h0
  have e:a.data.toList.length=a.size:=by rw [Array.length_toList]; rfl
  simp only [Rows.uptoBulkAll,Rows.uptoBulk,ih,B9u,List.map_cons,List.sum_cons,List.length_cons,e]
  omega
theorem B97 {a b:ByteArray} (h:A1b a=A1b b):a=b:=by
 simp only [A1b,List.cons.injEq,Value.string.injEq,and_true] at h; exact h
theorem C65 {H:AH} {f:Nat} {cs:List Value} {d:DataW K} (h:RD Tryz.prog H f 22 cs d):∃ u,∃ L:List ByteArray,cs=[u]∧Sl H u 1 (L.map A1b)∧B9u L+L.length < Rows.uptoBulk d:=by
 obtain ⟨u,L,ds,h1,h2,h3,h4,h5⟩:=C6a (enc:=A1b) (fun s y=>y=.lit (.string s.data.toList)) Tryz.underlying22 C42 (fun f x y hf=>C8u hf) h
 refine ⟨u,L,h1,h2,?_⟩
 rw [← B22 h3 fun i a y ha hy=>by
  obtain ⟨a',e,hr⟩:=h4 i a y ha hy rfl
  rw [← B97 e]; exact hr]
 exact h5
theorem B66 {L:List ByteArray} {x:ByteArray} (h:x∈L):x.size≤B9u L:=by
 induction L with
 | nil=>cases h
 | cons a L ih=>
  simp only [B9u,List.map_cons,List.sum_cons] at ih ⊢
  rcases List.mem_cons.1 h with rfl | h
  ·omega
  ·have:=ih h; omega
theorem four {c:List Value} (h:c.length=4):∃ a b x y,c=[a,b,x,y]:=by
 match c,h with
 | [a,b,x,y],_=>exact ⟨a,b,x,y,rfl⟩
theorem five {c:List Value} (h:c.length=5):∃ a b x y z,c=[a,b,x,y,z]:=by
 match c,h with
 | [a,b,x,y,z],_=>exact ⟨a,b,x,y,z,rfl⟩
theorem two {c:List Value} (h:c.length=2):∃ a b,c=[a,b]:=by
 match c,h with
 | [a,b],_=>exact ⟨a,b,rfl⟩
theorem A2q {ds:List (DataW K)} {n i:Nat} (h:ds.length=n) (hi:i < n):∃ x,ds[i]?=some x:=⟨ds[i]'(by omega),List.getElem?_eq_getElem (by omega)⟩
theorem arc_in {H:AH} {f:Nat} {x:List Value} {y:DataW K} (h:RD Tryz.prog H f 54 x y):∃ a:ArcD,x=a.cells∧True:=by
 ·obtain ⟨f',ds,rfl,h1,h2,h3⟩:=RD.struct Tryz.underlying54 h
  rw [C8f] at h1
  obtain ⟨a,b,c,d,e,rfl⟩:=five h1
  have h2':ds.length=5:=h2
  obtain ⟨d0,e0⟩:=A2q h2' (i:=0) (by omega)
  obtain ⟨d1,e1⟩:=A2q h2' (i:=1) (by omega)
  obtain ⟨d2,e2⟩:=A2q h2' (i:=2) (by omega)
  obtain ⟨d3,e3⟩:=A2q h2' (i:=3) (by omega)
  obtain ⟨d4,e4⟩:=A2q h2' (i:=4) (by omega)
  have g0:=h3 0 _ _ rfl e0
  have g1:=h3 1 _ _ rfl e1
  have g2:=h3 2 _ _ rfl e2
  have g3:=h3 3 _ _ rfl e3
  have g4:=h3 4 _ _ rfl e4
  simp only [C1c,C42,List.drop_zero,List.drop_succ_cons,List.take_succ_cons,List.take_zero,List.getElem_toArray,List.getElem_cons_zero,List.getElem_cons_succ] at g0 g1 g2 g3 g4
  obtain ⟨n0,q0,_⟩:=B0p g0
  obtain ⟨s1,q1,_⟩:=C8u g1
  obtain ⟨s2,q2,_⟩:=C8u g2
  obtain ⟨n3,q3,_⟩:=B0p g3
  obtain ⟨n4,q4,_⟩:=B0p g4
  simp only [A1b,List.cons.injEq,and_true] at q0 q1 q2 q3 q4
  subst q0 q1 q2 q3 q4
  exact ⟨⟨n0,s1,s2,n3,n4⟩,rfl,trivial⟩
theorem end_in {H:AH} {f:Nat} {x:List Value} {y:DataW K} (h:RD Tryz.prog H f 56 x y):∃ a:EndD,x=a.cells∧True:=by
 ·obtain ⟨f',ds,rfl,h1,h2,h3⟩:=RD.struct Tryz.underlying56 h
  rw [C2h] at h1
  obtain ⟨a,b,rfl⟩:=two h1
  have h2':ds.length=2:=h2
  obtain ⟨d0,e0⟩:=A2q h2' (i:=0) (by omega)
  obtain ⟨d1,e1⟩:=A2q h2' (i:=1) (by omega)
  have g0:=h3 0 _ _ rfl e0
  have g1:=h3 1 _ _ rfl e1
  simp only [C1c,List.drop_zero,List.drop_succ_cons,List.take_succ_cons,List.take_zero,List.getElem_toArray,List.getElem_cons_zero,List.getElem_cons_succ] at g0 g1
  obtain ⟨n0,q0,_⟩:=B0p g0
  obtain ⟨n1,q1,_⟩:=B0p g1
  simp only [List.cons.injEq,and_true] at q0 q1
  subst q0 q1
  exact ⟨⟨n0,n1⟩,rfl,trivial⟩
theorem agg_of {v:Value} {a b:Value} {l:List Value} (h:A0b v=a :: b :: l):v=.agg (a :: b :: l).toArray:=by
 cases v <;> simp only [A0b] at h <;> try (cases h; done)
 rw [← h]
theorem net_in {H:AH} {f:Nat} {v:Value} {d:DataW K} (h:RD Tryz.prog H f 26 (A0b v) d) (hb:Rows.uptoBulk d≤1048576):∃ N:NetD,Nonempty (A4h H v N)∧A3b N∧B9u N.sigma≤1048576:=by
 ·obtain ⟨f',ds,rfl,h1,h2,h3⟩:=RD.struct Tryz.underlying26 h
  rw [cells_26] at h1
  obtain ⟨a,b,c,e,hv⟩:=four h1
  rw [hv] at h3
  have h2':ds.length=4:=h2
  obtain ⟨d0,e0⟩:=A2q h2' (i:=0) (by omega)
  obtain ⟨d1,e1⟩:=A2q h2' (i:=1) (by omega)
  obtain ⟨d2,e2⟩:=A2q h2' (i:=2) (by omega)
  obtain ⟨d3,e3⟩:=A2q h2' (i:=3) (by omega)
  have g0:=h3 0 _ _ rfl e0
  have g1:=h3 1 _ _ rfl e1
  have g2:=h3 2 _ _ rfl e2
  have g3:=h3 3 _ _ rfl e3
  simp only [C1c,cells_22,cells_23,cells_24,List.drop_zero,List.drop_succ_cons,List.take_succ_cons,List.take_zero,List.getElem_toArray,List.getElem_cons_zero,List.getElem_cons_succ] at g0 g1 g2 g3
  obtain ⟨u0,L0,q0,s0,b0⟩:=C65 g0
  obtain ⟨n1,q1,_⟩:=B0p g1
  obtain ⟨u2,L2,ds2,q2,s2,k2,_,b2⟩:=C6a (enc:=ArcD.cells) (fun _ _=>True) Tryz.underlying23 C8f (fun f x y hf=>arc_in hf) g2
  obtain ⟨u3,L3,ds3,q3,s3,k3,_,b3⟩:=C6a (enc:=EndD.cells) (fun _ _=>True) Tryz.underlying24 C2h (fun f x y hf=>end_in hf) g3
  simp only [List.cons.injEq,and_true] at q0 q1 q2 q3
  subst q0 q1 q2 q3
  have m0:=B6d (List.mem_of_getElem? e0)
  have m2:=B6d (List.mem_of_getElem? e2)
  have m3:=B6d (List.mem_of_getElem? e3)
  have l2:=B3s ds2
  have l3:=B3s ds3
  simp only [Rows.uptoBulk] at hb
  refine ⟨⟨L0,n1,L2,L3⟩,⟨⟨a,c,e,agg_of hv,s0,s2,s3⟩⟩,⟨?_,?_,?_,fun x hx=>?_⟩,?_⟩
  ·show L0.length≤_; omega
  ·show L2.length≤_; omega
  ·show L3.length≤_; omega
  ·have:=B66 hx; show x.size≤_; have h':x.size≤B9u L0:=this; omega
  ·show B9u L0≤_; omega
end
end Go.Proofs.YtnoengaghabmjaaGreat
