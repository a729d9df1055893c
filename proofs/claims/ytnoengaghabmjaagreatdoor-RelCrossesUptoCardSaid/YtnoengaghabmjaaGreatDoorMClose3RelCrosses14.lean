/- A part of the proof: AbovePair, TurnRows, CrossPair, Sides, SideFns, RelTurned, RelCross, JoinCross, MadeCross, LawRelCrosses, LaidW. -/
import Derived.Test.YtnoengaghabmjaaGreatDoorMClose3RelCrosses12
import Derived.Test.YtnoengaghabmjaaGreatDoorMClose3RelCrosses8
import Derived.Test.YtnoengaghabmjaaGreatDoorMClose3RelCrosses10
import Derived.Test.YtnoengaghabmjaaGreatDoorMClose3RelCrosses13
import Derived.Test.YtnoengaghabmjaaGreatDoorMClose3RelCrosses4
import Derived.Test.YtnoengaghabmjaaGreatDoorRows
import Derived.Test.YtnoengaghabmjaaGreatDoorProg
import Derived.Deep.DeepHandedRow
import Derived.Deep.DeepWitnessRowRef
import Derived.Lib.LaidIn
import Derived.ProofKit
import Derived.KernelRfl
set_option linter.unusedVariables false
set_option linter.unusedSimpArgs false
/- A word that is above some word of an acceptor is a pair with itself. -/
set_option maxHeartbeats 4000000
set_option maxRecDepth 20000
set_option linter.unusedSimpArgs false
set_option linter.unusedVariables false
namespace Go.Proofs.YtnoengaghabmjaaGreatDoor
open Go Go.Proofs Go.Proofs.Sh
theorem B3w {x:ByteArray}:labT x=none↔x=A7f:=by
 unfold labT
 split <;> simp_all
theorem B50 {x y:ByteArray} (hy:y≠A7f):labT x=some y↔x=y:=by
 unfold labT
 split
 ·rename_i h
  subst h
  exact ⟨fun h=>(by cases h),fun h=>absurd h.symm hy⟩
 ·simp
theorem C8u {N:NetD} {s t:Nat} {x y:List ByteArray} (h:Sh.Way (A5r N) s x y t):∀ z∈x,z≠A7f:=by
 induction h with
 | nil s=>intro z hz; cases hz
 | @cons s r t a b x y h1 _ ih=>
  intro z hz
  rcases List.mem_append.1 hz with h2 | h2
  ·obtain ⟨c,_,_,h3,_⟩:=h1
   cases a with
   | none=>cases h2
   | some w=>
    have e:z=w:=List.mem_singleton.1 (by simpa using h2)
    subst e
    intro e2
    subst e2
    unfold labT at h3
    split at h3
    ·cases h3
    ·rename_i h4
     exact h4 (Option.some.inj h3)
  ·exact ih z h2
theorem C5f {N:NetD} {w:List ByteArray} (hw:∀ x∈w,x≠A7f) (t:Nat):N.run w t↔∃ y,Sh.Way (A5r N) 0 w y t:=by
 have h:=C4l (A:=A5r N) (w:=w) (S:=fun s=>s=0) (t:=t)
 have e0:∀ s t,N.goes A7f s t↔∃ b,A5r N s none b t:=fun s t=>by
  unfold NetD.goes A5r
  constructor
  ·rintro ⟨a,h1,h2,h3,h4⟩; exact ⟨_,a,h1,h2,B3w.2 h3,rfl,h4⟩
  ·rintro ⟨b,a,h1,h2,h3,_,h4⟩; exact ⟨a,h1,h2,B3w.1 h3,h4⟩
 have e1:∀ x∈w,∀ s t,N.goes x s t↔∃ b,A5r N s (some (id x)) b t:=fun x hx s t=>by
  unfold NetD.goes A5r
  constructor
  ·rintro ⟨a,h1,h2,h3,h4⟩; exact ⟨_,a,h1,h2,(B50 (hw x hx)).2 h3,rfl,h4⟩
  ·rintro ⟨b,a,h1,h2,h3,_,h4⟩; exact ⟨a,h1,h2,(B50 (hw x hx)).1 h3,h4⟩
 have ec:∀ s,N.clo (fun s=>s=0) s↔Clo (fun s t=>∃ b,A5r N s none b t) (fun s=>s=0) s:=fun s=>by
  have:N.goes A7f=fun s t=>∃ b,A5r N s none b t:=funext fun s=>funext fun t=>propext (e0 s t)
  unfold NetD.clo
  rw [this]
 have h2:=RunS.congr (f:=id) e0 ec e1 t (B:=fun x s t=>∃ b,A5r N s (some x) b t)
 rw [List.map_id] at h2
 unfold NetD.run
 rw [h2,h]
 constructor
 ·rintro ⟨s,rfl,h⟩; exact h
 ·intro h; exact ⟨0,rfl,h⟩
theorem B1k {N:NetD} (hl:∀ a∈N.arcs,a.inn=a.out) (w:List ByteArray):A5m N w↔A90 N w w:=by
 unfold A5m A90 RelP
 have hal:∀ s a b t,A5r N s a b t→a=b:=by
  rintro s a b t ⟨c,hc,_,rfl,rfl,_⟩
  rw [hl c hc]
 constructor
 ·rintro ⟨h1,t,h2,h3⟩
  obtain ⟨y,h4⟩:=(C5f h1 t).1 h2
  have:=B7d hal h4
  subst this
  exact ⟨t,h3,h4⟩
 ·rintro ⟨t,h3,h4⟩
  have h1:=C8u h4
  exact ⟨h1,t,(C5f h1 t).2 ⟨w,h4⟩,h3⟩
end Go.Proofs.YtnoengaghabmjaaGreatDoor
/- A graph's edges with other sides. -/
namespace Go.Proofs.YtnoengaghabmjaaGreatDoor
open Go Go.Proofs Go.Proofs.Sh
def B9h (f:GE→Int×Int) (e:GE):GE:=(e.1,(f e).1,(f e).2,e.2.2.2)
def A7o (f:GE→Int×Int) (E:List (List GE)):List (List GE):=E.map fun r=>r.map (B9h f)
def fFst (e:GE):Int×Int:=(e.2.1,-1)
def fSnd (e:GE):Int×Int:=(-1,e.2.2.1)
theorem A4u (f:GE→Int×Int) (E:List (List GE)):(A7o f E).length=E.length:=by unfold A7o; rw [List.length_map]
theorem B0n {f:GE→Int×Int} {E:List (List GE)} {s:Nat} {a b:Option Nat} {t:Nat}:A4n (A7o f E) s a b t↔∃ r,E[s]?=some r∧∃ e∈r,e.1=t∧labN (f e).1=a∧labN (f e).2=b:=by
 unfold A4n A7o
 constructor
 ·rintro ⟨r,h1,e,h2,h3⟩
  rw [List.getElem?_map] at h1
  obtain ⟨r0,h4,rfl⟩:=Option.map_eq_some_iff.1 h1
  obtain ⟨e0,h5,rfl⟩:=List.mem_map.1 h2
  exact ⟨r0,h4,e0,h5,h3⟩
 ·rintro ⟨r,h1,e,h2,h3⟩
  exact ⟨_,by rw [List.getElem?_map,h1]; rfl,B9h f e,List.mem_map.2 ⟨e,h2,rfl⟩,h3⟩
theorem C0x {f:GE→Int×Int} {E:List (List GE)} {n:Nat} (h:∀ r∈E,∀ e∈r,e.1 < n):∀ r∈A7o f E,∀ e∈r,e.1 < n:=by
 intro r hr e he
 obtain ⟨r0,h1,rfl⟩:=List.mem_map.1 hr
 obtain ⟨e0,h2,rfl⟩:=List.mem_map.1 he
 exact h r0 h1 e0 h2
theorem C6n {f:GE→Int×Int} {E:List (List GE)} {n:Nat} {m:Int} (hf:∀ e:GE,e.2.1 < m→e.2.2.1 < m→(f e).1 < m∧(f e).2 < m) (h:∀ r∈E,∀ e∈r,e.1 < n∧e.2.1 < m∧e.2.2.1 < m∧e.2.2.2=0):∀ r∈A7o f E,∀ e∈r,e.1 < n∧e.2.1 < m∧e.2.2.1 < m∧e.2.2.2=0:=by
 intro r hr e he
 obtain ⟨r0,h1,rfl⟩:=List.mem_map.1 hr
 obtain ⟨e0,h2,rfl⟩:=List.mem_map.1 he
 obtain ⟨q1,q2,q3,q4⟩:=h r0 h1 e0 h2
 obtain ⟨p1,p2⟩:=hf e0 q2 q3
 exact ⟨q1,p1,p2,q4⟩
theorem C5a (f:GE→Int×Int) (E:List (List GE)):((A7o f E).map List.length).sum=(E.map List.length).sum:=by
 unfold A7o
 rw [List.map_map]
 congr 1
 exact List.map_congr_left fun r _=>by simp
theorem C5g {f:GE→Int×Int} {E:List (List GE)} {n k:Nat} (h:∀ r∈E,r.length≤k∧∀ e∈r,e.1 < n):∀ r∈A7o f E,r.length≤k∧∀ e∈r,e.1 < n:=by
 intro r hr
 refine ⟨?_,C0x (fun r hr=>(h r hr).2) r hr⟩
 obtain ⟨r0,h1,rfl⟩:=List.mem_map.1 hr
 rw [List.length_map]
 exact (h r0 h1).1
end Go.Proofs.YtnoengaghabmjaaGreatDoor
/- The product of two acceptors, as a net: its edges are those of the first with nothing below, and those of the second with nothing above. -/
namespace Go.Proofs.YtnoengaghabmjaaGreatDoor
open Go Go.Proofs Go.Proofs.Sh
theorem B4i {N:NetD} (hok:A0o N) (hl:∀ a∈N.arcs,a.inn=a.out):∀ s a b t,A4n (A0k N) s a b t→a=b:=by
 intro s a b t h
 obtain ⟨c,d,⟨e,he,_,rfl,rfl,_⟩,rfl,rfl⟩:=(A55 hok s a b t).1 h
 rw [hl e he]
theorem C7h (E:List (List GE)):A4n (A7o fFst E)=B5y (A4n E):=by
 funext s a b t
 rw [eq_iff_iff,B0n]
 unfold B5y A4n fFst
 constructor
 ·rintro ⟨r,h1,e,h2,h3,h4,h5⟩
  exact ⟨h5.symm,_,r,h1,e,h2,h3,h4,rfl⟩
 ·rintro ⟨rfl,b',r,h1,e,h2,h3,h4,h5⟩
  exact ⟨r,h1,e,h2,h3,h4,rfl⟩
theorem B15 (E:List (List GE)):A4n (A7o fSnd E)=B7f (A4n E):=by
 funext s a b t
 rw [eq_iff_iff,B0n]
 unfold B7f A4n fSnd
 constructor
 ·rintro ⟨r,h1,e,h2,h3,h4,h5⟩
  exact ⟨h4.symm,_,r,h1,e,h2,h3,rfl,h5⟩
 ·rintro ⟨rfl,b',r,h1,e,h2,h3,h4,h5⟩
  exact ⟨r,h1,e,h2,h3,rfl,h5⟩
theorem C4k {A B M:NetD} (hA:A8i A=0) (hB:A8i B=0) (hs:A.sigma=B.sigma) (la:∀ a∈A.arcs,a.inn=a.out) (lb:∀ a∈B.arcs,a.inn=a.out) {n n1:Nat} {costs:List Int} (hn:A.states.toNat=n1)
  (hM:C3k A.sigma (chE (A7o fFst (A0k A)) (A7o fSnd (A0k B)) (A2j A A.ends) (A7i A A.ends) n1) (A1n (A2j A A.ends) (A2j B B.ends) n1) costs n M) (hR:B6j A.sigma (chE (A7o fFst (A0k A)) (A7o fSnd (A0k B)) (A2j A A.ends) (A7i A A.ends) n1) (A1n (A2j A A.ends) (A2j B B.ends) n1) costs n) (x y:List ByteArray):A90 M x y↔A5m A x∧A5m B y:=by
 obtain ⟨okA,_,_⟩:=A6j hA
 obtain ⟨okB,_,_⟩:=A6j hB
 have h1:=okA.st1
 subst hn
 have ho:=chain_of (E1:=A7o fFst (A0k A)) (E2:=A7o fSnd (A0k B)) (ends1:=A2j A A.ends) (ends2:=A2j B B.ends) (costs1:=A7i A A.ends) (n:=A.states.toNat) (by rw [A4u,A6o]) (A9p A) (by omega) (C0x fun r hr e he=>(A33 hA r hr e he).1)
 rw [C3i hM hR okA.sig,ho.rel,C7h,B15,C2s (B4i okA la) (B4i okB lb),B1k la,B1k lb,B8i okA,B8i okB,← hs]
 constructor
 ·rintro ⟨⟨h1,h2⟩,h3,h4⟩
  exact ⟨⟨⟨h1,h1⟩,h3⟩,⟨h2,h2⟩,h4⟩
 ·rintro ⟨⟨⟨h1,_⟩,h3⟩,⟨h2,_⟩,h4⟩
  exact ⟨⟨h1,h2⟩,h3,h4⟩
end Go.Proofs.YtnoengaghabmjaaGreatDoor
/- The sides of a net's edges: the first symbol alone, the second alone. -/
namespace Go.Proofs.YtnoengaghabmjaaGreatDoor
open Go Go.Proofs Go.Proofs.Sh
theorem geNew {H:AH} {e:Nat×Int×Int×Int}:anew Tryz.prog 107 H (.agg (A3h e).toArray)=some (.pointer (some ⟨H.next,0,some 0⟩),(H.new 4 (A3h e)).2):=A9m (vs:=A3h e) A4w rfl rfl
theorem C1u {H:AH} {e:Nat×Int×Int×Int} (hw:Wf H):Sh.Call Tryz.prog (knows 8) 68 [.agg (A3h e).toArray] H (fun r H'=>Kept H H'∧r=.tuple #[.int .i64 e.2.1,.int .i64 (-1)]):=by
 refine A5a rfl Tryz.func68 rfl (Nat.le_of_ble_eq_true rfl) ?_
 have hres:Tryz.f68.results.toList=[.tmp 2,.tmp 3]:=rfl
 have c1:(H.new 4 (A3h e)).2.cell ⟨H.next,1,some 0⟩=some (.int .i64 e.2.1):=A8k _ _ _
 simp only [↓Sh.dn,sx,Nat.reduceBEq,reduceCtorEq,Nat.reduceEqDiff,geNew,c1,hres]
 exact Kept.new hw 4 _
theorem C8i {H:AH} {e:Nat×Int×Int×Int} (hw:Wf H):Sh.Call Tryz.prog (knows 8) 71 [.agg (A3h e).toArray] H (fun r H'=>Kept H H'∧r=.tuple #[.int .i64 (-1),.int .i64 e.2.2.1]):=by
 refine A5a rfl Tryz.func71 rfl (Nat.le_of_ble_eq_true rfl) ?_
 have hres:Tryz.f71.results.toList=[.tmp 2,.tmp 3]:=rfl
 have c2:(H.new 4 (A3h e)).2.cell ⟨H.next,2,some 0⟩=some (.int .i64 e.2.2.1):=A8k _ _ _
 simp only [↓Sh.dn,sx,Nat.reduceBEq,reduceCtorEq,Nat.reduceEqDiff,geNew]
 first | refine (A4d (by kernel_rfl)).2 ?_ | skip
 simp only [↓Sh.dn,sx,Nat.reduceBEq,reduceCtorEq,Nat.reduceEqDiff,geNew,c2,hres]
 exact Kept.new hw 4 _
end Go.Proofs.YtnoengaghabmjaaGreatDoor
/- rel.first and rel.second: a struct with a function. -/
namespace Go.Proofs.YtnoengaghabmjaaGreatDoor
open Go Go.Proofs Go.Proofs.Sh
theorem B42 {H:AH} {v:Value} (hv:isCell v=true):anew Tryz.prog 64 H (.agg #[v])=some (.pointer (some ⟨H.next,0,some 0⟩),(H.new 1 [v]).2):=A9m (vs:=[v]) B92 rfl (by simp [hv])
theorem B7s {H:AH} {v:Value} {p:Addr} (hv:isCell v=true):A8f Tryz.prog 64 H (.agg #[v]) (.pointer (some p))=H.write p [v]:=A8o (vs:=[v]) B92 rfl (by simp [hv])
theorem B08 {H:AH} {a b:Value}:(H.new 1 [a]).2.write ⟨H.next,0,some 0⟩ [b]=some (H.new 1 [b]).2:=A3p rfl
theorem B6v {v:Value} (hv:isCell v=true):A9l Tryz.prog 64 [(0,v)]=some (.agg #[v]):=bld_64 hv
theorem relFirst {H:AH} (hw:Wf H):Sh.Call Tryz.prog (knows 8) 37 [] H (fun r H'=>Kept H H'∧r=.agg #[.func (.func 68) #[] #[]]):=by
 refine A5a rfl Tryz.func37 rfl (Nat.le_of_ble_eq_true rfl) ?_
 have hres:Tryz.f37.results.toList=[.cell 0 64]:=rfl
 have ca:(H.new 1 [Value.func (.func 68) #[] #[]]).2.cells ⟨H.next,0,some 0⟩ 1=some [Value.func (.func 68) #[] #[]]:=(Sh.Obj.new (H:=H) 1 _).cells (i:=0) (n:=1) (by simp)
 have hc:isCell (Value.func (.func 68) #[] #[])=true:=rfl
 simp only [↓Sh.dn,sx,Nat.reduceBEq,reduceCtorEq,Nat.reduceEqDiff,B42 (show isCell .nilFunc=true from rfl),B6v hc,B7s hc,B08,hres,ca,Option.map_some]
 exact Kept.new hw 1 _
theorem C3v {H:AH} (hw:Wf H):Sh.Call Tryz.prog (knows 8) 40 [] H (fun r H'=>Kept H H'∧r=.agg #[.func (.func 71) #[] #[]]):=by
 refine A5a rfl Tryz.func40 rfl (Nat.le_of_ble_eq_true rfl) ?_
 have hres:Tryz.f40.results.toList=[.cell 0 64]:=rfl
 have ca:(H.new 1 [Value.func (.func 71) #[] #[]]).2.cells ⟨H.next,0,some 0⟩ 1=some [Value.func (.func 71) #[] #[]]:=(Sh.Obj.new (H:=H) 1 _).cells (i:=0) (n:=1) (by simp)
 have hc:isCell (Value.func (.func 71) #[] #[])=true:=rfl
 simp only [↓Sh.dn,sx,Nat.reduceBEq,reduceCtorEq,Nat.reduceEqDiff,B42 (show isCell .nilFunc=true from rfl),B6v hc,B7s hc,B08,hres,ca,Option.map_some]
 exact Kept.new hw 1 _
end Go.Proofs.YtnoengaghabmjaaGreatDoor
/- (rel.side).turned: a graph whose edges have other sides. -/
namespace Go.Proofs.YtnoengaghabmjaaGreatDoor
open Go Go.Proofs Go.Proofs.Sh
theorem set_mid {α:Type} (A C:List α) (x y:α):(A++x :: C).set A.length y=A++y :: C:=by
 rw [List.set_append_right _ _ (Nat.le_refl _),Nat.sub_self]; rfl
theorem get_mid {α:Type} (A C:List α) (x:α):(A++x :: C)[A.length]?=some x:=by
 rw [List.getElem?_append_right (Nat.le_refl _),Nat.sub_self]; rfl
theorem B38 {α:Type} {n i:Nat} (h:i < n) (x:α):List.replicate (n - i) x=x :: List.replicate (n - (i+1)) x:=by
 rw [show n - i=(n - (i+1))+1 by omega]; rfl
theorem B4u {H:AH} {Y:Nat→Prop} {g2 n fid:Nat} {sigma:List ByteArray} {E:List (List GE)} {ends costs:List Int} (f:GE→Int×Int) (h2:GrX H Y g2 sigma (A1f E) ends costs)
  (hp:∀ {H:AH} (e:GE),Wf H→Sh.Call Tryz.prog (knows 8) fid [.agg (A3h e).toArray] H (fun r H'=>Kept H H'∧r=.tuple #[.int .i64 (f e).1,.int .i64 (f e).2]))
  (hE:E.length=n) (he2:ends.length=n) (hc2:costs.length=n) (hn1:1≤n) (hn:n≤3000) (hsl:sigma.length≤1048576) (hto:∀ r∈E,r.length≤60000∧∀ e∈r,e.1 < n) (hw:Wf H):
  Sh.Call Tryz.prog (knows 8) 38 [.agg #[.func (.func fid) #[] #[]],.pointer (some ⟨g2,0,some 0⟩)] H (fun r H'=>Kept H H'∧∃ g,∃ X:Nat→Prop,r=.pointer (some ⟨g,0,some 0⟩)∧GrX H' X g sigma (A1f (A7o f E)) ends costs):=by
 refine A5a rfl Tryz.func38 rfl (Nat.le_of_ble_eq_true rfl) ?_
 have hres:Tryz.f38.results.toList=[.tmp 4]:=rfl
 have hc:isCell (Value.func (.func fid) #[] #[])=true:=rfl
 have k1:=Kept.new hw 1 [Value.func (.func fid) #[] #[]]
 have cs:(H.new 1 [Value.func (.func fid) #[] #[]]).2.cells ⟨H.next,0,some 0⟩ 1=some [Value.func (.func fid) #[] #[]]:=(Sh.Obj.new (H:=H) 1 _).cells (i:=0) (n:=1) (by simp)
 have cs1:(H.new 1 [Value.func (.func fid) #[] #[]]).2.cell ⟨H.next,0,some 0⟩=some (Value.func (.func fid) #[] #[]):=A8k _ _ _
 have h4:=(grNow h2 hw).kept hw k1
 have hy1:∀ y,Y y∧y < H.next→y < (H.new 1 [Value.func (.func fid) #[] #[]]).2.next:=fun y hy=>Nat.lt_of_lt_of_le hy.2 k1.next
 simp only [↓Sh.dn,sx,Nat.reduceBEq,reduceCtorEq,Nat.reduceEqDiff,B42 hc]
 generalize H.next=gs at cs cs1 h4 hy1 ⊢
 generalize (H.new 1 [Value.func (.func fid) #[] #[]]).2=H1 at cs cs1 k1 h4 hy1 ⊢
 obtain ⟨Z,hZ⟩:∃ Z:Nat→Prop,(fun y=>H1.next≤y)=Z:=⟨_,rfl⟩
 have hZi:∀ {y},Z y↔H1.next≤y:=fun {y}=>by rw [← hZ]
 obtain ⟨sv,av,ev,cv,vals,hst⟩:=GrX.steady (X:=Z) h4 k1.wf fun y hy h=>by
  have:=hy1 y hy
  rw [hZi] at h
  omega
 have hR0:=hst H1 (Chg.refl k1.wf)
 have c0:=hR0.arr.cell 0
 have c1:=hR0.arr.cell 1
 have hlen:∀ {H'},Chg Z H1 H'→∀ H'',A7a Tryz.prog .len [101] [av] H''=some (.int .i64 (n:Int),H''):=fun hc H''=>by
  rw [(hst _ hc).jag.sl.len Tryz.underlying101,List.length_map,(hst _ hc).jag.len]; unfold A1f; rw [List.length_map,hE]
 have hlen1:=hlen (Chg.refl k1.wf) H1
 have qv0:=hR0.sg.veq
 obtain ⟨r3,H3,hd3,hk3,g,rfl,hG3⟩:=B0p (n:=n) hR0.sg hsl (by omega) k1.wf
 have hc3:Chg Z H1 H3:=hk3.chg (X:=Z)
 have c13:=(hst H3 hc3).arr.cell 1
 have hlen3:=hlen hc3 H3
 have hX3:GrX H3 Z g sigma (List.replicate n []) (List.replicate n 0) (List.replicate n 0):=(hG3.own hk3.wf).mono fun y hy=>hZi.2 hy.1
 have hNZ:∀ {H'},Chg Z H1 H'→∀ y,Z y∨H'.next≤y→Z y:=fun hc y hy=>by
  rcases hy with hy | hy
  ·exact hy
  ·exact hZi.2 (Nat.le_trans hc.next hy)
 have hpg:∀ {H'},Chg Z H1 H'→PG H' g2 n 60000 E ends sv av ev cv vals sigma costs:=fun hc=>⟨hst _ hc,hE,he2,hn1,hn,fun s r hr=>hto r (List.mem_of_getElem? hr)⟩
 have hcs:∀ {H'},Chg Z H1 H'→H'.cells ⟨gs,0,some 0⟩ 1=some [Value.func (.func fid) #[] #[]]∧H'.cell ⟨gs,0,some 0⟩=some (Value.func (.func fid) #[] #[]):=fun {H'} hc=>by
  have hk:Kept H1 H':=(Kept.refl k1.wf).then (Nat.le_refl _) (hc.weak fun y hy=>hZi.1 hy)
  exact ⟨A9q (hk.grow k1.wf) cs,A9g (hk.grow k1.wf) cs1⟩
 refine (A4d (by kernel_rfl)).2 ?_
 simp only [↓Sh.dn,sx,Nat.reduceBEq,reduceCtorEq,Nat.reduceEqDiff,c0,c1,hlen1]
 refine ⟨_,_,hd3,?_⟩
 simp only [↓Sh.dn,sx,Nat.reduceBEq,reduceCtorEq,Nat.reduceEqDiff,c13,hlen3]
 refine A6g n 27 (List.range' 27 60++[6,7,9,10,11]) (fun i F H'=>Chg Z H1 H'∧GrX H' Z g sigma (A1f (A7o f (E.take i))++List.replicate (n - i) []) (ends.take i++List.replicate (n - i) 0) (costs.take i++List.replicate (n - i) 0)) (by simp only [↓Sh.dn,sx,Nat.reduceBEq,reduceCtorEq,Nat.reduceEqDiff]) ⟨hc3,by simpa [A1f,A7o] using hX3⟩ ?_ ?_
 ·rintro i F H' hi hF f27 ⟨hc,hG⟩ k
  have f1:=hF 1 rfl
  have f2:=hF 2 rfl
  have f5:=hF 5 rfl
  have f25:=hF 25 rfl
  have f26:=hF 26 rfl
  simp only [↓Sh.dn,sx,Nat.reduceBEq,reduceCtorEq,Nat.reduceEqDiff] at f1 f2 f5 f25 f26
  have hiE:i < E.length:=by omega
  have hr:E[i]?=some E[i]:=List.getElem?_eq_getElem hiE
  obtain ⟨hrl',hrt⟩:=hto E[i] (List.getElem_mem hiE)
  have htE:E.take (i+1)=E.take i++[E[i]]:=by rw [List.take_add_one,hr]; rfl
  generalize E[i]=r at hr hrl' hrt htE
  obtain ⟨D,hD⟩:∃ D,A1f (A7o f (E.take i))=D:=⟨_,rfl⟩
  have hDl:D.length=i:=by rw [← hD]; simp [A1f,A7o]; omega
  rw [hD,B38 hi,B38 hi] at hG
  have hel':(ends.take i).length=i:=by rw [List.length_take]; omega
  have hcl':(costs.take i).length=i:=by rw [List.length_take]; omega
  obtain ⟨pr,wr,hiar,hcr,hsr,hlr⟩:=PG.row (hpg hc) hr
  have hvl:i < vals.length:=by rw [hR0.jag.len]; unfold A1f; rw [List.length_map]; omega
  have key:∀ {Hx wx},Chg Z H1 Hx→Hx.cell pr=some wx→wx=vals[i]:=by
   intro Hx wx hcx hx
   obtain ⟨p',h1,h2⟩:=Sl.elem (s:=1) Tryz.underlying101 A1s (hst Hx hcx).jag.sl (i:=i) (u:=vals[i]) (by rw [List.getElem?_map,List.getElem?_eq_getElem hvl]; rfl)
   rw [hiar] at h1
   have e1:=Option.some.inj h1
   injection e1 with e1; injection e1 with e1
   subst e1
   rw [hx] at h2
   exact Option.some.inj h2
  simp only [↓Sh.dn,sx,Nat.reduceBEq,reduceCtorEq,Nat.reduceEqDiff,f25,f26,f27,A4a,hi,decide_true,hiar,hcr,hlr]
  refine A6g r.length 34 (List.range' 34 21++[9,10,11]) (fun q F'' H''=>Chg Z H1 H''∧GrX H'' Z g sigma (D++(((r.take q).map (B9h f)).map A3h) :: List.replicate (n - (i+1)) []) (ends.take i++0 :: List.replicate (n - (i+1)) 0) (costs.take i++0 :: List.replicate (n - (i+1)) 0)) (by simp only [↓Sh.dn,sx,Nat.reduceBEq,reduceCtorEq,Nat.reduceEqDiff]) ⟨hc,by simpa using hG⟩ ?_ ?_
  ·rintro q F'' H'' hq hF'' f34 ⟨hc2,hG2⟩ k2
   have g2':=hF'' 2 rfl
   have g5:=hF'' 5 rfl
   have g6:=hF'' 6 rfl
   have g32:=hF'' 32 rfl
   have g33:=hF'' 33 rfl
   simp only [↓Sh.dn,sx,Nat.reduceBEq,reduceCtorEq,Nat.reduceEqDiff,f2,f5] at g2' g5 g6 g32 g33
   obtain ⟨pr2,wr2,hia2,hcr2,hsr2,hlr2⟩:=PG.row (hpg hc2) hr
   rw [hiar] at hia2
   have e1:=Option.some.inj hia2
   injection e1 with e1; injection e1 with e1
   subst e1
   have hwr:wr2=wr:=(key hc2 hcr2).trans (key hc hcr).symm
   subst hwr
   obtain ⟨pe,hiae,hce⟩:=PG.edge hsr2 hq
   have hrq:r[q]∈r:=List.getElem_mem hq
   have htk:r.take (q+1)=r.take q++[r[q]]:=by rw [List.take_add_one,List.getElem?_eq_getElem hq]; rfl
   generalize r[q]=e at hce hrq htk
   have kn:=Kept.new hc2.wf 4 (A3h e)
   have hc3:=hc2.trans (kn.chg (X:=Z))
   have hG3:=hG2.kept hc2.wf kn
   have hga:Sh.Obj (H''.new 4 (A3h e)).2 H''.next 4 (A3h e) true:=Sh.Obj.new (H:=H'') 4 (A3h e)
   obtain ⟨rr,H5,hd5,hk5,rfl⟩:=hp e hc3.wf
   have hc5:=hc3.trans (hk5.chg (X:=Z))
   have hG5:=hG3.kept hc3.wf hk5
   have hga5:H5.cell ⟨H''.next,0,some 0⟩=some (.int .i64 (e.1:Int))∧H5.cell ⟨H''.next,3,some 0⟩=some (.int .i64 e.2.2.2):=⟨A9g (hk5.grow hc3.wf) ge0,A9g (hk5.grow hc3.wf) ge3⟩
   have hrow:(D++(((r.take q).map (B9h f)).map A3h) :: List.replicate (n - (i+1)) [])[i]?=some (((r.take q).map (B9h f)).map A3h):=by
    have:=get_mid D (List.replicate (n - (i+1)) []) (((r.take q).map (B9h f)).map A3h)
    rwa [hDl] at this
   obtain ⟨rr,H6,hd6,hc6,hG6⟩:=C5q (x0:=(e.1:Int)) (x1:=(f e).1) (x2:=(f e).2) (x3:=e.2.2.2) hG5 hrow (by rw [List.length_map,List.length_map,List.length_take]; omega) hc5.wf
   have hcs3:=hcs hc3
   simp only [↓Sh.dn,sx,Nat.reduceBEq,reduceCtorEq,Nat.reduceEqDiff,f34,g2',g5,g6,g32,g33,hiae,hce,A4a,hq,decide_true,Option.map_some,C8r,B31,C6w,geAll,hcs3.1,hcs3.2]
   refine ⟨_,_,hd5,?_⟩
   simp only [↓Sh.dn,sx,Nat.reduceBEq,reduceCtorEq,Nat.reduceEqDiff,hga5.1,hga5.2,g5,g6]
   refine ⟨_,_,hd6,?_⟩
   simp only [↓Sh.dn,sx,Nat.reduceBEq,reduceCtorEq,Nat.reduceEqDiff,f34,A7b hq (Nat.le_trans hrl' (by decide))]
   refine k2 _ _ (by repeat (first | refine Same.put ?_ rfl | exact Same.rfl' _)) (by simp only [↓Sh.dn,sx,Nat.reduceBEq,reduceCtorEq,Nat.reduceEqDiff]) ⟨hc5.trans hc6,?_⟩
   have:=hG6.mono (hNZ hc5)
   have hs:=set_mid D (List.replicate (n - (i+1)) []) (((r.take q).map (B9h f)).map A3h) ((((r.take q).map (B9h f)).map A3h)++[[.int .i64 (e.1:Int),.int .i64 (f e).1,.int .i64 (f e).2,.int .i64 e.2.2.2]])
   rw [hDl] at hs
   rw [hs] at this
   rw [htk]
   simpa [A3h,B9h] using this
  ·rintro F'' H'' hF'' f34 ⟨hc2,hG2⟩
   rw [List.take_length] at hG2
   have g1:=hF'' 1 rfl
   have g5:=hF'' 5 rfl
   have g6:=hF'' 6 rfl
   have g27:=hF'' 27 rfl
   have g33:=hF'' 33 rfl
   simp only [↓Sh.dn,sx,Nat.reduceBEq,reduceCtorEq,Nat.reduceEqDiff,f1,f5,f27] at g1 g5 g6 g27 g33
   have hi2:i < ends.length:=by omega
   have hi3:i < costs.length:=by omega
   have hR2:=hst H'' hc2
   obtain ⟨evg,cvg,p1,p2,H6,H7,z1,z2,z3,zq,i1,i2,s1,s2,ch1,ch2,hG3⟩:=GrX.setEC (s:=i) hG2 hc2.wf (by simp [hel']) (by simp [hcl']) ends[i] costs[i]
   have hR3:=hst H6 (hc2.trans ch1)
   have y1:=hR2.arr.cell 2
   have y2:=hR2.arr.cell 3
   have y3:=hR3.arr.cell 3
   obtain ⟨pa,ia,ca⟩:=Sl.elem (s:=1) Tryz.underlying86 A3e hR2.en (i:=i) (u:=.int .i64 ends[i]) (by rw [List.getElem?_map,List.getElem?_eq_getElem hi2]; rfl)
   obtain ⟨pb,ib,cb⟩:=Sl.elem (s:=1) Tryz.underlying86 A3e hR2.co (i:=i) (u:=.int .i64 costs[i]) (by rw [List.getElem?_map,List.getElem?_eq_getElem hi3]; rfl)
   obtain ⟨pb',ib',cb'⟩:=Sl.elem (s:=1) Tryz.underlying86 A3e hR3.co (i:=i) (u:=.int .i64 costs[i]) (by rw [List.getElem?_map,List.getElem?_eq_getElem hi3]; rfl)
   rw [ib] at ib'
   have e1:=Option.some.inj ib'
   injection e1 with e1; injection e1 with e1
   subst e1
   have qv:=hR2.co.veq
   simp only [↓Sh.dn,sx,Nat.reduceBEq,reduceCtorEq,Nat.reduceEqDiff,f34,g33,A4a,Nat.lt_irrefl,decide_false]
   refine A7y (fl:=[(0,[]),(1,[]),(2,[]),(3,[]),(4,[]),(5,[]),(6,[]),(7,[]),(8,[]),(9,[]),(10,[]),(11,[]),(12,[]),(13,[]),(14,[]),(15,[]),(16,[]),(17,[]),(18,[]),(19,[]),(20,[]),(21,[]),(22,[]),(23,[]),(24,[]),(25,[]),(26,[]),(27,[])]) (by kernel_rfl) (by kernel_rfl) (by kernel_rfl) ?_
   simp only [↓Sh.dn,sx,Nat.reduceBEq,reduceCtorEq,Nat.reduceEqDiff,wpr,again,A6c,A8h,A4e,A6h,A3f,A9d,A3g,forall_eq,forall_eq',g1,g5,g6,g27,z1,z2,z3,zq,i1,i2,s1,s2,y1,y2,y3,qv,ia,ca,ib,cb,cb',A7b hi (Nat.le_trans hn (by decide))]
   refine k _ _ ?_ (by simp only [↓Sh.dn,sx,Nat.reduceBEq,reduceCtorEq,Nat.reduceEqDiff]) ⟨hc2.trans ch2,?_⟩
   ·repeat refine Same.put ?_ rfl
    exact Same.trans (by repeat (first | refine Same.put ?_ rfl | exact Same.rfl' _)) (hF''.sub rfl)
   ·have t1:ends.take (i+1)=ends.take i++[ends[i]]:=by rw [List.take_add_one,List.getElem?_eq_getElem hi2]; rfl
    have t2:costs.take (i+1)=costs.take i++[costs[i]]:=by rw [List.take_add_one,List.getElem?_eq_getElem hi3]; rfl
    have s3:=set_mid (ends.take i) (List.replicate (n - (i+1)) 0) 0 ends[i]
    rw [hel'] at s3
    have s4:=set_mid (costs.take i) (List.replicate (n - (i+1)) 0) 0 costs[i]
    rw [hcl'] at s4
    rw [s3,s4] at hG3
    rw [t1,t2,htE]
    have e2:A1f (A7o f (E.take i++[r]))=D++[(r.map (B9h f)).map A3h]:=by rw [← hD]; simp [A1f,A7o]
    rw [e2,List.append_assoc,List.append_assoc,List.append_assoc]
    exact hG3
 ·rintro F H' hF f27 ⟨hc,hG⟩
  have f5:=hF 5 rfl
  have f26:=hF 26 rfl
  simp only [↓Sh.dn,sx,Nat.reduceBEq,reduceCtorEq,Nat.reduceEqDiff] at f5 f26
  rw [Nat.sub_self,List.take_of_length_le (by omega),List.take_of_length_le (by omega),List.take_of_length_le (by omega)] at hG
  simp only [List.replicate_zero,List.append_nil] at hG
  simp only [↓Sh.dn,sx,Nat.reduceBEq,reduceCtorEq,Nat.reduceEqDiff,f5,f26,f27,A4a,Nat.lt_irrefl,decide_false,hres]
  exact ⟨k1.then k1.next (hc.weak fun y hy=>hZi.1 hy),g,rfl,Z,hG⟩
end Go.Proofs.YtnoengaghabmjaaGreatDoor
/- rel.Cross: each word of the first acceptor with each of the second. -/
namespace Go.Proofs.YtnoengaghabmjaaGreatDoor
open Go Go.Proofs Go.Proofs.Sh
theorem B4z {N:NetD} (h:A5x N=false):∀ a∈N.arcs,a.inn=a.out:=by
 intro a ha
 unfold A5x at h
 rw [List.any_eq_false] at h
 simpa using h a ha
theorem relCross {H:AH} {va vb:Value} {A B:NetD} (ha:A3m H va A) (hb:A3m H vb B) (hA:A5c A) (hB:A5c B) (hw:Wf H):
  Sh.Call Tryz.prog (knows 8) 17 [va,vb] H (fun r H'=>JoinOut H H' A.sigma (A7e A B) (fun x y=>A5m A x∧A5m B y) r):=by
 refine A5a rfl Tryz.func17 rfl (Nat.le_of_ble_eq_true rfl) ?_
 have hres:Tryz.f17.results.toList=[.cell 4 26,.tmp 5]:=rfl
 obtain ⟨sgA,arA,enA,rfl,s1,s2,s3⟩:=ha
 obtain ⟨sgB,arB,enB,rfl,t1,t2,t3⟩:=hb
 have bA:=NetBox.of (N:=A) hw s1 s2 s3
 have k1:=Kept.new hw 4 [sgA,.int .i64 A.states,arA,enA]
 have bB:=NetBox.of (N:=B) k1.wf (t1.grow (k1.grow hw)) (t2.grow (k1.grow hw)) (t3.grow (k1.grow hw))
 have k2:=k1.news 4 [sgB,.int .i64 B.states,arB,enB]
 have bA2:=bA.new k1.wf 4 [sgB,.int .i64 B.states,arB,enB]
 simp only [↓Sh.dn,sx,Nat.reduceBEq,reduceCtorEq,Nat.reduceEqDiff,A0n s1.isCell s2.isCell s3.isCell,A0n t1.isCell t2.isCell t3.isCell,A2c]
 obtain ⟨H1,hH1⟩:∃ K,(H.new 4 [sgA,.int .i64 A.states,arA,enA]).2=K:=⟨_,rfl⟩
 simp only [hH1] at k1 bB bA k2 bA2 ⊢
 obtain ⟨H2,hH2⟩:∃ K,(H1.new 4 [sgB,.int .i64 B.states,arB,enB]).2=K:=⟨_,rfl⟩
 simp only [hH2] at bB k2 bA2 ⊢
 generalize H.next=gA at bA2 ⊢
 generalize H1.next=gB at bB ⊢
 have sl:Slot (H2.new 4 [.slice none 0 0,.int .i64 0,.slice none 0 0,.slice none 0 0]).2 H2.next:=Slot.new
 have k3:=k2.news 4 [.slice none 0 0,.int .i64 0,.slice none 0 0,.slice none 0 0]
 have bA3:=bA2.new k2.wf 4 [.slice none 0 0,.int .i64 0,.slice none 0 0,.slice none 0 0]
 have bB3:=bB.new k2.wf 4 [.slice none 0 0,.int .i64 0,.slice none 0 0,.slice none 0 0]
 have gol:H.next≤H2.next:=k2.next
 generalize H2.next=go at sl gol ⊢
 generalize (H2.new 4 [.slice none 0 0,.int .i64 0,.slice none 0 0,.slice none 0 0]).2=H3 at sl k3 bA3 bB3 ⊢
 clear bA bA2 bB k1 k2 hH1 hH2 H1 H2 s1 s2 s3 t1 t2 t3
 obtain ⟨H4,hb4,k4,tn4,n4⟩:=C8d k3.wf bA3.hsg bA3.har bA3.hen bB3.hsg bB3.har bB3.hen
 obtain ⟨r5,H5,hd5,k5,rfl⟩:=C2i tn4 hA hB k4.wf
 simp only [↓Sh.dn,sx,Nat.reduceBEq,reduceCtorEq,Nat.reduceEqDiff,bA3.c0,bA3.c1,bA3.c2,bA3.c3,bA3.ca,A3a bA3,A1a bA3,A2a bA3,bB3.c0,bB3.c1,bB3.c2,bB3.c3,bB3.ca,A3a bB3,A1a bB3,A2a bB3,Option.map_some,hb4]
 refine ⟨_,_,hd5,?_⟩
 have k35:=k4.trans k5
 have bA5:=bA3.kept k3.wf k35
 have bB5:=bB3.kept k3.wf k35
 by_cases hE:A1k A B=0
 case neg=>
  have e1:A7e A B=A1k A B:=by unfold A7e; rw [if_pos hE]
  obtain ⟨Hz,sz,cz,zz,_⟩:=sl.put k35 (a:=.slice none 0 0) (b:=.int .i64 0) (c:=.slice none 0 0) (d:=.slice none 0 0) rfl rfl rfl rfl
  simp only [↓Sh.dn,sx,Nat.reduceBEq,reduceCtorEq,Nat.reduceEqDiff,hE,decide_false,netZ,sz,hres,cz,Option.map_some,e1]
  exact JoinOut.bad ((k3.trans k35).then gol (zz.weak fun y hy=>by omega)) hE
 obtain ⟨hrA,hrB,hsg⟩:=B3b hE
 obtain ⟨okA,_,_⟩:=A6j hrA
 obtain ⟨okB,_,_⟩:=A6j hrB
 obtain ⟨ra,Ha,hda,ka,rfl⟩:=B28 bA5.netAt hA (k3.trans k35).wf
 have bB5a:=bB5.kept k5.wf ka
 have k35a:=k35.trans ka
 simp only [↓Sh.dn,sx,Nat.reduceBEq,reduceCtorEq,Nat.reduceEqDiff,hE,decide_true,bA5.c0,bA5.c1,bA5.c2,bA5.c3,bA5.ca,A3a bA5,A1a bA5,A2a bA5,Option.map_some]
 refine ⟨_,_,hda,?_⟩
 cases hsa:(A.arcs.any fun a=>!decide (a.inn=a.out)) with
 | true=>
  have e1:A7e A B=6:=by unfold A7e A5x; simp [hE,hsa]
  obtain ⟨Hz,sz,cz,zz,_⟩:=sl.put k35a (a:=.slice none 0 0) (b:=.int .i64 0) (c:=.slice none 0 0) (d:=.slice none 0 0) rfl rfl rfl rfl
  simp only [↓Sh.dn,sx,Nat.reduceBEq,reduceCtorEq,Nat.reduceEqDiff,netZ,sz,hres,cz,Option.map_some,e1]
  exact JoinOut.bad ((k3.trans k35a).then gol (zz.weak fun y hy=>by omega)) (by decide)
 | false=>
 obtain ⟨rb,Hb,hdb,kb,rfl⟩:=B28 bB5a.netAt hB (k3.trans k35a).wf
 have k35b:=k35a.trans kb
 have bA5b:=bA3.kept k3.wf k35b
 have bB5b:=bB3.kept k3.wf k35b
 simp only [↓Sh.dn,sx,Nat.reduceBEq,reduceCtorEq,Nat.reduceEqDiff,bB5a.c0,bB5a.c1,bB5a.c2,bB5a.c3,bB5a.ca,A3a bB5a,A1a bB5a,A2a bB5a,Option.map_some]
 refine ⟨_,_,hdb,?_⟩
 cases hsb:(B.arcs.any fun a=>!decide (a.inn=a.out)) with
 | true=>
  have e1:A7e A B=6:=by unfold A7e A5x; simp [hE,hsa,hsb]
  obtain ⟨Hz,sz,cz,zz,_⟩:=sl.put k35b (a:=.slice none 0 0) (b:=.int .i64 0) (c:=.slice none 0 0) (d:=.slice none 0 0) rfl rfl rfl rfl
  simp only [↓Sh.dn,sx,Nat.reduceBEq,reduceCtorEq,Nat.reduceEqDiff,netZ,sz,hres,cz,Option.map_some,e1]
  exact JoinOut.bad ((k3.trans k35b).then gol (zz.weak fun y hy=>by omega)) (by decide)
 | false=>
 have hla:=B4z (N:=A) hsa
 have hlb:=B4z (N:=B) hsb
 obtain ⟨H6,hb6,k6,tn6,n6⟩:=C8d k35b.wf bA5b.hsg bA5b.har bA5b.hen bB5b.hsg bB5b.har bB5b.hen
 obtain ⟨r7,H7,hd7,k7,rfl⟩:=relGreat tn6 okA okB k6.wf
 simp only [↓Sh.dn,sx,Nat.reduceBEq,reduceCtorEq,Nat.reduceEqDiff,bA5b.c0,bA5b.c1,bA5b.c2,bA5b.c3,bA5b.ca,A3a bA5b,A1a bA5b,A2a bA5b,bB5b.c0,bB5b.c1,bB5b.c2,bB5b.c3,bB5b.ca,A3a bB5b,A1a bB5b,A2a bB5b,Option.map_some,hb6]
 refine ⟨_,_,hd7,?_⟩
 have k37:=(k35b.trans k6).trans k7
 have bA7:=bA3.kept k3.wf k37
 have bB7:=bB3.kept k3.wf k37
 cases hg:B5e A B with
 | true=>
  have e1:A7e A B=3:=by unfold A7e A5x; simp [hE,hsa,hsb,hg]
  obtain ⟨Hz,sz,cz,zz,_⟩:=sl.put k37 (a:=.slice none 0 0) (b:=.int .i64 0) (c:=.slice none 0 0) (d:=.slice none 0 0) rfl rfl rfl rfl
  simp only [↓Sh.dn,sx,Nat.reduceBEq,reduceCtorEq,Nat.reduceEqDiff,netZ,sz,hres,cz,Option.map_some,e1]
  exact JoinOut.bad ((k3.trans k37).then gol (zz.weak fun y hy=>by omega)) (by decide)
 | false=>
 have e1:A7e A B=0:=by unfold A7e A5x; simp [hE,hsa,hsb,hg]
 simp only [↓Sh.dn,sx,Nat.reduceBEq,reduceCtorEq,Nat.reduceEqDiff]
 obtain ⟨rf,Hf,hdf,kf,rfl⟩:=relFirst k37.wf
 have bAf:=bA7.kept k37.wf kf
 obtain ⟨r8,H8,hd8,k8,g1,rfl,base1,hbase1,hG1⟩:=C4r bAf.netAt okA hA kf.wf
 rw [← A59 okA] at hG1
 have a1:=okA.st1
 have a2:=okA.st2
 have b1:=okB.st1
 have b2:=okB.st2
 obtain ⟨r9,H9,hd9,k9,g2,X2,rfl,hX2⟩:=B4u (n:=A.states.toNat) (fid:=68) fFst (hG1.own k8.wf) (fun e hw=>C1u hw) (A6o A) (A9p A) (A4q A) (by omega) (by omega) hA.sg (A6z hrA) k8.wf
 obtain ⟨rs,Hs,hds,ks,rfl⟩:=C3v k9.wf
 have kfs:=((kf.trans k8).trans k9).trans ks
 have bBs:=bB7.kept k37.wf kfs
 obtain ⟨r10,H10,hd10,k10,g3,rfl,base3,hbase3,hG3⟩:=C4r bBs.netAt okB hB ks.wf
 rw [← A59 okB] at hG3
 obtain ⟨r11,H11,hd11,k11,g4,X4,rfl,hX4⟩:=B4u (n:=B.states.toNat) (fid:=71) fSnd (hG3.own k10.wf) (fun e hw=>C8i hw) (A6o B) (A9p B) (A4q B) (by omega) (by omega) hB.sg (A6z hrB) k10.wf
 have hX2':=hX2.kept k9.wf ((ks.trans k10).trans k11)
 rw [← hsg] at hX4
 obtain ⟨r12,H12,hd12,k12,g,X,rfl,hX⟩:=C2h (n1:=A.states.toNat) (n2:=B.states.toNat) hX2' hX4 (by rw [A4u,A6o]) (A9p A) (A4q A) (by omega) (by omega) (by rw [A4u,A6o]) (A9p B) (A4q B) (by omega) (by omega) hA.sg (C5g (A6z hrA)) (C5g (A6z hrB)) k11.wf
 simp only [B5e,Bool.or_eq_false_iff,decide_eq_false_iff_not,Int.not_lt,Nat.not_lt] at hg
 have hEB:∀ r∈A0k B,∀ e∈r,e.1 < B.states.toNat∧e.2.1 < (A.sigma.length:Int)∧e.2.2.1 < (A.sigma.length:Int)∧e.2.2.2=0:=by rw [hsg]; exact A33 hrB
 have hm1:(-1:Int) < (A.sigma.length:Int):=by omega
 have hTA:=C6n (f:=fFst) (fun e h1 h2=>⟨h1,hm1⟩) (A33 hrA)
 have hTB:=C6n (f:=fSnd) (fun e h1 h2=>⟨hm1,h2⟩) hEB
 obtain ⟨o3,o4⟩:=chE_ok (sigma:=A.sigma) (ends1:=A2j A A.ends) (E1:=A7o fFst (A0k A)) (E2:=A7o fSnd (A0k B)) (costs1:=A7i A A.ends) (n1:=A.states.toNat) (n2:=B.states.toNat) (by rw [A4u,A6o]) (by omega) hTA hTB (A77 hrA) ((C5a _ _).trans (B6i hrA)) ((C5a _ _).trans (B6i hrB)) A.states.toNat (Nat.le_refl _)
 have hRO:B6j A.sigma (chE (A7o fFst (A0k A)) (A7o fSnd (A0k B)) (A2j A A.ends) (A7i A A.ends) A.states.toNat) (A1n (A2j A A.ends) (A2j B B.ends) A.states.toNat) (A7i A A.ends++A7i B B.ends) (A.states.toNat+B.states.toNat):=
  ⟨by rw [A97,A4u,A4u,A6o,A6o],by rw [A30,A9p,A9p],by rw [List.length_append,A4q,A4q],by omega,by omega,o3,by omega,B1s fun c hc=>by
   rcases List.mem_append.1 hc with h | h
   ·exact A77 hrA c h
   ·exact A77 hrB c h⟩
 obtain ⟨r13,H13,hd13,k13,M,hM,m1,m2,m3,m4,m5,m6⟩:=graphNet hX hRO.le hRO.ln hRO.lc hRO.n1 hRO.n2 hA.sg (fun r hr e he=>⟨(hRO.to r hr e he).1,(hRO.to r hr e he).2.1,(hRO.to r hr e he).2.2.1⟩) (by have:=hRO.sum; omega) k12.wf
 have hNO:C3k A.sigma (chE (A7o fFst (A0k A)) (A7o fSnd (A0k B)) (A2j A A.ends) (A7i A A.ends) A.states.toNat) (A1n (A2j A A.ends) (A2j B B.ends) A.states.toNat) (A7i A A.ends++A7i B B.ends) (A.states.toNat+B.states.toNat) M:=⟨m1,m2,m3,m4,m5,m6⟩
 have kf12:=((kfs.trans k10).trans k11).trans k12
 have k312:=k37.trans (kf12.trans k13)
 obtain ⟨⟨sgM,arM,enM,rfl,z1,z2,z3⟩⟩:=hM H13 fun y _=>rfl
 obtain ⟨H14,s14,c14,z14,x14⟩:=sl.put k312 z1.isCell (show isCell (.int .i64 M.states)=true from rfl) z2.isCell z3.isCell
 have hvqA:veq (.agg #[sgA,.int .i64 A.states,arA,enA]) (.agg #[sgA,.int .i64 A.states,arA,enA])=true:=A42 (by simp only [A7m,A1p,A4e,bA3.hsg.veq,bA3.har.veq,bA3.hen.veq,Bool.and_self])
 have hvqB:veq (.agg #[sgB,.int .i64 B.states,arB,enB]) (.agg #[sgB,.int .i64 B.states,arB,enB])=true:=A42 (by simp only [A7m,A1p,A4e,bB3.hsg.veq,bB3.har.veq,bB3.hen.veq,Bool.and_self])
 refine A5v (fl:=[(1,false),(5,false),(0,false),(2,false),(3,false),(4,false),(6,true),(7,true),(8,true),(9,true),(10,true),(11,true)]) (by kernel_rfl) (by kernel_rfl) k37.wf ?_
 simp only [↓Sh.dn,sx,Nat.reduceBEq,reduceCtorEq,Nat.reduceEqDiff,wpg,A80,isEff,A6c,isRead,A8h,A4e,A6h,A3f,A9d,forall_eq,forall_eq',bA7.c0,bA7.c1,bA7.c2,bA7.c3,bA7.ca,A3a bA7,A1a bA7,A2a bA7,bB7.c0,bB7.c1,bB7.c2,bB7.c3,bB7.ca,A3a bB7,A1a bB7,A2a bB7,bAf.c0,bAf.c1,bAf.c2,bAf.c3,bAf.ca,A3a bAf,A1a bAf,A2a bAf,bBs.c0,bBs.c1,bBs.c2,bBs.c3,bBs.ca,A3a bBs,A1a bBs,A2a bBs,Option.map_some,hvqA,hvqB]
 refine ⟨_,_,hdf,kf.wf,kf.grow k37.wf,?_⟩
 first | refine ⟨_,_,hd8,k8.wf,k8.grow kf.wf,?_⟩ | refine ⟨_,_,hd8,k8.wf,?_⟩
 first | refine ⟨_,_,hd9,k9.wf,k9.grow k8.wf,?_⟩ | refine ⟨_,_,hd9,k9.wf,?_⟩
 first | refine ⟨_,_,hds,ks.wf,ks.grow k9.wf,?_⟩ | refine ⟨_,_,hds,ks.wf,?_⟩
 first | refine ⟨_,_,hd10,k10.wf,k10.grow ks.wf,?_⟩ | refine ⟨_,_,hd10,k10.wf,?_⟩
 first | refine ⟨_,_,hd11,k11.wf,k11.grow k10.wf,?_⟩ | refine ⟨_,_,hd11,k11.wf,?_⟩
 refine ⟨_,_,hd12,k12.wf,?_⟩
 refine ⟨_,_,hd13,k13.wf,?_⟩
 simp only [↓Sh.dn,sx,Nat.reduceBEq,reduceCtorEq,Nat.reduceEqDiff,wpg,A80,isEff,A6c,isRead,A8h,A4e,A6h,A3f,A9d,forall_eq,forall_eq',s14,hres,c14,Option.map_some,z14.wf,e1]
 refine ⟨(k3.trans k312).then gol (z14.weak fun y hy=>by omega),_,rfl,fun h=>absurd rfl h,fun _=>⟨M,fun H15 h15=>hM H15 fun y hy=>(h15 y (by have:=sl.lt; have:=(k37.trans kf12).next; omega)).trans ?_,B45 hNO hRO hA.sg hA.sx,B9o hNO hRO okA.sig,m1,C4k hrA hrB hsg hla hlb rfl hNO hRO⟩⟩
 have hgl:=sl.lt
 have hn:=(k37.trans kf12).next
 by_cases hyl:y < H13.next
 ·exact z14.old y hyl (by omega)
 ·have q1:=B5a k13.wf (y:=y) (by omega)
  have q2:=B5a z14.wf (y:=y) (by omega)
  rw [q1,q2]
end Go.Proofs.YtnoengaghabmjaaGreatDoor
/- The law's join of kind Cross. -/
namespace Go.Proofs.YtnoengaghabmjaaGreatDoor
open Go Go.Proofs Go.Proofs.Sh
theorem C1s {H:AH} {va vb:Value} {A B:NetD} (ha:A3m H va A) (hb:A3m H vb B) (hA:A5c A) (hB:A5c B) (hw:Wf H):
  Sh.Call Tryz.prog (knows 8) 11 [va,vb,.int .i64 0] H (fun r H'=>JoinOut H H' A.sigma (A7e A B) (fun x y=>A5m A x∧A5m B y) r):=by
 refine A5a rfl Tryz.func11 rfl (Nat.le_of_ble_eq_true rfl) ?_
 have hres:Tryz.f11.results.toList=[.cell 6 26,.tmp 7]:=rfl
 obtain ⟨sgA,arA,enA,rfl,s1,s2,s3⟩:=ha
 obtain ⟨sgB,arB,enB,rfl,t1,t2,t3⟩:=hb
 have bA:=NetBox.of (N:=A) hw s1 s2 s3
 have k1:=Kept.new hw 4 [sgA,.int .i64 A.states,arA,enA]
 have bB:=NetBox.of (N:=B) k1.wf (t1.grow (k1.grow hw)) (t2.grow (k1.grow hw)) (t3.grow (k1.grow hw))
 have k2:=k1.news 4 [sgB,.int .i64 B.states,arB,enB]
 have bA2:=bA.new k1.wf 4 [sgB,.int .i64 B.states,arB,enB]
 simp only [↓Sh.dn,sx,Nat.reduceBEq,reduceCtorEq,Nat.reduceEqDiff,A0n s1.isCell s2.isCell s3.isCell,A0n t1.isCell t2.isCell t3.isCell,A2c]
 obtain ⟨H1,hH1⟩:∃ K,(H.new 4 [sgA,.int .i64 A.states,arA,enA]).2=K:=⟨_,rfl⟩
 simp only [hH1] at k1 bB bA k2 bA2 ⊢
 obtain ⟨H2,hH2⟩:∃ K,(H1.new 4 [sgB,.int .i64 B.states,arB,enB]).2=K:=⟨_,rfl⟩
 simp only [hH2] at bB k2 bA2 ⊢
 generalize H.next=gA at bA2 ⊢
 generalize H1.next=gB at bB ⊢
 have sl:Slot (H2.new 4 [.slice none 0 0,.int .i64 0,.slice none 0 0,.slice none 0 0]).2 H2.next:=Slot.new
 have k3:=k2.news 4 [.slice none 0 0,.int .i64 0,.slice none 0 0,.slice none 0 0]
 have bA3:=bA2.new k2.wf 4 [.slice none 0 0,.int .i64 0,.slice none 0 0,.slice none 0 0]
 have bB3:=bB.new k2.wf 4 [.slice none 0 0,.int .i64 0,.slice none 0 0,.slice none 0 0]
 have gol:H.next≤H2.next:=k2.next
 generalize H2.next=go at sl gol ⊢
 generalize (H2.new 4 [.slice none 0 0,.int .i64 0,.slice none 0 0,.slice none 0 0]).2=H3 at sl k3 bA3 bB3 ⊢
 clear bA bA2 bB k1 k2 hH1 hH2 H1 H2 s1 s2 s3 t1 t2 t3
 obtain ⟨r4,H4,hd4,k4,mv,rfl,hbad,hok⟩:=relCross bA3.netAt bB3.netAt hA hB k3.wf
 simp only [↓Sh.dn,sx,Nat.reduceBEq,reduceCtorEq,Nat.reduceEqDiff,bA3.c0,bA3.c1,bA3.c2,bA3.c3,bA3.ca,A3a bA3,A1a bA3,A2a bA3,bB3.c0,bB3.c1,bB3.c2,bB3.c3,bB3.ca,A3a bB3,A1a bB3,A2a bB3,Option.map_some,eq_self,decide_true,decide_false]
 refine ⟨_,_,hd4,?_⟩
 have hgl:=sl.lt
 by_cases hE:A7e A B=0
 case neg=>
  have hz:=hbad hE
  unfold A66 at hz
  subst hz
  obtain ⟨Hz,sz,cz,zz,_⟩:=sl.put k4 (a:=.slice none 0 0) (b:=.int .i64 0) (c:=.slice none 0 0) (d:=.slice none 0 0) rfl rfl rfl rfl
  simp only [↓Sh.dn,sx,Nat.reduceBEq,reduceCtorEq,Nat.reduceEqDiff,sz,hres,cz,Option.map_some]
  exact JoinOut.bad ((k3.trans k4).then gol (zz.weak fun y hy=>by omega)) hE
 obtain ⟨M,hM,m1,m2,m3,m4⟩:=hok hE
 obtain ⟨⟨sgM,arM,enM,rfl,z1,z2,z3⟩⟩:=hM H4 fun _ _=>rfl
 obtain ⟨H5,s5,c5,z5,x5⟩:=sl.put k4 z1.isCell (show isCell (.int .i64 M.states)=true from rfl) z2.isCell z3.isCell
 simp only [↓Sh.dn,sx,Nat.reduceBEq,reduceCtorEq,Nat.reduceEqDiff,s5,hres,c5,Option.map_some]
 refine ⟨(k3.trans k4).then gol (z5.weak fun y hy=>by omega),_,rfl,fun h=>absurd hE h,fun _=>⟨M,fun H6 h6=>hM H6 fun y hy=>(h6 y (by have:=k3.next; omega)).trans ?_,m1,m2,m3,m4⟩⟩
 by_cases hyl:y < H4.next
 ·exact z5.old y hyl (by omega)
 ·have q1:=B5a k4.wf (y:=y) (by omega)
  have q2:=B5a z5.wf (y:=y) (by omega)
  rw [q1,q2]
end Go.Proofs.YtnoengaghabmjaaGreatDoor
/- The reference's Made of kind Cross. -/
namespace Go.Proofs.YtnoengaghabmjaaGreatDoor
open Go Go.Proofs Go.Proofs.Sh
theorem refMade0 {H:AH} {va vb ux uy:Value} {A B:NetD} {x y:List ByteArray} (ha:A3m H va A) (hb:A3m H vb B) (hA:A5c A) (hB:A5c B) (okA:A0o A) (okB:A0o B) (hx:Sl H ux 1 (x.map A2b)) (hy:Sl H uy 1 (y.map A2b)) (hxl:x.length≤400) (hyl:y.length≤400) (hw:Wf H):
  Sh.Call Tryz.prog (knows 8) 16 [va,vb,.int .i64 0,ux,uy] H (fun r H'=>Kept H H'∧r=.bool (tB (A5m A x∧A5m B y))):=by
 refine A5a rfl Tryz.func16 rfl (Nat.le_of_ble_eq_true rfl) ?_
 have hres:Tryz.f16.results.toList=[.tmp 10]:=rfl
 obtain ⟨sgA,arA,enA,rfl,s1,s2,s3⟩:=ha
 obtain ⟨sgB,arB,enB,rfl,t1,t2,t3⟩:=hb
 have bA:=NetBox.of (N:=A) hw s1 s2 s3
 have k1:=Kept.new hw 4 [sgA,.int .i64 A.states,arA,enA]
 have bB:=NetBox.of (N:=B) k1.wf (t1.grow (k1.grow hw)) (t2.grow (k1.grow hw)) (t3.grow (k1.grow hw))
 have k2:=k1.news 4 [sgB,.int .i64 B.states,arB,enB]
 have bA2:=bA.new k1.wf 4 [sgB,.int .i64 B.states,arB,enB]
 simp only [↓Sh.dn,sx,Nat.reduceBEq,reduceCtorEq,Nat.reduceEqDiff,A0n s1.isCell s2.isCell s3.isCell,A0n t1.isCell t2.isCell t3.isCell]
 obtain ⟨H1,hH1⟩:∃ K,(H.new 4 [sgA,.int .i64 A.states,arA,enA]).2=K:=⟨_,rfl⟩
 simp only [hH1] at k1 bB bA k2 bA2 ⊢
 obtain ⟨H2,hH2⟩:∃ K,(H1.new 4 [sgB,.int .i64 B.states,arB,enB]).2=K:=⟨_,rfl⟩
 simp only [hH2] at bB k2 bA2 ⊢
 generalize H.next=gA at bA2 ⊢
 generalize H1.next=gB at bB ⊢
 obtain ⟨r3,H3,hd3,k3,rfl⟩:=C8f bA2.netAt okA hA (hx.grow (k2.grow hw)) (by omega) k2.wf
 have bB3:=bB.kept k2.wf k3
 have k23:=k2.trans k3
 obtain ⟨r4,H4,hd4,k4,rfl⟩:=C8f bB3.netAt okB hB (hy.grow (k23.grow hw)) (by omega) k23.wf
 simp only [↓Sh.dn,sx,Nat.reduceBEq,reduceCtorEq,Nat.reduceEqDiff,bA2.c0,bA2.c1,bA2.c2,bA2.c3,bA2.ca,A3a bA2,A1a bA2,A2a bA2,Option.map_some,eq_self,decide_true]
 refine ⟨_,_,hd3,?_⟩
 cases hp:tB (A5m A x) with
 | false=>
  have e:tB (A5m A x∧A5m B y)=false:=by
   cases h:tB (A5m A x∧A5m B y) with
   | false=>rfl
   | true=>rw [A72.2 (A72.1 h).1] at hp; cases hp
  simp only [↓Sh.dn,sx,Nat.reduceBEq,reduceCtorEq,Nat.reduceEqDiff,hres,e]
  exact k23
 | true=>
  have e:tB (A5m A x∧A5m B y)=tB (A5m B y):=by
   rw [Bool.eq_iff_iff,A72,A72]
   exact ⟨fun h=>h.2,fun h=>⟨A72.1 hp,h⟩⟩
  simp only [↓Sh.dn,sx,Nat.reduceBEq,reduceCtorEq,Nat.reduceEqDiff,bB3.c0,bB3.c1,bB3.c2,bB3.c3,bB3.ca,A3a bB3,A1a bB3,A2a bB3,Option.map_some]
  refine ⟨_,_,hd4,?_⟩
  simp only [↓Sh.dn,sx,Nat.reduceBEq,reduceCtorEq,Nat.reduceEqDiff,hres,e]
  exact k23.trans k4
end Go.Proofs.YtnoengaghabmjaaGreatDoor
/- For every two nets, of any kind, and every two lists of texts: what rel.Cross makes holds the pair of both lists just if the first net has the first list above and the second one has the second list above, or the error is the reference's. -/
namespace Go.Proofs.YtnoengaghabmjaaGreatDoor
open Go Go.Proofs Go.Proofs.Sh
theorem B1c {A B:NetD} (h:A7e A B=0):A0o A∧A0o B:=by
 unfold A7e at h
 split at h
 ·rename_i h1; exact absurd h h1
 ·rename_i h1
  obtain ⟨h2,h3,_⟩:=B3b (A:=A) (B:=B) (by simpa using h1)
  exact ⟨(A6j h2).1,(A6j h3).1⟩
theorem B8o {H:AH} {A B:NetD} {x y:List ByteArray} {sgA arA enA sgB arB enB ux uy:Value} (h:TwoAt H A B x y sgA arA enA sgB arB enB ux uy) (hA:A5c A) (hB:A5c B) (hxl:x.length≤1048576) (hyl:y.length≤1048576) (hw:Wf H):
  Sh.Call Tryz.prog (knows 8) 3 [.agg (twoV A B sgA arA enA sgB arB enB ux uy).toArray] H (fun r _=>r=.bool true):=by
 refine A5a rfl Tryz.func3 rfl (Nat.le_of_ble_eq_true rfl) ?_
 have hres:Tryz.f3.results.toList=[.tmp 2]:=rfl
 have t1:=TBox.new h hw
 have k1:Kept H (H.new 10 (twoV A B sgA arA enA sgB arB enB ux uy)).2:=Kept.new hw 10 _
 simp only [↓Sh.dn,sx,Nat.reduceBEq,reduceCtorEq,Nat.reduceEqDiff,twoNew h]
 generalize H.next=g at t1 ⊢
 generalize (H.new 10 (twoV A B sgA arA enA sgB arB enB ux uy)).2=H1 at t1 k1 ⊢
 obtain ⟨r2,H2,hd2,k2,rfl⟩:=C1y (kd:=0) (err:=A7e A B) (P:=fun x y=>A5m A x∧A5m B y) (fun ha hb hw=>C1s ha hb hA hB hw) (fun ha hb hw=>C2v ha hb hA hB hw)
  (fun hE {_ _ _ _ _} ha hb hx hy h1 h2 hw=>refMade0 ha hb hA hB (B1c hE).1 (B1c hE).2 hx hy h1 h2 hw) t1.at' hA hB hxl hyl k1.wf
 obtain ⟨r3,H3,hd3,rfl,rfl⟩:=A6x (H:=H2)
 simp only [↓Sh.dn,sx,Nat.reduceBEq,reduceCtorEq,Nat.reduceEqDiff,t1.cT,Option.map_some]
 refine ⟨_,_,hd2,?_⟩
 simp only [↓Sh.dn,sx,Nat.reduceBEq,reduceCtorEq,Nat.reduceEqDiff]
 refine ⟨_,_,hd3,?_⟩
 simp only [↓Sh.dn,sx,Nat.reduceBEq,reduceCtorEq,Nat.reduceEqDiff,hres]
theorem lawMain {H:AH} {avs:List Value} {K:Type} {ds:List (DataW K)} (hb:Rows.uptoBulkAll ds≤1048576) (hw:Wf H) (hr:RDs Tryz.prog H [28] avs ds) (hfl:Flat Tryz.prog [28] avs):
  Sh.Call Tryz.prog (knows 8) 3 avs H (fun r _=>r=.bool true):=by
 obtain ⟨v,vs,d,ds,rfl,rfl,⟨f,h1⟩,h2⟩:=hr.cons_inv
 obtain ⟨rfl,rfl⟩:=h2.nil_inv
 simp only [Rows.uptoBulkAll,Nat.add_zero] at hb
 obtain ⟨A,B,x,y,_,_,_,_,_,_,_,_,rfl,h,hA,hB,hxl,hyl⟩:=two_in h1 (by omega)
 exact B8o h hA hB hxl hyl hw
end Go.Proofs.YtnoengaghabmjaaGreatDoor
/- A start at which the variables hold what is laid. -/
namespace Go.Proofs.YtnoengaghabmjaaGreatDoor
open Go Go.Proofs
def laidL:List (String×DataW Unit):=[("math/bits.deBruijn32tab",Rows.laid_math_bits_deBruijn32tab),("math/bits.deBruijn64tab",Rows.laid_math_bits_deBruijn64tab),("internal/strconv.uint64pow10",Rows.laid_internal_strconv_uint64pow10)]
def litsOf:DataW Unit→List Value
 | .agg ds=>ds.map fun d=>match d with
  | .lit (.int k n)=>.int k n
  | _=>.bool false
 | _=>[]
noncomputable def gAt (n:String):Nat:=(Tryz.prog.globalNamed n).getD 0
noncomputable def laidWorld (os:Os):World:=
 let w0:=World.holding Tryz.prog os ⟨#[],#[],[]⟩
 let put (h:Array Obj) (x:String×DataW Unit):Array Obj:=h.modify (gAt x.1) fun
  | .cells _ t frozen=>.cells (litsOf x.2).toArray t frozen
  | o=>o
 { w0 with heap:=laidL.foldl put w0.heap }
theorem laid_met (os:Os) (args:Array Value):laidMetH Tryz.prog laidL ((laidWorld os).forCall (fun _ _=>0) ⟨#[],args,[]⟩).memory:=by
 have h:LaidIn Tryz.prog ((laidWorld os).forCall (fun _ _=>0) ⟨#[],args,[]⟩).memory laidL (laidL.map fun x=>gAt x.1):=LaidIn.of_run _ 8 (by kernel_rfl) (by kernel_rfl) (by kernel_rfl) (by kernel_rfl)
 exact h.met
end Go.Proofs.YtnoengaghabmjaaGreatDoor
