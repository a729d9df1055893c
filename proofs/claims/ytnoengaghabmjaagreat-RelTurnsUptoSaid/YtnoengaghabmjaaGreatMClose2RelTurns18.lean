/- A part of the proof: TrimPair, RefGraph, CmpLessInt, InsSortInt, SortSmallInt, BitsLen, BreakPatInt, HeapSortInt, PartitionInt, PartInsInt, PdqInt, SortIntsInt, SortInts, RefClose, RefRun, RefAbove. -/
import Derived.Test.YtnoengaghabmjaaGreatMClose2RelTurns16
import Derived.Test.YtnoengaghabmjaaGreatMClose2RelTurns10
import Derived.Test.YtnoengaghabmjaaGreatMClose2RelTurns14
import Derived.Test.YtnoengaghabmjaaGreatMClose2RelTurns17
import Derived.Test.YtnoengaghabmjaaGreatMClose2RelTurns8
import Derived.Test.YtnoengaghabmjaaGreatMClose2RelTurns2
import Derived.Test.YtnoengaghabmjaaGreatMClose2RelTurns1
import Derived.Test.YtnoengaghabmjaaGreatMClose2RelTurns4
import Derived.Test.YtnoengaghabmjaaGreatMClose2RelTurns13
set_option linter.unusedVariables false
set_option linter.unusedSimpArgs false
/- A trimmed graph as a relation. -/
set_option maxHeartbeats 4000000
set_option maxRecDepth 20000
set_option linter.unusedSimpArgs false
set_option linter.unusedVariables false
namespace Go.Proofs.YtnoengaghabmjaaGreat
open Go Go.Proofs Go.Proofs.Sh
theorem C10 {E:List (List GE)} {s t:Nat}:A3t E (fun _=>True) s t↔∃ a b,A0n E s a b t:=by
 unfold A3t A0n
 constructor
 ·rintro ⟨r,h1,e,h2,h3,_⟩; exact ⟨_,_,r,h1,e,h2,h3,rfl,rfl⟩
 ·rintro ⟨a,b,r,h1,e,h2,h3,_⟩; exact ⟨r,h1,e,h2,h3,trivial⟩
theorem TrimI.rel {E:List (List GE)} {ends:List Int} {U:List Bool} {n:Nat} {R:List (List GE)} {es:List Int} (h:TrimI E ends U (1+A0k U n) n R es) (hE:E.length=n) (hU:U.length=n) (hto:∀ r∈E,∀ e∈r,e.1 < n) (hu:∀ t:Nat,U[t]?=some true↔A84 E ends t):
  TrimR (A0n E) (A0n R) (fun s=>U[s]?=some true) (numU U) (endP ends) (endP es):=by
 have hlt:∀ s,U[s]?=some true→s < n:=fun s hs=>by rw [← hU]; exact (List.getElem?_eq_some_iff.1 hs).1
 refine ⟨fun x a b y=>?_,fun a=>?_,B7h U,fun s t hs ht he=>B4d hs ht he,fun s=>?_⟩
 ·constructor
  ·rintro ⟨r',h1,e',h2,h3,h4,h5⟩
   by_cases hex:∃ s,U[s]?=some true∧numU U s=x
   ·obtain ⟨s,hs,rfl⟩:=hex
    have hsn:=hlt s hs
    have hr:E[s]?=some (E[s]'(by rw [hE]; exact hsn)):=List.getElem?_eq_getElem _
    generalize E[s]'(by rw [hE]; exact hsn)=r at hr
    rw [h.row s r hsn hs hr] at h1
    rw [← Option.some.inj h1] at h2
    obtain ⟨e,h6,h7⟩:=List.mem_map.1 h2
    obtain ⟨h8,h9⟩:=List.mem_filter.1 h6
    subst h7
    exact ⟨s,e.1,hs,of_decide_eq_true h9,rfl,h3.symm,r,hr,e,h8,rfl,h4,h5⟩
   ·have ha:x < 1+A0k U n:=by rw [← h.lr]; exact (List.getElem?_eq_some_iff.1 h1).1
    rw [h.non x ha fun s _ hs he=>hex ⟨s,hs,he⟩] at h1
    rw [← Option.some.inj h1] at h2
    cases h2
  ·rintro ⟨s,t,hs,ht,rfl,rfl,r,h1,e,h2,h3,h4⟩
   refine ⟨_,h.row s r (hlt s hs) hs h1,(numU U e.1,e.2),List.mem_map.2 ⟨e,List.mem_filter.2 ⟨h2,decide_eq_true (by rw [h3]; exact ht)⟩,rfl⟩,by rw [h3],h4⟩
 ·unfold endP
  constructor
  ·intro ha
   by_cases hex:∃ s,U[s]?=some true∧numU U s=a
   ·obtain ⟨s,hs,rfl⟩:=hex
    exact ⟨s,hs,rfl,by rw [← h.fin s (hlt s hs) hs]; exact ha⟩
   ·rw [h.nof a fun s _ hs he=>hex ⟨s,hs,he⟩] at ha
    exact absurd ha (Int.lt_irrefl 0)
  ·rintro ⟨s,hs,rfl,h1⟩
   rw [h.fin s (hlt s hs) hs]; exact h1
 ·rw [hu]
  unfold A84
  have e1:(A3t E fun _=>True)=fun s t=>∃ a b,A0n E s a b t:=funext fun s=>funext fun t=>propext C10
  rw [e1]
  rfl
theorem TrimI.ok {E:List (List GE)} {ends:List Int} {U:List Bool} {n:Nat} {R:List (List GE)} {es:List Int} (h:TrimI E ends U (1+A0k U n) n R es) (hE:E.length=n) (hU:U.length=n) {m:Int} {Q:Int×Int×Int→Prop} (hto:∀ r∈E,∀ e∈r,e.1 < n∧Q e.2):∀ r∈R,∀ e∈r,e.1 < 1+A0k U n∧Q e.2:=by
 have hk:∃ k,∀ r∈E,r.length≤k:=by
  clear h hE hU hto
  induction E with
  | nil=>exact ⟨0,fun r hr=>by cases hr⟩
  | cons q E ih=>
   obtain ⟨k,hk⟩:=ih
   refine ⟨k+q.length,fun r hr=>?_⟩
   rcases List.mem_cons.1 hr with h | h
   ·rw [h]; omega
   ·have:=hk r h; omega
 obtain ⟨k,hk⟩:=hk
 intro r hr
 obtain ⟨s,hs⟩:=List.mem_iff_getElem?.1 hr
 exact (h.to hE hU (k:=k) (fun s r hr=>⟨hk r (List.mem_of_getElem? hr),hto r (List.mem_of_getElem? hr)⟩) s r hs).2
theorem TrimI.sumAll {E:List (List GE)} {ends:List Int} {U:List Bool} {n m:Nat} {R:List (List GE)} {es:List Int} (h:TrimI E ends U m n R es) (hE:E.length=n):(R.map List.length).sum≤(E.map List.length).sum:=by
 have:=h.sum
 rwa [List.take_of_length_le (by omega)] at this
end Go.Proofs.YtnoengaghabmjaaGreat
/- The reference's graph: made of a net. -/
namespace Go.Proofs.YtnoengaghabmjaaGreat
open Go Go.Proofs Go.Proofs.Sh
theorem B07 {H:AH}:anew Tryz.prog 68 H (.agg #[.int .i64 0,.slice none 0 0,.slice none 0 0])=some (.pointer (some ⟨H.next,0,some 0⟩),(H.new 3 [.int .i64 0,.slice none 0 0,.slice none 0 0]).2):=A4o (vs:=[.int .i64 0,.slice none 0 0,.slice none 0 0]) B4u rfl rfl
theorem B4x {H:AH} {ev bv:Value} (he:isCell ev=true) (hb:isCell bv=true):anew Tryz.prog 68 H (.agg #[.int .i64 0,ev,bv])=some (.pointer (some ⟨H.next,0,some 0⟩),(H.new 3 [.int .i64 0,ev,bv]).2):=
 A4o (vs:=[.int .i64 0,ev,bv]) B4u rfl (by simp [he,hb,show isCell (.int .i64 0)=true from rfl])
theorem B7w {H:AH} {ev bv:Value} {p:Addr} (he:isCell ev=true) (hb:isCell bv=true):A4f Tryz.prog 68 H (.agg #[.int .i64 0,ev,bv]) (.pointer (some p))=H.write p [.int .i64 0,ev,bv]:=
 A7p (vs:=[.int .i64 0,ev,bv]) B4u rfl (by simp [he,hb,show isCell (.int .i64 0)=true from rfl])
theorem C76 {H:AH} {a b c x y z:Value}:(H.new 3 [a,b,c]).2.write ⟨H.next,0,some 0⟩ [x,y,z]=some (H.new 3 [x,y,z]).2:=A4p rfl
theorem C8k {H:AH}:anew Tryz.prog 107 H (.agg #[.string ⟨#[]⟩,.int .i64 0])=some (.pointer (some ⟨H.next,0,some 0⟩),(H.new 2 [.string ⟨#[]⟩,.int .i64 0]).2):=A4o (vs:=[.string ⟨#[]⟩,.int .i64 0]) A5t rfl rfl
theorem B3t {H:AH} {e:ByteArray×Nat} {p:Addr}:A4f Tryz.prog 107 H (.agg (A3l e).toArray) (.pointer (some p))=H.write p (A3l e):=A7p A5t rfl rfl
theorem C6f {H:AH} {e:ByteArray×Nat} {x0 x1:Value}:(H.new 2 [x0,x1]).2.write ⟨H.next,0,some 0⟩ (A3l e)=some (H.new 2 (A3l e)).2:=A4p rfl
theorem re0 {H:AH} {e:ByteArray×Nat}:(H.new 2 (A3l e)).2.cell ⟨H.next,0,some 0⟩=some (.string e.1):=A9i _ _ _
theorem re1 {H:AH} {e:ByteArray×Nat}:(H.new 2 (A3l e)).2.cell ⟨H.next,1,some 0⟩=some (.int .i64 (e.2:Int)):=A9i _ _ _
theorem rgOut {H:AH} (hw:Wf H) {ev bv:Value} {g:Nat} (x y z:Value) (h:Sh.Obj H g 3 [x,y,z] true) (he:isCell ev=true) (hb:isCell bv=true):∃ H',A4f Tryz.prog 68 H (.agg #[.int .i64 0,ev,bv]) (.pointer (some ⟨g,0,some 0⟩))=some H'∧Sh.Obj H' g 3 [.int .i64 0,ev,bv] true∧Chg (fun y=>y=g) H H':=by
 obtain ⟨H',h1,h2,h3,h4⟩:=h.arr.write hw (i:=0) (vs:=[.int .i64 0,ev,bv]) (by simp)
 have ho:Sh.Obj H' g 3 [.int .i64 0,ev,bv] true:=by
  obtain ⟨H2,k1,k2,_⟩:=Sh.Obj.write h (i:=0) (vs:=[.int .i64 0,ev,bv]) (by simp)
  rw [h1] at k1
  injection k1 with k1
  subst k1
  exact k2
 exact ⟨H',by rw [B7w he hb]; exact h1,ho,h4.weak fun _ h=>h⟩
theorem newGraph {H:AH} {n:Nat} (hn:n≤1048576) (hw:Wf H):
  Sh.Call Tryz.prog (knows 10) 81 [.int .i64 (n:Int)] H (fun r H'=>Kept H H'∧∃ ev bv,r=.agg #[.int .i64 0,ev,bv]∧∃ g1,H.next≤g1∧∃ g2,g1 < g2∧Jag H' ev (if n=0 then none else some g1) 2 (List.replicate n (.slice none 0 0)) (List.replicate n []) (List.replicate n none)∧Buf H' 1 bv (List.replicate n [.bool false]) (if n=0 then none else some g2)):=by
 refine A4a rfl Tryz.func81 rfl (Nat.le_of_ble_eq_true rfl) ?_
 have hres:Tryz.f81.results.toList=[.cell 2 68]:=rfl
 simp only [↓Sh.dn,sx,Nat.reduceBEq,reduceCtorEq,Nat.reduceEqDiff,B07]
 have k0:=Kept.new hw 3 [.int .i64 0,.slice none 0 0,.slice none 0 0]
 have o0:=Sh.Obj.new (H:=H) 3 [.int .i64 0,.slice none 0 0,.slice none 0 0]
 have x0:H.next < (H.new 3 [.int .i64 0,.slice none 0 0,.slice none 0 0]).2.next:=Nat.lt_succ_self _
 generalize (H.new 3 [.int .i64 0,.slice none 0 0,.slice none 0 0]).2=H0 at k0 o0 x0 ⊢
 have m1:=mk_65 (H:=H0) (l:=n) (c:=n) (Nat.le_refl _) (by omega)
 have k1:=Kept.new k0.wf 1 (List.replicate n (.slice none 0 0))
 have jg:=Jag.make k0.wf 2 (n:=n) (by omega)
 have o1:=B2y (H:=H0) (n:=n) (z:=.slice none 0 0) rfl
 have x1:H0.next < (H0.new 1 (List.replicate n (.slice none 0 0))).2.next:=Nat.lt_succ_self _
 generalize (H0.new 1 (List.replicate n (.slice none 0 0))).2=K1 at m1 k1 jg o1 x1 ⊢
 have m2:=C31 (H:=K1) (l:=n) (c:=n) (Nat.le_refl _) (by omega)
 have k2:=Kept.new k1.wf 1 (List.replicate n (.bool false))
 have f2:=Buf.fill k1.wf (.bool false) (c:=n) (by omega)
 have o2:=B2y (H:=K1) (n:=n) (z:=.bool false) rfl
 generalize (K1.new 1 (List.replicate n (.bool false))).2=K2 at m2 k2 f2 o2 ⊢
 have bq:A2m Tryz.prog 68 [(1,.slice (some ⟨H0.next,0,some 0⟩) n n),(2,.slice (some ⟨K1.next,0,some 0⟩) n n)]=some (.agg #[.int .i64 0,.slice (some ⟨H0.next,0,some 0⟩) n n,.slice (some ⟨K1.next,0,some 0⟩) n n]):=by
  have va:∀ xs:Array Value,A0b (.agg xs)=xs.toList:=fun _=>rfl
  refine A0i (pl:=[(0,1),(1,1),(2,1)]) Tryz.underlying68 B78 (by kernel_rfl) ?_
  simp [A5u,va,A0b,isCell,setCells,A8a,A3c]
 have o0':Sh.Obj K2 H.next 3 [.int .i64 0,.slice none 0 0,.slice none 0 0] true:=by
  unfold Sh.Obj at o0 ⊢
  rw [(k1.trans k2).old H.next x0]; exact o0
 obtain ⟨K3,st,o3,c3⟩:=rgOut (ev:=.slice (some ⟨H0.next,0,some 0⟩) n n) (bv:=.slice (some ⟨K1.next,0,some 0⟩) n n) k2.wf _ _ _ o0' rfl rfl
 have k012:=(k0.trans k1).trans k2
 have c3':=o3.cells (i:=0) (n:=3) (by simp)
 refine A6o (fl:=[(0,true),(1,false),(2,true),(3,false),(4,true),(5,true)]) (by kernel_rfl) (by kernel_rfl) k0.wf ?_
 simp only [↓Sh.dn,sx,Nat.reduceBEq,reduceCtorEq,Nat.reduceEqDiff,wpg,A4q,isEff,A9b,isRead,A3e,A1c,A4e,A6c,A6b,forall_eq,forall_eq',m1,m2,bq,st,k1.wf,k2.wf,hres,c3',Option.map_some,List.drop_zero,List.take_succ_cons,List.take_zero]
 have j1:=(jg.kept k1.wf k2).chg k2.wf c3 (fun y hy e=>by
  subst e
  have:∀ y,JIn (if n=0 then none else some H0.next) (List.replicate n none) y→y=H0.next:=by
   rintro y (h | ⟨i,h⟩)
   ·by_cases h0:n=0
    ·rw [if_pos h0] at h; cases h
    ·rw [if_neg h0] at h; exact (Option.some.inj h).symm
   ·rw [List.getElem?_replicate] at h
    split at h <;> cases h
  have:=this _ hy
  omega)
 have b1:=f2.chg k2.wf c3 (fun y hy e=>by
  subst e
  by_cases h0:n=0
  ·rw [if_pos h0] at hy; cases hy
  ·rw [if_neg h0] at hy; have:=Option.some.inj hy; omega)
 exact ⟨o1,o2,c3.wf,k012.then (Nat.le_refl _) (c3.weak fun y hy=>by omega),_,_,rfl,H0.next,Nat.le_of_lt x0,K1.next,x1,j1,b1⟩
def B0s (N:NetD) (l:List ArcD):List (List (List Value)):=rowsOf ArcD.fr (fun a=>A3l (a.inn,a.to.toNat)) N.states.toNat l
theorem B4m {H:AH} {v:Value} {N:NetD} (h:A4h H v N) (hok:A1k N) (hsm:A3b N) (hw:Wf H):
  Sh.Call Tryz.prog (knows 10) 60 [v] H (fun r H'=>Kept H H'∧∃ ev bv vals,RG H' r N.states.toNat (A6x N) (marksOf EndD.state N.states.toNat N.ends) ev bv vals):=by
 refine A4a rfl Tryz.func60 rfl (Nat.le_of_ble_eq_true rfl) ?_
 have hres:Tryz.f60.results.toList=[.cell 2 68]:=rfl
 obtain ⟨sg,ar,en,rfl,hsg,har,hen⟩:=h
 have hb1:=NetBox.of (N:=N) hw hsg har hen
 have hk1:Kept H (H.new 4 [sg,.int .i64 N.states,ar,en]).2:=Kept.new hw 4 _
 have h1:=hok.st1
 have h2:=hok.st2
 obtain ⟨n,hn⟩:∃ n:Nat,N.states=(n:Int):=⟨N.states.toNat,by omega⟩
 have hnn:N.states.toNat=n:=by omega
 simp only [↓Sh.dn,sx,Nat.reduceBEq,reduceCtorEq,Nat.reduceEqDiff,A1g hsg.isCell har.isCell hen.isCell,B07]
 have hnx:H.next < (H.new 4 [sg,.int .i64 N.states,ar,en]).2.next:=Nat.lt_succ_self _
 have e0:∀ y,(H.new 4 [sg,.int .i64 N.states,ar,en]).2.next≤y→H.next≤y:=fun y hy=>Nat.le_trans (Nat.le_succ _) hy
 generalize H.next=gg at hb1 hnx ⊢
 generalize (H.new 4 [sg,.int .i64 N.states,ar,en]).2=H1 at hb1 hk1 hnx e0 ⊢
 have hb2:=hb1.new hk1.wf 3 [.int .i64 0,.slice none 0 0,.slice none 0 0]
 have hk2:=hk1.news 3 [.int .i64 0,.slice none 0 0,.slice none 0 0]
 have o0:=Sh.Obj.new (H:=H1) 3 [.int .i64 0,.slice none 0 0,.slice none 0 0]
 have x2:H1.next < (H1.new 3 [.int .i64 0,.slice none 0 0,.slice none 0 0]).2.next:=Nat.lt_succ_self _
 generalize H1.next=go at o0 x2 e0 ⊢
 generalize (H1.new 3 [.int .i64 0,.slice none 0 0,.slice none 0 0]).2=H2 at hb2 hk2 o0 x2 ⊢
 obtain ⟨r,H3,hd3,hk3,ev,bv,rfl,g1,hg1,g2,hg2,hj,hbf⟩:=newGraph (n:=n) (by omega) hk2.wf
 simp only [↓Sh.dn,sx,Nat.reduceBEq,reduceCtorEq,Nat.reduceEqDiff,hb2.c0,hb2.c1,hb2.c2,hb2.c3,hb2.ca,A2a hb2,A1a hb2,A3a hb2,Option.map_some,hn]
 refine ⟨_,_,hd3,?_⟩
 have hb3:=hb2.kept hk2.wf hk3
 have ic1:=hj.top.isCell
 have ic2:=hbf.isCell
 simp only [↓Sh.dn,sx,Nat.reduceBEq,reduceCtorEq,Nat.reduceEqDiff,hb3.c0,hb3.c1,hb3.c2,hb3.c3,hb3.ca,A2a hb3,A1a hb3,A3a hb3,Option.map_some,B07,B7w ic1 ic2,C76]
 have og:=(Sh.Obj.new (H:=H3) 3 [.int .i64 0,ev,bv]).arr
 have kn:=Kept.new hk3.wf 3 [.int .i64 0,ev,bv]
 have xg:H3.next < (H3.new 3 [.int .i64 0,ev,bv]).2.next:=Nat.lt_succ_self _
 have hj4:=hj.kept hk3.wf kn
 have hbf4:=hbf.kept hk3.wf kn
 have hk4:=hk3.trans kn
 have hx3:=hk3.next
 obtain ⟨ot,hot⟩:∃ ot,(if n=0 then none else some g1)=ot:=⟨_,rfl⟩
 obtain ⟨ob,hob⟩:∃ ob,(if n=0 then none else some g2)=ob:=⟨_,rfl⟩
 have lob:∀ y,ob=some y→y=g2:=by
  intro y h
  rw [← hob] at h
  by_cases h0:n=0
  ·rw [if_pos h0] at h; cases h
  ·rw [if_neg h0] at h; exact (Option.some.inj h).symm
 have lot:∀ y,JIn ot (List.replicate n none) y→y=g1:=by
  rintro y (h | ⟨i,h⟩)
  ·rw [← hot] at h
   by_cases h0:n=0
   ·rw [if_pos h0] at h; cases h
   ·rw [if_neg h0] at h; exact (Option.some.inj h).symm
  ·rw [List.getElem?_replicate] at h
   split at h <;> cases h
 rw [hot] at hj4
 rw [hob] at hbf4
 have lb:=fun y h=>hbf.lt hk3.wf y (by rw [hob]; exact h)
 have lj:=fun y h=>hj.lt hk3.wf y (by rw [hot]; exact h)
 generalize H3.next=gb at og xg hx3 lb lj ⊢
 generalize (H3.new 3 [.int .i64 0,ev,bv]).2=H4 at og xg hj4 hbf4 hk4 ⊢
 refine A0f N.arcs.length 4 (List.range' 4 36++[4,5]) (fun i F H'=>Kept H2 H'∧Arr H' gb 0 3 [.int .i64 0,ev,bv]∧Buf H' 1 bv (List.replicate n [.bool false]) ob∧∃ vals obs,Jag H' ev ot 2 vals (B0s N (N.arcs.take i)) obs∧∀ y,JIn ot obs y→H2.next≤y∧y≠gb∧ob≠some y) (by simp only [↓Sh.dn,sx,Nat.reduceBEq,reduceCtorEq,Nat.reduceEqDiff]) ⟨hk4,og,hbf4,_,_,by
  rw [List.take_zero]; unfold B0s; rw [A3y,hnn]; exact hj4,fun y hy=>by
   have e1:=lot y hy
   have e2:=lj y hy
   exact ⟨by omega,by omega,fun h=>by have:=lob y h; omega⟩⟩ ?_ ?_
 ·rintro i F H' hlt hF f4 ⟨hk,hog,hbb,vals,obs,hJ,hin⟩ k
  have f1:=hF 1 rfl
  have f3:=hF 3 rfl
  simp only [↓Sh.dn,sx,Nat.reduceBEq,reduceCtorEq,Nat.reduceEqDiff] at f1 f3
  have hb':=hb2.kept hk2.wf hk
  obtain ⟨q,o,kk,hia,hc,hcc⟩:=hb'.har.at Tryz.underlying23 A9l (i:=i) (x:=N.arcs[i].cells) (by simp [hlt]) .i64
  clear hcc
  have htake:N.arcs.take (i+1)=N.arcs.take i++[N.arcs[i]]:=by rw [List.take_add_one,List.getElem?_eq_getElem hlt]; rfl
  obtain ⟨k0,k1,k2,k3,k4,k5⟩:=hok.arc _ (List.getElem_mem hlt)
  have kn:=Kept.new hk.wf 5 (N.arcs[i].cells)
  have hk3:=hk.news 5 (N.arcs[i].cells)
  generalize N.arcs[i]=a at hk3 kn hc htake k0 k1 k2 k3 k4 k5
  obtain ⟨s,hs⟩:∃ s:Nat,a.fr=(s:Int):=⟨a.fr.toNat,by omega⟩
  have hto:(a.to.toNat:Int)=a.to:=by omega
  have hsn:s < N.states.toNat:=by omega
  have hrow:=A3i (key:=ArcD.fr) (f:=fun a=>A3l (a.inn,a.to.toNat)) (l:=N.arcs.take i) hsn
  have hrl:=A0x hrow
  have hsmA:=hsm.ar
  have htl:(N.arcs.take i).length≤1048576:=by rw [List.length_take]; omega
  have hJ3:=hJ.kept hk.wf kn
  have hog3:=hog.keep (kn.old gb (hog.lt hk.wf))
  have hbb3:=hbb.kept hk.wf kn
  have hnj:¬JIn ot obs H'.next:=fun h=>by have:=hJ.lt hk.wf _ h; omega
  have hn:=hog3.cell 1
  obtain ⟨ba,cap,w',H5,H6,o',p,e1,e2,e3,e4,e5,e6,e7,e8,e9⟩:=hJ3.pushAt Tryz.underlying65 A0s hk3.wf hrow (x:=A3l (a.inn,a.to.toNat)) rfl
  rw [← hs] at e2
  have bl:A2m Tryz.prog 107 [(0,.string a.inn),(1,.int .i64 a.to)]=some (.agg (A3l (a.inn,a.to.toNat)).toArray):=by
   have:=C5x (v0:=.string a.inn) (v1:=.int .i64 a.to) rfl rfl
   rw [this]; simp [A3l,hto]
  have hbs:=B0o (H:=(H'.new 5 a.cells).2) (x:=.agg (A3l (a.inn,a.to.toNat)).toArray) rfl rfl
  have ha:=C8l (H:=(H'.new 5 a.cells).2) (base:=ba) (len:=_) (cap:=cap) (x:=A3l (a.inn,a.to.toNat)) rfl (Nat.le_trans hrl (by omega))
  rw [e1] at ha
  have hgj:¬JIn ot obs gb:=fun h=>(hin gb h).2.1 rfl
  have hn5:=(hog3.keep (e7.old gb (hog3.lt hk3.wf) hgj)).cell 1
  have c4:=((Sh.Obj.new (H:=H') 5 a.cells).arr.keep (e7.old H'.next (Nat.lt_succ_self _) hnj)).cell 0
  have c4':(a.cells)[0]?=some (.int .i64 a.fr):=rfl
  rw [c4'] at c4
  have st:A4f Tryz.prog 105 H5 w' (.pointer (some p))=some H6:=by rw [A1d A0s e8,e4]
  have va:∀ xs:Array Value,A0b (.agg xs)=xs.toList:=fun _=>rfl
  have hav:=hJ3.top.veq
  simp only [va] at hbs
  simp only [↓Sh.dn,sx,Nat.reduceBEq,reduceCtorEq,Nat.reduceEqDiff,hb'.c0,hb'.c1,hb'.c2,hb'.c3,hb'.ca,A2a hb',A1a hb',A3a hb',A5b,A5e,A8e,A9g,A1h,A5c,A7c,A2e,A7e,A5d,arc0,arc1,arc2,arc3,arc4,end0,end1,f1,f3,f4,Option.map_some,A5a,hlt,decide_true,hia,hc]
  refine A9v (fl:=[(0,[]),(1,[]),(2,[]),(3,[]),(4,[]),(5,[]),(6,[]),(7,[]),(8,[]),(9,[]),(10,[]),(11,[]),(12,[]),(13,[]),(14,[]),(15,[]),(16,[3,1]),(17,[]),(18,[])]) (by kernel_rfl) (by kernel_rfl) (by kernel_rfl) ?_
  simp only [↓Sh.dn,sx,Nat.reduceBEq,reduceCtorEq,Nat.reduceEqDiff,wpr,again,A9b,A3e,A1c,A4e,A6c,A6b,A0g,forall_eq,forall_eq',A5b,A5e,A8e,A9g,A1h,A5c,A7c,A2e,A7e,A5d,arc0,arc1,arc2,arc3,arc4,end0,end1,f1,f3,f4,hn,e2,e3,Option.map_some,hav,bl,hbs,ha,hn5,st,c4,wrap_succ hlt hsm.ar]
  refine k _ _ (by repeat (first | refine Same.put ?_ rfl | exact Same.rfl' _)) (by simp only [↓Sh.dn,sx,Nat.reduceBEq,reduceCtorEq,Nat.reduceEqDiff]) ⟨hk3.then (Nat.le_refl _) (e6.weak fun y hy=>(hin y hy).1),hog3.keep (e6.old gb (hog3.lt hk3.wf) hgj),hbb3.chg hk3.wf e6 (fun y hy h=>(hin y h).2.2 hy),vals.set s w',obs.set s o',?_,?_⟩
  ·rw [htake]
   unfold B0s
   rw [A2u hsn hs]
   exact e5
  ·intro y hy
   rcases e9 y hy with h | h
   ·exact hin y h
   ·have:=hk3.next
    have:=hog3.lt hk3.wf
    exact ⟨by omega,by omega,fun h2=>by have:=hbb3.lt hk3.wf y h2; omega⟩
 ·rintro F H' hF f4 ⟨hk,hog,hbb,vals,obs,hJ,hin⟩
  have f1:=hF 1 rfl
  have f2:=hF 2 rfl
  have f3:=hF 3 rfl
  simp only [↓Sh.dn,sx,Nat.reduceBEq,reduceCtorEq,Nat.reduceEqDiff] at f1 f2 f3
  rw [List.take_length] at hJ
  have hb':=hb2.kept hk2.wf hk
  simp only [↓Sh.dn,sx,Nat.reduceBEq,reduceCtorEq,Nat.reduceEqDiff,hb'.c0,hb'.c1,hb'.c2,hb'.c3,hb'.ca,A2a hb',A1a hb',A3a hb',f1,f3,f4,A5a,Nat.lt_irrefl,decide_false,Option.map_some]
  have hmk:∀ b:Bool,∀ m:Nat,(List.replicate m b).map A5r=List.replicate m [.bool b]:=fun b m=>by simp [A5r]
  refine A0f N.ends.length 6 (List.range' 40 16++[6]) (fun i F H'=>Kept H2 H'∧Arr H' gb 0 3 [.int .i64 0,ev,bv]∧Buf H' 1 bv ((marksOf EndD.state N.states.toNat (N.ends.take i)).map A5r) ob∧Jag H' ev ot 2 vals (B0s N N.arcs) obs) (by simp only [↓Sh.dn,sx,Nat.reduceBEq,reduceCtorEq,Nat.reduceEqDiff]) ⟨hk,hog,by rw [List.take_zero,B7b,hnn,hmk]; exact hbb,hJ⟩ ?_ ?_
  ·rintro i F' H' hlt hF' f6 ⟨hk,hog,hbb,hJ⟩ k
   have g1:=hF' 1 rfl
   have g3:=hF' 3 rfl
   simp only [↓Sh.dn,sx,Nat.reduceBEq,reduceCtorEq,Nat.reduceEqDiff,f1,f3] at g1 g3
   have hb':=hb2.kept hk2.wf hk
   obtain ⟨q,o,kk,hia,hc,hcc⟩:=hb'.hen.at Tryz.underlying24 A1r (i:=i) (x:=N.ends[i].cells) (by simp [hlt]) .i64
   have hcs:=hcc 0 _ rfl
   simp only [Nat.add_zero,List.getElem_cons_zero] at hcs
   clear hcc
   have htake:N.ends.take (i+1)=N.ends.take i++[N.ends[i]]:=by rw [List.take_add_one,List.getElem?_eq_getElem hlt]; rfl
   obtain ⟨k0,k1⟩:=hok.fin _ (List.getElem_mem hlt)
   generalize N.ends[i]=e at hc hcs htake k0 k1
   obtain ⟨s,hs⟩:∃ s:Nat,e.state=(s:Int):=⟨e.state.toNat,by omega⟩
   have hsn:s < N.states.toNat:=by omega
   have hn1:=hog.cell 1
   have hn2:=hog.cell 2
   obtain ⟨p,H6,ia,e1,e2,e3,e4⟩:=Buf.set (P:=Tryz.prog) hbb hk.wf (i:=s) (x:=A5r true) (by simp [A2j,hsn]) rfl
   have ia2:=ia Tryz.underlying66 A3n (j:=.i64)
   rw [← hs] at ia2
   have st:A4f Tryz.prog 4 H' (.bool true) (.pointer (some p))=some H6:=by rw [A1d A3n rfl]; exact e1
   simp only [↓Sh.dn,sx,Nat.reduceBEq,reduceCtorEq,Nat.reduceEqDiff,hb'.c0,hb'.c1,hb'.c2,hb'.c3,hb'.ca,A2a hb',A1a hb',A3a hb',g1,g3,f6,Option.map_some,A5a,hlt,decide_true]
   first | refine (A4d (by kernel_rfl)).2 ?_ | skip
   simp only [↓Sh.dn,sx,Nat.reduceBEq,reduceCtorEq,Nat.reduceEqDiff,hb'.c0,hb'.c1,hb'.c2,hb'.c3,hb'.ca,A2a hb',A1a hb',A3a hb',g1,g3,f6,hn1,hn2,Option.map_some,hia,hcs,ia2,st,wrap_succ hlt hsm.en]
   refine k _ _ (by repeat (first | refine Same.put ?_ rfl | exact Same.rfl' _)) (by simp only [↓Sh.dn,sx,Nat.reduceBEq,reduceCtorEq,Nat.reduceEqDiff]) ⟨hk.then (Nat.le_refl _) (e3.weak fun y hy=>by have:=lob y hy; omega),hog.keep (e3.old gb (hog.lt hk.wf) (fun hy=>by have:=lb gb hy; omega)),?_,hJ.chg hk.wf e3 fun y hy h=>(hin y hy).2.2 h⟩
   rw [htake,B3c hsn hs,List.map_set]
   exact e2
  ·rintro F' H' hF' f6 ⟨hk,hog,hbb,hJ⟩
   have g1:=hF' 1 rfl
   have g2':=hF' 2 rfl
   have g3:=hF' 3 rfl
   simp only [↓Sh.dn,sx,Nat.reduceBEq,reduceCtorEq,Nat.reduceEqDiff,f1,f2,f3] at g1 g2' g3
   rw [List.take_length] at hbb
   have hb':=hb2.kept hk2.wf hk
   have o0':Sh.Obj H' go 3 [.int .i64 0,.slice none 0 0,.slice none 0 0] true:=by
    unfold Sh.Obj at o0 ⊢
    rw [hk.old go x2]; exact o0
   obtain ⟨H6,st,o3,c3⟩:=rgOut (ev:=ev) (bv:=bv) hk.wf _ _ _ o0' ic1 ic2
   have hca:=hog.cells (i:=0) (n:=3) (by simp)
   have hcr:=o3.cells (i:=0) (n:=3) (by simp)
   simp only [↓Sh.dn,sx,Nat.reduceBEq,reduceCtorEq,Nat.reduceEqDiff,hb'.c0,hb'.c1,hb'.c2,hb'.c3,hb'.ca,A2a hb',A1a hb',A3a hb',g1,g2',g3,f6,A5a,Nat.lt_irrefl,decide_false,Option.map_some,hca,List.drop_zero,List.take_succ_cons,List.take_zero,st,hres,hcr]
   have hJ6:=(hJ.chg hk.wf c3 fun y hy e=>by have:=(hin y hy).1; omega).read
   have hb6:=(hbb.chg hk.wf c3 fun y hy e=>by have:=lob y hy; omega).toSl
   have er:A0m (A6x N)=B0s N N.arcs:=by unfold A0m A6x B0s rowsOf; simp [Function.comp_def]
   rw [← hn]
   refine ⟨(hk2.trans hk).then (e0 go (Nat.le_refl _)) (c3.weak fun y hy=>by omega),ev,bv,vals,rfl,by rw [er]; exact hJ6,hb6,by unfold A6x; rw [A3g],A2j,by omega,by omega,fun s r hr=>⟨Nat.le_trans (A0x hr) hok.ar,fun e he=>?_⟩⟩
   obtain ⟨a,ha,_,rfl⟩:=(A3r hr e).1 he
   have:=hok.arc a ha
   show a.to.toNat < _
   omega
end Go.Proofs.YtnoengaghabmjaaGreat
/- cmp.Less, where nothing is no number. -/
namespace Go.Proofs.YtnoengaghabmjaaGreat
open Go Go.Proofs Go.Proofs.Sh
theorem B19 {H:AH} {x:Int}:Sh.Call Tryz.prog (knows 10) 196 [Value.int .i64 x] H (fun r H'=>H'=H∧r=.bool false):=by
 refine A4a rfl Tryz.func196 rfl (Nat.le_of_ble_eq_true rfl) ?_
 have hres:Tryz.f196.results.toList=[.tmp 2]:=rfl
 simp only [↓Sh.dn,sx,Nat.reduceBEq,reduceCtorEq,Nat.reduceEqDiff,hres,decide_true,Bool.not_true,and_self]
theorem C8o {H:AH} {x y:Int}:Sh.Call Tryz.prog (knows 10) 178 [Value.int .i64 x,Value.int .i64 y] H (fun r H'=>H'=H∧r=.bool (A9c x y)):=by
 refine A4a rfl Tryz.func178 rfl (Nat.le_of_ble_eq_true rfl) ?_
 have hres:Tryz.f178.results.toList=[.tmp 4]:=rfl
 obtain ⟨r,H1,hd,rfl,rfl⟩:=B19 (H:=H) (x:=x)
 simp only [↓Sh.dn,sx,Nat.reduceBEq,reduceCtorEq,Nat.reduceEqDiff]
 refine ⟨_,_,hd,?_⟩
 simp only [↓Sh.dn,sx,Nat.reduceBEq,reduceCtorEq,Nat.reduceEqDiff,hres,and_self]
 try rfl
theorem A2f {H:AH} {x y:Int}:Does Tryz.prog (knows 10) 178 [Value.int .i64 x,Value.int .i64 y] H (.bool (A9c x y)) H:=by
 obtain ⟨r,H1,hd,rfl,rfl⟩:=C8o (H:=H) (x:=x) (y:=y)
 exact hd
abbrev A6f (H:AH) (g k n:Nat) (l:List Int):Prop:=Cells H g k n (l.map (Value.int .i64))
section
variable {H:AH} {g k n m cap i:Nat} {l:List Int}
theorem A8d {j:IntKind} (h:i < m):A4c Tryz.prog 88 (.slice (some ⟨g,0,some k⟩) m cap) (.int j (i:Int))=some (.pointer (some ⟨g,i,some k⟩)):=by
 rw [ia_88 h,Nat.mul_one,Nat.zero_add]
theorem A2d (h:A6f H g k n l) (hi:i < l.length):H.cell ⟨g,i,some k⟩=some (Value.int .i64 l[i]):=h.cell (by simp [hi])
theorem A1o {x:Int} {p:Addr}:A4f Tryz.prog 3 H (Value.int .i64 x) (.pointer (some p))=H.write p [Value.int .i64 x]:=A1d A6d rfl
theorem A5l (h:A6f H g k n l) (hw:Wf H) {i j:Nat} (hi:i < l.length) (hj:j < l.length):
  ∃ H1 H2,H.write ⟨g,i,some k⟩ [Value.int .i64 l[j]]=some H1∧H1.write ⟨g,j,some k⟩ [Value.int .i64 l[i]]=some H2∧A6f H2 g k n (swp l i j)∧Chg (fun y=>y=g) H H2∧H2.next=H.next:=by
 obtain ⟨H1,H2,h1,h2,h3,h4,h5⟩:=Cells.swap h hw (i:=i) (j:=j) (x:=Value.int .i64 l[i]) (y:=Value.int .i64 l[j]) (by simp [hi]) (by simp [hj])
 exact ⟨H1,H2,h1,h2,by rw [swp_map] at h3; exact h3,h4,h5⟩
end
end Go.Proofs.YtnoengaghabmjaaGreat
/- insertionSortOrdered. -/
namespace Go.Proofs.YtnoengaghabmjaaGreat
open Go Go.Proofs Go.Proofs.Sh
theorem B6c {H:AH} {g k n cap a b:Nat} {l:List Int} (hv:A6f H g k n l) (hw:Wf H) (hl:l.length≤1048576) (hab:a≤b) (hb:b≤l.length):
  Sh.Call Tryz.prog (knows 10) 172 [.slice (some ⟨g,0,some k⟩) l.length cap,.int .i64 (a:Int),.int .i64 (b:Int)] H
   (fun r H'=>∃ l',Mix a b l l'∧Srt A9c a b l'∧A6f H' g k n l'∧Chg (fun y=>y=g) H H'):=by
 refine A4a rfl Tryz.func172 rfl (Nat.le_of_ble_eq_true rfl) ?_
 have hres:Tryz.f172.results.toList=[]:=rfl
 have hTO:=intTO
 have w1:IntKind.wrap .i64 ((a:Int)+1)=((a+1:Nat):Int):=by rw [wrap64 (by omega) (by omega)]; rfl
 simp only [↓Sh.dn,sx,Nat.reduceBEq,reduceCtorEq,Nat.reduceEqDiff,w1]
 let Adj (i:Nat) (m:List Int):Prop:=∀ (p:Nat) x y,a≤p→p+1 < i→m[p]?=some x→m[p+1]?=some y→A9c y x=false
 refine A1f (fun m F H' => ∃ (i : Nat) (l1 : List Int), m = b - i ∧ a + 1 ≤ i ∧ (i ≤ b ∨ i = a + 1) ∧ Mix a b l l1 ∧ Adj i l1 ∧ A6f H' g k n l1 ∧ Chg (fun y => y = g) H H' ∧
     F.get 0 = some (.slice (some ⟨g, 0, some k⟩) l.length cap) ∧ F.get 1 = some (.int .i64 (a : Int)) ∧ F.get 2 = some (.int .i64 (b : Int)) ∧ F.get 6 = some (.int .i64 (i : Int))) (m := b - (a + 1))
   ⟨a + 1, l, rfl, by omega, .inr rfl, .refl l, fun p x y h1 h2 => by omega, hv, Chg.refl hw, by simp only [↓Sh.dn, sx, Nat.reduceBEq, reduceCtorEq, Nat.reduceEqDiff], by simp only [↓Sh.dn, sx, Nat.reduceBEq, reduceCtorEq, Nat.reduceEqDiff], by simp only [↓Sh.dn, sx, Nat.reduceBEq, reduceCtorEq, Nat.reduceEqDiff], by simp only [↓Sh.dn, sx, Nat.reduceBEq, reduceCtorEq, Nat.reduceEqDiff]⟩ ?_
 rintro m F H' ⟨i,l1,rfl,hai,hib,hm,hadj,hv1,hc1,f0,f1,f2,f6⟩ kk
 by_cases hlt:i < b
 ·simp only [↓Sh.dn,sx,Nat.reduceBEq,reduceCtorEq,Nat.reduceEqDiff,f2,f6,A5a,hlt,decide_true]
  refine A1f (fun m F' H2 => ∃ (j : Nat) (l2 : List Int), m = j ∧ a ≤ j ∧ j ≤ i ∧ Mix a b l l2 ∧ (∀ (p : Nat) x y, a ≤ p → p + 1 < i + 1 → p + 1 ≠ j → l2[p]? = some x → l2[p + 1]? = some y → A9c y x = false) ∧
      (∀ x y, a < j → j < i → l2[j - 1]? = some x → l2[j + 1]? = some y → A9c y x = false) ∧ A6f H2 g k n l2 ∧ Chg (fun y => y = g) H H2 ∧
      F'.get 0 = some (.slice (some ⟨g, 0, some k⟩) l.length cap) ∧ F'.get 1 = some (.int .i64 (a : Int)) ∧ F'.get 2 = some (.int .i64 (b : Int)) ∧ F'.get 6 = some (.int .i64 (i : Int)) ∧ F'.get 7 = some (.int .i64 (j : Int))) (m := i)
    ⟨i, l1, rfl, by omega, Nat.le_refl _, hm, fun p x y h1 h2 h3 => hadj p x y h1 (by omega), fun x y h1 h2 => by omega, hv1, hc1, by simp only [↓Sh.dn, sx, Nat.reduceBEq, reduceCtorEq, Nat.reduceEqDiff, f0], by simp only [↓Sh.dn, sx, Nat.reduceBEq, reduceCtorEq, Nat.reduceEqDiff, f1], by simp only [↓Sh.dn, sx, Nat.reduceBEq, reduceCtorEq, Nat.reduceEqDiff, f2], by simp only [↓Sh.dn, sx, Nat.reduceBEq, reduceCtorEq, Nat.reduceEqDiff, f6], by simp only [↓Sh.dn, sx, Nat.reduceBEq, reduceCtorEq, Nat.reduceEqDiff]⟩ ?_
  rintro j F' H2 ⟨_,l2,rfl,haj,hji,hm2,hA,hB,hv2,hc2,g0,g1,g2,g6,g7⟩ k2
  have hlen:=hm2.length
  have wi:IntKind.wrap .i64 ((i:Int)+1)=((i+1:Nat):Int):=by rw [wrap64 (by omega) (by omega)]; rfl
  simp only [↓Sh.dn,sx,Nat.reduceBEq,reduceCtorEq,Nat.reduceEqDiff]
  refine (A4d (by kernel_rfl)).2 ?_
  by_cases hgt:a < j
  ·have wj:IntKind.wrap .i64 ((j:Int) - 1)=((j - 1:Nat):Int):=by rw [wrap64 (by omega) (by omega)]; omega
   have hj1:j < l2.length:=by omega
   have hj2:j - 1 < l2.length:=by omega
   have i1:=A8d (g:=g) (k:=k) (cap:=cap) (m:=l.length) (i:=j) (j:=.i64) (by omega)
   have i2:=A8d (g:=g) (k:=k) (cap:=cap) (m:=l.length) (i:=j - 1) (j:=.i64) (by omega)
   have r1:=A2d hv2 hj1
   have r2:=A2d hv2 hj2
   have q1:l2[j]?=some l2[j]:=List.getElem?_eq_getElem hj1
   have q2:l2[j - 1]?=some l2[j - 1]:=List.getElem?_eq_getElem hj2
   simp only [↓Sh.dn,sx,Nat.reduceBEq,reduceCtorEq,Nat.reduceEqDiff,g0,g1,g7,A5a,hgt,decide_true,wj,i1,i2,r1,r2]
   refine ⟨_,_,A2f,?_⟩
   cases hc:A9c l2[j] l2[j - 1] with
   | true=>
    simp only [↓Sh.dn,sx,Nat.reduceBEq,reduceCtorEq,Nat.reduceEqDiff]
    refine (A4d (by kernel_rfl)).2 ?_
    obtain ⟨K1,K2,e1,e2,e3,e4,e5⟩:=A5l hv2 hc2.wf hj1 hj2
    simp only [↓Sh.dn,sx,Nat.reduceBEq,reduceCtorEq,Nat.reduceEqDiff,g0,g7,wj,i1,i2,r1,r2,A1o,e1,e2]
    refine k2 (j - 1) _ _ (by omega) ⟨j - 1,swp l2 j (j - 1),rfl,by omega,by omega,hm2.swap (by omega) (by omega) (by omega) (by omega),fun p x y h1 h2 h3 hx hy=>?_,fun x y h1 h2 hx hy=>?_,e3,hc2.trans e4,by simp only [↓Sh.dn,sx,Nat.reduceBEq,reduceCtorEq,Nat.reduceEqDiff,g0],by simp only [↓Sh.dn,sx,Nat.reduceBEq,reduceCtorEq,Nat.reduceEqDiff,g1],by simp only [↓Sh.dn,sx,Nat.reduceBEq,reduceCtorEq,Nat.reduceEqDiff,g2],by simp only [↓Sh.dn,sx,Nat.reduceBEq,reduceCtorEq,Nat.reduceEqDiff,g6],by simp only [↓Sh.dn,sx,Nat.reduceBEq,reduceCtorEq,Nat.reduceEqDiff]⟩
    ·rw [swp_get hj1 hj2] at hx hy
     by_cases hp1:p+1=j
     ·have hp:p=j - 1:=by omega
      rw [if_pos hp,q1] at hx
      rw [if_neg (by omega),if_pos hp1,q2] at hy
      rw [← Option.some.inj hx,← Option.some.inj hy]
      exact hTO.asymm hc
     ·by_cases hp2:p=j
      ·rw [if_neg (by omega),if_pos hp2,q2] at hx
       rw [if_neg (by omega),if_neg (by omega)] at hy
       rw [← Option.some.inj hx]
       exact hB _ _ hgt (by omega) q2 (by rw [← hp2]; exact hy)
      ·rw [if_neg (by omega),if_neg hp2] at hx
       rw [if_neg (by omega),if_neg (by omega)] at hy
       exact hA p x y h1 h2 hp1 hx hy
    ·rw [swp_get hj1 hj2] at hx hy
     rw [if_neg (by omega),if_neg (by omega)] at hx
     rw [if_neg (by omega),if_pos (by omega),q2] at hy
     rw [← Option.some.inj hy]
     exact hA (j - 2) _ _ (by omega) (by omega) (by omega) (by rw [show j - 2=j - 1 - 1 by omega]; exact hx) (by rw [show j - 2+1=j - 1 by omega]; exact q2)
   | false=>
    simp only [↓Sh.dn,sx,Nat.reduceBEq,reduceCtorEq,Nat.reduceEqDiff,g6,wi]
    refine kk (b - (i+1)) _ _ (by omega) ⟨i+1,l2,rfl,by omega,.inl (by omega),hm2,fun p x y h1 h2 hx hy=>?_,hv2,hc2,by simp only [↓Sh.dn,sx,Nat.reduceBEq,reduceCtorEq,Nat.reduceEqDiff,g0],by simp only [↓Sh.dn,sx,Nat.reduceBEq,reduceCtorEq,Nat.reduceEqDiff,g1],by simp only [↓Sh.dn,sx,Nat.reduceBEq,reduceCtorEq,Nat.reduceEqDiff,g2],by simp only [↓Sh.dn,sx,Nat.reduceBEq,reduceCtorEq,Nat.reduceEqDiff]⟩
    by_cases hp:p+1=j
    ·have hp':p=j - 1:=by omega
     rw [hp',q2] at hx
     rw [hp,q1] at hy
     rw [← Option.some.inj hx,← Option.some.inj hy]; exact hc
    ·exact hA p x y h1 h2 hp hx hy
  ·simp only [↓Sh.dn,sx,Nat.reduceBEq,reduceCtorEq,Nat.reduceEqDiff,g0,g1,g7,A5a,hgt,decide_false,g6,wi]
   exact kk (b - (i+1)) _ _ (by omega) ⟨i+1,l2,rfl,by omega,.inl (by omega),hm2,fun p x y h1 h2 hx hy=>hA p x y h1 h2 (by omega) hx hy,hv2,hc2,by simp only [↓Sh.dn,sx,Nat.reduceBEq,reduceCtorEq,Nat.reduceEqDiff,g0],by simp only [↓Sh.dn,sx,Nat.reduceBEq,reduceCtorEq,Nat.reduceEqDiff,g1],by simp only [↓Sh.dn,sx,Nat.reduceBEq,reduceCtorEq,Nat.reduceEqDiff,g2],by simp only [↓Sh.dn,sx,Nat.reduceBEq,reduceCtorEq,Nat.reduceEqDiff]⟩
 ·simp only [↓Sh.dn,sx,Nat.reduceBEq,reduceCtorEq,Nat.reduceEqDiff,f2,f6,A5a,hlt,decide_false,hres]
  exact ⟨l1,hm,C9d hTO fun p x y h1 h2 hx hy=>hadj p x y h1 (by omega) hx hy,hv1,hc1⟩
end Go.Proofs.YtnoengaghabmjaaGreat
/- Small parts of the sort: reverseRange, order2, median, choosePivot. -/
namespace Go.Proofs.YtnoengaghabmjaaGreat
open Go Go.Proofs Go.Proofs.Sh
section
variable {H:AH} {g k n cap a b:Nat} {l:List Int}
theorem B6i (hv:A6f H g k n l) (hw:Wf H) (hl:l.length≤1048576) (hab:a < b) (hb:b≤l.length):
  Sh.Call Tryz.prog (knows 10) 176 [.slice (some ⟨g,0,some k⟩) l.length cap,.int .i64 (a:Int),.int .i64 (b:Int)] H
   (fun r H'=>∃ l',Mix a b l l'∧A6f H' g k n l'∧Chg (fun y=>y=g) H H'):=by
 refine A4a rfl Tryz.func176 rfl (Nat.le_of_ble_eq_true rfl) ?_
 have hres:Tryz.f176.results.toList=[]:=rfl
 have w1:IntKind.wrap .i64 ((b:Int) - 1)=((b - 1:Nat):Int):=by rw [wrap64 (by omega) (by omega)]; omega
 simp only [↓Sh.dn,sx,Nat.reduceBEq,reduceCtorEq,Nat.reduceEqDiff,w1]
 refine A1f (fun m F H' => ∃ (i j : Nat) (l1 : List Int), m = b - i ∧ a ≤ i ∧ i + j + 1 = a + b ∧ i ≤ b ∧ Mix a b l l1 ∧ A6f H' g k n l1 ∧ Chg (fun y => y = g) H H' ∧
     F.get 0 = some (.slice (some ⟨g, 0, some k⟩) l.length cap) ∧ F.get 6 = some (.int .i64 (i : Int)) ∧ F.get 7 = some (.int .i64 (j : Int))) (m := b - a)
   ⟨a, b - 1, l, rfl, by omega, by omega, by omega, .refl l, hv, Chg.refl hw, by simp only [↓Sh.dn, sx, Nat.reduceBEq, reduceCtorEq, Nat.reduceEqDiff], by simp only [↓Sh.dn, sx, Nat.reduceBEq, reduceCtorEq, Nat.reduceEqDiff], by simp only [↓Sh.dn, sx, Nat.reduceBEq, reduceCtorEq, Nat.reduceEqDiff]⟩ ?_
 rintro m F H' ⟨i,j,l1,rfl,hai,hij,hib,hm,hv1,hc1,f0,f6,f7⟩ kk
 have hlen:=hm.length
 by_cases hlt:i < j
 ·have hi:i < l1.length:=by omega
  have hj:j < l1.length:=by omega
  have wi:IntKind.wrap .i64 ((i:Int)+1)=((i+1:Nat):Int):=by rw [wrap64 (by omega) (by omega)]; rfl
  have wj:IntKind.wrap .i64 ((j:Int) - 1)=((j - 1:Nat):Int):=by rw [wrap64 (by omega) (by omega)]; omega
  have i1:=A8d (g:=g) (k:=k) (cap:=cap) (m:=l.length) (i:=i) (j:=.i64) (by omega)
  have i2:=A8d (g:=g) (k:=k) (cap:=cap) (m:=l.length) (i:=j) (j:=.i64) (by omega)
  have r1:=A2d hv1 hi
  have r2:=A2d hv1 hj
  obtain ⟨K1,K2,e1,e2,e3,e4,e5⟩:=A5l hv1 hc1.wf hi hj
  simp only [↓Sh.dn,sx,Nat.reduceBEq,reduceCtorEq,Nat.reduceEqDiff,f6,f7,A5a,hlt,decide_true]
  refine (A4d (by kernel_rfl)).2 ?_
  simp only [↓Sh.dn,sx,Nat.reduceBEq,reduceCtorEq,Nat.reduceEqDiff,f0,f6,f7,i1,i2,r1,r2,A1o,e1,e2,wi,wj]
  exact kk (b - (i+1)) _ _ (by omega) ⟨i+1,j - 1,swp l1 i j,rfl,by omega,by omega,by omega,hm.swap (by omega) (by omega) (by omega) (by omega),e3,hc1.trans e4,by simp only [↓Sh.dn,sx,Nat.reduceBEq,reduceCtorEq,Nat.reduceEqDiff,f0],by simp only [↓Sh.dn,sx,Nat.reduceBEq,reduceCtorEq,Nat.reduceEqDiff],by simp only [↓Sh.dn,sx,Nat.reduceBEq,reduceCtorEq,Nat.reduceEqDiff]⟩
 ·simp only [↓Sh.dn,sx,Nat.reduceBEq,reduceCtorEq,Nat.reduceEqDiff,f6,f7,A5a,hlt,decide_false,hres]
  exact ⟨l1,hm,hv1,hc1⟩
def B8e (H:AH) (p:Nat) (c:Int):Prop:=Arr H p 0 1 [.int .i64 c]
theorem B4h {i j p:Nat} {c:Int} (hv:A6f H g k n l) (hp:B8e H p c) (hpg:p≠g) (hw:Wf H) (hi:i < l.length) (hj:j < l.length):
  Sh.Call Tryz.prog (knows 10) 200 [.slice (some ⟨g,0,some k⟩) l.length cap,.int .i64 (i:Int),.int .i64 (j:Int),.pointer (some ⟨p,0,some 0⟩)] H
   (fun r H'=>∃ i' j':Nat,r=.tuple #[.int .i64 (i':Int),.int .i64 (j':Int)]∧(i'=i∧j'=j∨i'=j∧j'=i)∧A6f H' g k n l∧∃ c',B8e H' p c'∧Chg (fun y=>y=p) H H'):=by
 refine A4a rfl Tryz.func200 rfl (Nat.le_of_ble_eq_true rfl) ?_
 have hres:Tryz.f200.results.toList=[.tmp 8,.tmp 9]:=rfl
 have i1:=A8d (g:=g) (k:=k) (cap:=cap) (m:=l.length) (i:=i) (j:=.i64) hi
 have i2:=A8d (g:=g) (k:=k) (cap:=cap) (m:=l.length) (i:=j) (j:=.i64) hj
 have r1:=A2d hv hi
 have r2:=A2d hv hj
 have r3:H.cell ⟨p,0,some 0⟩=some (.int .i64 c):=hp.cell 0
 simp only [↓Sh.dn,sx,Nat.reduceBEq,reduceCtorEq,Nat.reduceEqDiff]
 refine (A4d (by kernel_rfl)).2 ?_
 simp only [↓Sh.dn,sx,Nat.reduceBEq,reduceCtorEq,Nat.reduceEqDiff,i1,i2,r1,r2]
 refine ⟨_,_,A2f,?_⟩
 cases hc:A9c l[j] l[i] with
 | true=>
  obtain ⟨K1,e1,e2,e3,e4⟩:=hp.write hw (i:=0) (vs:=[.int .i64 (IntKind.wrap .i64 (c+1))]) (by simp)
  have st:A4f Tryz.prog 3 H (.int .i64 (IntKind.wrap .i64 (c+1))) (.pointer (some ⟨p,0,some 0⟩))=H.write ⟨p,0,some 0⟩ [.int .i64 (IntKind.wrap .i64 (c+1))]:=A1d A6d rfl
  simp only [↓Sh.dn,sx,Nat.reduceBEq,reduceCtorEq,Nat.reduceEqDiff,r3,st,e1,hres]
  exact ⟨j,i,rfl,.inr ⟨rfl,rfl⟩,hv.chg hw e4 (fun h=>hpg h.symm),_,e2,e4⟩
 | false=>
  simp only [↓Sh.dn,sx,Nat.reduceBEq,reduceCtorEq,Nat.reduceEqDiff,hres]
  exact ⟨i,j,rfl,.inl ⟨rfl,rfl⟩,hv,c,hp,Chg.refl hw⟩
theorem B2f {i j m p:Nat} {c:Int} (hv:A6f H g k n l) (hp:B8e H p c) (hpg:p≠g) (hw:Wf H) (hi:i < l.length) (hj:j < l.length) (hm:m < l.length):
  Sh.Call Tryz.prog (knows 10) 195 [.slice (some ⟨g,0,some k⟩) l.length cap,.int .i64 (i:Int),.int .i64 (j:Int),.int .i64 (m:Int),.pointer (some ⟨p,0,some 0⟩)] H
   (fun r H'=>∃ q:Nat,r=.int .i64 (q:Int)∧(q=i∨q=j∨q=m)∧A6f H' g k n l∧∃ c',B8e H' p c'∧Chg (fun y=>y=p) H H'):=by
 refine A4a rfl Tryz.func195 rfl (Nat.le_of_ble_eq_true rfl) ?_
 have hres:Tryz.f195.results.toList=[.tmp 10]:=rfl
 obtain ⟨r,H1,hd1,i1,j1,rfl,h1,hv1,c1,hp1,hc1⟩:=B4h (cap:=cap) hv hp hpg hw hi hj
 have hi1:i1 < l.length:=by omega
 have hj1:j1 < l.length:=by omega
 obtain ⟨r,H2,hd2,j2,m2,rfl,h2,hv2,c2,hp2,hc2⟩:=B4h (cap:=cap) hv1 hp1 hpg hc1.wf hj1 hm
 have hj2:j2 < l.length:=by omega
 obtain ⟨r,H3,hd3,i3,j3,rfl,h3,hv3,c3,hp3,hc3⟩:=B4h (cap:=cap) hv2 hp2 hpg hc2.wf hi1 hj2
 simp only [↓Sh.dn,sx,Nat.reduceBEq,reduceCtorEq,Nat.reduceEqDiff]
 refine ⟨_,_,hd1,?_⟩
 simp only [↓Sh.dn,sx,Nat.reduceBEq,reduceCtorEq,Nat.reduceEqDiff]
 refine ⟨_,_,hd2,?_⟩
 simp only [↓Sh.dn,sx,Nat.reduceBEq,reduceCtorEq,Nat.reduceEqDiff]
 refine ⟨_,_,hd3,?_⟩
 simp only [↓Sh.dn,sx,Nat.reduceBEq,reduceCtorEq,Nat.reduceEqDiff,hres]
 exact ⟨j3,rfl,by omega,hv3,c3,hp3,(hc1.trans hc2).trans hc3⟩
theorem A9r {i p:Nat} {c:Int} (hv:A6f H g k n l) (hp:B8e H p c) (hpg:p≠g) (hw:Wf H) (hl:l.length≤1048576) (h0:1≤i) (hi:i+1 < l.length):
  Sh.Call Tryz.prog (knows 10) 194 [.slice (some ⟨g,0,some k⟩) l.length cap,.int .i64 (i:Int),.pointer (some ⟨p,0,some 0⟩)] H
   (fun r H'=>∃ q:Nat,r=.int .i64 (q:Int)∧(i≤q+1∧q≤i+1)∧A6f H' g k n l∧∃ c',B8e H' p c'∧Chg (fun y=>y=p) H H'):=by
 refine A4a rfl Tryz.func194 rfl (Nat.le_of_ble_eq_true rfl) ?_
 have hres:Tryz.f194.results.toList=[.tmp 6]:=rfl
 have w1:IntKind.wrap .i64 ((i:Int) - 1)=((i - 1:Nat):Int):=by rw [wrap64 (by omega) (by omega)]; omega
 have w2:IntKind.wrap .i64 ((i:Int)+1)=((i+1:Nat):Int):=by rw [wrap64 (by omega) (by omega)]; rfl
 obtain ⟨r,H1,hd1,q,rfl,h1,hv1,c1,hp1,hc1⟩:=B2f (cap:=cap) (i:=i - 1) (j:=i) (m:=i+1) hv hp hpg hw (by omega) (by omega) hi
 simp only [↓Sh.dn,sx,Nat.reduceBEq,reduceCtorEq,Nat.reduceEqDiff,w1,w2]
 refine ⟨_,_,hd1,?_⟩
 simp only [↓Sh.dn,sx,Nat.reduceBEq,reduceCtorEq,Nat.reduceEqDiff,hres]
 exact ⟨q,rfl,by omega,by omega,hv1,c1,hp1,hc1⟩
theorem B5l (hv:A6f H g k n l) (hw:Wf H) (hl:l.length≤1048576) (hab:a+12 < b) (hb:b≤l.length):
  Sh.Call Tryz.prog (knows 10) 175 [.slice (some ⟨g,0,some k⟩) l.length cap,.int .i64 (a:Int),.int .i64 (b:Int)] H
   (fun r H'=>∃ q:Nat,∃ h:Int,r=.tuple #[.int .i64 (q:Int),.int .i64 h]∧a≤q∧q < b∧A6f H' g k n l∧Kept H H'):=by
 refine A4a rfl Tryz.func175 rfl (Nat.le_of_ble_eq_true rfl) ?_
 have hres:Tryz.f175.results.toList=[.tmp 6,.tmp 7]:=rfl
 have al:anew Tryz.prog 3 H (.int .i64 0)=some (.pointer (some ⟨H.next,0,some 0⟩),(H.new 1 [.int .i64 0]).2):=B7d A6d rfl
 have w0:IntKind.wrap .i64 ((b:Int) - (a:Int))=((b - a:Nat):Int):=by rw [wrap64 (by omega) (by omega)]; omega
 have hq4:(Int.tdiv ((b - a:Nat):Int) 4)=(((b - a) / 4:Nat):Int):=by rw [Int.tdiv_eq_ediv_of_nonneg (by omega)]; rfl
 have C2b:∀ {t:TypeId} {c:Bool} {x y:Int},y≠0→abin Tryz.prog t c .quo (.int .i64 x) (.int .i64 y)=some (.int .i64 (IntKind.wrap .i64 (x.tdiv y))):=by
  intro t c x y h
  simp only [abin,A8g,cond_true,aint,A3s,show (y == 0)=false from by simpa using h,cond_false]
 have wq:IntKind.wrap .i64 (((b - a) / 4:Nat):Int)=(((b - a) / 4:Nat):Int):=wrap64 (by omega) (by omega)
 have m1:IntKind.wrap .i64 ((((b - a) / 4:Nat):Int) * 1)=(((b - a) / 4 * 1:Nat):Int):=by rw [wrap64 (by omega) (by omega)]; omega
 have m2:IntKind.wrap .i64 ((((b - a) / 4:Nat):Int) * 2)=(((b - a) / 4 * 2:Nat):Int):=by rw [wrap64 (by omega) (by omega)]; omega
 have m3:IntKind.wrap .i64 ((((b - a) / 4:Nat):Int) * 3)=(((b - a) / 4 * 3:Nat):Int):=by rw [wrap64 (by omega) (by omega)]; omega
 have p1:IntKind.wrap .i64 ((a:Int)+(((b - a) / 4 * 1:Nat):Int))=((a+(b - a) / 4 * 1:Nat):Int):=by rw [wrap64 (by omega) (by omega)]; rfl
 have p2:IntKind.wrap .i64 ((a:Int)+(((b - a) / 4 * 2:Nat):Int))=((a+(b - a) / 4 * 2:Nat):Int):=by rw [wrap64 (by omega) (by omega)]; rfl
 have p3:IntKind.wrap .i64 ((a:Int)+(((b - a) / 4 * 3:Nat):Int))=((a+(b - a) / 4 * 3:Nat):Int):=by rw [wrap64 (by omega) (by omega)]; rfl
 have d8:decide ((8:Int)≤((b - a:Nat):Int))=true:=by simp; omega
 have hk1:Kept H (H.new 1 [.int .i64 0]).2:=Kept.new hw 1 _
 have hv0:A6f (H.new 1 [.int .i64 0]).2 g k n l:=hv.kept hw hk1
 have hp0:B8e (H.new 1 [.int .i64 0]).2 H.next 0:=(Obj.new (H:=H) 1 [.int .i64 0]).arr
 have hpg:H.next≠g:=by have:=hv.lt hw; omega
 simp only [↓Sh.dn,sx,Nat.reduceBEq,reduceCtorEq,Nat.reduceEqDiff,al,w0,C2b (show (4:Int)≠0 by decide),hq4,wq,m1,m2,m3,p1,p2,p3,d8]
 generalize (H.new 1 [.int .i64 0]).2=H1 at hk1 hv0 hp0 ⊢
 by_cases h50:50≤b - a
 ·have d50:decide ((50:Int)≤((b - a:Nat):Int))=true:=by simp; omega
  obtain ⟨r,H2,hd2,q1,rfl,h1,hv1,c1,hp1,hc1⟩:=A9r (cap:=cap) (i:=a+(b - a) / 4 * 1) hv0 hp0 hpg hk1.wf hl (by omega) (by omega)
  obtain ⟨r,H3,hd3,q2,rfl,h2,hv2,c2,hp2,hc2⟩:=A9r (cap:=cap) (i:=a+(b - a) / 4 * 2) hv1 hp1 hpg hc1.wf hl (by omega) (by omega)
  obtain ⟨r,H4,hd4,q3,rfl,h3,hv3,c3,hp3,hc3⟩:=A9r (cap:=cap) (i:=a+(b - a) / 4 * 3) hv2 hp2 hpg hc2.wf hl (by omega) (by omega)
  obtain ⟨r,H5,hd5,q4,rfl,h4,hv4,c4,hp4,hc4⟩:=B2f (cap:=cap) (i:=q1) (j:=q2) (m:=q3) hv3 hp3 hpg hc3.wf (by omega) (by omega) (by omega)
  have r9:H5.cell ⟨H.next,0,some 0⟩=some (.int .i64 c4):=hp4.cell 0
  have hkk:Kept H H5:=(((hk1.chg.trans hc1).trans hc2).trans hc3 |>.trans hc4).kept fun x hx=>by omega
  simp only [↓Sh.dn,sx,Nat.reduceBEq,reduceCtorEq,Nat.reduceEqDiff,d50]
  refine ⟨_,_,hd2,?_⟩
  try simp only [↓Sh.dn,sx,Nat.reduceBEq,reduceCtorEq,Nat.reduceEqDiff]
  refine ⟨_,_,hd3,?_⟩
  try simp only [↓Sh.dn,sx,Nat.reduceBEq,reduceCtorEq,Nat.reduceEqDiff]
  refine ⟨_,_,hd4,?_⟩
  try simp only [↓Sh.dn,sx,Nat.reduceBEq,reduceCtorEq,Nat.reduceEqDiff]
  refine ⟨_,_,hd5,?_⟩
  simp only [↓Sh.dn,sx,Nat.reduceBEq,reduceCtorEq,Nat.reduceEqDiff,r9]
  by_cases z0:c4=0
  ·simp only [↓Sh.dn,sx,Nat.reduceBEq,reduceCtorEq,Nat.reduceEqDiff,z0,decide_true,hres]
   exact ⟨q4,1,rfl,by omega,by omega,hv4,hkk⟩
  ·simp only [↓Sh.dn,sx,Nat.reduceBEq,reduceCtorEq,Nat.reduceEqDiff,z0,decide_false]
   by_cases z1:c4=12
   ·simp only [↓Sh.dn,sx,Nat.reduceBEq,reduceCtorEq,Nat.reduceEqDiff,z1,decide_true,hres]
    exact ⟨q4,2,rfl,by omega,by omega,hv4,hkk⟩
   ·simp only [↓Sh.dn,sx,Nat.reduceBEq,reduceCtorEq,Nat.reduceEqDiff,z1,decide_false,hres]
    exact ⟨q4,0,rfl,by omega,by omega,hv4,hkk⟩
 ·have d50:decide ((50:Int)≤((b - a:Nat):Int))=false:=by simp; omega
  obtain ⟨r,H5,hd5,q4,rfl,h4,hv4,c4,hp4,hc4⟩:=B2f (cap:=cap) (i:=a+(b - a) / 4 * 1) (j:=a+(b - a) / 4 * 2) (m:=a+(b - a) / 4 * 3) hv0 hp0 hpg hk1.wf (by omega) (by omega) (by omega)
  have r9:H5.cell ⟨H.next,0,some 0⟩=some (.int .i64 c4):=hp4.cell 0
  have hkk:Kept H H5:=(hk1.chg.trans hc4).kept fun x hx=>by omega
  simp only [↓Sh.dn,sx,Nat.reduceBEq,reduceCtorEq,Nat.reduceEqDiff,d50]
  refine ⟨_,_,hd5,?_⟩
  simp only [↓Sh.dn,sx,Nat.reduceBEq,reduceCtorEq,Nat.reduceEqDiff,r9]
  by_cases z0:c4=0
  ·simp only [↓Sh.dn,sx,Nat.reduceBEq,reduceCtorEq,Nat.reduceEqDiff,z0,decide_true,hres]
   exact ⟨q4,1,rfl,by omega,by omega,hv4,hkk⟩
  ·simp only [↓Sh.dn,sx,Nat.reduceBEq,reduceCtorEq,Nat.reduceEqDiff,z0,decide_false]
   by_cases z1:c4=12
   ·simp only [↓Sh.dn,sx,Nat.reduceBEq,reduceCtorEq,Nat.reduceEqDiff,z1,decide_true,hres]
    exact ⟨q4,2,rfl,by omega,by omega,hv4,hkk⟩
   ·simp only [↓Sh.dn,sx,Nat.reduceBEq,reduceCtorEq,Nat.reduceEqDiff,z1,decide_false,hres]
    exact ⟨q4,0,rfl,by omega,by omega,hv4,hkk⟩
end
end Go.Proofs.YtnoengaghabmjaaGreat
/- How many binary digits a number has. -/
namespace Go.Proofs.YtnoengaghabmjaaGreat
open Go Go.Proofs Go.Proofs.Sh
def C4k (x r:Nat):Prop:=x < 2 ^ r∧(x≠0→2 ^ r≤2 * x)∧r≤40
theorem C71 {x y u c:Nat} (hx:x < 2 ^ 32) (hc:c≤16) (hy:y=x / 2 ^ c) (hy0:y≠0) (h1:y < 2 ^ u) (h2:y≠0→2 ^ u≤2 * y) (h3:u≤8):C4k x (c+u):=by
  subst hy
  have e:2 ^ (c+u)=2 ^ u * 2 ^ c:=by rw [Nat.add_comm,Nat.pow_add]
  have hp:0 < 2 ^ c:=Nat.two_pow_pos c
  refine ⟨?_,fun _=>?_,by omega⟩
  · rw [e]
    exact Nat.lt_mul_of_div_lt h1 hp |> fun h=>by rw [Nat.mul_comm]; rw [Nat.mul_comm] at h; first | exact h | (rw [Nat.mul_comm]; exact h)
  · rw [e]
    have h4:=h2 hy0
    have h5:x / 2 ^ c * 2 ^ c≤x:=Nat.div_mul_le_self x (2 ^ c)
    calc 2 ^ u * 2 ^ c ≤ 2 * (x / 2 ^ c) * 2 ^ c := Nat.mul_le_mul_right _ h4
      _=2 * (x / 2 ^ c * 2 ^ c):=Nat.mul_assoc _ _ _
      _≤2 * x:=Nat.mul_le_mul_left 2 h5
theorem C7x {H:AH} {x:Nat} (hx:x < 16777216):Sh.Call Tryz.prog (knows 10) 182 [.int .u64 (x:Int)] H (fun r H'=>H'=H∧∃ c:Nat,r=.int .i64 (c:Int)∧C4k x c):=by
 refine A4a rfl Tryz.func182 rfl (Nat.le_of_ble_eq_true rfl) ?_
 have hres:Tryz.f182.results.toList=[.tmp 2]:=rfl
 have d1:decide ((4294967296:Int)≤(x:Int))=false:=by simp; omega
 simp only [↓Sh.dn,sx,Nat.reduceBEq,reduceCtorEq,Nat.reduceEqDiff,d1]
 by_cases h2:65536≤x
 ·have d2:decide ((65536:Int)≤(x:Int))=true:=by simp; omega
  have s2:A8o false .u64 (x:Int) 16=some (.int .u64 ((x / 2 ^ 16:Nat):Int)):=C6z (c:=16) (by omega)
  have hlt:x / 2 ^ 16 < 256:=by omega
  have d3:decide ((256:Int)≤((x / 2 ^ 16:Nat):Int))=false:=by simp; omega
  have w8:IntKind.wrap .u8 ((x / 2 ^ 16:Nat):Int)=((x / 2 ^ 16:Nat):Int):=C90 (by omega) (by omega)
  have w16:IntKind.wrap .i64 ((0:Int)+16)=16:=wrap64 (by omega) (by omega)
  simp only [↓Sh.dn,sx,Nat.reduceBEq,reduceCtorEq,Nat.reduceEqDiff,d2,C66,s2,d3,w16,w8]
  refine B8t Tryz.underlying9 (by kernel_rfl) hlt fun u u1 u2 u3=>?_
  have wu:IntKind.wrap .i64 (u:Int)=(u:Int):=wrap64 (by omega) (by omega)
  have ws:IntKind.wrap .i64 ((16:Int)+(u:Int))=((16+u:Nat):Int):=by rw [wrap64 (by omega) (by omega)]; rfl
  simp only [↓Sh.dn,sx,Nat.reduceBEq,reduceCtorEq,Nat.reduceEqDiff,wu,ws,hres]
  exact ⟨16+u,rfl,C71 (by omega) (by omega) rfl (by omega) u1 u2 u3⟩
 ·have d2:decide ((65536:Int)≤(x:Int))=false:=by simp; omega
  by_cases h3:256≤x
  ·have d3:decide ((256:Int)≤(x:Int))=true:=by simp; omega
   have s2:A8o false .u64 (x:Int) 8=some (.int .u64 ((x / 2 ^ 8:Nat):Int)):=C6z (c:=8) (by omega)
   have hlt:x / 2 ^ 8 < 256:=by omega
   have w8:IntKind.wrap .u8 ((x / 2 ^ 8:Nat):Int)=((x / 2 ^ 8:Nat):Int):=C90 (by omega) (by omega)
   have w16:IntKind.wrap .i64 ((0:Int)+8)=8:=wrap64 (by omega) (by omega)
   simp only [↓Sh.dn,sx,Nat.reduceBEq,reduceCtorEq,Nat.reduceEqDiff,d2,d3,C66,s2,w16,w8]
   refine B8t Tryz.underlying9 (by kernel_rfl) hlt fun u u1 u2 u3=>?_
   have wu:IntKind.wrap .i64 (u:Int)=(u:Int):=wrap64 (by omega) (by omega)
   have ws:IntKind.wrap .i64 ((8:Int)+(u:Int))=((8+u:Nat):Int):=by rw [wrap64 (by omega) (by omega)]; rfl
   simp only [↓Sh.dn,sx,Nat.reduceBEq,reduceCtorEq,Nat.reduceEqDiff,wu,ws,hres]
   exact ⟨8+u,rfl,C71 (by omega) (by omega) rfl (by omega) u1 u2 u3⟩
  ·have d3:decide ((256:Int)≤(x:Int))=false:=by simp; omega
   have w8:IntKind.wrap .u8 (x:Int)=(x:Int):=C90 (by omega) (by omega)
   simp only [↓Sh.dn,sx,Nat.reduceBEq,reduceCtorEq,Nat.reduceEqDiff,d2,d3,w8]
   refine B8t Tryz.underlying9 (by kernel_rfl) (by omega) fun u u1 u2 u3=>?_
   have wu:IntKind.wrap .i64 (u:Int)=(u:Int):=wrap64 (by omega) (by omega)
   have ws:IntKind.wrap .i64 ((0:Int)+(u:Int))=(u:Int):=by rw [wrap64 (by omega) (by omega)]; omega
   simp only [↓Sh.dn,sx,Nat.reduceBEq,reduceCtorEq,Nat.reduceEqDiff,wu,ws,hres]
   exact ⟨u,rfl,u1,u2,by omega⟩
theorem bitsLen {H:AH} {x:Nat} (hx:x < 16777216):Sh.Call Tryz.prog (knows 10) 170 [.int .u64 (x:Int)] H (fun r H'=>H'=H∧∃ c:Nat,r=.int .i64 (c:Int)∧C4k x c):=by
 refine A4a rfl Tryz.func170 rfl (Nat.le_of_ble_eq_true rfl) ?_
 have hres:Tryz.f170.results.toList=[.tmp 2]:=rfl
 obtain ⟨r,H1,hd,rfl,c,rfl,hc⟩:=C7x (H:=H) hx
 simp only [↓Sh.dn,sx,Nat.reduceBEq,reduceCtorEq,Nat.reduceEqDiff]
 refine ⟨_,_,hd,?_⟩
 simp only [↓Sh.dn,sx,Nat.reduceBEq,reduceCtorEq,Nat.reduceEqDiff,hres]
 exact ⟨c,rfl,hc⟩
theorem nextPow {H:AH} {x:Nat} (hx:x < 16777216):Sh.Call Tryz.prog (knows 10) 192 [.int .i64 (x:Int)] H (fun r H'=>H'=H∧∃ c:Nat,r=.int .u64 ((2 ^ c:Nat):Int)∧C4k x c):=by
 refine A4a rfl Tryz.func192 rfl (Nat.le_of_ble_eq_true rfl) ?_
 have hres:Tryz.f192.results.toList=[.tmp 2]:=rfl
 have w:IntKind.wrap .u64 (x:Int)=(x:Int):=A59 (by omega) (by omega)
 obtain ⟨r,H1,hd,rfl,c,rfl,hc⟩:=bitsLen (H:=H) hx
 simp only [↓Sh.dn,sx,Nat.reduceBEq,reduceCtorEq,Nat.reduceEqDiff,w]
 refine ⟨_,_,hd,?_⟩
 have sh:A8o true .u64 1 (c:Int)=some (.int .u64 ((2 ^ c:Nat):Int)):=shl_one (by have:=hc.2.2; omega)
 simp only [↓Sh.dn,sx,Nat.reduceBEq,reduceCtorEq,Nat.reduceEqDiff,b_shl,sh,hres]
 exact ⟨c,rfl,hc⟩
end Go.Proofs.YtnoengaghabmjaaGreat
/- breakPatternsOrdered. -/
namespace Go.Proofs.YtnoengaghabmjaaGreat
open Go Go.Proofs Go.Proofs.Sh
section
variable {H:AH} {g k n cap a b:Nat} {l:List Int}
theorem C9r {p:Nat} {z:Int} (hp:Arr H p 0 1 [.int .u64 z]) (hw:Wf H):
  Sh.Call Tryz.prog (knows 10) 193 [.pointer (some ⟨p,0,some 0⟩)] H (fun r H'=>∃ z',r=.int .u64 z'∧Arr H' p 0 1 [.int .u64 z']∧Chg (fun y=>y=p) H H'):=by
 refine A4a rfl Tryz.func193 rfl (Nat.le_of_ble_eq_true rfl) ?_
 have hres:Tryz.f193.results.toList=[.tmp 2]:=rfl
 have st:∀ (H:AH) (z:Int),A4f Tryz.prog 208 H (.int .u64 z) (.pointer (some ⟨p,0,some 0⟩))=H.write ⟨p,0,some 0⟩ [.int .u64 z]:=fun H z=>A1d B5v rfl
 obtain ⟨s1,h1⟩:∃ s,A8o true .u64 z 13=some (.int .u64 s):=B1t (b:=13)
 have r0:H.cell ⟨p,0,some 0⟩=some (.int .u64 z):=hp.cell 0
 obtain ⟨K1,e1,a1,n1,c1⟩:=hp.write hw (i:=0) (vs:=[.int .u64 (IntKind.wrap .u64 ((BitVec.ofInt IntKind.u64.bits z) ^^^ (BitVec.ofInt IntKind.u64.bits s1)).toNat)]) (by simp)
 simp only [↓Sh.dn,sx,Nat.reduceBEq,reduceCtorEq,Nat.reduceEqDiff]
 refine (A4d (by kernel_rfl)).2 ?_
 simp only [↓Sh.dn,sx,Nat.reduceBEq,reduceCtorEq,Nat.reduceEqDiff,r0,b_shl,h1,b_xor,st,e1]
 generalize IntKind.wrap .u64 ((BitVec.ofInt IntKind.u64.bits z) ^^^ (BitVec.ofInt IntKind.u64.bits s1)).toNat=z1 at a1 e1 ⊢
 obtain ⟨s2,h2⟩:∃ s,A8o false .u64 z1 7=some (.int .u64 s):=B1t (b:=7)
 have r1:K1.cell ⟨p,0,some 0⟩=some (.int .u64 z1):=a1.cell 0
 obtain ⟨K2,e2,a2,n2,c2⟩:=a1.write c1.wf (i:=0) (vs:=[.int .u64 (IntKind.wrap .u64 ((BitVec.ofInt IntKind.u64.bits z1) ^^^ (BitVec.ofInt IntKind.u64.bits s2)).toNat)]) (by simp [setCells])
 refine (A4d (by kernel_rfl)).2 ?_
 simp only [↓Sh.dn,sx,Nat.reduceBEq,reduceCtorEq,Nat.reduceEqDiff,r1,C66,h2,b_xor,st,e2]
 generalize IntKind.wrap .u64 ((BitVec.ofInt IntKind.u64.bits z1) ^^^ (BitVec.ofInt IntKind.u64.bits s2)).toNat=z2 at a2 e2 ⊢
 obtain ⟨s3,h3⟩:∃ s,A8o true .u64 z2 17=some (.int .u64 s):=B1t (b:=17)
 have r2:K2.cell ⟨p,0,some 0⟩=some (.int .u64 z2):=a2.cell 0
 obtain ⟨K3,e3,a3,n3,c3⟩:=a2.write c2.wf (i:=0) (vs:=[.int .u64 (IntKind.wrap .u64 ((BitVec.ofInt IntKind.u64.bits z2) ^^^ (BitVec.ofInt IntKind.u64.bits s3)).toNat)]) (by simp [setCells])
 refine (A4d (by kernel_rfl)).2 ?_
 simp only [↓Sh.dn,sx,Nat.reduceBEq,reduceCtorEq,Nat.reduceEqDiff,r2,b_shl,h3,b_xor,st,e3]
 generalize IntKind.wrap .u64 ((BitVec.ofInt IntKind.u64.bits z2) ^^^ (BitVec.ofInt IntKind.u64.bits s3)).toNat=z3 at a3 e3 ⊢
 have r3:K3.cell ⟨p,0,some 0⟩=some (.int .u64 z3):=a3.cell 0
 simp only [↓Sh.dn,sx,Nat.reduceBEq,reduceCtorEq,Nat.reduceEqDiff,r3,hres]
 exact ⟨z3,rfl,a3,(c1.trans c2).trans c3⟩
theorem B8c (hv:A6f H g k n l) (hw:Wf H) (hl:l.length≤1048576) (hab:a+12 < b) (hb:b≤l.length):
  Sh.Call Tryz.prog (knows 10) 174 [.slice (some ⟨g,0,some k⟩) l.length cap,.int .i64 (a:Int),.int .i64 (b:Int)] H
   (fun r H'=>∃ l',Mix a b l l'∧A6f H' g k n l'∧Chg (fun y=>y=g) H H'):=by
 refine A4a rfl Tryz.func174 rfl (Nat.le_of_ble_eq_true rfl) ?_
 have hres:Tryz.f174.results.toList=[]:=rfl
 have w0:IntKind.wrap .i64 ((b:Int) - (a:Int))=((b - a:Nat):Int):=by rw [wrap64 (by omega) (by omega)]; omega
 have d8:decide ((8:Int)≤((b - a:Nat):Int))=true:=by simp; omega
 have wu:IntKind.wrap .u64 ((b - a:Nat):Int)=((b - a:Nat):Int):=A59 (by omega) (by omega)
 have al:anew Tryz.prog 208 H (.int .u64 0)=some (.pointer (some ⟨H.next,0,some 0⟩),(H.new 1 [.int .u64 0]).2):=B7d B5v rfl
 have st:∀ (H:AH) (p:Addr) (z:Int),A4f Tryz.prog 208 H (.int .u64 z) (.pointer (some p))=H.write p [.int .u64 z]:=fun H p z=>A1d B5v rfl
 have ov:(H.new 1 [.int .u64 0]).2.write ⟨H.next,0,some 0⟩ [.int .u64 ((b - a:Nat):Int)]=some (H.new 1 [.int .u64 ((b - a:Nat):Int)]).2:=A4p rfl
 have hq4:(Int.tdiv ((b - a:Nat):Int) 4)=(((b - a) / 4:Nat):Int):=by rw [Int.tdiv_eq_ediv_of_nonneg (by omega)]; rfl
 have wq:IntKind.wrap .i64 (((b - a) / 4:Nat):Int)=(((b - a) / 4:Nat):Int):=wrap64 (by omega) (by omega)
 have m2:IntKind.wrap .i64 ((((b - a) / 4:Nat):Int) * 2)=(((b - a) / 4 * 2:Nat):Int):=by rw [wrap64 (by omega) (by omega)]; omega
 have p2:IntKind.wrap .i64 ((a:Int)+(((b - a) / 4 * 2:Nat):Int))=((a+(b - a) / 4 * 2:Nat):Int):=by rw [wrap64 (by omega) (by omega)]; rfl
 have q1:IntKind.wrap .i64 (((a+(b - a) / 4 * 2:Nat):Int) - 1)=((a+(b - a) / 4 * 2 - 1:Nat):Int):=by rw [wrap64 (by omega) (by omega)]; omega
 have q2:IntKind.wrap .i64 (((a+(b - a) / 4 * 2:Nat):Int)+1)=((a+(b - a) / 4 * 2+1:Nat):Int):=by rw [wrap64 (by omega) (by omega)]; rfl
 have hk1:Kept H (H.new 1 [.int .u64 ((b - a:Nat):Int)]).2:=Kept.new hw 1 _
 have hp0:Arr (H.new 1 [.int .u64 ((b - a:Nat):Int)]).2 H.next 0 1 [.int .u64 ((b - a:Nat):Int)]:=(Obj.new (H:=H) 1 _).arr
 have hv0:=hv.kept hw hk1
 have hpg:H.next≠g:=by have:=hv.lt hw; omega
 simp only [↓Sh.dn,sx,Nat.reduceBEq,reduceCtorEq,Nat.reduceEqDiff,w0,d8,wu,al,st,ov]
 generalize (H.new 1 [.int .u64 ((b - a:Nat):Int)]).2=H1 at hk1 hv0 hp0 ⊢
 obtain ⟨r,H2,hd,rfl,c,rfl,hc1,hc2,hc3⟩:=nextPow (H:=H1) (x:=b - a) (by omega)
 refine ⟨_,_,hd,?_⟩
 simp only [↓Sh.dn,sx,Nat.reduceBEq,reduceCtorEq,Nat.reduceEqDiff,w0,C2b (show (4:Int)≠0 by decide),hq4,wq,m2,p2,q1]
 have hc2':=hc2 (by omega)
 have hpos:0 < 2 ^ c:=Nat.two_pow_pos c
 have wc:IntKind.wrap .u64 (((2 ^ c:Nat):Int) - 1)=((2 ^ c - 1:Nat):Int):=by
  rw [A59 (by omega) (by omega)]; omega
 generalize hM:2 ^ c=M at *
 refine A1f (fun m F H' => ∃ (i : Nat) (z : Int) (l1 : List Int), m = a + (b - a) / 4 * 2 + 2 - i ∧ a + (b - a) / 4 * 2 - 1 ≤ i ∧ Mix a b l l1 ∧ A6f H' g k n l1 ∧ Arr H' H.next 0 1 [.int .u64 z] ∧ Chg (fun y => y = g ∨ y = H.next) H2 H' ∧
     F.get 0 = some (.slice (some ⟨g, 0, some k⟩) l.length cap) ∧ F.get 1 = some (.int .i64 (a : Int)) ∧ F.get 6 = some (.int .i64 ((b - a : Nat) : Int)) ∧ F.get 7 = some (.pointer (some ⟨H.next, 0, some 0⟩)) ∧ F.get 8 = some (.int .u64 (M : Int)) ∧ F.get 9 = some (.int .i64 (i : Int))) (m := a + (b - a) / 4 * 2 + 2 - (a + (b - a) / 4 * 2 - 1))
   ⟨a + (b - a) / 4 * 2 - 1, _, l, rfl, by omega, .refl l, hv0, hp0, Chg.refl hk1.wf, by simp only [↓Sh.dn, sx, Nat.reduceBEq, reduceCtorEq, Nat.reduceEqDiff], by simp only [↓Sh.dn, sx, Nat.reduceBEq, reduceCtorEq, Nat.reduceEqDiff], by simp only [↓Sh.dn, sx, Nat.reduceBEq, reduceCtorEq, Nat.reduceEqDiff], by simp only [↓Sh.dn, sx, Nat.reduceBEq, reduceCtorEq, Nat.reduceEqDiff], by simp only [↓Sh.dn, sx, Nat.reduceBEq, reduceCtorEq, Nat.reduceEqDiff], by simp only [↓Sh.dn, sx, Nat.reduceBEq, reduceCtorEq, Nat.reduceEqDiff]⟩ ?_
 rintro m F H' ⟨i,z,l1,rfl,hai,hm,hv1,hp1,hch,f0,f1,f6,f7,f8,f9⟩ kk
 have hlen:=hm.length
 by_cases hlt:i≤a+(b - a) / 4 * 2+1
 ·have dl:decide ((i:Int)≤((a+(b - a) / 4 * 2+1:Nat):Int))=true:=by simp; omega
  obtain ⟨r,H3,hd3,z',rfl,hp2,hc3'⟩:=C9r hp1 hch.wf
  have hv2:=hv1.chg hch.wf hc3' (fun h=>hpg h.symm)
  obtain ⟨o,ho1,ho2⟩:=and_le z' (m:=M - 1) (by omega)
  have wo:IntKind.wrap .i64 (o:Int)=(o:Int):=wrap64 (by omega) (by omega)
  simp only [↓Sh.dn,sx,Nat.reduceBEq,reduceCtorEq,Nat.reduceEqDiff,f1,f6,f9,C2b (show (4:Int)≠0 by decide),hq4,wq,m2,p2,q2,dl,f7]
  refine ⟨_,_,hd3,?_⟩
  simp only [↓Sh.dn,sx,Nat.reduceBEq,reduceCtorEq,Nat.reduceEqDiff,f8,wc,b_and,ho2,wo,f6]
  have key:∀ (o':Nat) (F':Fr),o' < b - a→F'.get 0=some (.slice (some ⟨g,0,some k⟩) l.length cap)→F'.get 1=some (.int .i64 (a:Int))→F'.get 6=some (.int .i64 ((b - a:Nat):Int))→F'.get 7=some (.pointer (some ⟨H.next,0,some 0⟩))→F'.get 8=some (.int .u64 (M:Int))→F'.get 9=some (.int .i64 (i:Int))→F'.get 10=some (.int .i64 (o':Int))→True:=fun _ _ _ _ _ _ _ _ _ _=>trivial
  have wi:IntKind.wrap .i64 ((i:Int)+1)=((i+1:Nat):Int):=by rw [wrap64 (by omega) (by omega)]; rfl
  by_cases hbig:b - a≤o
  ·have db:decide (((b - a:Nat):Int)≤(o:Int))=true:=by simp; omega
   have ws:IntKind.wrap .i64 ((o:Int) - ((b - a:Nat):Int))=((o - (b - a):Nat):Int):=by rw [wrap64 (by omega) (by omega)]; omega
   have wa:IntKind.wrap .i64 ((a:Int)+((o - (b - a):Nat):Int))=((a+(o - (b - a)):Nat):Int):=by rw [wrap64 (by omega) (by omega)]; rfl
   have hi:i < l1.length:=by omega
   have hj:a+(o - (b - a)) < l1.length:=by omega
   have i1:=A8d (g:=g) (k:=k) (cap:=cap) (m:=l.length) (i:=i) (j:=.i64) (by omega)
   have i2:=A8d (g:=g) (k:=k) (cap:=cap) (m:=l.length) (i:=a+(o - (b - a))) (j:=.i64) (by omega)
   have r1:=A2d hv2 hi
   have r2:=A2d hv2 hj
   obtain ⟨K1,K2,e1,e2,e3,e4,e5⟩:=A5l hv2 hc3'.wf hi hj
   simp only [↓Sh.dn,sx,Nat.reduceBEq,reduceCtorEq,Nat.reduceEqDiff,db,f6,ws]
   refine (A4d (by kernel_rfl)).2 ?_
   simp only [↓Sh.dn,sx,Nat.reduceBEq,reduceCtorEq,Nat.reduceEqDiff,f0,f1,f9,wa,i1,i2,r1,r2,A1o,e1,e2,wi]
   exact kk (a+(b - a) / 4 * 2+2 - (i+1)) _ _ (by omega) ⟨i+1,z',swp l1 i (a+(o - (b - a))),rfl,by omega,hm.swap (by omega) (by omega) (by omega) (by omega),e3,hp2.keep (e4.old _ (hp2.lt hc3'.wf) hpg),(hch.trans (hc3'.weak fun _ h=>.inr h)).trans (e4.weak fun _ h=>.inl h),by simp only [↓Sh.dn,sx,Nat.reduceBEq,reduceCtorEq,Nat.reduceEqDiff,f0],by simp only [↓Sh.dn,sx,Nat.reduceBEq,reduceCtorEq,Nat.reduceEqDiff,f1],by simp only [↓Sh.dn,sx,Nat.reduceBEq,reduceCtorEq,Nat.reduceEqDiff,f6],by simp only [↓Sh.dn,sx,Nat.reduceBEq,reduceCtorEq,Nat.reduceEqDiff,f7],by simp only [↓Sh.dn,sx,Nat.reduceBEq,reduceCtorEq,Nat.reduceEqDiff,f8],by simp only [↓Sh.dn,sx,Nat.reduceBEq,reduceCtorEq,Nat.reduceEqDiff]⟩
  ·have db:decide (((b - a:Nat):Int)≤(o:Int))=false:=by simp; omega
   have wa:IntKind.wrap .i64 ((a:Int)+(o:Int))=((a+o:Nat):Int):=by rw [wrap64 (by omega) (by omega)]; rfl
   have hi:i < l1.length:=by omega
   have hj:a+o < l1.length:=by omega
   have i1:=A8d (g:=g) (k:=k) (cap:=cap) (m:=l.length) (i:=i) (j:=.i64) (by omega)
   have i2:=A8d (g:=g) (k:=k) (cap:=cap) (m:=l.length) (i:=a+o) (j:=.i64) (by omega)
   have r1:=A2d hv2 hi
   have r2:=A2d hv2 hj
   obtain ⟨K1,K2,e1,e2,e3,e4,e5⟩:=A5l hv2 hc3'.wf hi hj
   simp only [↓Sh.dn,sx,Nat.reduceBEq,reduceCtorEq,Nat.reduceEqDiff,db]
   refine (A4d (by kernel_rfl)).2 ?_
   simp only [↓Sh.dn,sx,Nat.reduceBEq,reduceCtorEq,Nat.reduceEqDiff,f0,f1,f9,wa,i1,i2,r1,r2,A1o,e1,e2,wi]
   exact kk (a+(b - a) / 4 * 2+2 - (i+1)) _ _ (by omega) ⟨i+1,z',swp l1 i (a+o),rfl,by omega,hm.swap (by omega) (by omega) (by omega) (by omega),e3,hp2.keep (e4.old _ (hp2.lt hc3'.wf) hpg),(hch.trans (hc3'.weak fun _ h=>.inr h)).trans (e4.weak fun _ h=>.inl h),by simp only [↓Sh.dn,sx,Nat.reduceBEq,reduceCtorEq,Nat.reduceEqDiff,f0],by simp only [↓Sh.dn,sx,Nat.reduceBEq,reduceCtorEq,Nat.reduceEqDiff,f1],by simp only [↓Sh.dn,sx,Nat.reduceBEq,reduceCtorEq,Nat.reduceEqDiff,f6],by simp only [↓Sh.dn,sx,Nat.reduceBEq,reduceCtorEq,Nat.reduceEqDiff,f7],by simp only [↓Sh.dn,sx,Nat.reduceBEq,reduceCtorEq,Nat.reduceEqDiff,f8],by simp only [↓Sh.dn,sx,Nat.reduceBEq,reduceCtorEq,Nat.reduceEqDiff]⟩
 ·have dl:decide ((i:Int)≤((a+(b - a) / 4 * 2+1:Nat):Int))=false:=by simp; omega
  simp only [↓Sh.dn,sx,Nat.reduceBEq,reduceCtorEq,Nat.reduceEqDiff,f1,f6,f9,C2b (show (4:Int)≠0 by decide),hq4,wq,m2,p2,q2,dl,hres]
  refine ⟨l1,hm,hv1,?_⟩
  exact ⟨fun x hx hxg=>(hch.old x (Nat.lt_of_lt_of_le hx hk1.next) (fun h=>by rcases h with h | h; exact hxg h; omega)).trans (hk1.old x hx),Nat.le_trans hk1.next hch.next,hch.wf⟩
end
end Go.Proofs.YtnoengaghabmjaaGreat
/- siftDownOrdered, heapSortOrdered. -/
namespace Go.Proofs.YtnoengaghabmjaaGreat
open Go Go.Proofs Go.Proofs.Sh
def B2b (l:List Int) (f lo hi:Nat):Prop:=∀ (q r:Nat) x y,lo≤r→(q=2 * r+1∨q=2 * r+2)→q < hi→l[f+r]?=some x→l[f+q]?=some y→A9c x y=false
theorem C4o {l:List Int} {f hi:Nat} (h:B2b l f 0 hi) (hl:f+hi≤l.length):∀ (q:Nat) x y,q < hi→l[f]?=some x→l[f+q]?=some y→A9c x y=false:=by
 intro q
 induction q using Nat.strongRecOn with
 | _ q ih=>
  intro x y hq hx hy
  by_cases h0:q=0
  ·subst h0
   rw [Nat.add_zero,hx] at hy
   rw [← Option.some.inj hy]; exact intTO.irrefl x
  ·have hr:(q - 1) / 2 < q:=by omega
   have hz:l[f+(q - 1) / 2]?=some (l[f+(q - 1) / 2]'(by omega)):=List.getElem?_eq_getElem (by omega)
   exact intTO.le_trans (h q ((q - 1) / 2) _ _ (Nat.zero_le _) (by omega) hq hz hy) (ih _ hr x _ (by omega) hx hz)
section
variable {H:AH} {g k n cap:Nat} {l:List Int}
theorem B2g {lo hi f:Nat} (hv:A6f H g k n l) (hw:Wf H) (hl:l.length≤1048576) (hlo:lo≤hi) (hb:f+hi≤l.length) (hh:B2b l f (lo+1) hi):
  Sh.Call Tryz.prog (knows 10) 191 [.slice (some ⟨g,0,some k⟩) l.length cap,.int .i64 (lo:Int),.int .i64 (hi:Int),.int .i64 (f:Int)] H
   (fun r H'=>∃ l',Mix (f+lo) (f+hi) l l'∧B2b l' f lo hi∧A6f H' g k n l'∧Chg (fun y=>y=g) H H'):=by
 refine A4a rfl Tryz.func191 rfl (Nat.le_of_ble_eq_true rfl) ?_
 have hres:Tryz.f191.results.toList=[]:=rfl
 have hTO:=intTO
 simp only [↓Sh.dn,sx,Nat.reduceBEq,reduceCtorEq,Nat.reduceEqDiff]
 refine A1f (fun m F H' => ∃ (r : Nat) (l1 : List Int), m = hi - r ∧ lo ≤ r ∧ r ≤ hi ∧ Mix (f + lo) (f + hi) l l1 ∧
     (∀ (q p : Nat) x y, lo ≤ p → p ≠ r → (q = 2 * p + 1 ∨ q = 2 * p + 2) → q < hi → l1[f + p]? = some x → l1[f + q]? = some y → A9c x y = false) ∧
     (∀ (q p : Nat) x y, lo ≤ p → (r = 2 * p + 1 ∨ r = 2 * p + 2) → (q = 2 * r + 1 ∨ q = 2 * r + 2) → q < hi → l1[f + p]? = some x → l1[f + q]? = some y → A9c x y = false) ∧
     A6f H' g k n l1 ∧ Chg (fun y => y = g) H H' ∧
     F.get 0 = some (.slice (some ⟨g, 0, some k⟩) l.length cap) ∧ F.get 2 = some (.int .i64 (hi : Int)) ∧ F.get 3 = some (.int .i64 (f : Int)) ∧ F.get 8 = some (.int .i64 (r : Int))) (m := hi - lo)
   ⟨lo, l, rfl, Nat.le_refl _, hlo, .refl l, fun q p x y h1 h2 h3 h4 hx hy => hh q p x y (by omega) h3 h4 hx hy, fun q p x y h1 h2 => by omega, hv, Chg.refl hw, by simp only [↓Sh.dn, sx, Nat.reduceBEq, reduceCtorEq, Nat.reduceEqDiff], by simp only [↓Sh.dn, sx, Nat.reduceBEq, reduceCtorEq, Nat.reduceEqDiff], by simp only [↓Sh.dn, sx, Nat.reduceBEq, reduceCtorEq, Nat.reduceEqDiff], by simp only [↓Sh.dn, sx, Nat.reduceBEq, reduceCtorEq, Nat.reduceEqDiff]⟩ ?_
 rintro m F H' ⟨r,l1,rfl,hr,hrh,hm,hA,hB,hv1,hc1,f0,f2,f3,f8⟩ kk
 have hlen:=hm.length
 have w1:IntKind.wrap .i64 ((2:Int) * (r:Int))=((2 * r:Nat):Int):=by rw [wrap64 (by omega) (by omega)]; rfl
 have w2:IntKind.wrap .i64 (((2 * r:Nat):Int)+1)=((2 * r+1:Nat):Int):=by rw [wrap64 (by omega) (by omega)]; rfl
 have w3:IntKind.wrap .i64 (((2 * r+1:Nat):Int)+1)=((2 * r+1+1:Nat):Int):=by rw [wrap64 (by omega) (by omega)]; rfl
 simp only [↓Sh.dn,sx,Nat.reduceBEq,reduceCtorEq,Nat.reduceEqDiff,f2,f8,w1,w2]
 by_cases hend:hi≤2 * r+1
 ·have d:decide ((hi:Int)≤((2 * r+1:Nat):Int))=true:=by simp; omega
  simp only [↓Sh.dn,sx,Nat.reduceBEq,reduceCtorEq,Nat.reduceEqDiff,d,hres]
  exact ⟨l1,hm,fun q p x y h1 h2 h3 hx hy=>hA q p x y h1 (by omega) h2 h3 hx hy,hv1,hc1⟩
 have d:decide ((hi:Int)≤((2 * r+1:Nat):Int))=false:=by simp; omega
 simp only [↓Sh.dn,sx,Nat.reduceBEq,reduceCtorEq,Nat.reduceEqDiff,d]
 have jr:f+r < l1.length:=by omega
 have ir:=A8d (g:=g) (k:=k) (cap:=cap) (m:=l.length) (i:=f+r) (j:=.i64) (by omega)
 have gr:=A2d hv1 jr
 have qr:l1[f+r]?=some l1[f+r]:=List.getElem?_eq_getElem jr
 have wfr:IntKind.wrap .i64 ((f:Int)+(r:Int))=((f+r:Nat):Int):=by rw [wrap64 (by omega) (by omega)]; rfl
 refine B91 (fun F' H2=>H2=H'∧F'.get 0=some (.slice (some ⟨g,0,some k⟩) l.length cap)∧F'.get 2=some (.int .i64 (hi:Int))∧F'.get 3=some (.int .i64 (f:Int))∧F'.get 8=some (.int .i64 (r:Int))∧F'.get 9=some (.int .i64 ((2 * r+1:Nat):Int))∧
  ∃ bb:Bool,F'.get 36=some (.bool bb)∧(bb=true→2 * r+2 < hi∧∀ y z,l1[f+(2 * r+1)]?=some y→l1[f+(2 * r+2)]?=some z→A9c y z=true)∧(bb=false→2 * r+2 < hi→∀ y z,l1[f+(2 * r+1)]?=some y→l1[f+(2 * r+2)]?=some z→A9c y z=false)) rfl ?_ ?_
 ·refine (A4d (by kernel_rfl)).2 ?_
  by_cases h2:2 * r+1+1 < hi
  ·have j1:f+(2 * r+1) < l1.length:=by omega
   have j2:f+(2 * r+1)+1 < l1.length:=by omega
   have i1:=A8d (g:=g) (k:=k) (cap:=cap) (m:=l.length) (i:=f+(2 * r+1)) (j:=.i64) (by omega)
   have i2:=A8d (g:=g) (k:=k) (cap:=cap) (m:=l.length) (i:=f+(2 * r+1)+1) (j:=.i64) (by omega)
   have g1:=A2d hv1 j1
   have g2:=A2d hv1 j2
   have u1:IntKind.wrap .i64 ((f:Int)+((2 * r+1:Nat):Int))=((f+(2 * r+1):Nat):Int):=by rw [wrap64 (by omega) (by omega)]; rfl
   have u2:IntKind.wrap .i64 (((f+(2 * r+1):Nat):Int)+1)=((f+(2 * r+1)+1:Nat):Int):=by rw [wrap64 (by omega) (by omega)]; rfl
   simp only [↓Sh.dn,sx,Nat.reduceBEq,reduceCtorEq,Nat.reduceEqDiff,f0,f2,f3,w3,A5a,h2,decide_true,u1,u2,i1,i2,g1,g2]
   refine ⟨_,_,A2f,?_⟩
   simp only [↓Sh.dn,sx,Nat.reduceBEq,reduceCtorEq,Nat.reduceEqDiff,f0,f2,f3,f8]
   have e1:l1[f+(2 * r+1)]?=some l1[f+(2 * r+1)]:=List.getElem?_eq_getElem j1
   have e2:l1[f+(2 * r+2)]?=some l1[f+(2 * r+1)+1]:=List.getElem?_eq_getElem j2
   refine ⟨fun hb y z hy hz=>?_,fun hb y z hy hz=>?_⟩
   ·rw [e1] at hy; rw [e2] at hz; rw [← Option.some.inj hy,← Option.some.inj hz]; exact hb
   ·rw [e1] at hy; rw [e2] at hz; rw [← Option.some.inj hy,← Option.some.inj hz]; exact hb
  ·simp only [↓Sh.dn,sx,Nat.reduceBEq,reduceCtorEq,Nat.reduceEqDiff,f0,f2,f3,f8,w3,A5a,h2,decide_false]
   try (refine fun h=>by omega)
 rintro F1 H2 ⟨rfl,x0,x2,x3,x8,x9,bb,x36,hb1,hb2⟩
 refine C22 (fun F' H3=>H3=H2∧F'.get 0=some (.slice (some ⟨g,0,some k⟩) l.length cap)∧F'.get 2=some (.int .i64 (hi:Int))∧F'.get 3=some (.int .i64 (f:Int))∧F'.get 8=some (.int .i64 (r:Int))∧
  ∃ c:Nat,F'.get 9=some (.int .i64 (c:Int))∧(c=2 * r+1∨c=2 * r+2)∧c < hi∧(∀ (q:Nat) y z,(q=2 * r+1∨q=2 * r+2)→q < hi→l1[f+c]?=some y→l1[f+q]?=some z→A9c y z=false)) rfl ?_ ?_
 ·cases bb with
  | true=>
   obtain ⟨h1,h2⟩:=hb1 rfl
   simp only [↓Sh.dn,sx,Nat.reduceBEq,reduceCtorEq,Nat.reduceEqDiff,x0,x2,x3,x8,x9,x36,w3]
   refine ⟨2 * r+2,rfl,.inr rfl,h1,fun q y z hq hqh hy hz=>?_⟩
   rcases hq with rfl | rfl
   ·exact hTO.asymm (h2 z y hz hy)
   ·rw [hy] at hz; rw [← Option.some.inj hz]; exact hTO.irrefl y
  | false=>
   simp only [↓Sh.dn,sx,Nat.reduceBEq,reduceCtorEq,Nat.reduceEqDiff,x0,x2,x3,x8,x9,x36]
   refine ⟨2 * r+1,rfl,.inl rfl,by omega,fun q y z hq hqh hy hz=>?_⟩
   rcases hq with rfl | rfl
   ·rw [hy] at hz; rw [← Option.some.inj hz]; exact hTO.irrefl y
   ·exact hb2 rfl hqh y z hy hz
 rintro F' H3 ⟨rfl,g0,g2,g3,g8,c,g9,hc,hch,hmax⟩
 have jc:f+c < l1.length:=by omega
 have ic:=A8d (g:=g) (k:=k) (cap:=cap) (m:=l.length) (i:=f+c) (j:=.i64) (by omega)
 have gc:=A2d hv1 jc
 have qc:l1[f+c]?=some l1[f+c]:=List.getElem?_eq_getElem jc
 have wfc:IntKind.wrap .i64 ((f:Int)+(c:Int))=((f+c:Nat):Int):=by rw [wrap64 (by omega) (by omega)]; rfl
 simp only [↓Sh.dn,sx,Nat.reduceBEq,reduceCtorEq,Nat.reduceEqDiff]
 refine (A4d (by kernel_rfl)).2 ?_
 simp only [↓Sh.dn,sx,Nat.reduceBEq,reduceCtorEq,Nat.reduceEqDiff,g0,g3,g8,g9,wfr,wfc,ir,ic,gr,gc]
 refine ⟨_,_,A2f,?_⟩
 cases hlt:A9c l1[f+r] l1[f+c] with
 | false=>
  simp only [↓Sh.dn,sx,Nat.reduceBEq,reduceCtorEq,Nat.reduceEqDiff,hres]
  refine ⟨l1,hm,fun q p x y h1 h2 h3 hx hy=>?_,hv1,hc1⟩
  by_cases hp:p=r
  ·subst hp
   rw [qr] at hx
   rw [← Option.some.inj hx]
   exact hTO.le_trans (hmax q _ _ h2 h3 qc hy) hlt
  ·exact hA q p x y h1 hp h2 h3 hx hy
 | true=>
  obtain ⟨K1,K2,e1,e2,e3,e4,e5⟩:=A5l hv1 hc1.wf jr jc
  simp only [↓Sh.dn,sx,Nat.reduceBEq,reduceCtorEq,Nat.reduceEqDiff]
  refine (A4d (by kernel_rfl)).2 ?_
  simp only [↓Sh.dn,sx,Nat.reduceBEq,reduceCtorEq,Nat.reduceEqDiff,g0,g3,g8,g9,wfr,wfc,ir,ic,gr,gc,A1o,e1,e2]
  refine kk (hi - c) _ _ (by omega) ⟨c,swp l1 (f+r) (f+c),rfl,by omega,by omega,hm.swap (by omega) (by omega) (by omega) (by omega),fun q p x y h1 h2 h3 h4 hx hy=>?_,fun q p x y h1 h2 h3 h4 hx hy=>?_,e3,hc1.trans e4,by simp only [↓Sh.dn,sx,Nat.reduceBEq,reduceCtorEq,Nat.reduceEqDiff,g0],by simp only [↓Sh.dn,sx,Nat.reduceBEq,reduceCtorEq,Nat.reduceEqDiff,g2],by simp only [↓Sh.dn,sx,Nat.reduceBEq,reduceCtorEq,Nat.reduceEqDiff,g3],by simp only [↓Sh.dn,sx,Nat.reduceBEq,reduceCtorEq,Nat.reduceEqDiff]⟩
  ·rw [swp_get jr jc] at hx hy
   by_cases hp:p=r
   ·subst hp
    rw [if_neg (by omega),if_pos rfl,qc] at hx
    rw [← Option.some.inj hx]
    by_cases hq:q=c
    ·subst hq
     rw [if_pos rfl,qr] at hy
     rw [← Option.some.inj hy]; exact hTO.asymm hlt
    ·rw [if_neg (by omega),if_neg (by omega)] at hy
     exact hmax q _ _ h3 h4 qc hy
   ·rw [if_neg (by omega),if_neg (by omega)] at hx
    by_cases hq:q=r
    ·subst hq
     rw [if_neg (by omega),if_pos rfl] at hy
     exact hB c p x _ h1 (by omega) hc hch hx hy
    ·by_cases hq2:q=c
     ·omega
     ·rw [if_neg (by omega),if_neg (by omega)] at hy
      exact hA q p x y h1 hp h3 h4 hx hy
  ·have hpr:p=r:=by omega
   subst hpr
   rw [swp_get jr jc] at hx hy
   rw [if_neg (by omega),if_pos rfl,qc] at hx
   rw [if_neg (by omega),if_neg (by omega)] at hy
   rw [← Option.some.inj hx]
   exact hA q c _ _ (by omega) (by omega) h3 h4 qc hy
theorem C3c {a b:Nat} (hv:A6f H g k n l) (hw:Wf H) (hl:l.length≤1048576) (hab:a < b) (hb:b≤l.length):
  Sh.Call Tryz.prog (knows 10) 173 [.slice (some ⟨g,0,some k⟩) l.length cap,.int .i64 (a:Int),.int .i64 (b:Int)] H
   (fun r H'=>∃ l',Mix a b l l'∧Srt A9c a b l'∧A6f H' g k n l'∧Chg (fun y=>y=g) H H'):=by
 refine A4a rfl Tryz.func173 rfl (Nat.le_of_ble_eq_true rfl) ?_
 have hres:Tryz.f173.results.toList=[]:=rfl
 have hTO:=intTO
 obtain ⟨hi,rfl⟩:∃ hi,b=a+hi:=⟨b - a,by omega⟩
 have w0:IntKind.wrap .i64 (((a+hi:Nat):Int) - (a:Int))=(hi:Int):=by rw [wrap64 (by omega) (by omega)]; omega
 have w1:IntKind.wrap .i64 ((hi:Int) - 1)=((hi - 1:Nat):Int):=by rw [wrap64 (by omega) (by omega)]; omega
 have hq2:(Int.tdiv ((hi - 1:Nat):Int) 2)=(((hi - 1) / 2:Nat):Int):=by rw [Int.tdiv_eq_ediv_of_nonneg (by omega)]; rfl
 have wq:IntKind.wrap .i64 (((hi - 1) / 2:Nat):Int)=(((hi - 1) / 2:Nat):Int):=wrap64 (by omega) (by omega)
 simp only [↓Sh.dn,sx,Nat.reduceBEq,reduceCtorEq,Nat.reduceEqDiff,w0,w1,C2b (show (2:Int)≠0 by decide),hq2,wq]
 refine B33 (fun F' H2 => ∃ l1 : List Int, Mix a (a + hi) l l1 ∧ B2b l1 a 0 hi ∧ A6f H2 g k n l1 ∧ Chg (fun y => y = g) H H2 ∧
     F'.get 0 = some (.slice (some ⟨g, 0, some k⟩) l.length cap) ∧ F'.get 6 = some (.int .i64 (a : Int)) ∧ F'.get 7 = some (.int .i64 0) ∧ F'.get 8 = some (.int .i64 (hi : Int))) (by rfl) ?_ ?_
 ·refine A1f (fun m F H' => ∃ l1 : List Int, m ≤ (hi - 1) / 2 + 1 ∧ Mix a (a + hi) l l1 ∧ B2b l1 a m hi ∧ A6f H' g k n l1 ∧ Chg (fun y => y = g) H H' ∧
    F.get 0 = some (.slice (some ⟨g, 0, some k⟩) l.length cap) ∧ F.get 6 = some (.int .i64 (a : Int)) ∧ F.get 7 = some (.int .i64 0) ∧ F.get 8 = some (.int .i64 (hi : Int)) ∧ F.get 9 = some (.int .i64 ((m : Int) - 1))) (m := (hi - 1) / 2 + 1)
    ⟨l, Nat.le_refl _, .refl l, fun q r x y h1 h2 h3 => by omega, hv, Chg.refl hw, by simp only [↓Sh.dn, sx, Nat.reduceBEq, reduceCtorEq, Nat.reduceEqDiff], by simp only [↓Sh.dn, sx, Nat.reduceBEq, reduceCtorEq, Nat.reduceEqDiff], by simp only [↓Sh.dn, sx, Nat.reduceBEq, reduceCtorEq, Nat.reduceEqDiff], by simp only [↓Sh.dn, sx, Nat.reduceBEq, reduceCtorEq, Nat.reduceEqDiff], by simp only [↓Sh.dn, sx, Nat.reduceBEq, reduceCtorEq, Nat.reduceEqDiff]; congr 2; omega⟩ ?_
  rintro m F H' ⟨l1, hmh, hm, hh, hv1, hc1, f0, f6, f7, f8, f9⟩ kk
  have hlen := hm.length
  cases m with
  | zero =>
    have d : decide ((0 : Int) ≤ ((0 : Nat) : Int) - 1) = false := by simp
    simp only [↓Sh.dn, sx, Nat.reduceBEq, reduceCtorEq, Nat.reduceEqDiff, f9, d, f0, f6, f7, f8]
    exact ⟨l1, hm, hh, hv1, hc1⟩
  | succ m =>
    have e9 : ((m + 1 : Nat) : Int) - 1 = (m : Int) := by omega
    rw [e9] at f9
    have d : decide ((0 : Int) ≤ (m : Int)) = true := by simp
    obtain ⟨r, H2, hd, l2, hm2, hh2, hv2, hc2⟩ := B2g (cap := cap) (lo := m) (hi := hi) (f := a) hv1 hc1.wf (by omega) (by omega) (by omega) hh
    have wm : IntKind.wrap .i64 ((m : Int) - 1) = (m : Int) - 1 := wrap64 (by omega) (by omega)
    rw [hlen] at hd
    simp only [↓Sh.dn, sx, Nat.reduceBEq, reduceCtorEq, Nat.reduceEqDiff, f9, d, f0, f6, f8]
    refine ⟨_, _, hd, ?_⟩
    simp only [↓Sh.dn, sx, Nat.reduceBEq, reduceCtorEq, Nat.reduceEqDiff, f9, wm]
    exact kk m _ _ (by omega) ⟨l2, by omega, hm.trans (hm2.wide (by omega) (Nat.le_refl _)), hh2, hv2, hc1.trans hc2, by simp only [↓Sh.dn, sx, Nat.reduceBEq, reduceCtorEq, Nat.reduceEqDiff, f0], by simp only [↓Sh.dn, sx, Nat.reduceBEq, reduceCtorEq, Nat.reduceEqDiff, f6], by simp only [↓Sh.dn, sx, Nat.reduceBEq, reduceCtorEq, Nat.reduceEqDiff, f7], by simp only [↓Sh.dn, sx, Nat.reduceBEq, reduceCtorEq, Nat.reduceEqDiff, f8], by simp only [↓Sh.dn, sx, Nat.reduceBEq, reduceCtorEq, Nat.reduceEqDiff]⟩
 rintro F1 H1 ⟨l1,hm1,hh1,hv1,hc1,f0,f6,f7,f8⟩
 have hlen1:=hm1.length
 simp only [↓Sh.dn,sx,Nat.reduceBEq,reduceCtorEq,Nat.reduceEqDiff,f8,w1]
 refine A1f (fun m F H' => ∃ l2 : List Int, m ≤ hi ∧ Mix a (a + hi) l l2 ∧ B2b l2 a 0 m ∧ (∀ (p q : Nat) x y, p < q → m ≤ q → q < hi → l2[a + p]? = some x → l2[a + q]? = some y → A9c y x = false) ∧ A6f H' g k n l2 ∧ Chg (fun y => y = g) H H' ∧
     F.get 0 = some (.slice (some ⟨g, 0, some k⟩) l.length cap) ∧ F.get 6 = some (.int .i64 (a : Int)) ∧ F.get 7 = some (.int .i64 0) ∧ F.get 10 = some (.int .i64 ((m : Int) - 1))) (m := hi)
   ⟨l1, Nat.le_refl _, hm1, hh1, fun p q x y h1 h2 h3 => by omega, hv1, hc1, by simp only [↓Sh.dn, sx, Nat.reduceBEq, reduceCtorEq, Nat.reduceEqDiff, f0], by simp only [↓Sh.dn, sx, Nat.reduceBEq, reduceCtorEq, Nat.reduceEqDiff, f6], by simp only [↓Sh.dn, sx, Nat.reduceBEq, reduceCtorEq, Nat.reduceEqDiff, f7], by simp only [↓Sh.dn, sx, Nat.reduceBEq, reduceCtorEq, Nat.reduceEqDiff]; congr 2; omega⟩ ?_
 rintro m F H' ⟨l2,hmh,hm,hh,hT,hv2,hc2,f0,f6,f7,f10⟩ kk
 have hlen:=hm.length
 cases m with
 | zero=>
  have d:decide ((0:Int)≤((0:Nat):Int) - 1)=false:=by simp
  simp only [↓Sh.dn,sx,Nat.reduceBEq,reduceCtorEq,Nat.reduceEqDiff,f10,d,hres]
  refine ⟨l2,hm,fun i j x y h1 h2 h3 hx hy=>?_,hv2,hc2⟩
  by_cases hij:i=j
  ·subst hij
   rw [hx] at hy
   rw [← Option.some.inj hy]; exact hTO.irrefl x
  ·exact hT (i - a) (j - a) x y (by omega) (Nat.zero_le _) (by omega) (by rw [show a+(i - a)=i by omega]; exact hx) (by rw [show a+(j - a)=j by omega]; exact hy)
 | succ m=>
  have e10:((m+1:Nat):Int) - 1=(m:Int):=by omega
  rw [e10] at f10
  have d:decide ((0:Int)≤(m:Int))=true:=by simp
  have ja:a < l2.length:=by omega
  have jm:a+m < l2.length:=by omega
  have i1:=A8d (g:=g) (k:=k) (cap:=cap) (m:=l.length) (i:=a) (j:=.i64) (by omega)
  have i2:=A8d (g:=g) (k:=k) (cap:=cap) (m:=l.length) (i:=a+m) (j:=.i64) (by omega)
  have g1:=A2d hv2 ja
  have g2:=A2d hv2 jm
  have wam:IntKind.wrap .i64 ((a:Int)+(m:Int))=((a+m:Nat):Int):=by rw [wrap64 (by omega) (by omega)]; rfl
  have wm:IntKind.wrap .i64 ((m:Int) - 1)=(m:Int) - 1:=wrap64 (by omega) (by omega)
  obtain ⟨K1,K2,e1,e2,e3,e4,e5⟩:=A5l hv2 hc2.wf ja jm
  have hsw:Mix a (a+(m+1)) l2 (swp l2 a (a+m)):=(Mix.refl l2).swap (by omega) (by omega) (by omega) (by omega)
  obtain ⟨r,H3,hd,l3,hm3,hh3,hv3,hc3⟩:=B2g (cap:=cap) (lo:=0) (hi:=m) (f:=a) e3 e4.wf (by rw [A22]; omega) (by omega) (by rw [A22]; omega) (fun q p x y h1 h2 h3 hx hy=>by
   rw [swp_get ja jm,if_neg (by omega),if_neg (by omega)] at hx hy
   exact hh q p x y (Nat.zero_le _) h2 (by omega) hx hy)
  rw [A22,hlen] at hd
  have hmix:Mix a (a+(m+1)) l2 l3:=hsw.trans (hm3.wide (by omega) (by omega))
  have hl3:=hmix.length
  simp only [↓Sh.dn,sx,Nat.reduceBEq,reduceCtorEq,Nat.reduceEqDiff,f10,d]
  refine (A4d (by kernel_rfl)).2 ?_
  simp only [↓Sh.dn,sx,Nat.reduceBEq,reduceCtorEq,Nat.reduceEqDiff,f0,f6,f7,f10,wam,i1,i2,g1,g2,A1o,e1,e2]
  refine ⟨_,_,hd,?_⟩
  simp only [↓Sh.dn,sx,Nat.reduceBEq,reduceCtorEq,Nat.reduceEqDiff,f10,wm]
  have qa:l2[a]?=some l2[a]:=List.getElem?_eq_getElem ja
  refine kk m _ _ (by omega) ⟨l3,by omega,hm.trans (hmix.wide (Nat.le_refl _) (by omega)),hh3,fun p q x y h1 h2 h3 hx hy=>?_,hv3,(hc2.trans e4).trans hc3,by simp only [↓Sh.dn,sx,Nat.reduceBEq,reduceCtorEq,Nat.reduceEqDiff,f0],by simp only [↓Sh.dn,sx,Nat.reduceBEq,reduceCtorEq,Nat.reduceEqDiff,f6],by simp only [↓Sh.dn,sx,Nat.reduceBEq,reduceCtorEq,Nat.reduceEqDiff,f7],by simp only [↓Sh.dn,sx,Nat.reduceBEq,reduceCtorEq,Nat.reduceEqDiff]⟩
  by_cases hq:q=m
  ·subst hq
   have hy':l3[a+q]?=some l2[a]:=by
    rw [hm3.out (.inr (by omega)),swp_get ja jm,if_pos rfl,qa]
   rw [hy'] at hy
   rw [← Option.some.inj hy]
   refine hmix.all (p:=fun x=>A9c l2[a] x=false) (by omega) (fun i z hi1 hi2 hz=>?_) (a+p) x (by omega) (by omega) hx
   exact C4o hh (by omega) (i - a) _ _ (by omega) qa (by rw [show a+(i - a)=i by omega]; exact hz)
  ·have hyq:l2[a+q]?=some y:=by rw [← hmix.out (.inr (by omega))]; exact hy
   by_cases hp:p≤m
   ·refine hmix.all (p:=fun x=>A9c y x=false) (by omega) (fun i z hi1 hi2 hz=>?_) (a+p) x (by omega) (by omega) hx
    exact hT (i - a) q z y (by omega) (by omega) h3 (by rw [show a+(i - a)=i by omega]; exact hz) hyq
   ·have hxp:l2[a+p]?=some x:=by rw [← hmix.out (.inr (by omega))]; exact hx
    exact hT p q x y h1 (by omega) h3 hxp hyq
end
end Go.Proofs.YtnoengaghabmjaaGreat
/- partitionOrdered, partitionEqualOrdered. -/
namespace Go.Proofs.YtnoengaghabmjaaGreat
open Go Go.Proofs Go.Proofs.Sh
section
variable {H:AH} {g k n cap a b:Nat} {l:List Int}
theorem B93 {p:Nat} (hv:A6f H g k n l) (hw:Wf H) (hl:l.length≤1048576) (hap:a≤p) (hpb:p < b) (hb:b≤l.length):
  Sh.Call Tryz.prog (knows 10) 180 [.slice (some ⟨g,0,some k⟩) l.length cap,.int .i64 (a:Int),.int .i64 (b:Int),.int .i64 (p:Int)] H
   (fun r H'=>∃ (m:Nat) (al:Bool),r=.tuple #[.int .i64 (m:Int),.bool al]∧a≤m∧m < b∧∃ l':List Int,Mix a b l l'∧∃ y,l'[m]?=some y∧(∀ (q:Nat) x,a≤q→q < m→l'[q]?=some x→A9c x y=true)∧(∀ (q:Nat) x,m < q→q < b→l'[q]?=some x→A9c x y=false)∧A6f H' g k n l'∧Chg (fun y=>y=g) H H'):=by
 refine A4a rfl Tryz.func180 rfl (Nat.le_of_ble_eq_true rfl) ?_
 have hTO:=intTO
 have ja:a < l.length:=by omega
 have jp:p < l.length:=by omega
 have ia:=A8d (g:=g) (k:=k) (cap:=cap) (m:=l.length) (i:=a) (j:=.i64) ja
 have ip:=A8d (g:=g) (k:=k) (cap:=cap) (m:=l.length) (i:=p) (j:=.i64) jp
 have xa:=A2d hv ja
 have xp:=A2d hv jp
 have wa:IntKind.wrap .i64 ((a:Int)+1)=((a+1:Nat):Int):=by rw [wrap64 (by omega) (by omega)]; rfl
 have wb:IntKind.wrap .i64 ((b:Int) - 1)=((b - 1:Nat):Int):=by rw [wrap64 (by omega) (by omega)]; omega
 obtain ⟨K1,H1,e1,e2,hv1,hc1,e5⟩:=A5l hv hw ja jp
 have hm1:Mix a b l (swp l a p):=(Mix.refl l).swap (by omega) (by omega) (by omega) (by omega)
 simp only [↓Sh.dn,sx,Nat.reduceBEq,reduceCtorEq,Nat.reduceEqDiff]
 refine (A4d (by kernel_rfl)).2 ?_
 simp only [↓Sh.dn,sx,Nat.reduceBEq,reduceCtorEq,Nat.reduceEqDiff,ia,ip,xa,xp,A1o,e1,e2,wa,wb]
 have hpa:(swp l a p)[a]?=some l[p]:=by
  rw [swp_get ja jp]
  by_cases h:a=p
  ·rw [if_pos h,List.getElem?_eq_getElem ja]; simp only [h]
  ·rw [if_neg h,if_pos rfl]; exact List.getElem?_eq_getElem jp
 generalize l[p]=pv at hpa xp e1
 generalize hL0:swp l a p=l1 at hpa hm1 hv1
 have hlen:=hm1.length
 have xa:H1.cell ⟨g,a,some k⟩=some (Value.int .i64 pv):=hv1.cell (by simp [hpa])
 have hres:Tryz.f180.results.toList=[.tmp 8,.tmp 9]:=rfl
 have last : ∀ (l1 : List Int) (H' : AH) (i j : Nat), Mix a b l l1 → l1[a]? = some pv → a ≤ j → j < b → (∀ (q : Nat) x, a + 1 ≤ q → q ≤ j → l1[q]? = some x → A9c x pv = true) → (∀ (q : Nat) x, j < q → q < b → l1[q]? = some x → A9c x pv = false) →
     Mix a b l (swp l1 j a) ∧ (swp l1 j a)[j]? = some pv ∧ (∀ (q : Nat) x, a ≤ q → q < j → (swp l1 j a)[q]? = some x → A9c x pv = true) ∧ (∀ (q : Nat) x, j < q → q < b → (swp l1 j a)[q]? = some x → A9c x pv = false) := by
   intro l1 H' i j hm hp hj hjb h1 h2
   have hlen := hm.length
   have jj : j < l1.length := by omega
   have ja : a < l1.length := by omega
   refine ⟨hm.swap (by omega) (by omega) (by omega) (by omega), ?_, fun q x hq1 hq2 hx => ?_, fun q x hq1 hq2 hx => ?_⟩
   · rw [swp_get jj ja]
     by_cases h : j = a
     · rw [if_pos h, h]; exact hp
     · rw [if_neg h, if_pos rfl]; exact hp
   · rw [swp_get jj ja] at hx
     by_cases h : q = a
     · rw [if_pos h] at hx; exact h1 j x (by omega) (Nat.le_refl _) hx
     · rw [if_neg h, if_neg (by omega)] at hx; exact h1 q x (by omega) (by omega) hx
   · rw [swp_get jj ja, if_neg (by omega), if_neg (by omega)] at hx
     exact h2 q x hq1 hq2 hx
 obtain ⟨MF1,hMF1⟩:∃ M:Fr→AH→Prop,M=fun F' H9=>H1=H9∧∃ v:Nat,F'.get 0=some (.slice (some ⟨g,0,some k⟩) l.length cap)∧F'.get 1=some (.int .i64 (a:Int))∧F'.get 10=some (.int .i64 ((v:Nat):Int))∧F'.get 11=some (.int .i64 (((b - 1):Nat):Int))∧(a+1)≤v∧v≤(b - 1)+1∧(∀ (q:Nat) x,(a+1)≤q→q < v→l1[q]?=some x→A9c x pv=true)∧(v≤(b - 1)→∀ x,l1[v]?=some x→A9c x pv=false):=⟨_,rfl⟩
 refine B33 MF1 (by rfl) ?_ ?_
 ·refine A1f (fun m F' H9 => H1 = H9 ∧ ∃ v : Nat, m = (b - 1) + 1 - v ∧ F'.get 0 = some (.slice (some ⟨g, 0, some k⟩) l.length cap) ∧ F'.get 1 = some (.int .i64 (a : Int)) ∧ F'.get 10 = some (.int .i64 ((v : Nat) : Int)) ∧ F'.get 11 = some (.int .i64 (((b - 1) : Nat) : Int)) ∧ (a + 1) ≤ v ∧ v ≤ (b - 1) + 1 ∧ (∀ (q : Nat) x, (a + 1) ≤ q → q < v → l1[q]? = some x → A9c x pv = true)) (m := (b - 1) + 1 - (a + 1))
    ⟨rfl, (a + 1), rfl, by simp only [↓Sh.dn, sx, Nat.reduceBEq, reduceCtorEq, Nat.reduceEqDiff, true_and], by simp only [↓Sh.dn, sx, Nat.reduceBEq, reduceCtorEq, Nat.reduceEqDiff, true_and], by simp only [↓Sh.dn, sx, Nat.reduceBEq, reduceCtorEq, Nat.reduceEqDiff, true_and], by simp only [↓Sh.dn, sx, Nat.reduceBEq, reduceCtorEq, Nat.reduceEqDiff, true_and], by omega, by omega, fun q x h1 h2 => by omega⟩ ?_
  rintro m F' H9 ⟨rfl, v, rfl, g0, g1, gi, gj, h1, h2, h3⟩ k2
  simp only [↓Sh.dn, sx, Nat.reduceBEq, reduceCtorEq, Nat.reduceEqDiff]
  refine (A4d (by kernel_rfl)).2 ?_
  by_cases hle : v ≤ (b - 1)
  · have jv : v < l1.length := by omega
    have iv := A8d (g := g) (k := k) (cap := cap) (m := l.length) (i := v) (j := .i64) (by omega)
    have xv := A2d hv1 jv
    have qv : l1[v]? = some l1[v] := List.getElem?_eq_getElem jv
    have wv : IntKind.wrap .i64 ((v : Int) + 1) = ((v + 1 : Nat) : Int) := by rw [wrap64 (by omega) (by omega)]; rfl
    simp only [↓Sh.dn, sx, Nat.reduceBEq, reduceCtorEq, Nat.reduceEqDiff, g0, g1, gi, gj, A3z, hle, decide_true, iv, ia, xv, xa]
    refine ⟨_, _, A2f, ?_⟩
    cases hlt : A9c l1[v] pv with
    | true =>
      simp only [↓Sh.dn, sx, Nat.reduceBEq, reduceCtorEq, Nat.reduceEqDiff, g0, g1, gi, gj, wv]
      refine k2 ((b - 1) + 1 - (v + 1)) _ _ (by omega) ⟨rfl, v + 1, rfl, by simp only [↓Sh.dn, sx, Nat.reduceBEq, reduceCtorEq, Nat.reduceEqDiff, g0], by simp only [↓Sh.dn, sx, Nat.reduceBEq, reduceCtorEq, Nat.reduceEqDiff, g1], by simp only [↓Sh.dn, sx, Nat.reduceBEq, reduceCtorEq, Nat.reduceEqDiff, gi], by simp only [↓Sh.dn, sx, Nat.reduceBEq, reduceCtorEq, Nat.reduceEqDiff, gj], by omega, by omega, fun q x hq1 hq2 hx => ?_⟩
      · by_cases hq : q = v
        · subst hq; rw [qv] at hx; rw [← Option.some.inj hx]; exact hlt
        · exact h3 q x (by omega) (by omega) hx
    | false =>
      simp only [↓Sh.dn, sx, Nat.reduceBEq, reduceCtorEq, Nat.reduceEqDiff, hMF1, g0, g1, gi, gj]
      exact ⟨v, rfl, h1, h2, h3, fun _ x hx => by rw [qv] at hx; rw [← Option.some.inj hx]; exact hlt⟩
  · simp only [↓Sh.dn, sx, Nat.reduceBEq, reduceCtorEq, Nat.reduceEqDiff, hMF1, g0, g1, gi, gj, A3z, hle, decide_false]
    exact ⟨v, rfl, h1, h2, h3, fun h => absurd h hle⟩
 intro F1 H9 h9
 rw [hMF1] at h9
 obtain ⟨rfl,i1,u0,u1,ui,uj,u5,u6,u7,u8⟩:=h9
 simp only [↓Sh.dn,sx,Nat.reduceBEq,reduceCtorEq,Nat.reduceEqDiff]
 obtain ⟨MF2,hMF2⟩:∃ M:Fr→AH→Prop,M=fun F' H9=>H1=H9∧∃ v:Nat,F'.get 0=some (.slice (some ⟨g,0,some k⟩) l.length cap)∧F'.get 1=some (.int .i64 (a:Int))∧F'.get 10=some (.int .i64 ((i1:Nat):Int))∧F'.get 11=some (.int .i64 ((v:Nat):Int))∧i1≤v+1∧v≤(b - 1)∧(∀ (q:Nat) x,v < q→q≤(b - 1)→l1[q]?=some x→A9c x pv=false)∧(i1≤v→∀ x,l1[v]?=some x→A9c x pv=true):=⟨_,rfl⟩
 refine B33 MF2 (by rfl) ?_ ?_
 ·refine A1f (fun m F' H9 => H1 = H9 ∧ ∃ v : Nat, m = v ∧ F'.get 0 = some (.slice (some ⟨g, 0, some k⟩) l.length cap) ∧ F'.get 1 = some (.int .i64 (a : Int)) ∧ F'.get 10 = some (.int .i64 ((i1 : Nat) : Int)) ∧ F'.get 11 = some (.int .i64 ((v : Nat) : Int)) ∧ i1 ≤ v + 1 ∧ v ≤ (b - 1) ∧ (∀ (q : Nat) x, v < q → q ≤ (b - 1) → l1[q]? = some x → A9c x pv = false)) (m := (b - 1))
    ⟨rfl, (b - 1), rfl, by simp only [↓Sh.dn, sx, Nat.reduceBEq, reduceCtorEq, Nat.reduceEqDiff, u0], by simp only [↓Sh.dn, sx, Nat.reduceBEq, reduceCtorEq, Nat.reduceEqDiff, u1], by simp only [↓Sh.dn, sx, Nat.reduceBEq, reduceCtorEq, Nat.reduceEqDiff, ui], by simp only [↓Sh.dn, sx, Nat.reduceBEq, reduceCtorEq, Nat.reduceEqDiff, uj], by omega, by omega, fun q x h1 h2 => by omega⟩ ?_
  rintro v F' H9 ⟨rfl, _, rfl, g0, g1, gi, gj, h1, h2, h3⟩ k2
  simp only [↓Sh.dn, sx, Nat.reduceBEq, reduceCtorEq, Nat.reduceEqDiff]
  refine (A4d (by kernel_rfl)).2 ?_
  by_cases hle : i1 ≤ v
  · have jv : v < l1.length := by omega
    have iv := A8d (g := g) (k := k) (cap := cap) (m := l.length) (i := v) (j := .i64) (by omega)
    have xv := A2d hv1 jv
    have qv : l1[v]? = some l1[v] := List.getElem?_eq_getElem jv
    have wv : IntKind.wrap .i64 ((v : Int) - 1) = ((v - 1 : Nat) : Int) := by rw [wrap64 (by omega) (by omega)]; omega
    simp only [↓Sh.dn, sx, Nat.reduceBEq, reduceCtorEq, Nat.reduceEqDiff, g0, g1, gi, gj, A3z, hle, decide_true, iv, ia, xv, xa]
    refine ⟨_, _, A2f, ?_⟩
    cases hlt : A9c l1[v] pv with
    | false =>
      simp only [↓Sh.dn, sx, Nat.reduceBEq, reduceCtorEq, Nat.reduceEqDiff, g0, g1, gi, gj, wv]
      refine k2 ((v - 1)) _ _ (by omega) ⟨rfl, v - 1, rfl, by simp only [↓Sh.dn, sx, Nat.reduceBEq, reduceCtorEq, Nat.reduceEqDiff, g0], by simp only [↓Sh.dn, sx, Nat.reduceBEq, reduceCtorEq, Nat.reduceEqDiff, g1], by simp only [↓Sh.dn, sx, Nat.reduceBEq, reduceCtorEq, Nat.reduceEqDiff, gi], by simp only [↓Sh.dn, sx, Nat.reduceBEq, reduceCtorEq, Nat.reduceEqDiff, gj], by omega, by omega, fun q x hq1 hq2 hx => ?_⟩
      · by_cases hq : q = v
        · subst hq; rw [qv] at hx; rw [← Option.some.inj hx]; exact hlt
        · exact h3 q x (by omega) (by omega) hx
    | true =>
      simp only [↓Sh.dn, sx, Nat.reduceBEq, reduceCtorEq, Nat.reduceEqDiff, hMF2, g0, g1, gi, gj]
      exact ⟨v, rfl, h1, h2, h3, fun _ x hx => by rw [qv] at hx; rw [← Option.some.inj hx]; exact hlt⟩
  · simp only [↓Sh.dn, sx, Nat.reduceBEq, reduceCtorEq, Nat.reduceEqDiff, hMF2, g0, g1, gi, gj, A3z, hle, decide_false]
    exact ⟨v, rfl, h1, h2, h3, fun h => absurd h hle⟩
 intro F2 H9 h9
 rw [hMF2] at h9
 obtain ⟨rfl,j1,w0,w1,wi,wj,w5,w6,w7,w8⟩:=h9
 simp only [↓Sh.dn,sx,Nat.reduceBEq,reduceCtorEq,Nat.reduceEqDiff,wi,wj,A5a]
 by_cases hgt:j1 < i1
 ·have jj:j1 < l1.length:=by omega
  have ja1:a < l1.length:=by omega
  have ij:=A8d (g:=g) (k:=k) (cap:=cap) (m:=l.length) (i:=j1) (j:=.i64) (by omega)
  have xj:=A2d hv1 jj
  have xa':=A2d hv1 ja1
  obtain ⟨L1,L2,d1,d2,hv2,hc2,d5⟩:=A5l hv1 hc1.wf jj ja1
  obtain ⟨p1,p2,p3,p4⟩:=last l1 H1 i1 j1 hm1 hpa (by omega) (by omega) (fun q x h1 h2 hx=>u7 q x h1 (by omega) hx) (fun q x h1 h2 hx=>w7 q x h1 (by omega) hx)
  simp only [↓Sh.dn,sx,Nat.reduceBEq,reduceCtorEq,Nat.reduceEqDiff,hgt,decide_true]
  refine (A4d (by kernel_rfl)).2 ?_
  simp only [↓Sh.dn,sx,Nat.reduceBEq,reduceCtorEq,Nat.reduceEqDiff,w0,w1,wi,wj,ij,ia,xj,xa',A1o,d1,d2,hres]
  exact ⟨j1,_,rfl,by omega,by omega,swp l1 j1 a,p1,pv,p2,p3,p4,hv2,hc1.trans hc2⟩
 simp only [↓Sh.dn,sx,Nat.reduceBEq,reduceCtorEq,Nat.reduceEqDiff,hgt,decide_false]
 have hij:i1 < j1:=by
  by_cases h:i1=j1
  ·have h1:=u8 (by omega)
   have h2:=w8 (by omega)
   obtain ⟨x,hx⟩:∃ x,l1[i1]?=some x:=⟨_,List.getElem?_eq_getElem (by omega)⟩
   have a1:=h1 x hx
   have a2:=h2 x (by rw [← h]; exact hx)
   rw [a1] at a2; cases a2
  ·omega
 have ji1:i1 < l1.length:=by omega
 have jj1:j1 < l1.length:=by omega
 have ii:=A8d (g:=g) (k:=k) (cap:=cap) (m:=l.length) (i:=i1) (j:=.i64) (by omega)
 have ij:=A8d (g:=g) (k:=k) (cap:=cap) (m:=l.length) (i:=j1) (j:=.i64) (by omega)
 have xi:=A2d hv1 ji1
 have xj:=A2d hv1 jj1
 have yi:IntKind.wrap .i64 ((i1:Int)+1)=((i1+1:Nat):Int):=by rw [wrap64 (by omega) (by omega)]; rfl
 have yj:IntKind.wrap .i64 ((j1:Int) - 1)=((j1 - 1:Nat):Int):=by rw [wrap64 (by omega) (by omega)]; omega
 obtain ⟨L1,L2,d1,d2,hv2,hc2,d5⟩:=A5l hv1 hc1.wf ji1 jj1
 refine (A4d (by kernel_rfl)).2 ?_
 simp only [↓Sh.dn,sx,Nat.reduceBEq,reduceCtorEq,Nat.reduceEqDiff,w0,w1,wi,wj,ii,ij,xi,xj,A1o,d1,d2,yi,yj]
 have pair : ∀ (l1 : List Int) (i0 i1 j0 j1 : Nat), l1.length = l.length → l1[a]? = some pv → a + 1 ≤ i0 → i0 ≤ i1 → i1 < j1 → j1 ≤ j0 → j0 < b → (∀ (q : Nat) x, a + 1 ≤ q → q < i1 → l1[q]? = some x → A9c x pv = true) → (∀ (q : Nat) x, j1 < q → q < b → l1[q]? = some x → A9c x pv = false) →
     (∀ x, l1[i1]? = some x → A9c x pv = false) → (∀ x, l1[j1]? = some x → A9c x pv = true) → (swp l1 i1 j1)[a]? = some pv ∧ (∀ (q : Nat) x, a + 1 ≤ q → q < i1 + 1 → (swp l1 i1 j1)[q]? = some x → A9c x pv = true) ∧ (∀ (q : Nat) x, j1 - 1 < q → q < b → (swp l1 i1 j1)[q]? = some x → A9c x pv = false) := by
   intro l1 i0 i1 j0 j1 hlen hp h1 h2 h3 h4 h5 hA hB hi hj
   have ji : i1 < l1.length := by omega
   have jj : j1 < l1.length := by omega
   refine ⟨by rw [swp_get ji jj, if_neg (by omega), if_neg (by omega)]; exact hp, fun q x hq1 hq2 hx => ?_, fun q x hq1 hq2 hx => ?_⟩
   · rw [swp_get ji jj, if_neg (by omega)] at hx
     by_cases h : q = i1
     · rw [if_pos h] at hx; exact hj x hx
     · rw [if_neg h] at hx; exact hA q x hq1 (by omega) hx
   · rw [swp_get ji jj] at hx
     by_cases h : q = j1
     · rw [if_pos h] at hx; exact hi x hx
     · rw [if_neg h, if_neg (by omega)] at hx; exact hB q x (by omega) hq2 hx
 obtain ⟨s1,s2,s3⟩:=pair l1 (a+1) i1 (b - 1) j1 (by omega) hpa (Nat.le_refl _) (by omega) hij (by omega) (by omega) u7 (fun q x h1 h2 hx=>w7 q x h1 (by omega) hx) (u8 (by omega)) (w8 (by omega))
 refine A1f (fun m F' H2 => ∃ (i j : Nat) (l1 : List Int), m = j + 1 - i ∧ a + 1 ≤ i ∧ i ≤ j + 1 ∧ j < b ∧ Mix a b l l1 ∧ l1[a]? = some pv ∧ (∀ (q : Nat) x, a + 1 ≤ q → q < i → l1[q]? = some x → A9c x pv = true) ∧ (∀ (q : Nat) x, j < q → q < b → l1[q]? = some x → A9c x pv = false) ∧ A6f H2 g k n l1 ∧ Chg (fun y => y = g) H H2 ∧
     F'.get 0 = some (.slice (some ⟨g, 0, some k⟩) l.length cap) ∧ F'.get 1 = some (.int .i64 (a : Int)) ∧ F'.get 10 = some (.int .i64 ((i : Nat) : Int)) ∧ F'.get 11 = some (.int .i64 ((j : Nat) : Int))) (m := j1 - 1 + 1 - (i1 + 1))
   ⟨i1 + 1, j1 - 1, swp l1 i1 j1, rfl, by omega, by omega, by omega, hm1.swap (by omega) (by omega) (by omega) (by omega), s1, s2, s3, hv2, hc1.trans hc2, by simp only [↓Sh.dn, sx, Nat.reduceBEq, reduceCtorEq, Nat.reduceEqDiff, w0], by simp only [↓Sh.dn, sx, Nat.reduceBEq, reduceCtorEq, Nat.reduceEqDiff, w1], by simp only [↓Sh.dn, sx, Nat.reduceBEq, reduceCtorEq, Nat.reduceEqDiff], by simp only [↓Sh.dn, sx, Nat.reduceBEq, reduceCtorEq, Nat.reduceEqDiff]⟩ ?_
 clear xa xi xj hpa hm1 hv1 hlen ji1 jj1 s1 s2 s3 hv2 d1 d2 u7 u8 w7 w8
 clear hL0
 rintro m F H2 ⟨i0,j0,l1,rfl,hi0,hij0,hj0,hm1,hpa,hA,hB,hv1,hc1,f0,f1,fi,fj⟩ kk
 have hlen:=hm1.length
 have xa:H2.cell ⟨g,a,some k⟩=some (Value.int .i64 pv):=hv1.cell (by simp [hpa])
 simp only [↓Sh.dn,sx,Nat.reduceBEq,reduceCtorEq,Nat.reduceEqDiff]
 obtain ⟨MF3,hMF3⟩:∃ M:Fr→AH→Prop,M=fun F' H9=>H2=H9∧∃ v:Nat,F'.get 0=some (.slice (some ⟨g,0,some k⟩) l.length cap)∧F'.get 1=some (.int .i64 (a:Int))∧F'.get 10=some (.int .i64 ((v:Nat):Int))∧F'.get 11=some (.int .i64 ((j0:Nat):Int))∧i0≤v∧v≤j0+1∧(∀ (q:Nat) x,i0≤q→q < v→l1[q]?=some x→A9c x pv=true)∧(v≤j0→∀ x,l1[v]?=some x→A9c x pv=false):=⟨_,rfl⟩
 refine B33 MF3 (by rfl) ?_ ?_
 ·refine A1f (fun m F' H9 => H2 = H9 ∧ ∃ v : Nat, m = j0 + 1 - v ∧ F'.get 0 = some (.slice (some ⟨g, 0, some k⟩) l.length cap) ∧ F'.get 1 = some (.int .i64 (a : Int)) ∧ F'.get 10 = some (.int .i64 ((v : Nat) : Int)) ∧ F'.get 11 = some (.int .i64 ((j0 : Nat) : Int)) ∧ i0 ≤ v ∧ v ≤ j0 + 1 ∧ (∀ (q : Nat) x, i0 ≤ q → q < v → l1[q]? = some x → A9c x pv = true)) (m := j0 + 1 - i0)
    ⟨rfl, i0, rfl, by simp only [↓Sh.dn, sx, Nat.reduceBEq, reduceCtorEq, Nat.reduceEqDiff, f0], by simp only [↓Sh.dn, sx, Nat.reduceBEq, reduceCtorEq, Nat.reduceEqDiff, f1], by simp only [↓Sh.dn, sx, Nat.reduceBEq, reduceCtorEq, Nat.reduceEqDiff, fi], by simp only [↓Sh.dn, sx, Nat.reduceBEq, reduceCtorEq, Nat.reduceEqDiff, fj], by omega, by omega, fun q x h1 h2 => by omega⟩ ?_
  rintro m F' H9 ⟨rfl, v, rfl, g0, g1, gi, gj, h1, h2, h3⟩ k2
  simp only [↓Sh.dn, sx, Nat.reduceBEq, reduceCtorEq, Nat.reduceEqDiff]
  refine (A4d (by kernel_rfl)).2 ?_
  by_cases hle : v ≤ j0
  · have jv : v < l1.length := by omega
    have iv := A8d (g := g) (k := k) (cap := cap) (m := l.length) (i := v) (j := .i64) (by omega)
    have xv := A2d hv1 jv
    have qv : l1[v]? = some l1[v] := List.getElem?_eq_getElem jv
    have wv : IntKind.wrap .i64 ((v : Int) + 1) = ((v + 1 : Nat) : Int) := by rw [wrap64 (by omega) (by omega)]; rfl
    simp only [↓Sh.dn, sx, Nat.reduceBEq, reduceCtorEq, Nat.reduceEqDiff, g0, g1, gi, gj, A3z, hle, decide_true, iv, ia, xv, xa]
    refine ⟨_, _, A2f, ?_⟩
    cases hlt : A9c l1[v] pv with
    | true =>
      simp only [↓Sh.dn, sx, Nat.reduceBEq, reduceCtorEq, Nat.reduceEqDiff, g0, g1, gi, gj, wv]
      refine k2 (j0 + 1 - (v + 1)) _ _ (by omega) ⟨rfl, v + 1, rfl, by simp only [↓Sh.dn, sx, Nat.reduceBEq, reduceCtorEq, Nat.reduceEqDiff, g0], by simp only [↓Sh.dn, sx, Nat.reduceBEq, reduceCtorEq, Nat.reduceEqDiff, g1], by simp only [↓Sh.dn, sx, Nat.reduceBEq, reduceCtorEq, Nat.reduceEqDiff, gi], by simp only [↓Sh.dn, sx, Nat.reduceBEq, reduceCtorEq, Nat.reduceEqDiff, gj], by omega, by omega, fun q x hq1 hq2 hx => ?_⟩
      · by_cases hq : q = v
        · subst hq; rw [qv] at hx; rw [← Option.some.inj hx]; exact hlt
        · exact h3 q x (by omega) (by omega) hx
    | false =>
      simp only [↓Sh.dn, sx, Nat.reduceBEq, reduceCtorEq, Nat.reduceEqDiff, hMF3, g0, g1, gi, gj]
      exact ⟨v, rfl, h1, h2, h3, fun _ x hx => by rw [qv] at hx; rw [← Option.some.inj hx]; exact hlt⟩
  · simp only [↓Sh.dn, sx, Nat.reduceBEq, reduceCtorEq, Nat.reduceEqDiff, hMF3, g0, g1, gi, gj, A3z, hle, decide_false]
    exact ⟨v, rfl, h1, h2, h3, fun h => absurd h hle⟩
 intro F3 H9 h9
 rw [hMF3] at h9
 obtain ⟨rfl,i2,u0,u1,ui,uj,u5,u6,u7,u8⟩:=h9
 simp only [↓Sh.dn,sx,Nat.reduceBEq,reduceCtorEq,Nat.reduceEqDiff]
 obtain ⟨MF4,hMF4⟩:∃ M:Fr→AH→Prop,M=fun F' H9=>H2=H9∧∃ v:Nat,F'.get 0=some (.slice (some ⟨g,0,some k⟩) l.length cap)∧F'.get 1=some (.int .i64 (a:Int))∧F'.get 10=some (.int .i64 ((i2:Nat):Int))∧F'.get 11=some (.int .i64 ((v:Nat):Int))∧i2≤v+1∧v≤j0∧(∀ (q:Nat) x,v < q→q≤j0→l1[q]?=some x→A9c x pv=false)∧(i2≤v→∀ x,l1[v]?=some x→A9c x pv=true):=⟨_,rfl⟩
 refine B33 MF4 (by rfl) ?_ ?_
 ·refine A1f (fun m F' H9 => H2 = H9 ∧ ∃ v : Nat, m = v ∧ F'.get 0 = some (.slice (some ⟨g, 0, some k⟩) l.length cap) ∧ F'.get 1 = some (.int .i64 (a : Int)) ∧ F'.get 10 = some (.int .i64 ((i2 : Nat) : Int)) ∧ F'.get 11 = some (.int .i64 ((v : Nat) : Int)) ∧ i2 ≤ v + 1 ∧ v ≤ j0 ∧ (∀ (q : Nat) x, v < q → q ≤ j0 → l1[q]? = some x → A9c x pv = false)) (m := j0)
    ⟨rfl, j0, rfl, by simp only [↓Sh.dn, sx, Nat.reduceBEq, reduceCtorEq, Nat.reduceEqDiff, u0], by simp only [↓Sh.dn, sx, Nat.reduceBEq, reduceCtorEq, Nat.reduceEqDiff, u1], by simp only [↓Sh.dn, sx, Nat.reduceBEq, reduceCtorEq, Nat.reduceEqDiff, ui], by simp only [↓Sh.dn, sx, Nat.reduceBEq, reduceCtorEq, Nat.reduceEqDiff, uj], by omega, by omega, fun q x h1 h2 => by omega⟩ ?_
  rintro v F' H9 ⟨rfl, _, rfl, g0, g1, gi, gj, h1, h2, h3⟩ k2
  simp only [↓Sh.dn, sx, Nat.reduceBEq, reduceCtorEq, Nat.reduceEqDiff]
  refine (A4d (by kernel_rfl)).2 ?_
  by_cases hle : i2 ≤ v
  · have jv : v < l1.length := by omega
    have iv := A8d (g := g) (k := k) (cap := cap) (m := l.length) (i := v) (j := .i64) (by omega)
    have xv := A2d hv1 jv
    have qv : l1[v]? = some l1[v] := List.getElem?_eq_getElem jv
    have wv : IntKind.wrap .i64 ((v : Int) - 1) = ((v - 1 : Nat) : Int) := by rw [wrap64 (by omega) (by omega)]; omega
    simp only [↓Sh.dn, sx, Nat.reduceBEq, reduceCtorEq, Nat.reduceEqDiff, g0, g1, gi, gj, A3z, hle, decide_true, iv, ia, xv, xa]
    refine ⟨_, _, A2f, ?_⟩
    cases hlt : A9c l1[v] pv with
    | false =>
      simp only [↓Sh.dn, sx, Nat.reduceBEq, reduceCtorEq, Nat.reduceEqDiff, g0, g1, gi, gj, wv]
      refine k2 ((v - 1)) _ _ (by omega) ⟨rfl, v - 1, rfl, by simp only [↓Sh.dn, sx, Nat.reduceBEq, reduceCtorEq, Nat.reduceEqDiff, g0], by simp only [↓Sh.dn, sx, Nat.reduceBEq, reduceCtorEq, Nat.reduceEqDiff, g1], by simp only [↓Sh.dn, sx, Nat.reduceBEq, reduceCtorEq, Nat.reduceEqDiff, gi], by simp only [↓Sh.dn, sx, Nat.reduceBEq, reduceCtorEq, Nat.reduceEqDiff, gj], by omega, by omega, fun q x hq1 hq2 hx => ?_⟩
      · by_cases hq : q = v
        · subst hq; rw [qv] at hx; rw [← Option.some.inj hx]; exact hlt
        · exact h3 q x (by omega) (by omega) hx
    | true =>
      simp only [↓Sh.dn, sx, Nat.reduceBEq, reduceCtorEq, Nat.reduceEqDiff, hMF4, g0, g1, gi, gj]
      exact ⟨v, rfl, h1, h2, h3, fun _ x hx => by rw [qv] at hx; rw [← Option.some.inj hx]; exact hlt⟩
  · simp only [↓Sh.dn, sx, Nat.reduceBEq, reduceCtorEq, Nat.reduceEqDiff, hMF4, g0, g1, gi, gj, A3z, hle, decide_false]
    exact ⟨v, rfl, h1, h2, h3, fun h => absurd h hle⟩
 intro F4 H9 h9
 rw [hMF4] at h9
 obtain ⟨rfl,j2,w0,w1,wi,wj,w5,w6,w7,w8⟩:=h9
 have hA2:∀ (q:Nat) x,a+1≤q→q < i2→l1[q]?=some x→A9c x pv=true:=by
  intro q x h1 h2 hx
  by_cases h:q < i0
  ·exact hA q x h1 h hx
  ·exact u7 q x (by omega) h2 hx
 have hB2:∀ (q:Nat) x,j2 < q→q < b→l1[q]?=some x→A9c x pv=false:=by
  intro q x h1 h2 hx
  by_cases h:j0 < q
  ·exact hB q x h h2 hx
  ·exact w7 q x h1 (by omega) hx
 simp only [↓Sh.dn,sx,Nat.reduceBEq,reduceCtorEq,Nat.reduceEqDiff,wi,wj,A5a]
 by_cases hgt:j2 < i2
 ·have jj:j2 < l1.length:=by omega
  have ja1:a < l1.length:=by omega
  have ij:=A8d (g:=g) (k:=k) (cap:=cap) (m:=l.length) (i:=j2) (j:=.i64) (by omega)
  have xj:=A2d hv1 jj
  have xa':=A2d hv1 ja1
  obtain ⟨L3,L4,d1,d2,hv2,hc2,d5⟩:=A5l hv1 hc1.wf jj ja1
  obtain ⟨p1,p2,p3,p4⟩:=last l1 H1 i2 j2 hm1 hpa (by omega) (by omega) (fun q x h1 h2 hx=>hA2 q x h1 (by omega) hx) (fun q x h1 h2 hx=>hB2 q x h1 h2 hx)
  simp only [↓Sh.dn,sx,Nat.reduceBEq,reduceCtorEq,Nat.reduceEqDiff,hgt,decide_true]
  refine (A4d (by kernel_rfl)).2 ?_
  simp only [↓Sh.dn,sx,Nat.reduceBEq,reduceCtorEq,Nat.reduceEqDiff,w0,w1,wi,wj,ij,ia,xj,xa',A1o,d1,d2,hres]
  exact ⟨j2,_,rfl,by omega,by omega,swp l1 j2 a,p1,pv,p2,p3,p4,hv2,hc1.trans hc2⟩
 simp only [↓Sh.dn,sx,Nat.reduceBEq,reduceCtorEq,Nat.reduceEqDiff,hgt,decide_false]
 have hij2:i2 < j2:=by
  by_cases h:i2=j2
  ·have h1:=u8 (by omega)
   have h2:=w8 (by omega)
   obtain ⟨x,hx⟩:∃ x,l1[i2]?=some x:=⟨_,List.getElem?_eq_getElem (by omega)⟩
   have a1:=h1 x hx
   have a2:=h2 x (by rw [← h]; exact hx)
   rw [a1] at a2; cases a2
  ·omega
 have ji1:i2 < l1.length:=by omega
 have jj1:j2 < l1.length:=by omega
 have ii2:=A8d (g:=g) (k:=k) (cap:=cap) (m:=l.length) (i:=i2) (j:=.i64) (by omega)
 have ij2:=A8d (g:=g) (k:=k) (cap:=cap) (m:=l.length) (i:=j2) (j:=.i64) (by omega)
 have xi:=A2d hv1 ji1
 have xj:=A2d hv1 jj1
 have yi2:IntKind.wrap .i64 ((i2:Int)+1)=((i2+1:Nat):Int):=by rw [wrap64 (by omega) (by omega)]; rfl
 have yj2:IntKind.wrap .i64 ((j2:Int) - 1)=((j2 - 1:Nat):Int):=by rw [wrap64 (by omega) (by omega)]; omega
 obtain ⟨L3,L4,d1,d2,hv2,hc2,d5⟩:=A5l hv1 hc1.wf ji1 jj1
 obtain ⟨s1,s2,s3⟩:=pair l1 i0 i2 j0 j2 (by omega) hpa hi0 (by omega) hij2 (by omega) (by omega) hA2 hB2 (u8 (by omega)) (w8 (by omega))
 refine (A4d (by kernel_rfl)).2 ?_
 simp only [↓Sh.dn,sx,Nat.reduceBEq,reduceCtorEq,Nat.reduceEqDiff,w0,w1,wi,wj,ii2,ij2,xi,xj,A1o,d1,d2,yi2,yj2]
 exact kk (j2 - 1+1 - (i2+1)) _ _ (by omega) ⟨i2+1,j2 - 1,swp l1 i2 j2,rfl,by omega,by omega,by omega,hm1.swap (by omega) (by omega) (by omega) (by omega),s1,s2,s3,hv2,hc1.trans hc2,by simp only [↓Sh.dn,sx,Nat.reduceBEq,reduceCtorEq,Nat.reduceEqDiff,w0],by simp only [↓Sh.dn,sx,Nat.reduceBEq,reduceCtorEq,Nat.reduceEqDiff,w1],by simp only [↓Sh.dn,sx,Nat.reduceBEq,reduceCtorEq,Nat.reduceEqDiff],by simp only [↓Sh.dn,sx,Nat.reduceBEq,reduceCtorEq,Nat.reduceEqDiff]⟩
theorem A58 {p:Nat} (hv:A6f H g k n l) (hw:Wf H) (hl:l.length≤1048576) (hap:a≤p) (hpb:p < b) (hb:b≤l.length):
  Sh.Call Tryz.prog (knows 10) 179 [.slice (some ⟨g,0,some k⟩) l.length cap,.int .i64 (a:Int),.int .i64 (b:Int),.int .i64 (p:Int)] H
   (fun r H'=>∃ m:Nat,r=.int .i64 (m:Int)∧a < m∧m≤b∧∃ l':List Int,Mix a b l l'∧(∀ (q:Nat) x,a≤q→q < m→l'[q]?=some x→A9c l[p] x=false)∧(∀ (q:Nat) x,m≤q→q < b→l'[q]?=some x→A9c l[p] x=true)∧A6f H' g k n l'∧Chg (fun y=>y=g) H H'):=by
 refine A4a rfl Tryz.func179 rfl (Nat.le_of_ble_eq_true rfl) ?_
 have hTO:=intTO
 have ja:a < l.length:=by omega
 have jp:p < l.length:=by omega
 have ia:=A8d (g:=g) (k:=k) (cap:=cap) (m:=l.length) (i:=a) (j:=.i64) ja
 have ip:=A8d (g:=g) (k:=k) (cap:=cap) (m:=l.length) (i:=p) (j:=.i64) jp
 have xa:=A2d hv ja
 have xp:=A2d hv jp
 have wa:IntKind.wrap .i64 ((a:Int)+1)=((a+1:Nat):Int):=by rw [wrap64 (by omega) (by omega)]; rfl
 have wb:IntKind.wrap .i64 ((b:Int) - 1)=((b - 1:Nat):Int):=by rw [wrap64 (by omega) (by omega)]; omega
 obtain ⟨K1,H1,e1,e2,hv1,hc1,e5⟩:=A5l hv hw ja jp
 have hm1:Mix a b l (swp l a p):=(Mix.refl l).swap (by omega) (by omega) (by omega) (by omega)
 simp only [↓Sh.dn,sx,Nat.reduceBEq,reduceCtorEq,Nat.reduceEqDiff]
 refine (A4d (by kernel_rfl)).2 ?_
 simp only [↓Sh.dn,sx,Nat.reduceBEq,reduceCtorEq,Nat.reduceEqDiff,ia,ip,xa,xp,A1o,e1,e2,wa,wb]
 have hpa:(swp l a p)[a]?=some l[p]:=by
  rw [swp_get ja jp]
  by_cases h:a=p
  ·rw [if_pos h,List.getElem?_eq_getElem ja]; simp only [h]
  ·rw [if_neg h,if_pos rfl]; exact List.getElem?_eq_getElem jp
 generalize l[p]=pv at hpa xp e1 ⊢
 generalize hL0:swp l a p=l0 at hpa hm1 hv1
 have hres:Tryz.f179.results.toList=[.tmp 8]:=rfl
 have pair : ∀ (l1 : List Int) (i1 j1 : Nat), l1.length = l.length → l1[a]? = some pv → a + 1 ≤ i1 → i1 < j1 → j1 < b → (∀ (q : Nat) x, a + 1 ≤ q → q < i1 → l1[q]? = some x → A9c pv x = false) → (∀ (q : Nat) x, j1 < q → q < b → l1[q]? = some x → A9c pv x = true) →
     (∀ x, l1[i1]? = some x → A9c pv x = true) → (∀ x, l1[j1]? = some x → A9c pv x = false) → (swp l1 i1 j1)[a]? = some pv ∧ (∀ (q : Nat) x, a + 1 ≤ q → q < i1 + 1 → (swp l1 i1 j1)[q]? = some x → A9c pv x = false) ∧ (∀ (q : Nat) x, j1 - 1 < q → q < b → (swp l1 i1 j1)[q]? = some x → A9c pv x = true) := by
   intro l1 i1 j1 hlen hp h1 h3 h5 hA hB hi hj
   have ji : i1 < l1.length := by omega
   have jj : j1 < l1.length := by omega
   refine ⟨by rw [swp_get ji jj, if_neg (by omega), if_neg (by omega)]; exact hp, fun q x hq1 hq2 hx => ?_, fun q x hq1 hq2 hx => ?_⟩
   · rw [swp_get ji jj, if_neg (by omega)] at hx
     by_cases h : q = i1
     · rw [if_pos h] at hx; exact hj x hx
     · rw [if_neg h] at hx; exact hA q x hq1 (by omega) hx
   · rw [swp_get ji jj] at hx
     by_cases h : q = j1
     · rw [if_pos h] at hx; exact hi x hx
     · rw [if_neg h, if_neg (by omega)] at hx; exact hB q x (by omega) hq2 hx
 refine A1f (fun m F' H2 => ∃ (i j : Nat) (l1 : List Int), m = j + 1 - i ∧ a + 1 ≤ i ∧ i ≤ j + 1 ∧ j < b ∧ Mix a b l l1 ∧ l1[a]? = some pv ∧ (∀ (q : Nat) x, a + 1 ≤ q → q < i → l1[q]? = some x → A9c pv x = false) ∧ (∀ (q : Nat) x, j < q → q < b → l1[q]? = some x → A9c pv x = true) ∧ A6f H2 g k n l1 ∧ Chg (fun y => y = g) H H2 ∧
     F'.get 0 = some (.slice (some ⟨g, 0, some k⟩) l.length cap) ∧ F'.get 1 = some (.int .i64 (a : Int)) ∧ F'.get 9 = some (.int .i64 ((i : Nat) : Int)) ∧ F'.get 10 = some (.int .i64 ((j : Nat) : Int))) (m := b - 1 + 1 - (a + 1))
   ⟨a + 1, b - 1, l0, rfl, by omega, by omega, by omega, hm1, hpa, fun q x h1 h2 => by omega, fun q x h1 h2 => by omega, hv1, hc1, by simp only [↓Sh.dn, sx, Nat.reduceBEq, reduceCtorEq, Nat.reduceEqDiff], by simp only [↓Sh.dn, sx, Nat.reduceBEq, reduceCtorEq, Nat.reduceEqDiff], by simp only [↓Sh.dn, sx, Nat.reduceBEq, reduceCtorEq, Nat.reduceEqDiff], by simp only [↓Sh.dn, sx, Nat.reduceBEq, reduceCtorEq, Nat.reduceEqDiff]⟩ ?_
 clear xa hpa hm1 hv1
 clear hL0
 rintro m F H2 ⟨i0,j0,l1,rfl,hi0,hij0,hj0,hm1,hpa,hA,hB,hv1,hc1,f0,f1,fi,fj⟩ kk
 have hlen:=hm1.length
 have xa:H2.cell ⟨g,a,some k⟩=some (Value.int .i64 pv):=hv1.cell (by simp [hpa])
 simp only [↓Sh.dn,sx,Nat.reduceBEq,reduceCtorEq,Nat.reduceEqDiff]
 obtain ⟨MF3,hMF3⟩:∃ M:Fr→AH→Prop,M=fun F' H9=>H2=H9∧∃ v:Nat,F'.get 0=some (.slice (some ⟨g,0,some k⟩) l.length cap)∧F'.get 1=some (.int .i64 (a:Int))∧F'.get 9=some (.int .i64 ((v:Nat):Int))∧F'.get 10=some (.int .i64 ((j0:Nat):Int))∧i0≤v∧v≤j0+1∧(∀ (q:Nat) x,i0≤q→q < v→l1[q]?=some x→A9c pv x=false)∧(v≤j0→∀ x,l1[v]?=some x→A9c pv x=true):=⟨_,rfl⟩
 refine B33 MF3 (by rfl) ?_ ?_
 ·refine A1f (fun m F' H9 => H2 = H9 ∧ ∃ v : Nat, m = j0 + 1 - v ∧ F'.get 0 = some (.slice (some ⟨g, 0, some k⟩) l.length cap) ∧ F'.get 1 = some (.int .i64 (a : Int)) ∧ F'.get 9 = some (.int .i64 ((v : Nat) : Int)) ∧ F'.get 10 = some (.int .i64 ((j0 : Nat) : Int)) ∧ i0 ≤ v ∧ v ≤ j0 + 1 ∧ (∀ (q : Nat) x, i0 ≤ q → q < v → l1[q]? = some x → A9c pv x = false)) (m := j0 + 1 - i0)
    ⟨rfl, i0, rfl, by simp only [↓Sh.dn, sx, Nat.reduceBEq, reduceCtorEq, Nat.reduceEqDiff, f0], by simp only [↓Sh.dn, sx, Nat.reduceBEq, reduceCtorEq, Nat.reduceEqDiff, f1], by simp only [↓Sh.dn, sx, Nat.reduceBEq, reduceCtorEq, Nat.reduceEqDiff, fi], by simp only [↓Sh.dn, sx, Nat.reduceBEq, reduceCtorEq, Nat.reduceEqDiff, fj], by omega, by omega, fun q x h1 h2 => by omega⟩ ?_
  rintro m F' H9 ⟨rfl, v, rfl, g0, g1, gi, gj, h1, h2, h3⟩ k2
  simp only [↓Sh.dn, sx, Nat.reduceBEq, reduceCtorEq, Nat.reduceEqDiff]
  refine (A4d (by kernel_rfl)).2 ?_
  by_cases hle : v ≤ j0
  · have jv : v < l1.length := by omega
    have iv := A8d (g := g) (k := k) (cap := cap) (m := l.length) (i := v) (j := .i64) (by omega)
    have xv := A2d hv1 jv
    have qv : l1[v]? = some l1[v] := List.getElem?_eq_getElem jv
    have wv : IntKind.wrap .i64 ((v : Int) + 1) = ((v + 1 : Nat) : Int) := by rw [wrap64 (by omega) (by omega)]; rfl
    simp only [↓Sh.dn, sx, Nat.reduceBEq, reduceCtorEq, Nat.reduceEqDiff, g0, g1, gi, gj, A3z, hle, decide_true, iv, ia, xv, xa]
    refine ⟨_, _, A2f, ?_⟩
    cases hlt : A9c pv l1[v] with
    | false =>
      simp only [↓Sh.dn, sx, Nat.reduceBEq, reduceCtorEq, Nat.reduceEqDiff, g0, g1, gi, gj, wv]
      refine k2 (j0 + 1 - (v + 1)) _ _ (by omega) ⟨rfl, v + 1, rfl, by simp only [↓Sh.dn, sx, Nat.reduceBEq, reduceCtorEq, Nat.reduceEqDiff, g0], by simp only [↓Sh.dn, sx, Nat.reduceBEq, reduceCtorEq, Nat.reduceEqDiff, g1], by simp only [↓Sh.dn, sx, Nat.reduceBEq, reduceCtorEq, Nat.reduceEqDiff, gi], by simp only [↓Sh.dn, sx, Nat.reduceBEq, reduceCtorEq, Nat.reduceEqDiff, gj], by omega, by omega, fun q x hq1 hq2 hx => ?_⟩
      · by_cases hq : q = v
        · subst hq; rw [qv] at hx; rw [← Option.some.inj hx]; exact hlt
        · exact h3 q x (by omega) (by omega) hx
    | true =>
      simp only [↓Sh.dn, sx, Nat.reduceBEq, reduceCtorEq, Nat.reduceEqDiff, hMF3, g0, g1, gi, gj]
      exact ⟨v, rfl, h1, h2, h3, fun _ x hx => by rw [qv] at hx; rw [← Option.some.inj hx]; exact hlt⟩
  · simp only [↓Sh.dn, sx, Nat.reduceBEq, reduceCtorEq, Nat.reduceEqDiff, hMF3, g0, g1, gi, gj, A3z, hle, decide_false]
    exact ⟨v, rfl, h1, h2, h3, fun h => absurd h hle⟩
 intro F3 H9 h9
 rw [hMF3] at h9
 obtain ⟨rfl,i2,u0,u1,ui,uj,u5,u6,u7,u8⟩:=h9
 simp only [↓Sh.dn,sx,Nat.reduceBEq,reduceCtorEq,Nat.reduceEqDiff]
 obtain ⟨MF4,hMF4⟩:∃ M:Fr→AH→Prop,M=fun F' H9=>H2=H9∧∃ v:Nat,F'.get 0=some (.slice (some ⟨g,0,some k⟩) l.length cap)∧F'.get 1=some (.int .i64 (a:Int))∧F'.get 9=some (.int .i64 ((i2:Nat):Int))∧F'.get 10=some (.int .i64 ((v:Nat):Int))∧i2≤v+1∧v≤j0∧(∀ (q:Nat) x,v < q→q≤j0→l1[q]?=some x→A9c pv x=true)∧(i2≤v→∀ x,l1[v]?=some x→A9c pv x=false):=⟨_,rfl⟩
 refine B33 MF4 (by rfl) ?_ ?_
 ·refine A1f (fun m F' H9 => H2 = H9 ∧ ∃ v : Nat, m = v ∧ F'.get 0 = some (.slice (some ⟨g, 0, some k⟩) l.length cap) ∧ F'.get 1 = some (.int .i64 (a : Int)) ∧ F'.get 9 = some (.int .i64 ((i2 : Nat) : Int)) ∧ F'.get 10 = some (.int .i64 ((v : Nat) : Int)) ∧ i2 ≤ v + 1 ∧ v ≤ j0 ∧ (∀ (q : Nat) x, v < q → q ≤ j0 → l1[q]? = some x → A9c pv x = true)) (m := j0)
    ⟨rfl, j0, rfl, by simp only [↓Sh.dn, sx, Nat.reduceBEq, reduceCtorEq, Nat.reduceEqDiff, u0], by simp only [↓Sh.dn, sx, Nat.reduceBEq, reduceCtorEq, Nat.reduceEqDiff, u1], by simp only [↓Sh.dn, sx, Nat.reduceBEq, reduceCtorEq, Nat.reduceEqDiff, ui], by simp only [↓Sh.dn, sx, Nat.reduceBEq, reduceCtorEq, Nat.reduceEqDiff, uj], by omega, by omega, fun q x h1 h2 => by omega⟩ ?_
  rintro v F' H9 ⟨rfl, _, rfl, g0, g1, gi, gj, h1, h2, h3⟩ k2
  simp only [↓Sh.dn, sx, Nat.reduceBEq, reduceCtorEq, Nat.reduceEqDiff]
  refine (A4d (by kernel_rfl)).2 ?_
  by_cases hle : i2 ≤ v
  · have jv : v < l1.length := by omega
    have iv := A8d (g := g) (k := k) (cap := cap) (m := l.length) (i := v) (j := .i64) (by omega)
    have xv := A2d hv1 jv
    have qv : l1[v]? = some l1[v] := List.getElem?_eq_getElem jv
    have wv : IntKind.wrap .i64 ((v : Int) - 1) = ((v - 1 : Nat) : Int) := by rw [wrap64 (by omega) (by omega)]; omega
    simp only [↓Sh.dn, sx, Nat.reduceBEq, reduceCtorEq, Nat.reduceEqDiff, g0, g1, gi, gj, A3z, hle, decide_true, iv, ia, xv, xa]
    refine ⟨_, _, A2f, ?_⟩
    cases hlt : A9c pv l1[v] with
    | true =>
      simp only [↓Sh.dn, sx, Nat.reduceBEq, reduceCtorEq, Nat.reduceEqDiff, g0, g1, gi, gj, wv]
      refine k2 ((v - 1)) _ _ (by omega) ⟨rfl, v - 1, rfl, by simp only [↓Sh.dn, sx, Nat.reduceBEq, reduceCtorEq, Nat.reduceEqDiff, g0], by simp only [↓Sh.dn, sx, Nat.reduceBEq, reduceCtorEq, Nat.reduceEqDiff, g1], by simp only [↓Sh.dn, sx, Nat.reduceBEq, reduceCtorEq, Nat.reduceEqDiff, gi], by simp only [↓Sh.dn, sx, Nat.reduceBEq, reduceCtorEq, Nat.reduceEqDiff, gj], by omega, by omega, fun q x hq1 hq2 hx => ?_⟩
      · by_cases hq : q = v
        · subst hq; rw [qv] at hx; rw [← Option.some.inj hx]; exact hlt
        · exact h3 q x (by omega) (by omega) hx
    | false =>
      simp only [↓Sh.dn, sx, Nat.reduceBEq, reduceCtorEq, Nat.reduceEqDiff, hMF4, g0, g1, gi, gj]
      exact ⟨v, rfl, h1, h2, h3, fun _ x hx => by rw [qv] at hx; rw [← Option.some.inj hx]; exact hlt⟩
  · simp only [↓Sh.dn, sx, Nat.reduceBEq, reduceCtorEq, Nat.reduceEqDiff, hMF4, g0, g1, gi, gj, A3z, hle, decide_false]
    exact ⟨v, rfl, h1, h2, h3, fun h => absurd h hle⟩
 intro F4 H9 h9
 rw [hMF4] at h9
 obtain ⟨rfl,j2,w0,w1,wi,wj,w5,w6,w7,w8⟩:=h9
 have hA2:∀ (q:Nat) x,a+1≤q→q < i2→l1[q]?=some x→A9c pv x=false:=by
  intro q x h1 h2 hx
  by_cases h:q < i0
  ·exact hA q x h1 h hx
  ·exact u7 q x (by omega) h2 hx
 have hB2:∀ (q:Nat) x,j2 < q→q < b→l1[q]?=some x→A9c pv x=true:=by
  intro q x h1 h2 hx
  by_cases h:j0 < q
  ·exact hB q x h h2 hx
  ·exact w7 q x h1 (by omega) hx
 simp only [↓Sh.dn,sx,Nat.reduceBEq,reduceCtorEq,Nat.reduceEqDiff,wi,wj,A5a]
 by_cases hgt:j2 < i2
 ·simp only [↓Sh.dn,sx,Nat.reduceBEq,reduceCtorEq,Nat.reduceEqDiff,hgt,decide_true,wi,hres]
  refine ⟨i2,rfl,by omega,by omega,l1,hm1,fun q x h1 h2 hx=>?_,fun q x h1 h2 hx=>hB2 q x (by omega) h2 hx,hv1,hc1⟩
  by_cases h:q=a
  ·subst h; rw [hpa] at hx; rw [← Option.some.inj hx]; exact hTO.irrefl pv
  ·exact hA2 q x (by omega) h2 hx
 simp only [↓Sh.dn,sx,Nat.reduceBEq,reduceCtorEq,Nat.reduceEqDiff,hgt,decide_false]
 have hij2:i2 < j2:=by
  by_cases h:i2=j2
  ·have h1:=u8 (by omega)
   have h2:=w8 (by omega)
   obtain ⟨x,hx⟩:∃ x,l1[i2]?=some x:=⟨_,List.getElem?_eq_getElem (by omega)⟩
   have a1:=h1 x hx
   have a2:=h2 x (by rw [← h]; exact hx)
   rw [a1] at a2; cases a2
  ·omega
 have ji1:i2 < l1.length:=by omega
 have jj1:j2 < l1.length:=by omega
 have ii2:=A8d (g:=g) (k:=k) (cap:=cap) (m:=l.length) (i:=i2) (j:=.i64) (by omega)
 have ij2:=A8d (g:=g) (k:=k) (cap:=cap) (m:=l.length) (i:=j2) (j:=.i64) (by omega)
 have xi:=A2d hv1 ji1
 have xj:=A2d hv1 jj1
 have yi2:IntKind.wrap .i64 ((i2:Int)+1)=((i2+1:Nat):Int):=by rw [wrap64 (by omega) (by omega)]; rfl
 have yj2:IntKind.wrap .i64 ((j2:Int) - 1)=((j2 - 1:Nat):Int):=by rw [wrap64 (by omega) (by omega)]; omega
 obtain ⟨L3,L4,d1,d2,hv2,hc2,d5⟩:=A5l hv1 hc1.wf ji1 jj1
 obtain ⟨s1,s2,s3⟩:=pair l1 i2 j2 (by omega) hpa (by omega) hij2 (by omega) hA2 hB2 (u8 (by omega)) (w8 (by omega))
 refine (A4d (by kernel_rfl)).2 ?_
 simp only [↓Sh.dn,sx,Nat.reduceBEq,reduceCtorEq,Nat.reduceEqDiff,w0,w1,wi,wj,ii2,ij2,xi,xj,A1o,d1,d2,yi2,yj2]
 exact kk (j2 - 1+1 - (i2+1)) _ _ (by omega) ⟨i2+1,j2 - 1,swp l1 i2 j2,rfl,by omega,by omega,by omega,hm1.swap (by omega) (by omega) (by omega) (by omega),s1,s2,s3,hv2,hc1.trans hc2,by simp only [↓Sh.dn,sx,Nat.reduceBEq,reduceCtorEq,Nat.reduceEqDiff,w0],by simp only [↓Sh.dn,sx,Nat.reduceBEq,reduceCtorEq,Nat.reduceEqDiff,w1],by simp only [↓Sh.dn,sx,Nat.reduceBEq,reduceCtorEq,Nat.reduceEqDiff],by simp only [↓Sh.dn,sx,Nat.reduceBEq,reduceCtorEq,Nat.reduceEqDiff]⟩
end
end Go.Proofs.YtnoengaghabmjaaGreat
/- partialInsertionSortOrdered. -/
namespace Go.Proofs.YtnoengaghabmjaaGreat
open Go Go.Proofs Go.Proofs.Sh
def B5h (a i:Nat) (m:List Int):Prop:=∀ (p:Nat) x y,a≤p→p+1 < i→m[p]?=some x→m[p+1]?=some y→A9c y x=false
def PreInt (a b:Nat) (l:List Int):Prop:=∀ (q:Nat) x y,0 < a→l[a - 1]?=some y→a≤q→q < b→l[q]?=some x→A9c x y=false
theorem PreInt.mix {a b:Nat} {l m:List Int} (h:PreInt a b l) (hm:Mix a b l m) (hb:b≤l.length):PreInt a b m:=by
 intro q x y h0 hy h1 h2 hx
 rw [hm.out (.inl (by omega))] at hy
 exact hm.all (p:=fun x=>A9c x y=false) hb (fun i z hi1 hi2 hz=>h i z y h0 hy hi1 hi2 hz) q x h1 h2 hx
theorem A93 {H:AH} {g k n cap a b:Nat} {l:List Int} (hv:A6f H g k n l) (hw:Wf H) (hl:l.length≤1048576) (hab:a < b) (hb:b≤l.length) (hpre:PreInt a b l):
  Sh.Call Tryz.prog (knows 10) 177 [.slice (some ⟨g,0,some k⟩) l.length cap,.int .i64 (a:Int),.int .i64 (b:Int)] H
   (fun r H'=>∃ bb:Bool,r=.bool bb∧∃ l',Mix a b l l'∧(bb=true→Srt A9c a b l')∧A6f H' g k n l'∧Chg (fun y=>y=g) H H'):=by
 refine A4a rfl Tryz.func177 rfl (Nat.le_of_ble_eq_true rfl) ?_
 have hres:Tryz.f177.results.toList=[.tmp 6]:=rfl
 have hTO:=intTO
 have w1:IntKind.wrap .i64 ((a:Int)+1)=((a+1:Nat):Int):=by rw [wrap64 (by omega) (by omega)]; rfl
 have wba:IntKind.wrap .i64 ((b:Int) - (a:Int))=((b - a:Nat):Int):=by rw [wrap64 (by omega) (by omega)]; omega
 simp only [↓Sh.dn,sx,Nat.reduceBEq,reduceCtorEq,Nat.reduceEqDiff,w1]
 refine A1f (fun m F H' => ∃ (c i : Nat) (l1 : List Int), m = 5 - c ∧ c ≤ 5 ∧ a + 1 ≤ i ∧ i ≤ b ∧ Mix a b l l1 ∧ B5h a i l1 ∧ A6f H' g k n l1 ∧ Chg (fun y => y = g) H H' ∧
     F.get 0 = some (.slice (some ⟨g, 0, some k⟩) l.length cap) ∧ F.get 1 = some (.int .i64 (a : Int)) ∧ F.get 2 = some (.int .i64 (b : Int)) ∧ F.get 7 = some (.int .i64 (i : Int)) ∧ F.get 8 = some (.int .i64 (c : Int))) (m := 5)
   ⟨0, a + 1, l, rfl, by omega, by omega, by omega, .refl l, fun p x y h1 h2 => by omega, hv, Chg.refl hw, by simp only [↓Sh.dn, sx, Nat.reduceBEq, reduceCtorEq, Nat.reduceEqDiff], by simp only [↓Sh.dn, sx, Nat.reduceBEq, reduceCtorEq, Nat.reduceEqDiff], by simp only [↓Sh.dn, sx, Nat.reduceBEq, reduceCtorEq, Nat.reduceEqDiff], by simp only [↓Sh.dn, sx, Nat.reduceBEq, reduceCtorEq, Nat.reduceEqDiff], by simp only [↓Sh.dn, sx, Nat.reduceBEq, reduceCtorEq, Nat.reduceEqDiff]; rfl⟩ ?_
 rintro m F H' ⟨c,i,l1,rfl,hc5,hai,hib,hm,hadj,hv1,hc1,f0,f1,f2,f7,f8⟩ kk
 have hlen:=hm.length
 by_cases hlt:c < 5
 case neg=>
  have d:decide ((c:Int) < 5)=false:=by simp; omega
  simp only [↓Sh.dn,sx,Nat.reduceBEq,reduceCtorEq,Nat.reduceEqDiff,f8,d,hres]
  exact ⟨l1,hm,hv1,hc1⟩
 have d:decide ((c:Int) < 5)=true:=by simp; omega
 simp only [↓Sh.dn,sx,Nat.reduceBEq,reduceCtorEq,Nat.reduceEqDiff,f8,d]
 obtain ⟨M1, hM1⟩ : ∃ M : Fr → AH → Prop, M = fun F' H9 => H' = H9 ∧ ∃ v : Nat, F'.get 0 = some (.slice (some ⟨g, 0, some k⟩) l.length cap) ∧ F'.get 1 = some (.int .i64 (a : Int)) ∧ F'.get 2 = some (.int .i64 (b : Int)) ∧ F'.get 7 = some (.int .i64 (v : Int)) ∧ F'.get 8 = some (.int .i64 (c : Int)) ∧
     i ≤ v ∧ v ≤ b ∧ B5h a v l1 := ⟨_, rfl⟩
 refine B33 M1 (by rfl) ?_ ?_
 ·refine A1f (fun m F' H9 => H' = H9 ∧ ∃ v : Nat, m = b - v ∧ F'.get 0 = some (.slice (some ⟨g, 0, some k⟩) l.length cap) ∧ F'.get 1 = some (.int .i64 (a : Int)) ∧ F'.get 2 = some (.int .i64 (b : Int)) ∧ F'.get 7 = some (.int .i64 (v : Int)) ∧ F'.get 8 = some (.int .i64 (c : Int)) ∧
    i ≤ v ∧ v ≤ b ∧ B5h a v l1) (m := b - i)
    ⟨rfl, i, rfl, by simp only [↓Sh.dn, sx, Nat.reduceBEq, reduceCtorEq, Nat.reduceEqDiff, f0], by simp only [↓Sh.dn, sx, Nat.reduceBEq, reduceCtorEq, Nat.reduceEqDiff, f1], by simp only [↓Sh.dn, sx, Nat.reduceBEq, reduceCtorEq, Nat.reduceEqDiff, f2], by simp only [↓Sh.dn, sx, Nat.reduceBEq, reduceCtorEq, Nat.reduceEqDiff, f7], by simp only [↓Sh.dn, sx, Nat.reduceBEq, reduceCtorEq, Nat.reduceEqDiff, f8], Nat.le_refl _, hib, hadj⟩ ?_
  rintro m F' H9 ⟨rfl, v, rfl, g0, g1, g2, g7, g8, h1, h2, h3⟩ k2
  simp only [↓Sh.dn, sx, Nat.reduceBEq, reduceCtorEq, Nat.reduceEqDiff]
  refine (A4d (by kernel_rfl)).2 ?_
  by_cases hvb : v < b
  · have jv : v < l1.length := by omega
    have jw : v - 1 < l1.length := by omega
    have iv := A8d (g := g) (k := k) (cap := cap) (m := l.length) (i := v) (j := .i64) (by omega)
    have iw := A8d (g := g) (k := k) (cap := cap) (m := l.length) (i := v - 1) (j := .i64) (by omega)
    have xv := A2d hv1 jv
    have xw := A2d hv1 jw
    have wv : IntKind.wrap .i64 ((v : Int) - 1) = ((v - 1 : Nat) : Int) := by rw [wrap64 (by omega) (by omega)]; omega
    have wv2 : IntKind.wrap .i64 ((v : Int) + 1) = ((v + 1 : Nat) : Int) := by rw [wrap64 (by omega) (by omega)]; rfl
    simp only [↓Sh.dn, sx, Nat.reduceBEq, reduceCtorEq, Nat.reduceEqDiff, g0, g1, g2, g7, A5a, hvb, decide_true, wv, iv, iw, xv, xw]
    refine ⟨_, _, A2f, ?_⟩
    cases hq : A9c l1[v] l1[v - 1] with
    | false =>
      simp only [↓Sh.dn, sx, Nat.reduceBEq, reduceCtorEq, Nat.reduceEqDiff, g7, wv2]
      refine k2 (b - (v + 1)) _ _ (by omega) ⟨rfl, v + 1, rfl, by simp only [↓Sh.dn, sx, Nat.reduceBEq, reduceCtorEq, Nat.reduceEqDiff, g0], by simp only [↓Sh.dn, sx, Nat.reduceBEq, reduceCtorEq, Nat.reduceEqDiff, g1], by simp only [↓Sh.dn, sx, Nat.reduceBEq, reduceCtorEq, Nat.reduceEqDiff, g2], by simp only [↓Sh.dn, sx, Nat.reduceBEq, reduceCtorEq, Nat.reduceEqDiff], by simp only [↓Sh.dn, sx, Nat.reduceBEq, reduceCtorEq, Nat.reduceEqDiff, g8], by omega, by omega, fun p x y hp1 hp2 hx hy => ?_⟩
      by_cases hpv : p + 1 = v
      · have e1 : l1[v]? = some l1[v] := List.getElem?_eq_getElem jv
        have e2 : l1[v - 1]? = some l1[v - 1] := List.getElem?_eq_getElem jw
        rw [hpv, e1] at hy
        rw [show p = v - 1 by omega, e2] at hx
        rw [← Option.some.inj hx, ← Option.some.inj hy]; exact hq
      · exact h3 p x y hp1 (by omega) hx hy
    | true =>
      simp only [↓Sh.dn, sx, Nat.reduceBEq, reduceCtorEq, Nat.reduceEqDiff, hM1, g0, g1, g2, g7, g8]
      exact ⟨v, rfl, h1, h2, h3⟩
  · simp only [↓Sh.dn, sx, Nat.reduceBEq, reduceCtorEq, Nat.reduceEqDiff, hM1, g0, g1, g2, g7, g8, A5a, hvb, decide_false]
    exact ⟨v, rfl, h1, h2, h3⟩
 intro F1 H9 h9
 rw [hM1] at h9
 obtain ⟨rfl,v,f0,f1,f2,f7,f8,hiv,hvb,hadj⟩:=h9
 by_cases hend:v=b
 ·have d:decide ((v:Int)=(b:Int))=true:=by simp [hend]
  simp only [↓Sh.dn,sx,Nat.reduceBEq,reduceCtorEq,Nat.reduceEqDiff,f2,f7,d,hres]
  exact ⟨l1,hm,C9d hTO (by rw [← hend]; exact hadj),hv1,hc1⟩
 have d:decide ((v:Int)=(b:Int))=false:=by simp; omega
 simp only [↓Sh.dn,sx,Nat.reduceBEq,reduceCtorEq,Nat.reduceEqDiff,f1,f2,f7,d,wba]
 by_cases h50:b - a < 50
 ·have d:decide (((b - a:Nat):Int) < 50)=true:=by simp; omega
  simp only [↓Sh.dn,sx,Nat.reduceBEq,reduceCtorEq,Nat.reduceEqDiff,d,hres]
  exact ⟨l1,hm,hv1,hc1⟩
 have d:decide (((b - a:Nat):Int) < 50)=false:=by simp; omega
 simp only [↓Sh.dn,sx,Nat.reduceBEq,reduceCtorEq,Nat.reduceEqDiff,d]
 have jv:v < l1.length:=by omega
 have jw:v - 1 < l1.length:=by omega
 have iv:=A8d (g:=g) (k:=k) (cap:=cap) (m:=l.length) (i:=v) (j:=.i64) (by omega)
 have iw:=A8d (g:=g) (k:=k) (cap:=cap) (m:=l.length) (i:=v - 1) (j:=.i64) (by omega)
 have xv:=A2d hv1 jv
 have xw:=A2d hv1 jw
 have wv:IntKind.wrap .i64 ((v:Int) - 1)=((v - 1:Nat):Int):=by rw [wrap64 (by omega) (by omega)]; omega
 have wv2:IntKind.wrap .i64 ((v:Int)+1)=((v+1:Nat):Int):=by rw [wrap64 (by omega) (by omega)]; rfl
 have wva:IntKind.wrap .i64 ((v:Int) - (a:Int))=((v - a:Nat):Int):=by rw [wrap64 (by omega) (by omega)]; omega
 have wbv:IntKind.wrap .i64 ((b:Int) - (v:Int))=((b - v:Nat):Int):=by rw [wrap64 (by omega) (by omega)]; omega
 have wc:IntKind.wrap .i64 ((c:Int)+1)=((c+1:Nat):Int):=by rw [wrap64 (by omega) (by omega)]; rfl
 obtain ⟨L1,L2,d1,d2,hv2,hc2,d5⟩:=A5l hv1 hc1.wf jv jw
 have hm2:Mix a b l (swp l1 v (v - 1)):=hm.swap (by omega) (by omega) (by omega) (by omega)
 refine (A4d (by kernel_rfl)).2 ?_
 simp only [↓Sh.dn,sx,Nat.reduceBEq,reduceCtorEq,Nat.reduceEqDiff,f0,f1,f7,wv,iv,iw,xv,xw,A1o,d1,d2,wva]
 have hA2:∀ (p:Nat) x y,a≤p→p+1 < v→p+1≠v - 1→(swp l1 v (v - 1))[p]?=some x→(swp l1 v (v - 1))[p+1]?=some y→A9c y x=false:=by
  intro p x y h1 h2 h3 hx hy
  rw [swp_get jv jw,if_neg (by omega),if_neg (by omega)] at hx hy
  exact hadj p x y h1 (by omega) hx hy
 have hc12:=hc1.trans hc2
 generalize swp l1 v (v - 1)=l2 at hv2 hm2 hA2
 obtain ⟨M2,hM2⟩:∃ M:Fr→AH→Prop,M=fun F' H9=>∃ l3:List Int,Mix a b l l3∧B5h a v l3∧A6f H9 g k n l3∧Chg (fun y=>y=g) H H9∧F'.get 0=some (.slice (some ⟨g,0,some k⟩) l.length cap)∧F'.get 1=some (.int .i64 (a:Int))∧F'.get 2=some (.int .i64 (b:Int))∧F'.get 7=some (.int .i64 (v:Int))∧F'.get 8=some (.int .i64 (c:Int)):=⟨_,rfl⟩
 refine C22 M2 (by rfl) ?_ ?_
 ·by_cases hva:2≤v - a
  case neg=>
   have d:decide ((2:Int)≤((v - a:Nat):Int))=false:=by simp; omega
   simp only [↓Sh.dn,sx,Nat.reduceBEq,reduceCtorEq,Nat.reduceEqDiff,d,hM2,f0,f1,f2,f7,f8]
   exact ⟨l2,hm2,fun p x y h1 h2 hx hy=>by omega,hv2,hc12⟩
  have d:decide ((2:Int)≤((v - a:Nat):Int))=true:=by simp; omega
  simp only [↓Sh.dn,sx,Nat.reduceBEq,reduceCtorEq,Nat.reduceEqDiff,d,f7,wv]
  refine A1f (fun j F' H9 => ∃ l3 : List Int, a ≤ j ∧ j ≤ v - 1 ∧ Mix a b l l3 ∧ (∀ (p : Nat) x y, a ≤ p → p + 1 < v → p + 1 ≠ j → l3[p]? = some x → l3[p + 1]? = some y → A9c y x = false) ∧ (∀ x y, a < j → j + 1 < v → l3[j - 1]? = some x → l3[j + 1]? = some y → A9c y x = false) ∧ A6f H9 g k n l3 ∧ Chg (fun y => y = g) H H9 ∧
      F'.get 0 = some (.slice (some ⟨g, 0, some k⟩) l.length cap) ∧ F'.get 1 = some (.int .i64 (a : Int)) ∧ F'.get 2 = some (.int .i64 (b : Int)) ∧ F'.get 7 = some (.int .i64 (v : Int)) ∧ F'.get 8 = some (.int .i64 (c : Int)) ∧ F'.get 9 = some (.int .i64 (j : Int))) (m := v - 1)
    ⟨l2, by omega, Nat.le_refl _, hm2, hA2, fun x y h1 h2 => by omega, hv2, hc12, by simp only [↓Sh.dn, sx, Nat.reduceBEq, reduceCtorEq, Nat.reduceEqDiff, f0], by simp only [↓Sh.dn, sx, Nat.reduceBEq, reduceCtorEq, Nat.reduceEqDiff, f1], by simp only [↓Sh.dn, sx, Nat.reduceBEq, reduceCtorEq, Nat.reduceEqDiff, f2], by simp only [↓Sh.dn, sx, Nat.reduceBEq, reduceCtorEq, Nat.reduceEqDiff, f7], by simp only [↓Sh.dn, sx, Nat.reduceBEq, reduceCtorEq, Nat.reduceEqDiff, f8], by simp only [↓Sh.dn, sx, Nat.reduceBEq, reduceCtorEq, Nat.reduceEqDiff]⟩ ?_
  rintro j F' H9 ⟨l3,haj,hjv,hm3,hA,hB,hv3,hc3,g0,g1,g2,g7,g8,g9⟩ k2
  have hlen3:=hm3.length
  have hall:j=a→B5h a v l3:=fun h p x y h1 h2 hx hy=>hA p x y h1 h2 (by omega) hx hy
  by_cases hj0:1≤j
  case neg=>
   have d:decide ((1:Int)≤(j:Int))=false:=by simp; omega
   simp only [↓Sh.dn,sx,Nat.reduceBEq,reduceCtorEq,Nat.reduceEqDiff,g9,d,hM2,g0,g1,g2,g7,g8]
   exact ⟨l3,hm3,hall (by omega),hv3,hc3⟩
  have d:decide ((1:Int)≤(j:Int))=true:=by simp; omega
  have jj:j < l3.length:=by omega
  have jj1:j - 1 < l3.length:=by omega
  have ij:=A8d (g:=g) (k:=k) (cap:=cap) (m:=l.length) (i:=j) (j:=.i64) (by omega)
  have ij1:=A8d (g:=g) (k:=k) (cap:=cap) (m:=l.length) (i:=j - 1) (j:=.i64) (by omega)
  have xj:=A2d hv3 jj
  have xj1:=A2d hv3 jj1
  have q1:l3[j]?=some l3[j]:=List.getElem?_eq_getElem jj
  have q2:l3[j - 1]?=some l3[j - 1]:=List.getElem?_eq_getElem jj1
  have wj:IntKind.wrap .i64 ((j:Int) - 1)=((j - 1:Nat):Int):=by rw [wrap64 (by omega) (by omega)]; omega
  simp only [↓Sh.dn,sx,Nat.reduceBEq,reduceCtorEq,Nat.reduceEqDiff,g9,d]
  refine (A4d (by kernel_rfl)).2 ?_
  simp only [↓Sh.dn,sx,Nat.reduceBEq,reduceCtorEq,Nat.reduceEqDiff,g0,g9,wj,ij,ij1,xj,xj1]
  refine ⟨_,_,A2f,?_⟩
  cases hq:A9c l3[j] l3[j - 1] with
  | false=>
   simp only [↓Sh.dn,sx,Nat.reduceBEq,reduceCtorEq,Nat.reduceEqDiff,hM2,g0,g1,g2,g7,g8]
   refine ⟨l3,hm3,fun p x y h1 h2 hx hy=>?_,hv3,hc3⟩
   by_cases hp:p+1=j
   ·rw [hp,q1] at hy
    rw [show p=j - 1 by omega,q2] at hx
    rw [← Option.some.inj hx,← Option.some.inj hy]; exact hq
   ·exact hA p x y h1 h2 hp hx hy
  | true=>
   have haj':a < j:=by
    by_cases h:j=a
    ·subst h
     have:=hpre.mix hm3 hb j _ _ (by omega) q2 (Nat.le_refl _) hab q1
     rw [this] at hq; cases hq
    ·omega
   obtain ⟨L3,L4,c1,c2,hv4,hc4,c5⟩:=A5l hv3 hc3.wf jj jj1
   simp only [↓Sh.dn,sx,Nat.reduceBEq,reduceCtorEq,Nat.reduceEqDiff]
   refine (A4d (by kernel_rfl)).2 ?_
   simp only [↓Sh.dn,sx,Nat.reduceBEq,reduceCtorEq,Nat.reduceEqDiff,g0,g9,wj,ij,ij1,xj,xj1,A1o,c1,c2]
   refine k2 (j - 1) _ _ (by omega) ⟨swp l3 j (j - 1),by omega,by omega,hm3.swap (by omega) (by omega) (by omega) (by omega),fun p x y h1 h2 h3 hx hy=>?_,fun x y h1 h2 hx hy=>?_,hv4,hc3.trans hc4,by simp only [↓Sh.dn,sx,Nat.reduceBEq,reduceCtorEq,Nat.reduceEqDiff,g0],by simp only [↓Sh.dn,sx,Nat.reduceBEq,reduceCtorEq,Nat.reduceEqDiff,g1],by simp only [↓Sh.dn,sx,Nat.reduceBEq,reduceCtorEq,Nat.reduceEqDiff,g2],by simp only [↓Sh.dn,sx,Nat.reduceBEq,reduceCtorEq,Nat.reduceEqDiff,g7],by simp only [↓Sh.dn,sx,Nat.reduceBEq,reduceCtorEq,Nat.reduceEqDiff,g8],by simp only [↓Sh.dn,sx,Nat.reduceBEq,reduceCtorEq,Nat.reduceEqDiff]⟩
   ·rw [swp_get jj jj1] at hx hy
    by_cases hp1:p+1=j
    ·have hp:p=j - 1:=by omega
     rw [if_pos hp,q1] at hx
     rw [if_neg (by omega),if_pos hp1,q2] at hy
     rw [← Option.some.inj hx,← Option.some.inj hy]
     exact hTO.asymm hq
    ·by_cases hp2:p=j
     ·rw [if_neg (by omega),if_pos hp2,q2] at hx
      rw [if_neg (by omega),if_neg (by omega)] at hy
      rw [← Option.some.inj hx]
      exact hB _ _ haj' (by omega) q2 (by rw [← hp2]; exact hy)
     ·rw [if_neg (by omega),if_neg hp2] at hx
      rw [if_neg (by omega),if_neg (by omega)] at hy
      exact hA p x y h1 h2 hp1 hx hy
   ·rw [swp_get jj jj1] at hx hy
    rw [if_neg (by omega),if_neg (by omega)] at hx
    rw [if_neg (by omega),if_pos (by omega),q2] at hy
    rw [← Option.some.inj hy]
    exact hA (j - 2) _ _ (by omega) (by omega) (by omega) (by rw [show j - 2=j - 1 - 1 by omega]; exact hx) (by rw [show j - 2+1=j - 1 by omega]; exact q2)
 intro F2 H9 h9
 rw [hM2] at h9
 obtain ⟨l3,hm3,hadj3,hv3,hc3,f0,f1,f2,f7,f8⟩:=h9
 simp only [↓Sh.dn,sx,Nat.reduceBEq,reduceCtorEq,Nat.reduceEqDiff,f2,f7,wbv]
 obtain ⟨M3,hM3⟩:∃ M:Fr→AH→Prop,M=fun F' H9=>∃ l3:List Int,Mix a b l l3∧B5h a v l3∧A6f H9 g k n l3∧Chg (fun y=>y=g) H H9∧F'.get 0=some (.slice (some ⟨g,0,some k⟩) l.length cap)∧F'.get 1=some (.int .i64 (a:Int))∧F'.get 2=some (.int .i64 (b:Int))∧F'.get 7=some (.int .i64 (v:Int))∧F'.get 8=some (.int .i64 (c:Int)):=⟨_,rfl⟩
 refine C22 M3 (by rfl) ?_ ?_
 ·by_cases hbv:2≤b - v
  case neg=>
   have d:decide ((2:Int)≤((b - v:Nat):Int))=false:=by simp; omega
   simp only [↓Sh.dn,sx,Nat.reduceBEq,reduceCtorEq,Nat.reduceEqDiff,d,hM3,f0,f1,f2,f7,f8]
   exact ⟨l3,hm3,hadj3,hv3,hc3⟩
  have d:decide ((2:Int)≤((b - v:Nat):Int))=true:=by simp; omega
  simp only [↓Sh.dn,sx,Nat.reduceBEq,reduceCtorEq,Nat.reduceEqDiff,d,f7,wv2]
  refine A1f (fun m F' H9 => ∃ (j : Nat) (l3 : List Int), m = b - j ∧ v + 1 ≤ j ∧ j ≤ b ∧ Mix a b l l3 ∧ B5h a v l3 ∧ A6f H9 g k n l3 ∧ Chg (fun y => y = g) H H9 ∧
      F'.get 0 = some (.slice (some ⟨g, 0, some k⟩) l.length cap) ∧ F'.get 1 = some (.int .i64 (a : Int)) ∧ F'.get 2 = some (.int .i64 (b : Int)) ∧ F'.get 7 = some (.int .i64 (v : Int)) ∧ F'.get 8 = some (.int .i64 (c : Int)) ∧ F'.get 10 = some (.int .i64 (j : Int))) (m := b - (v + 1))
    ⟨v + 1, l3, rfl, Nat.le_refl _, by omega, hm3, hadj3, hv3, hc3, by simp only [↓Sh.dn, sx, Nat.reduceBEq, reduceCtorEq, Nat.reduceEqDiff, f0], by simp only [↓Sh.dn, sx, Nat.reduceBEq, reduceCtorEq, Nat.reduceEqDiff, f1], by simp only [↓Sh.dn, sx, Nat.reduceBEq, reduceCtorEq, Nat.reduceEqDiff, f2], by simp only [↓Sh.dn, sx, Nat.reduceBEq, reduceCtorEq, Nat.reduceEqDiff, f7], by simp only [↓Sh.dn, sx, Nat.reduceBEq, reduceCtorEq, Nat.reduceEqDiff, f8], by simp only [↓Sh.dn, sx, Nat.reduceBEq, reduceCtorEq, Nat.reduceEqDiff]⟩ ?_
  rintro m F' H9 ⟨j,l4,rfl,hvj,hjb,hm4,hadj4,hv4,hc4,g0,g1,g2,g7,g8,g10⟩ k2
  have hlen4:=hm4.length
  by_cases hjb':j < b
  case neg=>
   simp only [↓Sh.dn,sx,Nat.reduceBEq,reduceCtorEq,Nat.reduceEqDiff,g2,g10,A5a,hjb',decide_false,hM3,g0,g1,g7,g8]
   exact ⟨l4,hm4,hadj4,hv4,hc4⟩
  have jj:j < l4.length:=by omega
  have jj1:j - 1 < l4.length:=by omega
  have ij:=A8d (g:=g) (k:=k) (cap:=cap) (m:=l.length) (i:=j) (j:=.i64) (by omega)
  have ij1:=A8d (g:=g) (k:=k) (cap:=cap) (m:=l.length) (i:=j - 1) (j:=.i64) (by omega)
  have xj:=A2d hv4 jj
  have xj1:=A2d hv4 jj1
  have wj:IntKind.wrap .i64 ((j:Int) - 1)=((j - 1:Nat):Int):=by rw [wrap64 (by omega) (by omega)]; omega
  have wj2:IntKind.wrap .i64 ((j:Int)+1)=((j+1:Nat):Int):=by rw [wrap64 (by omega) (by omega)]; rfl
  simp only [↓Sh.dn,sx,Nat.reduceBEq,reduceCtorEq,Nat.reduceEqDiff,g2,g10,A5a,hjb',decide_true]
  refine (A4d (by kernel_rfl)).2 ?_
  simp only [↓Sh.dn,sx,Nat.reduceBEq,reduceCtorEq,Nat.reduceEqDiff,g0,g10,wj,ij,ij1,xj,xj1]
  refine ⟨_,_,A2f,?_⟩
  cases hq:A9c l4[j] l4[j - 1] with
  | false=>
   simp only [↓Sh.dn,sx,Nat.reduceBEq,reduceCtorEq,Nat.reduceEqDiff,hM3,g0,g1,g2,g7,g8]
   exact ⟨l4,hm4,hadj4,hv4,hc4⟩
  | true=>
   obtain ⟨L3,L4,c1,c2,hv5,hc5',c5⟩:=A5l hv4 hc4.wf jj jj1
   simp only [↓Sh.dn,sx,Nat.reduceBEq,reduceCtorEq,Nat.reduceEqDiff]
   refine (A4d (by kernel_rfl)).2 ?_
   simp only [↓Sh.dn,sx,Nat.reduceBEq,reduceCtorEq,Nat.reduceEqDiff,g0,g10,wj,ij,ij1,xj,xj1,A1o,c1,c2,wj2]
   refine k2 (b - (j+1)) _ _ (by omega) ⟨j+1,swp l4 j (j - 1),rfl,by omega,by omega,hm4.swap (by omega) (by omega) (by omega) (by omega),fun p x y h1 h2 hx hy=>?_,hv5,hc4.trans hc5',by simp only [↓Sh.dn,sx,Nat.reduceBEq,reduceCtorEq,Nat.reduceEqDiff,g0],by simp only [↓Sh.dn,sx,Nat.reduceBEq,reduceCtorEq,Nat.reduceEqDiff,g1],by simp only [↓Sh.dn,sx,Nat.reduceBEq,reduceCtorEq,Nat.reduceEqDiff,g2],by simp only [↓Sh.dn,sx,Nat.reduceBEq,reduceCtorEq,Nat.reduceEqDiff,g7],by simp only [↓Sh.dn,sx,Nat.reduceBEq,reduceCtorEq,Nat.reduceEqDiff,g8],by simp only [↓Sh.dn,sx,Nat.reduceBEq,reduceCtorEq,Nat.reduceEqDiff]⟩
   rw [swp_get jj jj1,if_neg (by omega),if_neg (by omega)] at hx hy
   exact hadj4 p x y h1 h2 hx hy
 intro F3 H10 h10
 rw [hM3] at h10
 obtain ⟨l5,hm5,hadj5,hv5,hc5',f0,f1,f2,f7,f8⟩:=h10
 simp only [↓Sh.dn,sx,Nat.reduceBEq,reduceCtorEq,Nat.reduceEqDiff,f8,wc]
 exact kk (5 - (c+1)) _ _ (by omega) ⟨c+1,v,l5,rfl,by omega,by omega,by omega,hm5,hadj5,hv5,hc5',by simp only [↓Sh.dn,sx,Nat.reduceBEq,reduceCtorEq,Nat.reduceEqDiff,f0],by simp only [↓Sh.dn,sx,Nat.reduceBEq,reduceCtorEq,Nat.reduceEqDiff,f1],by simp only [↓Sh.dn,sx,Nat.reduceBEq,reduceCtorEq,Nat.reduceEqDiff,f2],by simp only [↓Sh.dn,sx,Nat.reduceBEq,reduceCtorEq,Nat.reduceEqDiff,f7],by simp only [↓Sh.dn,sx,Nat.reduceBEq,reduceCtorEq,Nat.reduceEqDiff]⟩
end Go.Proofs.YtnoengaghabmjaaGreat
/- pdqsortOrdered. -/
namespace Go.Proofs.YtnoengaghabmjaaGreat
open Go Go.Proofs Go.Proofs.Sh
theorem pdqInt {g k n cap:Nat}:∀ (sz:Nat) {H:AH} {a b:Nat} {l:List Int} {lim:Int},b - a≤sz→A6f H g k n l→Wf H→l.length≤1048576→a≤b→b≤l.length→PreInt a b l→
  Sh.Call Tryz.prog (knows 10) 169 [.slice (some ⟨g,0,some k⟩) l.length cap,.int .i64 (a:Int),.int .i64 (b:Int),.int .i64 lim] H
   (fun r H'=>∃ l',Mix a b l l'∧Srt A9c a b l'∧A6f H' g k n l'∧Chg (fun y=>y=g) H H'):=by
 intro sz
 induction sz using Nat.strongRecOn with
 | _ sz ih=>
 intro H a b l lim hsz hv hw hl hab hb hpre
 refine A4a rfl Tryz.func169 rfl (Nat.le_of_ble_eq_true rfl) ?_
 have hres:Tryz.f169.results.toList=[]:=rfl
 have hTO:=intTO
 simp only [↓Sh.dn,sx,Nat.reduceBEq,reduceCtorEq,Nat.reduceEqDiff]
 refine A1f (fun m F H' => ∃ (a' b' : Nat) (l1 : List Int) (lm : Int) (x8 x9 : Bool), m = b' - a' ∧ a ≤ a' ∧ a' ≤ b' ∧ b' ≤ b ∧ Mix a b l l1 ∧ P3 A9c a a' b' b l1 ∧ PreInt a' b' l1 ∧ A6f H' g k n l1 ∧ Chg (fun y => y = g) H H' ∧
     F.get 0 = some (.slice (some ⟨g, 0, some k⟩) l.length cap) ∧ F.get 1 = some (.int .i64 (a' : Int)) ∧ F.get 2 = some (.int .i64 (b' : Int)) ∧ F.get 3 = some (.int .i64 lm) ∧ F.get 8 = some (.bool x8) ∧ F.get 9 = some (.bool x9)) (m := b - a)
   ⟨a, b, l, lim, true, true, rfl, Nat.le_refl _, hab, Nat.le_refl _, .refl l, fun p q x y h1 h2 h3 h4 => absurd ⟨h1, h3⟩ h4, hpre, hv, Chg.refl hw, by simp only [↓Sh.dn, sx, Nat.reduceBEq, reduceCtorEq, Nat.reduceEqDiff], by simp only [↓Sh.dn, sx, Nat.reduceBEq, reduceCtorEq, Nat.reduceEqDiff], by simp only [↓Sh.dn, sx, Nat.reduceBEq, reduceCtorEq, Nat.reduceEqDiff], by simp only [↓Sh.dn, sx, Nat.reduceBEq, reduceCtorEq, Nat.reduceEqDiff], by simp only [↓Sh.dn, sx, Nat.reduceBEq, reduceCtorEq, Nat.reduceEqDiff], by simp only [↓Sh.dn, sx, Nat.reduceBEq, reduceCtorEq, Nat.reduceEqDiff]⟩ ?_
 rintro m F H' ⟨a',b',l1,lm,x8,x9,rfl,ha',hab',hb',hm,h3,hpr,hv1,hc1,f0,f1,f2,f3,f8,f9⟩ kk
 have hlen:=hm.length
 have hvl:l1.length=l.length:=hlen
 have wba:IntKind.wrap .i64 ((b':Int) - (a':Int))=((b' - a':Nat):Int):=by rw [wrap64 (by omega) (by omega)]; omega
 have fin:∀ {H2:AH} {l2:List Int},Mix a' b' l1 l2→Srt A9c a' b' l2→Mix a b l l2∧Srt A9c a b l2:=fun {H2 l2} h1 h2=>⟨hm.trans (h1.wide ha' hb'),(h3.mix ha' hb' h1 (by omega)).srt hTO h2⟩
 simp only [↓Sh.dn,sx,Nat.reduceBEq,reduceCtorEq,Nat.reduceEqDiff,f1,f2,wba]
 by_cases h12:b' - a'≤12
 ·have d:decide (((b' - a':Nat):Int)≤12)=true:=by simp; omega
  obtain ⟨r,H2,hd,l2,q1,q2,q3,q4⟩:=B6c (cap:=cap) hv1 hc1.wf (by omega) hab' (by omega)
  rw [hvl] at hd
  simp only [↓Sh.dn,sx,Nat.reduceBEq,reduceCtorEq,Nat.reduceEqDiff,d,f0,f1,f2]
  refine ⟨_,_,hd,?_⟩
  simp only [↓Sh.dn,sx,Nat.reduceBEq,reduceCtorEq,Nat.reduceEqDiff,hres]
  exact ⟨l2,(fin (H2:=H2) q1 q2).1,(fin (H2:=H2) q1 q2).2,q3,hc1.trans q4⟩
 have d:decide (((b' - a':Nat):Int)≤12)=false:=by simp; omega
 simp only [↓Sh.dn,sx,Nat.reduceBEq,reduceCtorEq,Nat.reduceEqDiff,d,f3]
 by_cases hlm:lm=0
 ·obtain ⟨r,H2,hd,l2,q1,q2,q3,q4⟩:=C3c (cap:=cap) hv1 hc1.wf (by omega) (by omega:a' < b') (by omega)
  rw [hvl] at hd
  simp only [↓Sh.dn,sx,Nat.reduceBEq,reduceCtorEq,Nat.reduceEqDiff,hlm,decide_true,f0,f1,f2]
  refine ⟨_,_,hd,?_⟩
  simp only [↓Sh.dn,sx,Nat.reduceBEq,reduceCtorEq,Nat.reduceEqDiff,hres]
  exact ⟨l2,(fin (H2:=H2) q1 q2).1,(fin (H2:=H2) q1 q2).2,q3,hc1.trans q4⟩
 simp only [↓Sh.dn,sx,Nat.reduceBEq,reduceCtorEq,Nat.reduceEqDiff,hlm,decide_false,f8]
 obtain ⟨M1,hM1⟩:∃ M:Fr→AH→Prop,M=fun F' H9=>∃ l2:List Int,Mix a' b' l1 l2∧A6f H9 g k n l2∧Chg (fun y=>y=g) H H9∧F'.get 0=some (.slice (some ⟨g,0,some k⟩) l.length cap)∧F'.get 1=some (.int .i64 (a':Int))∧F'.get 2=some (.int .i64 (b':Int))∧F'.get 8=some (.bool x8)∧F'.get 9=some (.bool x9)∧F'.get 10=some (.int .i64 ((b' - a':Nat):Int))∧∃ lm,F'.get 3=some (.int .i64 lm):=⟨_,rfl⟩
 refine C22 M1 (by rfl) ?_ ?_
 ·cases x8 with
  | true=>
   simp only [↓Sh.dn,sx,Nat.reduceBEq,reduceCtorEq,Nat.reduceEqDiff,hM1,f0,f1,f2,f3,f8,f9]
   exact ⟨l1,.refl l1,hv1,hc1,lm,rfl⟩
  | false=>
   obtain ⟨r,H2,hd,l2,q1,q3,q4⟩:=B8c (cap:=cap) hv1 hc1.wf (by omega) (by omega:a'+12 < b') (by omega)
   rw [hvl] at hd
   simp only [↓Sh.dn,sx,Nat.reduceBEq,reduceCtorEq,Nat.reduceEqDiff,f0,f1,f2]
   refine ⟨_,_,hd,?_⟩
   simp only [↓Sh.dn,sx,Nat.reduceBEq,reduceCtorEq,Nat.reduceEqDiff,hM1,f0,f1,f2,f3,f8,f9]
   exact ⟨l2,q1,q3,hc1.trans q4,_,rfl⟩
 intro F1 H1 h9
 rw [hM1] at h9
 obtain ⟨l2,hm2,hv2,hc2,f0,f1,f2,f8,f9,f10,lm2,f3⟩:=h9
 have hlen2:l2.length=l.length:=by rw [hm2.length]; exact hlen
 obtain ⟨r,H2,hd,q,hint,rfl,hq1,hq2,hv2',hk2⟩:=B5l (cap:=cap) hv2 hc2.wf (by omega) (by omega:a'+12 < b') (by omega)
 have hc2':Chg (fun y=>y=g) H H2:=hc2.trans hk2.chg
 rw [hlen2] at hd
 simp only [↓Sh.dn,sx,Nat.reduceBEq,reduceCtorEq,Nat.reduceEqDiff,f0,f1,f2]
 refine ⟨_,_,hd,?_⟩
 simp only [↓Sh.dn,sx,Nat.reduceBEq,reduceCtorEq,Nat.reduceEqDiff]
 obtain ⟨M2,hM2⟩:∃ M:Fr→AH→Prop,M=fun F' H9=>∃ l2:List Int,Mix a' b' l1 l2∧A6f H9 g k n l2∧Chg (fun y=>y=g) H H9∧F'.get 0=some (.slice (some ⟨g,0,some k⟩) l.length cap)∧F'.get 1=some (.int .i64 (a':Int))∧F'.get 2=some (.int .i64 (b':Int))∧F'.get 3=some (.int .i64 lm2)∧F'.get 8=some (.bool x8)∧F'.get 9=some (.bool x9)∧F'.get 10=some (.int .i64 ((b' - a':Nat):Int))∧∃ q:Nat,a'≤q∧q < b'∧F'.get 11=some (.int .i64 (q:Int))∧∃ hint,F'.get 12=some (.int .i64 hint):=⟨_,rfl⟩
 refine C22 M2 (by rfl) ?_ ?_
 ·by_cases hh:hint=2
  ·have e1:IntKind.wrap .i64 ((b':Int) - 1)=((b' - 1:Nat):Int):=by rw [wrap64 (by omega) (by omega)]; omega
   have e2:IntKind.wrap .i64 ((q:Int) - (a':Int))=((q - a':Nat):Int):=by rw [wrap64 (by omega) (by omega)]; omega
   have e3:IntKind.wrap .i64 (((b' - 1:Nat):Int) - ((q - a':Nat):Int))=((b' - 1 - (q - a'):Nat):Int):=by rw [wrap64 (by omega) (by omega)]; omega
   obtain ⟨r,H3,hd3,l3,p1,p2,p3⟩:=B6i (cap:=cap) hv2' hk2.wf (by omega) (by omega:a' < b') (by omega)
   rw [hlen2] at hd3
   simp only [↓Sh.dn,sx,Nat.reduceBEq,reduceCtorEq,Nat.reduceEqDiff,hh,decide_true,f0,f1,f2]
   refine ⟨_,_,hd3,?_⟩
   simp only [↓Sh.dn,sx,Nat.reduceBEq,reduceCtorEq,Nat.reduceEqDiff,hM2,f0,f1,f2,f3,f8,f9,f10,e1,e2,e3]
   exact ⟨l3,hm2.trans p1,p2,hc2'.trans p3,b' - 1 - (q - a'),by omega,by omega,rfl,1,rfl⟩
  ·simp only [↓Sh.dn,sx,Nat.reduceBEq,reduceCtorEq,Nat.reduceEqDiff,hh,decide_false,hM2,f0,f1,f2,f3,f8,f9,f10]
   exact ⟨l2,hm2,hv2',hc2',q,hq1,hq2,rfl,hint,rfl⟩
 intro F2 H3 h9
 rw [hM2] at h9
 obtain ⟨l3,hm3,hv3,hc3,f0,f1,f2,f3,f8,f9,f10,q,hq1,hq2,f11,hint,f12⟩:=h9
 have hlen3:l3.length=l.length:=by rw [hm3.length]; exact hlen
 obtain ⟨M3,hM3⟩:∃ M:Fr→AH→Prop,M=fun F' H9=>H3=H9∧F'.get 0=some (.slice (some ⟨g,0,some k⟩) l.length cap)∧F'.get 1=some (.int .i64 (a':Int))∧F'.get 2=some (.int .i64 (b':Int))∧F'.get 3=some (.int .i64 lm2)∧F'.get 8=some (.bool x8)∧F'.get 9=some (.bool x9)∧F'.get 10=some (.int .i64 ((b' - a':Nat):Int))∧F'.get 11=some (.int .i64 (q:Int))∧∃ bb,F'.get 68=some (.bool bb):=⟨_,rfl⟩
 simp only [↓Sh.wp_seq]
 refine B91 M3 (by rfl) ?_ ?_
 ·cases x8 with
  | false=>
   simp only [↓Sh.dn,sx,Nat.reduceBEq,reduceCtorEq,Nat.reduceEqDiff,hM3,f0,f1,f2,f3,f8,f9,f10,f11,f12]
  | true=>
   cases x9 with
   | false=>
    simp only [↓Sh.dn,sx,Nat.reduceBEq,reduceCtorEq,Nat.reduceEqDiff,hM3,f0,f1,f2,f3,f8,f9,f10,f11,f12]
   | true=>
    simp only [↓Sh.dn,sx,Nat.reduceBEq,reduceCtorEq,Nat.reduceEqDiff,hM3,f0,f1,f2,f3,f8,f9,f10,f11,f12]
 intro F3 H4 h9
 rw [hM3] at h9
 obtain ⟨rfl,f0,f1,f2,f3,f8,f9,f10,f11,bb,f68⟩:=h9
 obtain ⟨N,hN⟩:∃ N:Fr→AH→Prop,N=fun F' H9=>∃ l4:List Int,Mix a' b' l1 l4∧A6f H9 g k n l4∧Chg (fun y=>y=g) H H9∧F'.get 0=some (.slice (some ⟨g,0,some k⟩) l.length cap)∧F'.get 1=some (.int .i64 (a':Int))∧F'.get 2=some (.int .i64 (b':Int))∧F'.get 3=some (.int .i64 lm2)∧F'.get 8=some (.bool x8)∧F'.get 9=some (.bool x9)∧F'.get 10=some (.int .i64 ((b' - a':Nat):Int))∧F'.get 11=some (.int .i64 (q:Int)):=⟨_,rfl⟩
 refine wp_cut N (fun F4 H5 h9=>?_) (fun kont=>?_)
 case refine_2=>
  cases bb with
  | false=>
   refine (A66 (by rw [C84,f68])).2 (Sh.wp_skip.2 (kont _ _ ?_))
   rw [hN]
   exact ⟨l3,hm3,hv3,hc3,f0,f1,f2,f3,f8,f9,f10,f11⟩
  | true=>
   obtain ⟨r,H5,hd5,b5,rfl,l4,p1,p2,p3,p4⟩:=A93 (cap:=cap) hv3 hc3.wf (by omega) (by omega:a' < b') (by omega) (hpr.mix hm3 (by omega))
   rw [hlen3] at hd5
   simp only [↓Sh.dn,sx,Nat.reduceBEq,reduceCtorEq,Nat.reduceEqDiff,f68,f0,f1,f2]
   refine ⟨_,_,hd5,?_⟩
   cases b5 with
   | true=>
    simp only [↓Sh.dn,sx,Nat.reduceBEq,reduceCtorEq,Nat.reduceEqDiff,hres]
    exact ⟨l4,(fin (H2:=H5) (hm3.trans p1) (p2 rfl)).1,(fin (H2:=H5) (hm3.trans p1) (p2 rfl)).2,p3,hc3.trans p4⟩
   | false=>
    refine (A66 ?_).2 (Sh.wp_skip.2 (kont _ _ ?_))
    ·simp only [↓Sh.dn,sx,Nat.reduceBEq,reduceCtorEq,Nat.reduceEqDiff]
    rw [hN]
    exact ⟨l4,hm3.trans p1,p3,hc3.trans p4,by simp only [↓Sh.dn,sx,Nat.reduceBEq,reduceCtorEq,Nat.reduceEqDiff,f0],by simp only [↓Sh.dn,sx,Nat.reduceBEq,reduceCtorEq,Nat.reduceEqDiff,f1],by simp only [↓Sh.dn,sx,Nat.reduceBEq,reduceCtorEq,Nat.reduceEqDiff,f2],by simp only [↓Sh.dn,sx,Nat.reduceBEq,reduceCtorEq,Nat.reduceEqDiff,f3],by simp only [↓Sh.dn,sx,Nat.reduceBEq,reduceCtorEq,Nat.reduceEqDiff,f8],by simp only [↓Sh.dn,sx,Nat.reduceBEq,reduceCtorEq,Nat.reduceEqDiff,f9],by simp only [↓Sh.dn,sx,Nat.reduceBEq,reduceCtorEq,Nat.reduceEqDiff,f10],by simp only [↓Sh.dn,sx,Nat.reduceBEq,reduceCtorEq,Nat.reduceEqDiff,f11]⟩
 rw [hN] at h9
 clear hN
 obtain ⟨l4,hm4,hv4,hc4,f0,f1,f2,f3,f8,f9,f10,f11⟩:=h9
 have hlen4:l4.length=l.length:=by rw [hm4.length]; exact hlen
 have jq:q < l4.length:=by omega
 have iq:=A8d (g:=g) (k:=k) (cap:=cap) (m:=l.length) (i:=q) (j:=.i64) (by omega)
 have xq:=A2d hv4 jq
 have eq4:l4[q]?=some l4[q]:=List.getElem?_eq_getElem jq
 have hpr4:PreInt a' b' l4:=hpr.mix hm4 (by omega)
 have h34:P3 A9c a a' b' b l4:=h3.mix ha' hb' hm4 (by omega)
 have hm04:Mix a b l l4:=hm.trans (hm4.wide ha' hb')
 obtain ⟨M4,hM4⟩:∃ M:Fr→AH→Prop,M=fun F' H9=>H5=H9∧F'.get 0=some (.slice (some ⟨g,0,some k⟩) l.length cap)∧F'.get 1=some (.int .i64 (a':Int))∧F'.get 2=some (.int .i64 (b':Int))∧F'.get 3=some (.int .i64 lm2)∧F'.get 8=some (.bool x8)∧F'.get 9=some (.bool x9)∧F'.get 10=some (.int .i64 ((b' - a':Nat):Int))∧F'.get 11=some (.int .i64 (q:Int))∧∃ bb,F'.get 87=some (.bool bb)∧(bb=true→0 < a'∧∀ y,l4[a' - 1]?=some y→A9c y l4[q]=false):=⟨_,rfl⟩
 simp only [↓Sh.wp_seq]
 refine B91 M4 (by rfl) ?_ ?_
 ·refine (A4d (by kernel_rfl)).2 ?_
  by_cases h0:0 < a'
  ·have d:decide ((0:Int) < (a':Int))=true:=by simp; omega
   have wa1:IntKind.wrap .i64 ((a':Int) - 1)=((a' - 1:Nat):Int):=by rw [wrap64 (by omega) (by omega)]; omega
   have ja:a' - 1 < l4.length:=by omega
   have ia:=A8d (g:=g) (k:=k) (cap:=cap) (m:=l.length) (i:=a' - 1) (j:=.i64) (by omega)
   have xa:=A2d hv4 ja
   have ea:l4[a' - 1]?=some l4[a' - 1]:=List.getElem?_eq_getElem ja
   simp only [↓Sh.dn,sx,Nat.reduceBEq,reduceCtorEq,Nat.reduceEqDiff,f0,f1,f11,d,wa1,ia,iq,xa,xq]
   refine ⟨_,_,A2f,?_⟩
   cases hq:A9c l4[a' - 1] l4[q] with
   | true=>
    simp only [↓Sh.dn,sx,Nat.reduceBEq,reduceCtorEq,Nat.reduceEqDiff,hM4,f0,f1,f2,f3,f8,f9,f10,f11]
   | false=>
    simp only [↓Sh.dn,sx,Nat.reduceBEq,reduceCtorEq,Nat.reduceEqDiff,hM4,f0,f1,f2,f3,f8,f9,f10,f11]
    refine ⟨h0,fun y hy=>?_⟩
    rw [ea] at hy; rw [← Option.some.inj hy]; exact hq
  ·have d:decide ((0:Int) < (a':Int))=false:=by simp; omega
   simp only [↓Sh.dn,sx,Nat.reduceBEq,reduceCtorEq,Nat.reduceEqDiff,hM4,f0,f1,f2,f3,f8,f9,f10,f11,d]
 intro F5 H6 h9
 rw [hM4] at h9
 obtain ⟨rfl,f0,f1,f2,f3,f8,f9,f10,f11,bb,f87,hbb⟩:=h9
 cases bb with
 | true=>
  obtain ⟨hpos,hy⟩:=hbb rfl
  obtain ⟨r,H7,hd7,m,rfl,hm1,hm2',l5,p1,p2,p3,p4,p5⟩:=A58 (cap:=cap) (p:=q) hv4 hc4.wf (by omega) hq1 hq2 (by omega)
  rw [hlen4] at hd7
  simp only [↓Sh.dn,sx,Nat.reduceBEq,reduceCtorEq,Nat.reduceEqDiff,f87,f0,f1,f2,f11]
  refine ⟨_,_,hd7,?_⟩
  try simp only [↓Sh.dn,sx,Nat.reduceBEq,reduceCtorEq,Nat.reduceEqDiff]
  have hge4:∀ (i:Nat) x,a'≤i→i < b'→l4[i]?=some x→A9c x l4[q]=false:=by
   intro i x h1 h2 hx
   have ja:a' - 1 < l4.length:=by omega
   have ea:l4[a' - 1]?=some l4[a' - 1]:=List.getElem?_eq_getElem ja
   exact hTO.le_trans (hy _ ea) (hpr4 i x _ hpos ea h1 h2 hx)
  have hge:∀ (i:Nat) x,a'≤i→i < b'→l5[i]?=some x→A9c x l4[q]=false:=p1.all (p:=fun x=>A9c x l4[q]=false) (by omega) hge4
  have heq:∀ (i:Nat) x,a'≤i→i < m→l5[i]?=some x→x=l4[q]:=by
   intro i x h1 h2 hx
   rcases hTO.tri x l4[q] with h | h | h
   ·rw [hge i x h1 (by omega) hx] at h; cases h
   ·exact h
   ·rw [p2 i x h1 h2 hx] at h; cases h
  have h35:=h34.mix ha' hb' p1 (by omega)
  refine kk (b' - m) _ _ (by omega) ⟨m,b',l5,lm2,x8,x9,rfl,by omega,by omega,hb',hm04.trans (p1.wide ha' hb'),fun i j x z h1 h2 h3' h4 hx hz=>?_,fun i x y h0 hy' h1 h2 hx=>?_,p4,hc4.trans p5,by simp only [↓Sh.dn,sx,Nat.reduceBEq,reduceCtorEq,Nat.reduceEqDiff,f0],by simp only [↓Sh.dn,sx,Nat.reduceBEq,reduceCtorEq,Nat.reduceEqDiff],by simp only [↓Sh.dn,sx,Nat.reduceBEq,reduceCtorEq,Nat.reduceEqDiff,f2],by simp only [↓Sh.dn,sx,Nat.reduceBEq,reduceCtorEq,Nat.reduceEqDiff,f3],by simp only [↓Sh.dn,sx,Nat.reduceBEq,reduceCtorEq,Nat.reduceEqDiff,f8],by simp only [↓Sh.dn,sx,Nat.reduceBEq,reduceCtorEq,Nat.reduceEqDiff,f9]⟩
  ·by_cases hin:a'≤i∧j < b'
   ·have hx':=heq i x hin.1 (by omega) hx
    by_cases hj:j < m
    ·have hz':=heq j z (by omega) hj hz
     rw [hx',hz']; exact hTO.irrefl _
    ·rw [hx']; exact hTO.asymm (p3 j z (by omega) hin.2 hz)
   ·exact h35 i j x z h1 h2 h3' hin hx hz
  ·have hy2:=heq (m - 1) y (by omega) (by omega) hy'
   rw [hy2]; exact hTO.asymm (p3 i x h1 h2 hx)
 | false=>
  obtain ⟨r,H7,hd7,m,al,rfl,hm1,hm2',l5,p1,y,py,p2,p3,p4,p5⟩:=B93 (cap:=cap) (p:=q) hv4 hc4.wf (by omega) hq1 hq2 (by omega)
  rw [hlen4] at hd7
  have hlen5:l5.length=l.length:=by rw [p1.length]; exact hlen4
  have s1:IntKind.wrap .i64 ((m:Int) - (a':Int))=((m - a':Nat):Int):=by rw [wrap64 (by omega) (by omega)]; omega
  have s2:IntKind.wrap .i64 ((b':Int) - (m:Int))=((b' - m:Nat):Int):=by rw [wrap64 (by omega) (by omega)]; omega
  have s3:Int.tdiv ((b' - a':Nat):Int) 8=(((b' - a') / 8:Nat):Int):=by rw [Int.tdiv_eq_ediv_of_nonneg (by omega)]; rfl
  have s4:IntKind.wrap .i64 (((b' - a') / 8:Nat):Int)=(((b' - a') / 8:Nat):Int):=wrap64 (by omega) (by omega)
  have s5:IntKind.wrap .i64 ((m:Int)+1)=((m+1:Nat):Int):=by rw [wrap64 (by omega) (by omega)]; rfl
  simp only [↓Sh.dn,sx,Nat.reduceBEq,reduceCtorEq,Nat.reduceEqDiff,f87,f0,f1,f2,f11]
  refine ⟨_,_,hd7,?_⟩
  simp only [↓Sh.dn,sx,Nat.reduceBEq,reduceCtorEq,Nat.reduceEqDiff,f1,f2,f10,s1,s2,C2b (show (8:Int)≠0 by decide),s3,s4,A5a]
  have hpr5:PreInt a' b' l5:=hpr4.mix p1 (by omega)
  have h35:=h34.mix ha' hb' p1 (by omega)
  have hm05:=hm04.trans (p1.wide ha' hb')
  have hc5:=hc4.trans p5
  by_cases hlr:m - a' < b' - m
  ·obtain ⟨r,H8,hd8,l6,u1,u2,u3,u4⟩:=ih (m - a') (by omega) (lim:=lm2) (a:=a') (b:=m) (Nat.le_refl _) p4 p5.wf (by omega) hm1 (by omega) (fun i x z h0 hz h1 h2 hx=>hpr5 i x z h0 hz h1 (by omega) hx)
   rw [hlen5] at hd8
   have py6:l6[m]?=some y:=by rw [u1.out (.inr (Nat.le_refl _))]; exact py
   have hpart:=P3.part hTO (h35.mix ha' hb' (u1.wide (Nat.le_refl _) (by omega)) (by omega)) hm1 hm2' py6 (u1.all (p:=fun x=>A9c x y=true) (by omega) (fun i x h1 h2 hx=>p2 i x h1 h2 hx)) (fun i x h1 h2 hx=>p3 i x h1 h2 (by rw [← u1.out (.inr (by omega))]; exact hx))
   simp only [↓Sh.dn,sx,Nat.reduceBEq,reduceCtorEq,Nat.reduceEqDiff,hlr,decide_true,f0,f1,f3]
   refine ⟨_,_,hd8,?_⟩
   try simp only [↓Sh.dn,sx,Nat.reduceBEq,reduceCtorEq,Nat.reduceEqDiff,s5]
   exact kk (b' - (m + 1)) _ _ (by omega) ⟨m + 1, b', l6, lm2, _, al, rfl, by omega, by omega, hb', hm05.trans (u1.wide ha' (by omega)), hpart.1 u2, fun i x z h0 hz h1 h2 hx => by
       rw [show m + 1 - 1 = m by omega, py6] at hz
       rw [← Option.some.inj hz]
       exact p3 i x (by omega) h2 (by rw [← u1.out (.inr (by omega))]; exact hx), u3, hc5.trans u4, by simp only [↓Sh.dn, sx, Nat.reduceBEq, reduceCtorEq, Nat.reduceEqDiff, f0], by simp only [↓Sh.dn, sx, Nat.reduceBEq, reduceCtorEq, Nat.reduceEqDiff], by simp only [↓Sh.dn, sx, Nat.reduceBEq, reduceCtorEq, Nat.reduceEqDiff, f2], by simp only [↓Sh.dn, sx, Nat.reduceBEq, reduceCtorEq, Nat.reduceEqDiff, f3], by simp only [↓Sh.dn, sx, Nat.reduceBEq, reduceCtorEq, Nat.reduceEqDiff]; rfl, by simp only [↓Sh.dn, sx, Nat.reduceBEq, reduceCtorEq, Nat.reduceEqDiff]⟩
  ·obtain ⟨r, H8, hd8, l6, u1, u2, u3, u4⟩ := ih (b' - (m + 1)) (by omega) (lim := lm2) (a := m + 1) (b := b') (Nat.le_refl _) p4 p5.wf (by omega) (by omega) (by omega) (fun i x z h0 hz h1 h2 hx => by
     rw [show m + 1 - 1 = m by omega, py] at hz
     rw [← Option.some.inj hz]
     exact p3 i x (by omega) h2 hx)
   rw [hlen5] at hd8
   have py6 : l6[m]? = some y := by rw [u1.out (.inl (by omega))]; exact py
   have hpart := P3.part hTO (h35.mix ha' hb' (u1.wide (by omega) (Nat.le_refl _)) (by omega)) hm1 hm2' py6 (fun i x h1 h2 hx => p2 i x h1 h2 (by rw [← u1.out (.inl (by omega))]; exact hx)) (fun i x h1 h2 hx => u1.all (p := fun x => A9c x y = false) (by omega) (fun i x h1 h2 hx => p3 i x (by omega) h2 hx) i x (by omega) h2 hx)
   simp only [↓Sh.dn, sx, Nat.reduceBEq, reduceCtorEq, Nat.reduceEqDiff, hlr, decide_false, f0, f1, f2, f3, s5]
   refine ⟨_, _, hd8, ?_⟩
   try simp only [↓Sh.dn, sx, Nat.reduceBEq, reduceCtorEq, Nat.reduceEqDiff]
   exact kk (m - a') _ _ (by omega) ⟨a', m, l6, lm2, _, al, rfl, ha', hm1, by omega, hm05.trans (u1.wide (by omega) hb'), hpart.2 u2, fun i x z h0 hz h1 h2 hx => by
       rw [u1.out (.inl (by omega))] at hz
       rw [u1.out (.inl (by omega))] at hx
       exact hpr5 i x z h0 hz h1 (by omega) hx, u3, hc5.trans u4, by simp only [↓Sh.dn, sx, Nat.reduceBEq, reduceCtorEq, Nat.reduceEqDiff, f0], by simp only [↓Sh.dn, sx, Nat.reduceBEq, reduceCtorEq, Nat.reduceEqDiff, f1], by simp only [↓Sh.dn, sx, Nat.reduceBEq, reduceCtorEq, Nat.reduceEqDiff], by simp only [↓Sh.dn, sx, Nat.reduceBEq, reduceCtorEq, Nat.reduceEqDiff, f3], by simp only [↓Sh.dn, sx, Nat.reduceBEq, reduceCtorEq, Nat.reduceEqDiff]; rfl, by simp only [↓Sh.dn, sx, Nat.reduceBEq, reduceCtorEq, Nat.reduceEqDiff]⟩
end Go.Proofs.YtnoengaghabmjaaGreat
/- slices.Sort. -/
namespace Go.Proofs.YtnoengaghabmjaaGreat
open Go Go.Proofs Go.Proofs.Sh
theorem B3l {H:AH} {v:Value}:Sh.Call Tryz.prog (knows 10) 172 [v,.int .i64 0,.int .i64 0] H (fun r H'=>H'=H):=by
 refine A4a rfl Tryz.func172 rfl (Nat.le_of_ble_eq_true rfl) ?_
 have hres:Tryz.f172.results.toList=[]:=rfl
 have w1:IntKind.wrap .i64 ((0:Int)+1)=1:=rfl
 simp only [↓Sh.dn,sx,Nat.reduceBEq,reduceCtorEq,Nat.reduceEqDiff,w1]
 refine A1f (fun m F H'=>H'=H∧F.get 2=some (.int .i64 0)∧F.get 6=some (.int .i64 1)) (m:=0) ⟨rfl,by simp only [↓Sh.dn,sx,Nat.reduceBEq,reduceCtorEq,Nat.reduceEqDiff],by simp only [↓Sh.dn,sx,Nat.reduceBEq,reduceCtorEq,Nat.reduceEqDiff]⟩ ?_
 rintro m F H' ⟨rfl,f2,f6⟩ kk
 have d:decide ((1:Int) < 0)=false:=rfl
 simp only [↓Sh.dn,sx,Nat.reduceBEq,reduceCtorEq,Nat.reduceEqDiff,f2,f6,d,hres]
theorem B6k {H:AH} {v:Value} {lim:Int}:Sh.Call Tryz.prog (knows 10) 169 [v,.int .i64 0,.int .i64 0,.int .i64 lim] H (fun r H'=>H'=H):=by
 refine A4a rfl Tryz.func169 rfl (Nat.le_of_ble_eq_true rfl) ?_
 have hres:Tryz.f169.results.toList=[]:=rfl
 obtain ⟨r,H1,hd,rfl⟩:=B3l (H:=H) (v:=v)
 have w1:IntKind.wrap .i64 ((0:Int) - 0)=0:=rfl
 have d:decide ((0:Int)≤12)=true:=rfl
 simp only [↓Sh.dn,sx,Nat.reduceBEq,reduceCtorEq,Nat.reduceEqDiff]
 refine A1f (fun m F H'=>H'=H1∧F.get 0=some v∧F.get 1=some (.int .i64 0)∧F.get 2=some (.int .i64 0)) (m:=0) ⟨rfl,by simp only [↓Sh.dn,sx,Nat.reduceBEq,reduceCtorEq,Nat.reduceEqDiff],by simp only [↓Sh.dn,sx,Nat.reduceBEq,reduceCtorEq,Nat.reduceEqDiff],by simp only [↓Sh.dn,sx,Nat.reduceBEq,reduceCtorEq,Nat.reduceEqDiff]⟩ ?_
 rintro m F H' ⟨rfl,f0,f1,f2⟩ kk
 simp only [↓Sh.dn,sx,Nat.reduceBEq,reduceCtorEq,Nat.reduceEqDiff,f0,f1,f2,w1,d]
 refine ⟨_,_,hd,?_⟩
 simp only [↓Sh.dn,sx,Nat.reduceBEq,reduceCtorEq,Nat.reduceEqDiff,hres]
theorem C4b {H:AH} {v:Value} {l:List Int} {ob:Option Nat} (hb:Buf H 1 v (l.map fun x=>[Value.int .i64 x]) ob) (hl:l.length≤1048576) (hw:Wf H):
  Sh.Call Tryz.prog (knows 10) 166 [v] H (fun r H'=>∃ l':List Int,l'.Perm l∧Srt A9c 0 l'.length l'∧Buf H' 1 v (l'.map fun x=>[Value.int .i64 x]) ob∧Chg (fun y=>ob=some y) H H'):=by
 refine A4a rfl Tryz.func166 rfl (Nat.le_of_ble_eq_true rfl) ?_
 have hres:Tryz.f166.results.toList=[]:=rfl
 have hlen:=hb.toSl.len Tryz.underlying88 H
 rw [List.length_map] at hlen
 have wu:IntKind.wrap .u64 (l.length:Int)=(l.length:Int):=A59 (by omega) (by omega)
 obtain ⟨r,H1,hd,rfl,c,rfl,_⟩:=bitsLen (H:=H) (x:=l.length) (by omega)
 simp only [↓Sh.dn,sx,Nat.reduceBEq,reduceCtorEq,Nat.reduceEqDiff,hlen,wu]
 refine ⟨_,_,hd,?_⟩
 cases ob with
 | none=>
  have hl0:l=[]:=by
   generalize hL:(l.map fun x=>[Value.int .i64 x])=L at hb
   cases hb
   simpa using hL
  subst hl0
  obtain ⟨r,H2,hd2,rfl⟩:=B6k (H:=H1) (v:=v) (lim:=(c:Int))
  simp only [↓Sh.dn,sx,Nat.reduceBEq,reduceCtorEq,Nat.reduceEqDiff,List.length_nil,Int.ofNat_zero]
  refine ⟨_,_,hd2,?_⟩
  simp only [↓Sh.dn,sx,Nat.reduceBEq,reduceCtorEq,Nat.reduceEqDiff,hres]
  exact ⟨[],List.Perm.refl _,fun i j x y h1 h2 h3=>by simp at h3,hb,Chg.refl hw⟩
 | some g=>
  obtain ⟨k,cap,n,rfl,hc,hback⟩:=hb.cells
  obtain ⟨r,H2,hd2,l',q1,q2,q3,q4⟩:=pdqInt (cap:=cap) l.length (a:=0) (b:=l.length) (lim:=(c:Int)) (by omega) hc hw hl (Nat.zero_le _) (Nat.le_refl _) (fun q x y h=>absurd h (Nat.lt_irrefl 0))
  simp only [↓Sh.dn,sx,Nat.reduceBEq,reduceCtorEq,Nat.reduceEqDiff]
  refine ⟨_,_,hd2,?_⟩
  simp only [↓Sh.dn,sx,Nat.reduceBEq,reduceCtorEq,Nat.reduceEqDiff,hres]
  exact ⟨l',q1.perm,by rw [q1.length]; exact q2,hback H2 l' q1.length q3,q4.weak fun x hx=>by rw [hx]⟩
end Go.Proofs.YtnoengaghabmjaaGreat
/- sort.Ints. -/
namespace Go.Proofs.YtnoengaghabmjaaGreat
open Go Go.Proofs Go.Proofs.Sh
theorem sortInts {H:AH} {v:Value} {l:List Int} {ob:Option Nat} (hb:Buf H 1 v (l.map fun x=>[.int .i64 x]) ob) (hl:l.length≤1048576) (hw:Wf H):
  Sh.Call Tryz.prog (knows 10) 155 [v] H (fun r H'=>∃ l':List Int,l'.Perm l∧Srt A9c 0 l'.length l'∧Buf H' 1 v (l'.map fun x=>[.int .i64 x]) ob∧Chg (fun y=>ob=some y) H H'):=by
 refine A4a rfl Tryz.func155 rfl (Nat.le_of_ble_eq_true rfl) ?_
 have hres:Tryz.f155.results.toList=[]:=rfl
 obtain ⟨r,H1,hd,hq⟩:=C4b hb hl hw
 simp only [↓Sh.dn,sx,Nat.reduceBEq,reduceCtorEq,Nat.reduceEqDiff]
 refine ⟨_,_,hd,?_⟩
 simp only [↓Sh.dn,sx,Nat.reduceBEq,reduceCtorEq,Nat.reduceEqDiff,hres]
 exact hq
end Go.Proofs.YtnoengaghabmjaaGreat
/- The reference's Close: a set of states with all that empty edges lead to. -/
namespace Go.Proofs.YtnoengaghabmjaaGreat
open Go Go.Proofs Go.Proofs.Sh
theorem C5m {H:AH} {v u ev bv:Value} {vals:List Value} {n:Nat} {E:List (List (ByteArray×Nat))} {ends:List Bool} {L:List Nat} (h:RG H v n E ends ev bv vals) (hL:Sl H u 1 (L.map natC)) (hlt:∀ t∈L,t < n) (hll:L.length≤1073741823) (hw:Wf H):
  Sh.Call Tryz.prog (knows 10) 129 [v,u] H (fun r H'=>SetOut H H' r n (Clo (A4k E A7f) fun s=>s∈L)):=by
 refine A4a rfl Tryz.func129 rfl (Nat.le_of_ble_eq_true rfl) ?_
 have hres:Tryz.f129.results.toList=[.tmp 4]:=rfl
 have hrb:=RBox.of h hw
 have hk1:Kept H (H.new 3 [.int .i64 0,ev,bv]).2:=Kept.new hw 3 _
 have hE:=h.ed.sl.isCell
 have hB:=h.en.isCell
 rw [h.eq]
 simp only [↓Sh.dn,sx,Nat.reduceBEq,reduceCtorEq,Nat.reduceEqDiff,B4x hE hB]
 have e0:H.next≤(H.new 3 [.int .i64 0,ev,bv]).2.next:=Nat.le_succ _
 generalize (H.new 3 [.int .i64 0,ev,bv]).2=H1 at hrb hk1 e0 ⊢
 generalize H.next=gb at hrb e0 ⊢
 have hn1:=h.n1
 have hn2:=h.n2
 have hlenE:∀ H',A6a Tryz.prog .len [65] [ev] H'=some (.int .i64 (n:Int),H'):=fun H'=>by
  rw [h.ed.sl.len Tryz.underlying65,List.length_map,h.ed.len]; unfold A0m; rw [List.length_map,h.le]
 have hmk:=C31 (H:=H1) (l:=n) (c:=n) (Nat.le_refl _) (by omega)
 have k2:=Kept.new hk1.wf 1 (List.replicate n (.bool false))
 have f2:=Buf.fill hk1.wf (.bool false) (c:=n) (by omega)
 simp only [↓Sh.dn,sx,Nat.reduceBEq,reduceCtorEq,Nat.reduceEqDiff,hrb.c1,hlenE,hmk]
 obtain ⟨os,hos⟩:∃ os,(if n=0 then none else some H1.next)=os:=⟨_,rfl⟩
 rw [hos] at f2
 have hM0:MB (H1.new 1 (List.replicate n (.bool false))).2 H1.next n (.slice (some ⟨H1.next,0,some 0⟩) n n) os (List.replicate n false) []:=by
  refine ⟨Marks.empty n,by rw [List.map_replicate]; exact f2,fun y hy=>?_⟩
  rw [← hos,if_neg (by omega)] at hy
  rw [← Option.some.inj hy]; exact Nat.le_refl _
 generalize (Value.slice (some ⟨H1.next,0,some 0⟩) n n)=sv at hM0 ⊢
 generalize (H1.new 1 (List.replicate n (.bool false))).2=H2 at k2 hM0 ⊢
 refine A0f L.length 7 (List.range' 15 27++[6,7]) (fun i F H'=>Kept H1 H'∧∃ z,F.get 6=some z∧∃ seen out ob,MB H' H1.next n sv os seen out∧LB H' H1.next os z out ob∧(∀ t∈out,t∈L)∧∀ (j t:Nat),j < i→L[j]?=some t→t∈out) (by simp only [↓Sh.dn,sx,Nat.reduceBEq,reduceCtorEq,Nat.reduceEqDiff]) ⟨k2,_,by simp only [↓Sh.dn,sx,Nat.reduceBEq,reduceCtorEq,Nat.reduceEqDiff],_,_,none,hM0,⟨.void none,fun y hy=>by cases hy⟩,fun t ht=>(by cases ht),fun j t hj=>by omega⟩ ?_ ?_
 ·rintro i F H' hi hF f7 ⟨hk,z,f6,seen,out,ob,hM,hl,hsub,hdone⟩ k
  have f1:=hF 1 rfl
  have f5:=hF 5 rfl
  simp only [↓Sh.dn,sx,Nat.reduceBEq,reduceCtorEq,Nat.reduceEqDiff] at f1 f5
  have hL':=hL.grow ((hk1.trans hk).grow hw)
  have hlen:=hL'.len Tryz.underlying88 H'
  rw [List.length_map] at hlen
  obtain ⟨p,hia,hc⟩:=B7k Tryz.underlying88 A6d hL' hi
  have htn:L[i] < n:=hlt _ (List.getElem_mem hi)
  have hget:L[i]?=some L[i]:=List.getElem?_eq_getElem hi
  have hmem:L[i]∈L:=List.getElem_mem hi
  generalize L[i]=t at hc htn hget hmem
  obtain ⟨p2,hia2,hc2⟩:=hM.see Tryz.underlying66 A3n htn
  simp only [↓Sh.dn,sx,Nat.reduceBEq,reduceCtorEq,Nat.reduceEqDiff,f1,f5,f6,f7,A5a,hi,decide_true,hlen,hia,hc,hia2,hc2]
  by_cases hin:t∈out
  ·simp only [↓Sh.dn,sx,Nat.reduceBEq,reduceCtorEq,Nat.reduceEqDiff,hin,decide_true,f7,A7a hi (Nat.le_trans hll (by decide))]
   refine k _ _ (by repeat (first | refine Same.put ?_ rfl | exact Same.rfl' _)) (by simp only [↓Sh.dn,sx,Nat.reduceBEq,reduceCtorEq,Nat.reduceEqDiff]) ⟨hk,z,by simp only [↓Sh.dn,sx,Nat.reduceBEq,reduceCtorEq,Nat.reduceEqDiff,f6],seen,out,ob,hM,hl,hsub,fun j t' hj ht'=>?_⟩
   by_cases hji:j=i
   ·subst hji; rw [hget] at ht'; rw [← Option.some.inj ht']; exact hin
   ·exact hdone j t' (by omega) ht'
  ·obtain ⟨p3,H3,a,cap,w',H4,ob',e1,e2,e3,rfl,e5,e6,e7,e8,e9,e10,e11⟩:=B0t hk hM hl htn hin (by have:=hM.ms.le; omega)
   obtain ⟨p4,hia4,hc4⟩:=B7k Tryz.underlying88 A6d (hL.grow ((hk1.trans e5).grow hw)) hi
   rw [hia] at hia4
   injection hia4 with hq; injection hq with hq; injection hq with hq
   rw [← hq] at hc4
   have:L[i]=t:=Option.some.inj ((List.getElem?_eq_getElem hi).symm.trans hget)
   rw [this] at hc4
   simp only [↓Sh.dn,sx,Nat.reduceBEq,reduceCtorEq,Nat.reduceEqDiff,hin,decide_false,f1,f5,f6,f7,hia,hc,e1,e3,hc4,e6,e7,A7a hi (Nat.le_trans hll (by decide))]
   refine k _ _ (by repeat (first | refine Same.put ?_ rfl | exact Same.rfl' _)) (by simp only [↓Sh.dn,sx,Nat.reduceBEq,reduceCtorEq,Nat.reduceEqDiff]) ⟨e8,_,by simp only [↓Sh.dn,sx,Nat.reduceBEq,reduceCtorEq,Nat.reduceEqDiff],_,_,ob',e9,e10,fun x hx=>?_,fun j t' hj ht'=>?_⟩
   ·rcases List.mem_append.1 hx with h | h
    ·exact hsub x h
    ·rw [List.mem_singleton.1 h]; exact hmem
   ·by_cases hji:j=i
    ·subst hji; rw [hget] at ht'; rw [← Option.some.inj ht']; exact List.mem_append_right _ List.mem_cons_self
    ·exact List.mem_append_left _ (hdone j t' (by omega) ht')
 ·rintro F H' hF f7 ⟨hk,z,f6,seen,out,ob,hM,hl,hsub,hdone⟩
  have f2:=hF 2 rfl
  have f5:=hF 5 rfl
  have f1:=hF 1 rfl
  simp only [↓Sh.dn,sx,Nat.reduceBEq,reduceCtorEq,Nat.reduceEqDiff] at f1 f2 f5
  have hL':=hL.grow ((hk1.trans hk).grow hw)
  have hlen:=hL'.len Tryz.underlying88 H'
  rw [List.length_map] at hlen
  have hLout:∀ t∈L,t∈out:=fun t ht=>by
   obtain ⟨j,hj⟩:=List.mem_iff_getElem?.1 ht
   exact hdone j t (List.getElem?_eq_some_iff.1 hj).1 hj
  simp only [↓Sh.dn,sx,Nat.reduceBEq,reduceCtorEq,Nat.reduceEqDiff,f1,f2,f5,f6,f7,A5a,Nat.lt_irrefl,decide_false,hlen]
  refine A1f (m:=n+1) (fun m F H'=>∃ i,m+i=n+1∧F.get 8=some (.int .i64 (i:Int))∧F.get 2=some (.pointer (some ⟨gb,0,some 0⟩))∧F.get 5=some sv∧Kept H1 H'∧∃ z,F.get 6=some z∧∃ seen out ob,MB H' H1.next n sv os seen out∧LB H' H1.next os z out ob∧i≤out.length∧(∀ t∈L,t∈out)∧(∀ t∈out,Clo (A4k E A7f) (fun s=>s∈L) t)∧∀ s∈out.take i,∀ t,A4k E A7f s t→t∈out) ⟨0,by omega,by simp only [↓Sh.dn,sx,Nat.reduceBEq,reduceCtorEq,Nat.reduceEqDiff]; rfl,by simp only [↓Sh.dn,sx,Nat.reduceBEq,reduceCtorEq,Nat.reduceEqDiff,f2],by simp only [↓Sh.dn,sx,Nat.reduceBEq,reduceCtorEq,Nat.reduceEqDiff,f5],hk,z,by simp only [↓Sh.dn,sx,Nat.reduceBEq,reduceCtorEq,Nat.reduceEqDiff,f6],seen,out,ob,hM,hl,Nat.zero_le _,hLout,fun t ht=>.base (hsub t ht),fun s hs=>by simp at hs⟩ ?_
  clear hk hM hl hsub hdone hLout f1 f2 f5 f6 f7 hL' hlen hF
  clear z seen out ob
  clear F H'
  rintro m F H' ⟨i,hmi,f8,f2,f5,hk,z,f6,seen,out,ob,hM,hl,hio,hLout,hclo,hcl⟩ k
  have hlen:=hl.bf.toSl.len Tryz.underlying88 H'
  rw [List.length_map] at hlen
  have hout:=hM.ms.le
  by_cases hi:i < out.length
  ·simp only [↓Sh.dn,sx,Nat.reduceBEq,reduceCtorEq,Nat.reduceEqDiff,f6,f8,A5a,hi,decide_true,hlen]
   have hsn:out[i] < n:=hM.ms.lt (List.getElem_mem hi)
   have hget:out[i]?=some out[i]:=List.getElem?_eq_getElem hi
   have hcs:Clo (A4k E A7f) (fun s=>s∈L) out[i]:=hclo _ (List.getElem_mem hi)
   generalize out[i]=s at hsn hget hcs
   obtain ⟨r,hr⟩:∃ r,E[s]?=some r:=⟨E[s]'(by rw [h.le]; exact hsn),List.getElem?_eq_getElem _⟩
   have hr':(A0m E)[s]?=some (r.map A3l):=by unfold A0m; rw [List.getElem?_map,hr]; rfl
   obtain ⟨hrl,hrt⟩:=h.to s r hr
   obtain ⟨ga,oa,ka,wr,hia,hca,hsr⟩:=(h.ed.grow (hk1.grow hw)).at Tryz.underlying65 A0s hr'
   have hro:∀ {H'},Kept H1 H'→H'.cell ⟨ga,oa,some ka⟩=some wr∧Sl H' wr 2 (r.map A3l)∧A6a Tryz.prog .len [105] [wr] H'=some (.int .i64 (r.length:Int),H'):=fun hk=>by
    have h2:=hsr.grow (hk.grow hk1.wf)
    refine ⟨A9d (hk.grow hk1.wf) hca,h2,?_⟩
    rw [h2.len Tryz.underlying105,List.length_map]
   refine A0f r.length 9 (List.range' 48 44++[6,9,10]) (fun q F'' H''=>Kept H1 H''∧∃ z',F''.get 6=some z'∧∃ seen' out' ob',MB H'' H1.next n sv os seen' out'∧LB H'' H1.next os z' out' ob'∧out'[i]?=some s∧out'.take i=out.take i∧(∀ x∈out,x∈out')∧(∀ t∈out',Clo (A4k E A7f) (fun s=>s∈L) t)∧∀ e∈r.take q,e.1=A7f→e.2∈out') (by simp only [↓Sh.dn,sx,Nat.reduceBEq,reduceCtorEq,Nat.reduceEqDiff]) ⟨hk,z,by simp only [↓Sh.dn,sx,Nat.reduceBEq,reduceCtorEq,Nat.reduceEqDiff,f6],seen,out,ob,hM,hl,hget,rfl,fun x hx=>hx,hclo,fun e he=>by simp at he⟩ ?_ ?_
   ·rintro q F'' H'' hq hF'' f9 ⟨hk'',z',f6',seen',out',ob',hM',hl',hget',htk,hsub,hclo',hed⟩ k2
    have g2:=hF'' 2 rfl
    have g5:=hF'' 5 rfl
    have g8:=hF'' 8 rfl
    simp only [↓Sh.dn,sx,Nat.reduceBEq,reduceCtorEq,Nat.reduceEqDiff,f2,f5,f8] at g2 g5 g8
    obtain ⟨hc1,hs1,hl1⟩:=hro hk''
    have hb1:=hrb.kept hk1.wf hk''
    have hil:i < out'.length:=(List.getElem?_eq_some_iff.1 hget').1
    have hgs:out'[i]=s:=Option.some.inj ((List.getElem?_eq_getElem hil).symm.trans hget')
    obtain ⟨p1,hia1,hcc1⟩:=B7k Tryz.underlying88 A6d hl'.bf.toSl hil
    rw [hgs] at hcc1
    obtain ⟨g',o',k',hia2,hcs2,_⟩:=hs1.at Tryz.underlying105 A5t (i:=q) (x:=A3l r[q]) (by simp [hq]) .i64
    have hrq:r[q]∈r:=List.getElem_mem hq
    have htake:r.take (q+1)=r.take q++[r[q]]:=by rw [List.take_add_one,List.getElem?_eq_getElem hq]; rfl
    generalize r[q]=e at hcs2 hrq htake
    have kn:=Kept.new hk''.wf 2 (A3l e)
    have hk3:=hk''.trans kn
    have hM3:=hM'.kept hk''.wf kn
    have hl3:=hl'.kept hk''.wf kn
    simp only [↓Sh.dn,sx,Nat.reduceBEq,reduceCtorEq,Nat.reduceEqDiff,f6',f9,g2,g5,g8,hb1.c1,hia1,hcc1,hia,hc1,hl1,A5a,hq,decide_true]
    refine (A4d (by kernel_rfl)).2 ?_
    simp only [↓Sh.dn,sx,Nat.reduceBEq,reduceCtorEq,Nat.reduceEqDiff,f6',f9,g2,g5,g8,hb1.c1,hia1,hcc1,hia,hc1,hia2,hcs2,Option.map_some,C8k,B3t,C6f,re0,re1]
    have hnext : ∀ {seen2 : List Bool} {out2 : List Nat} {ob2 : Option Nat} {z2 : Value} {F2 : Fr} {H2 : AH}, Same (List.range' 48 44 ++ [6, 9, 10]) F'' F2 → F2.get 6 = some z2 → F2.get 9 = some (.int .i64 ((q + 1 : Nat) : Int)) → Kept H1 H2 → MB H2 H1.next n sv os seen2 out2 → LB H2 H1.next os z2 out2 ob2 → (out2 = out' ∨ out2 = out' ++ [e.2] ∧ e.1 = A7f) → (e.1 = A7f → e.2 ∈ out2) →
        wp Tryz.prog (knows 10) _ _ F2 H2 := fun {seen2 out2 ob2 z2 F2 H2} a1 a2 a3 a4 a5 a6 a7 a8 => k2 F2 H2 a1 a3 ⟨a4, z2, a2, seen2, out2, ob2, a5, a6, by
          rcases a7 with h | ⟨h, _⟩
          · rw [h]; exact hget'
          · rw [h, List.getElem?_append_left hil]; exact hget', by
          rcases a7 with h | ⟨h, _⟩
          · rw [h]; exact htk
          · rw [h, List.take_append_of_le_length (by omega)]; exact htk, fun x hx => by
          rcases a7 with h | ⟨h, _⟩
          · rw [h]; exact hsub x hx
          · rw [h]; exact List.mem_append_left _ (hsub x hx), fun t ht => by
          rcases a7 with h | ⟨h, he⟩
          · rw [h] at ht; exact hclo' t ht
          · rw [h] at ht
            rcases List.mem_append.1 ht with h2 | h2
            · exact hclo' t h2
            · rw [List.mem_singleton.1 h2]; exact .step hcs ⟨r, hr, by rw [← he]; exact hrq⟩, fun x hx hxe => by
          rw [htake] at hx
          rcases List.mem_append.1 hx with h2 | h2
          · have := hed x h2 hxe
            rcases a7 with h | ⟨h, _⟩
            · rw [h]; exact this
            · rw [h]; exact List.mem_append_left _ this
          · rw [List.mem_singleton.1 h2] at hxe ⊢; exact a8 hxe⟩
    by_cases he:e.1=⟨#[]⟩
    ·obtain ⟨p5,hia5,hc5⟩:=hM3.see Tryz.underlying66 A3n (hrt e hrq)
     by_cases hin:e.2∈out'
     ·simp only [↓Sh.dn,sx,Nat.reduceBEq,reduceCtorEq,Nat.reduceEqDiff,he,decide_true,re1,g5,hia5,hc5,hin,f9,A7a hq (Nat.le_trans hrl (by decide))]
      exact hnext (by repeat (first | refine Same.put ?_ rfl | exact Same.rfl' _)) (by simp only [↓Sh.dn,sx,Nat.reduceBEq,reduceCtorEq,Nat.reduceEqDiff,f6']) (by simp only [↓Sh.dn,sx,Nat.reduceBEq,reduceCtorEq,Nat.reduceEqDiff]) hk3 hM3 hl3 (.inl rfl) fun _=>hin
     ·obtain ⟨p3,H3,a,cap,w',H4,ob2,e1,e2,e3,rfl,e5,e6,e7,e8,e9,e10,e11⟩:=B0t hk3 hM3 hl3 (hrt e hrq) hin (by have:=hM3.ms.le; omega)
      have hre:H3.cell ⟨H''.next,1,some 0⟩=some (.int .i64 (e.2:Int)):=by
       have:=((Sh.Obj.new (H:=H'') 2 (A3l e)).arr.keep (e11.old H''.next (Nat.lt_succ_self _) fun hy=>Nat.lt_irrefl _ (hM'.lt hk''.wf _ hy))).cell 1
       exact this
      simp only [↓Sh.dn,sx,Nat.reduceBEq,reduceCtorEq,Nat.reduceEqDiff,he,decide_true,re1,g5,e1,e2,e3,f6',hre,e6,e7,f9,A7a hq (Nat.le_trans hrl (by decide))]
      exact hnext (by repeat (first | refine Same.put ?_ rfl | exact Same.rfl' _)) (by simp only [↓Sh.dn,sx,Nat.reduceBEq,reduceCtorEq,Nat.reduceEqDiff]) (by simp only [↓Sh.dn,sx,Nat.reduceBEq,reduceCtorEq,Nat.reduceEqDiff]) e8 e9 e10 (.inr ⟨rfl,he⟩) fun _=>List.mem_append_right _ List.mem_cons_self
    ·simp only [↓Sh.dn,sx,Nat.reduceBEq,reduceCtorEq,Nat.reduceEqDiff,he,decide_false,f9,A7a hq (Nat.le_trans hrl (by decide))]
     exact hnext (by repeat (first | refine Same.put ?_ rfl | exact Same.rfl' _)) (by simp only [↓Sh.dn,sx,Nat.reduceBEq,reduceCtorEq,Nat.reduceEqDiff,f6']) (by simp only [↓Sh.dn,sx,Nat.reduceBEq,reduceCtorEq,Nat.reduceEqDiff]) hk3 hM3 hl3 (.inl rfl) fun h=>absurd h he
   ·rintro F'' H'' hF'' f9 ⟨hk'',z',f6',seen',out',ob',hM',hl',hget',htk,hsub,hclo',hed⟩
    have g2:=hF'' 2 rfl
    have g5:=hF'' 5 rfl
    have g8:=hF'' 8 rfl
    simp only [↓Sh.dn,sx,Nat.reduceBEq,reduceCtorEq,Nat.reduceEqDiff,f2,f5,f8] at g2 g5 g8
    obtain ⟨hc1,hs1,hl1⟩:=hro hk''
    have hb1:=hrb.kept hk1.wf hk''
    have hil:i < out'.length:=(List.getElem?_eq_some_iff.1 hget').1
    have hgs:out'[i]=s:=Option.some.inj ((List.getElem?_eq_getElem hil).symm.trans hget')
    obtain ⟨p1,hia1,hcc1⟩:=B7k Tryz.underlying88 A6d hl'.bf.toSl hil
    rw [hgs] at hcc1
    have hout':=hM'.ms.le
    simp only [↓Sh.dn,sx,Nat.reduceBEq,reduceCtorEq,Nat.reduceEqDiff,f6',f9,g2,g5,g8,hb1.c1,hia1,hcc1,hia,hc1,hl1,A5a,Nat.lt_irrefl,decide_false,A7a hil (Nat.le_trans (Nat.le_trans hout' hn2) (by decide))]
    refine k (n+1 - (i+1)) _ _ (by omega) ⟨i+1,by omega,by simp only [↓Sh.dn,sx,Nat.reduceBEq,reduceCtorEq,Nat.reduceEqDiff],by simp only [↓Sh.dn,sx,Nat.reduceBEq,reduceCtorEq,Nat.reduceEqDiff,g2],by simp only [↓Sh.dn,sx,Nat.reduceBEq,reduceCtorEq,Nat.reduceEqDiff,g5],hk'',z',by simp only [↓Sh.dn,sx,Nat.reduceBEq,reduceCtorEq,Nat.reduceEqDiff,f6'],seen',out',ob',hM',hl',hil,fun t ht=>hsub t (hLout t ht),hclo',fun x hx t hg=>?_⟩
    rw [List.take_add_one,hget'] at hx
    rcases List.mem_append.1 hx with hx | hx
    ·rw [htk] at hx
     exact hsub t (hcl x hx t hg)
    ·simp only [Option.toList,List.mem_singleton] at hx
     subst hx
     obtain ⟨r',hr2,hg2⟩:=hg
     rw [hr] at hr2
     rw [← Option.some.inj hr2] at hg2
     exact hed _ (by rw [List.take_length]; exact hg2) rfl
  ·simp only [↓Sh.dn,sx,Nat.reduceBEq,reduceCtorEq,Nat.reduceEqDiff,f6,f8,A5a,hi,decide_false,hlen]
   obtain ⟨rr,H3,hd3,l',hperm,hsrt,hb3,hc3⟩:=sortInts (l:=out.map fun (x:Nat)=>(x:Int)) (by rw [natC_int]; exact hl.bf) (by rw [List.length_map]; omega) hk.wf
   refine ⟨_,_,hd3,?_⟩
   simp only [↓Sh.dn,sx,Nat.reduceBEq,reduceCtorEq,Nat.reduceEqDiff,f6,hres]
   have hl':l'.map (fun x=>[Value.int .i64 x])=(l'.map Int.toNat).map natC:=by
    rw [List.map_map]
    refine List.map_congr_left fun x hx=>?_
    obtain ⟨y,_,rfl⟩:=List.mem_map.1 (hperm.mem_iff.1 hx)
    rfl
   rw [hl'] at hb3
   have hp2:(l'.map Int.toNat).Perm out:=by
    have:=hperm.map Int.toNat
    rw [List.map_map] at this
    have e:out.map (Int.toNat ∘ fun (x:Nat)=>(x:Int))=out:=by
     conv=>rhs; rw [← List.map_id out]
     exact List.map_congr_left fun x _=>rfl
    rw [e] at this; exact this
   refine ⟨hk1.trans (hk.then (Nat.le_refl _) (hc3.weak fun y hy=>(hl.fr y hy).1)),l'.map Int.toNat,ob,hb3,fun y hy=>Nat.le_trans hk1.next (hl.fr y hy).1,hp2.nodup_iff.2 hM.ms.nod,fun t ht=>hM.ms.lt (hp2.mem_iff.1 ht),fun t=>?_⟩
   rw [hp2.mem_iff]
   exact Clo.iff hLout hclo (fun s hs=>hcl s (by rw [List.take_of_length_le (by omega)]; exact hs)) t
end Go.Proofs.YtnoengaghabmjaaGreat
/- The reference's Step, Start, Run, IsEnd. -/
namespace Go.Proofs.YtnoengaghabmjaaGreat
open Go Go.Proofs Go.Proofs.Sh
theorem refIsEnd {H:AH} {v u ev bv:Value} {vals:List Value} {n:Nat} {E:List (List (ByteArray×Nat))} {ends:List Bool} {L:List Nat} (h:RG H v n E ends ev bv vals) (hL:Sl H u 1 (L.map natC)) (hlt:∀ t∈L,t < n) (hll:L.length≤1048576) (hw:Wf H):
  Sh.Call Tryz.prog (knows 10) 107 [v,u] H (fun r H'=>Kept H H'∧r=.bool (L.any fun t=>decide (ends[t]?=some true))):=by
 refine A4a rfl Tryz.func107 rfl (Nat.le_of_ble_eq_true rfl) ?_
 have hres:Tryz.f107.results.toList=[.tmp 4]:=rfl
 have hrb:=RBox.of h hw
 have hk1:Kept H (H.new 3 [.int .i64 0,ev,bv]).2:=Kept.new hw 3 _
 have hE:=h.ed.sl.isCell
 have hB:=h.en.isCell
 rw [h.eq]
 simp only [↓Sh.dn,sx,Nat.reduceBEq,reduceCtorEq,Nat.reduceEqDiff,B4x hE hB]
 generalize (H.new 3 [.int .i64 0,ev,bv]).2=H1 at hrb hk1 ⊢
 generalize H.next=gb at hrb ⊢
 have hL':=hL.grow (hk1.grow hw)
 have hlen:=hL'.len Tryz.underlying88 H1
 rw [List.length_map] at hlen
 refine A0f L.length 5 (List.range' 5 15) (fun i F H'=>H'=H1∧(L.take i).any (fun t=>decide (ends[t]?=some true))=false) (by simp only [↓Sh.dn,sx,Nat.reduceBEq,reduceCtorEq,Nat.reduceEqDiff]) ⟨rfl,rfl⟩ ?_ ?_
 ·rintro i F H' hi hF f5 ⟨rfl,hall⟩ k
  have f1:=hF 1 rfl
  have f2:=hF 2 rfl
  simp only [↓Sh.dn,sx,Nat.reduceBEq,reduceCtorEq,Nat.reduceEqDiff] at f1 f2
  obtain ⟨p,hia,hc⟩:=B7k Tryz.underlying88 A6d hL' hi
  have htn:L[i] < n:=hlt _ (List.getElem_mem hi)
  have hmem:L[i]∈L:=List.getElem_mem hi
  have htake:L.take (i+1)=L.take i++[L[i]]:=by rw [List.take_add_one,List.getElem?_eq_getElem hi]; rfl
  generalize L[i]=t at hc htn hmem htake
  obtain ⟨b,hb⟩:∃ b,ends[t]?=some b:=⟨ends[t]'(by rw [h.ln]; exact htn),List.getElem?_eq_getElem _⟩
  obtain ⟨p2,hia2,hc2⟩:=Sl.elem (s:=1) Tryz.underlying66 A3n hrb.rg.en (i:=t) (u:=.bool b) (by rw [List.getElem?_map,hb]; rfl)
  simp only [↓Sh.dn,sx,Nat.reduceBEq,reduceCtorEq,Nat.reduceEqDiff,f1,f2,f5,A5a,hi,decide_true,hlen]
  first | refine (A4d (by kernel_rfl)).2 ?_ | skip
  simp only [↓Sh.dn,sx,Nat.reduceBEq,reduceCtorEq,Nat.reduceEqDiff,f1,f2,f5,hrb.c2,hia,hc,hia2,hc2]
  cases b with
  | true=>
   have:(L.any fun t=>decide (ends[t]?=some true))=true:=List.any_eq_true.2 ⟨t,hmem,by rw [hb]; rfl⟩
   simp only [↓Sh.dn,sx,Nat.reduceBEq,reduceCtorEq,Nat.reduceEqDiff,hres,this,hk1]
  | false=>
   simp only [↓Sh.dn,sx,Nat.reduceBEq,reduceCtorEq,Nat.reduceEqDiff,f5,wrap_succ hi hll]
   refine k _ _ (by repeat (first | refine Same.put ?_ rfl | exact Same.rfl' _)) (by simp only [↓Sh.dn,sx,Nat.reduceBEq,reduceCtorEq,Nat.reduceEqDiff]) ⟨rfl,?_⟩
   rw [htake,List.any_append,hall]
   simp [hb]
 ·rintro F H' hF f5 ⟨rfl,hall⟩
  have f1:=hF 1 rfl
  simp only [↓Sh.dn,sx,Nat.reduceBEq,reduceCtorEq,Nat.reduceEqDiff] at f1
  rw [List.take_length] at hall
  simp only [↓Sh.dn,sx,Nat.reduceBEq,reduceCtorEq,Nat.reduceEqDiff,f1,f5,A5a,Nat.lt_irrefl,decide_false,hlen,hres,hall,hk1]
theorem refStart {H:AH} {v ev bv:Value} {vals:List Value} {n:Nat} {E:List (List (ByteArray×Nat))} {ends:List Bool} (h:RG H v n E ends ev bv vals) (hw:Wf H):
  Sh.Call Tryz.prog (knows 10) 85 [v] H (fun r H'=>SetOut H H' r n (Clo (A4k E A7f) fun s=>s=0)):=by
 refine A4a rfl Tryz.func85 rfl (Nat.le_of_ble_eq_true rfl) ?_
 have hres:Tryz.f85.results.toList=[.tmp 2]:=rfl
 have hrb:=RBox.of h hw
 have hk1:Kept H (H.new 3 [.int .i64 0,ev,bv]).2:=Kept.new hw 3 _
 have hE:=h.ed.sl.isCell
 have hB:=h.en.isCell
 rw [h.eq]
 simp only [↓Sh.dn,sx,Nat.reduceBEq,reduceCtorEq,Nat.reduceEqDiff,B4x hE hB]
 generalize (H.new 3 [.int .i64 0,ev,bv]).2=H1 at hrb hk1 ⊢
 generalize H.next=gb at hrb ⊢
 have hbs:=A2w (H:=H1) (x:=.int .i64 0) rfl rfl
 have k2:=Kept.new hk1.wf 1 [.int .i64 0]
 have hS:Sl (H1.new 1 [.int .i64 0]).2 (.slice (some ⟨H1.next,0,some 0⟩) 1 1) 1 (([0]:List Nat).map natC):=
  (Buf.fresh (H:=H1) (s:=1) (xs:=[natC 0]) hk1.wf (by intro x hx; rw [List.mem_singleton.1 hx]; rfl) (by simp) 1 rfl).toSl
 have hR:=hrb.rg.kept hk1.wf k2
 obtain ⟨r,H3,hd3,ho⟩:=C5m hR hS (fun t ht=>by rw [List.mem_singleton.1 ht]; exact h.n1) (by decide) k2.wf
 simp only [↓Sh.dn,sx,Nat.reduceBEq,reduceCtorEq,Nat.reduceEqDiff,hrb.c0,hrb.ca,Option.map_some,hbs,A0b]
 refine ⟨_,_,hd3,?_⟩
 simp only [↓Sh.dn,sx,Nat.reduceBEq,reduceCtorEq,Nat.reduceEqDiff,hres]
 exact (ho.pre (hk1.trans k2)).iff fun t=>by simp only [List.mem_singleton]
theorem refStep {H:AH} {v u ev bv:Value} {vals:List Value} {n:Nat} {E:List (List (ByteArray×Nat))} {ends:List Bool} {L:List Nat} {x:ByteArray} (h:RG H v n E ends ev bv vals) (hL:Sl H u 1 (L.map natC)) (hlt:∀ t∈L,t < n) (hll:L.length≤3000) (hw:Wf H):
  Sh.Call Tryz.prog (knows 10) 132 [v,u,.string x] H (fun r H'=>SetOut H H' r n (Clo (A4k E A7f) fun t=>∃ s,s∈L∧A4k E x s t)):=by
 refine A4a rfl Tryz.func132 rfl (Nat.le_of_ble_eq_true rfl) ?_
 have hres:Tryz.f132.results.toList=[.tmp 6]:=rfl
 have hrb:=RBox.of h hw
 have hk1:Kept H (H.new 3 [.int .i64 0,ev,bv]).2:=Kept.new hw 3 _
 have hE:=h.ed.sl.isCell
 have hB:=h.en.isCell
 rw [h.eq]
 simp only [↓Sh.dn,sx,Nat.reduceBEq,reduceCtorEq,Nat.reduceEqDiff,B4x hE hB]
 generalize (H.new 3 [.int .i64 0,ev,bv]).2=H1 at hrb hk1 ⊢
 generalize H.next=gb at hrb ⊢
 have hn2:=h.n2
 refine A0f L.length 8 (List.range' 7 43) (fun i F H'=>Kept H1 H'∧∃ z,F.get 7=some z∧∃ out ob,LB H' H1.next none z out ob∧out.length≤i * 60000∧(∀ t∈out,t < n)∧∀ t,t∈out↔∃ s∈L.take i,A4k E x s t) (by simp only [↓Sh.dn,sx,Nat.reduceBEq,reduceCtorEq,Nat.reduceEqDiff]) ⟨Kept.refl hk1.wf,_,by simp only [↓Sh.dn,sx,Nat.reduceBEq,reduceCtorEq,Nat.reduceEqDiff],[],none,⟨.void none,fun y hy=>by cases hy⟩,by simp,fun t ht=>(by cases ht),fun t=>by simp⟩ ?_ ?_
 ·rintro i F H' hi hF f8 ⟨hk,z,f7,out,ob,hl,hol,hon,hiff⟩ k
  have f1:=hF 1 rfl
  have f2:=hF 2 rfl
  have f3:=hF 3 rfl
  simp only [↓Sh.dn,sx,Nat.reduceBEq,reduceCtorEq,Nat.reduceEqDiff] at f1 f2 f3
  have hL':=fun {H'} (hk:Kept H1 H')=>hL.grow ((hk1.trans hk).grow hw)
  have hlen:=(hL' hk).len Tryz.underlying88 H'
  rw [List.length_map] at hlen
  obtain ⟨p,hia,hc⟩:=B7k Tryz.underlying88 A6d (hL' (Kept.refl hk1.wf)) hi
  have hc':=fun {H'} (hk:Kept H1 H')=>A9d (hk.grow hk1.wf) hc
  have htn:L[i] < n:=hlt _ (List.getElem_mem hi)
  have htake:L.take (i+1)=L.take i++[L[i]]:=by rw [List.take_add_one,List.getElem?_eq_getElem hi]; rfl
  clear hc
  generalize L[i]=s at hc' htn htake
  obtain ⟨r,hr⟩:∃ r,E[s]?=some r:=⟨E[s]'(by rw [h.le]; exact htn),List.getElem?_eq_getElem _⟩
  have hr':(A0m E)[s]?=some (r.map A3l):=by unfold A0m; rw [List.getElem?_map,hr]; rfl
  obtain ⟨hrl,hrt⟩:=h.to s r hr
  obtain ⟨ga,oa,ka,wr,hia2,hca,hsr⟩:=(h.ed.grow (hk1.grow hw)).at Tryz.underlying65 A0s hr'
  have hro:∀ {H'},Kept H1 H'→H'.cell ⟨ga,oa,some ka⟩=some wr∧Sl H' wr 2 (r.map A3l)∧A6a Tryz.prog .len [105] [wr] H'=some (.int .i64 (r.length:Int),H'):=fun hk=>by
   have h2:=hsr.grow (hk.grow hk1.wf)
   refine ⟨A9d (hk.grow hk1.wf) hca,h2,?_⟩
   rw [h2.len Tryz.underlying105,List.length_map]
  simp only [↓Sh.dn,sx,Nat.reduceBEq,reduceCtorEq,Nat.reduceEqDiff,f1,f8,A5a,hi,decide_true,hlen]
  refine A0f r.length 9 (List.range' 17 33++[7,9,10]) (fun q F'' H''=>Kept H1 H''∧∃ z',F''.get 7=some z'∧∃ out' ob',LB H'' H1.next none z' out' ob'∧out'.length≤i * 60000+q∧(∀ t∈out',t < n)∧∀ t,t∈out'↔(∃ s∈L.take i,A4k E x s t)∨∃ e∈r.take q,e.1=x∧e.2=t) (by simp only [↓Sh.dn,sx,Nat.reduceBEq,reduceCtorEq,Nat.reduceEqDiff]) ⟨hk,z,by simp only [↓Sh.dn,sx,Nat.reduceBEq,reduceCtorEq,Nat.reduceEqDiff,f7],out,ob,hl,Nat.le_trans hol (Nat.le_add_right _ _),hon,fun t=>by rw [hiff t]; simp⟩ ?_ ?_
  ·rintro q F'' H'' hq hF'' f9 ⟨hk'',z',f7',out',ob',hl',hol',hon',hiff'⟩ k2
   have g1:=hF'' 1 rfl
   have g2:=hF'' 2 rfl
   have g3:=hF'' 3 rfl
   have g8:=hF'' 8 rfl
   simp only [↓Sh.dn,sx,Nat.reduceBEq,reduceCtorEq,Nat.reduceEqDiff,f1,f2,f3,f8] at g1 g2 g3 g8
   obtain ⟨hc1,hs1,hl1⟩:=hro hk''
   have hcc:=hc' hk''
   have hb1:=hrb.kept hk1.wf hk''
   obtain ⟨g',o',k',hia3,hcs2,_⟩:=hs1.at Tryz.underlying105 A5t (i:=q) (x:=A3l r[q]) (by simp [hq]) .i64
   have hrq:r[q]∈r:=List.getElem_mem hq
   have htk:r.take (q+1)=r.take q++[r[q]]:=by rw [List.take_add_one,List.getElem?_eq_getElem hq]; rfl
   generalize r[q]=e at hcs2 hrq htk
   have kn:=Kept.new hk''.wf 2 (A3l e)
   have hk3:=hk''.trans kn
   have hl3:=hl'.kept hk''.wf kn
   simp only [↓Sh.dn,sx,Nat.reduceBEq,reduceCtorEq,Nat.reduceEqDiff,f9,g1,g2,g3,g8,hb1.c1,hia,hcc,hia2,hc1,hl1,A5a,hq,decide_true]
   refine (A4d (by kernel_rfl)).2 ?_
   simp only [↓Sh.dn,sx,Nat.reduceBEq,reduceCtorEq,Nat.reduceEqDiff,f9,g1,g2,g3,g8,hb1.c1,hia,hcc,hia2,hc1,hia3,hcs2,Option.map_some,C8k,B3t,C6f,re0,re1]
   have hj:∀ t,(∃ e'∈r.take (q+1),e'.1=x∧e'.2=t)↔(∃ e'∈r.take q,e'.1=x∧e'.2=t)∨e.1=x∧e.2=t:=fun t=>by
    rw [htk]
    simp only [List.mem_append,List.mem_singleton]
    constructor
    ·rintro ⟨e',h1 | h1,h2⟩
     ·exact .inl ⟨e',h1,h2⟩
     ·subst h1; exact .inr h2
    ·rintro (⟨e',h1,h2⟩ | h2)
     ·exact ⟨e',.inl h1,h2⟩
     ·exact ⟨e,.inr rfl,h2⟩
   by_cases he:e.1=x
   ·obtain ⟨a,cap,w',H4,ob2,rfl,e1,e2,e3,e4,e5⟩:=B49 e.2 hk3 (fun y hy=>by cases hy) hl3 (by omega)
    have hre:=re1 (H:=H'') (e:=e)
    simp only [↓Sh.dn,sx,Nat.reduceBEq,reduceCtorEq,Nat.reduceEqDiff,he,decide_true,f7',f9,re1,e1,e2,A7a hq (Nat.le_trans hrl (by decide))]
    refine k2 _ _ (by repeat (first | refine Same.put ?_ rfl | exact Same.rfl' _)) (by simp only [↓Sh.dn,sx,Nat.reduceBEq,reduceCtorEq,Nat.reduceEqDiff]) ⟨e3,w',by simp only [↓Sh.dn,sx,Nat.reduceBEq,reduceCtorEq,Nat.reduceEqDiff],out'++[e.2],ob2,e4,by rw [List.length_append]; simp; omega,fun t ht=>?_,fun t=>?_⟩
    ·rcases List.mem_append.1 ht with h2 | h2
     ·exact hon' t h2
     ·rw [List.mem_singleton.1 h2]; exact hrt e hrq
    ·rw [hj,List.mem_append,List.mem_singleton,hiff' t]
     constructor
     ·rintro ((h1 | h1) | h1)
      ·exact .inl h1
      ·exact .inr (.inl h1)
      ·exact .inr (.inr ⟨he,h1.symm⟩)
     ·rintro (h1 | h1 | ⟨_,h1⟩)
      ·exact .inl (.inl h1)
      ·exact .inl (.inr h1)
      ·exact .inr h1.symm
   ·simp only [↓Sh.dn,sx,Nat.reduceBEq,reduceCtorEq,Nat.reduceEqDiff,he,decide_false,f9,A7a hq (Nat.le_trans hrl (by decide))]
    refine k2 _ _ (by repeat (first | refine Same.put ?_ rfl | exact Same.rfl' _)) (by simp only [↓Sh.dn,sx,Nat.reduceBEq,reduceCtorEq,Nat.reduceEqDiff]) ⟨hk3,z',by simp only [↓Sh.dn,sx,Nat.reduceBEq,reduceCtorEq,Nat.reduceEqDiff,f7'],out',ob',hl3,by omega,hon',fun t=>?_⟩
    rw [hj,hiff' t]
    simp [he]
  ·rintro F'' H'' hF'' f9 ⟨hk'',z',f7',out',ob',hl',hol',hon',hiff'⟩
   have g1:=hF'' 1 rfl
   have g2:=hF'' 2 rfl
   have g3:=hF'' 3 rfl
   have g8:=hF'' 8 rfl
   simp only [↓Sh.dn,sx,Nat.reduceBEq,reduceCtorEq,Nat.reduceEqDiff,f1,f2,f3,f8] at g1 g2 g3 g8
   obtain ⟨hc1,hs1,hl1⟩:=hro hk''
   have hcc:=hc' hk''
   have hb1:=hrb.kept hk1.wf hk''
   simp only [↓Sh.dn,sx,Nat.reduceBEq,reduceCtorEq,Nat.reduceEqDiff,f9,g1,g2,g3,g8,hb1.c1,hia,hcc,hia2,hc1,hl1,A5a,Nat.lt_irrefl,decide_false,A7a hi (Nat.le_trans hll (by decide))]
   refine k _ _ ?_ (by simp only [↓Sh.dn,sx,Nat.reduceBEq,reduceCtorEq,Nat.reduceEqDiff]) ⟨hk'',z',by simp only [↓Sh.dn,sx,Nat.reduceBEq,reduceCtorEq,Nat.reduceEqDiff,f7'],out',ob',hl',by omega,hon',fun t=>?_⟩
   ·repeat refine Same.put ?_ rfl
    exact Same.trans (by repeat (first | refine Same.put ?_ rfl | exact Same.rfl' _)) (hF''.sub rfl)
   ·rw [hiff' t,htake,List.take_length]
    simp only [List.mem_append,List.mem_singleton]
    constructor
    ·rintro (⟨s',h1,h2⟩ | ⟨e,h1,h2,h3⟩)
     ·exact ⟨s',.inl h1,h2⟩
     ·exact ⟨s,.inr rfl,r,hr,by rw [← h2,← h3]; exact h1⟩
    ·rintro ⟨s',h1 | h1,h2⟩
     ·exact .inl ⟨s',h1,h2⟩
     ·subst h1
      obtain ⟨r',h3,h4⟩:=h2
      rw [hr] at h3
      rw [← Option.some.inj h3] at h4
      exact .inr ⟨_,h4,rfl,rfl⟩
 ·rintro F H' hF f8 ⟨hk,z,f7,out,ob,hl,hol,hon,hiff⟩
  have f1:=hF 1 rfl
  have f3:=hF 3 rfl
  simp only [↓Sh.dn,sx,Nat.reduceBEq,reduceCtorEq,Nat.reduceEqDiff] at f1 f3
  have hL':=hL.grow ((hk1.trans hk).grow hw)
  have hlen:=hL'.len Tryz.underlying88 H'
  rw [List.length_map] at hlen
  rw [List.take_length] at hiff
  have hb1:=hrb.kept hk1.wf hk
  obtain ⟨r,H3,hd3,ho⟩:=C5m hb1.rg hl.bf.toSl hon (by omega) hk.wf
  simp only [↓Sh.dn,sx,Nat.reduceBEq,reduceCtorEq,Nat.reduceEqDiff,f1,f3,f7,f8,A5a,Nat.lt_irrefl,decide_false,hlen,hb1.ca,Option.map_some]
  refine ⟨_,_,hd3,?_⟩
  simp only [↓Sh.dn,sx,Nat.reduceBEq,reduceCtorEq,Nat.reduceEqDiff,hres]
  refine (ho.pre (hk1.trans hk)).iff fun t=>?_
  have:(fun s=>s∈out)=fun t=>∃ s,s∈L∧A4k E x s t:=by
   funext t
   exact propext (hiff t)
  rw [this]
theorem refRun {H:AH} {v u ev bv:Value} {vals:List Value} {n:Nat} {E:List (List (ByteArray×Nat))} {ends:List Bool} {w:List ByteArray} (h:RG H v n E ends ev bv vals) (hu:Sl H u 1 (w.map A1b)) (hwl:w.length≤1048576) (hw:Wf H):
  Sh.Call Tryz.prog (knows 10) 108 [v,u] H (fun r H'=>SetOut H H' r n fun t=>(∀ x∈w,x≠A7f)∧RunS (A4k E A7f) (A4k E) (Clo (A4k E A7f) fun s=>s=0) w t):=by
 refine A4a rfl Tryz.func108 rfl (Nat.le_of_ble_eq_true rfl) ?_
 have hres:Tryz.f108.results.toList=[.tmp 4]:=rfl
 have hrb:=RBox.of h hw
 have hk1:Kept H (H.new 3 [.int .i64 0,ev,bv]).2:=Kept.new hw 3 _
 have hE:=h.ed.sl.isCell
 have hB:=h.en.isCell
 rw [h.eq]
 simp only [↓Sh.dn,sx,Nat.reduceBEq,reduceCtorEq,Nat.reduceEqDiff,B4x hE hB]
 generalize (H.new 3 [.int .i64 0,ev,bv]).2=H1 at hrb hk1 ⊢
 generalize H.next=gb at hrb ⊢
 have hn2:=h.n2
 have hu1:=hu.grow (hk1.grow hw)
 obtain ⟨r0,H2,hd2,hk2,out0,b0,hb0,hf0,hnd0,hlt0,hi0⟩:=refStart hrb.rg hk1.wf
 simp only [↓Sh.dn,sx,Nat.reduceBEq,reduceCtorEq,Nat.reduceEqDiff,hrb.ca,Option.map_some]
 refine ⟨_,_,hd2,?_⟩
 obtain ⟨S0,hS0⟩:∃ S0,(Clo (A4k E A7f) fun s=>s=0)=S0:=⟨_,rfl⟩
 rw [hS0] at hi0 ⊢
 have fin : ∀ {H' : AH} {z : Value} {out : List Nat} {b : Option Nat}, Kept H1 H' → Buf H' 1 z (out.map natC) b → (∀ y, b = some y → H1.next ≤ y) → out.Nodup → (∀ t ∈ out, t < n) → (∀ t, t ∈ out ↔ (∀ x ∈ w, x ≠ A7f) ∧ RunS (A4k E A7f) (A4k E) S0 w t) →
     SetOut H H' z n fun t => (∀ x ∈ w, x ≠ A7f) ∧ RunS (A4k E A7f) (A4k E) S0 w t :=
   fun {H' z out b} a1 a2 a3 a4 a5 a6 => ⟨hk1.trans a1, out, b, a2, fun y hy => Nat.le_trans hk1.next (a3 y hy), a4, a5, a6⟩
 refine A0f w.length 6 (List.range' 9 23++[5,6]) (fun i F H'=>Kept H1 H'∧∃ z,F.get 5=some z∧∃ out b,Buf H' 1 z (out.map natC) b∧(∀ y,b=some y→H1.next≤y)∧out.Nodup∧(∀ t∈out,t < n)∧(∀ x∈w.take i,x≠A7f)∧∀ t,t∈out↔RunS (A4k E A7f) (A4k E) S0 (w.take i) t) (by simp only [↓Sh.dn,sx,Nat.reduceBEq,reduceCtorEq,Nat.reduceEqDiff]) ⟨hk2,r0,by simp only [↓Sh.dn,sx,Nat.reduceBEq,reduceCtorEq,Nat.reduceEqDiff],out0,b0,hb0,hf0,hnd0,hlt0,fun x hx=>by simp at hx,fun t=>by rw [hi0 t]; rfl⟩ ?_ ?_
 ·rintro i F H' hi hF f6 ⟨hk,z,f5,out,b,hb,hfr,hnd,hlt,hno,hiff⟩ k
  have f1:=hF 1 rfl
  have f2:=hF 2 rfl
  simp only [↓Sh.dn,sx,Nat.reduceBEq,reduceCtorEq,Nat.reduceEqDiff] at f1 f2
  have hu':=hu1.grow (hk.grow hk1.wf)
  have hlen:=hu'.len Tryz.underlying22 H'
  rw [List.length_map] at hlen
  have hlen2:=hb.toSl.len Tryz.underlying88 H'
  rw [List.length_map] at hlen2
  have hol:=B2d hnd hlt
  have hb1:=hrb.kept hk1.wf hk
  obtain ⟨p,hia,hc⟩:=Sl.elem (s:=1) Tryz.underlying22 A2n hu' (i:=i) (u:=.string w[i]) (by rw [List.getElem?_map,List.getElem?_eq_getElem hi]; rfl)
  have htake:w.take (i+1)=w.take i++[w[i]]:=by rw [List.take_add_one,List.getElem?_eq_getElem hi]; rfl
  have hmem:w[i]∈w:=List.getElem_mem hi
  generalize w[i]=x at hc htake hmem
  have hpos:decide ((0:Int) < (out.length:Int))=decide (out≠[]):=by cases out <;> simp
  simp only [↓Sh.dn,sx,Nat.reduceBEq,reduceCtorEq,Nat.reduceEqDiff,f1,f5,f6,A5a,hi,decide_true,hlen,hlen2,hpos]
  by_cases ho:out=[]
  ·have ha:w=w.take i++w.drop i:=(List.take_append_drop i w).symm
   simp only [↓Sh.dn,sx,Nat.reduceBEq,reduceCtorEq,Nat.reduceEqDiff,ho,decide_false,decide_true,f5,hres,Bool.not_true]
   refine fin hk hb hfr hnd hlt fun t=>?_
   rw [ho]
   constructor
   ·intro h; cases h
   ·rintro ⟨_,h2⟩
    rw [ha,RunS.append] at h2
    exact absurd h2 (RunS.none (fun s hs=>by have:=(hiff s).2 hs; rw [ho] at this; cases this) t)
  ·simp only [↓Sh.dn,sx,Nat.reduceBEq,reduceCtorEq,Nat.reduceEqDiff,ho,decide_false,decide_true,f1,f6,hia,hc,Bool.not_false]
   by_cases hx:x=⟨#[]⟩
   ·simp only [↓Sh.dn,sx,Nat.reduceBEq,reduceCtorEq,Nat.reduceEqDiff,hx,decide_true,hres]
    exact fin (out:=[]) (b:=none) hk (.void none) (fun y hy=>by cases hy) List.nodup_nil (fun t ht=>by cases ht) fun t=>⟨fun h=>(by cases h),fun h=>absurd hx (h.1 x hmem)⟩
   ·obtain ⟨r,H3,hd3,hk3,out3,b3,hb3,hf3,hnd3,hlt3,hi3⟩:=refStep (x:=x) hb1.rg hb.toSl hlt (by omega) hk.wf
    simp only [↓Sh.dn,sx,Nat.reduceBEq,reduceCtorEq,Nat.reduceEqDiff,hx,decide_false]
    first | refine (A4d (by kernel_rfl)).2 ?_ | skip
    simp only [↓Sh.dn,sx,Nat.reduceBEq,reduceCtorEq,Nat.reduceEqDiff,f1,f2,f5,f6,hb1.ca,Option.map_some,hia,hc]
    refine ⟨_,_,hd3,?_⟩
    simp only [↓Sh.dn,sx,Nat.reduceBEq,reduceCtorEq,Nat.reduceEqDiff,f6,wrap_succ hi hwl]
    refine k _ _ (by repeat (first | refine Same.put ?_ rfl | exact Same.rfl' _)) (by simp only [↓Sh.dn,sx,Nat.reduceBEq,reduceCtorEq,Nat.reduceEqDiff]) ⟨hk.trans hk3,r,by simp only [↓Sh.dn,sx,Nat.reduceBEq,reduceCtorEq,Nat.reduceEqDiff],out3,b3,hb3,fun y hy=>Nat.le_trans hk.next (hf3 y hy),hnd3,hlt3,fun y hy=>?_,fun t=>?_⟩
    ·rw [htake] at hy
     rcases List.mem_append.1 hy with h1 | h1
     ·exact hno y h1
     ·rw [List.mem_singleton.1 h1]; exact hx
    ·rw [hi3 t,htake,RunS.append]
     simp only [RunS]
     have:(fun t=>∃ s,s∈out∧A4k E x s t)=fun t=>∃ s,RunS (A4k E A7f) (A4k E) S0 (w.take i) s∧A4k E x s t:=by
      funext t
      apply propext
      simp only [hiff]
     rw [this]
 ·rintro F H' hF f6 ⟨hk,z,f5,out,b,hb,hfr,hnd,hlt,hno,hiff⟩
  have f1:=hF 1 rfl
  simp only [↓Sh.dn,sx,Nat.reduceBEq,reduceCtorEq,Nat.reduceEqDiff] at f1
  have hu':=hu1.grow (hk.grow hk1.wf)
  have hlen:=hu'.len Tryz.underlying22 H'
  rw [List.length_map] at hlen
  rw [List.take_length] at hno hiff
  simp only [↓Sh.dn,sx,Nat.reduceBEq,reduceCtorEq,Nat.reduceEqDiff,f1,f5,f6,A5a,Nat.lt_irrefl,decide_false,hlen,hres]
  exact fin hk hb hfr hnd hlt fun t=>by rw [hiff t]; exact ⟨fun h=>⟨hno,h⟩,fun h=>h.2⟩
end Go.Proofs.YtnoengaghabmjaaGreat
/- The reference's Above: whether a word is above some word. -/
namespace Go.Proofs.YtnoengaghabmjaaGreat
open Go Go.Proofs Go.Proofs.Sh
theorem B1y {N:NetD} (hok:A1k N):A4k (A6x N)=N.goes:=by
 funext x s t
 apply propext
 unfold A4k A6x NetD.goes
 constructor
 ·rintro ⟨r,h1,h2⟩
  obtain ⟨a,ha,h3,h4⟩:=(A3r h1 _).1 h2
  have:=hok.arc a ha
  injection h4 with h4 h5
  exact ⟨a,ha,h3,h4,by omega⟩
 ·rintro ⟨a,ha,h1,h2,h3⟩
  have:=hok.arc a ha
  have hs:s < N.states.toNat:=by omega
  refine ⟨_,A3i hs,?_⟩
  rw [A3r (A3i hs)]
  exact ⟨a,ha,h1,by rw [h2,h3]; rfl⟩
theorem B9x {N:NetD} (hok:A1k N) (t:Nat):(marksOf EndD.state N.states.toNat N.ends)[t]?=some true↔N.isEnd t:=by
 unfold NetD.isEnd
 constructor
 ·intro h
  have ht:=(List.getElem?_eq_some_iff.1 h).1
  rw [A2j] at ht
  rw [A9q ht] at h
  obtain ⟨e,h1,h2⟩:=List.any_eq_true.1 (Option.some.inj h)
  exact ⟨e,h1,of_decide_eq_true h2⟩
 ·rintro ⟨e,h1,h2⟩
  have:=hok.fin e h1
  rw [A9q (by omega)]
  exact congrArg some (List.any_eq_true.2 ⟨e,h1,decide_eq_true h2⟩)
def A5p (N:NetD) (w:List ByteArray):Prop:=(∀ x∈w,x≠A7f)∧∃ t,N.run w t∧N.isEnd t
theorem C6x {ev bv:Value} (h1:veq ev ev=true) (h2:veq bv bv=true):veq (.agg #[.int .i64 0,ev,bv]) (.agg #[.int .i64 0,ev,bv])=true:=A9t (by simp only [A6l,A0o,A1c,h1,h2,Bool.and_self])
theorem B3u {H:AH} {v u:Value} {N:NetD} {w:List ByteArray} (h:A4h H v N) (hok:A1k N) (hsm:A3b N) (hu:Sl H u 1 (w.map A1b)) (hwl:w.length≤1048576) (hw:Wf H):
  Sh.Call Tryz.prog (knows 10) 57 [v,u] H (fun r H'=>Kept H H'∧r=.bool (tB (A5p N w))):=by
 refine A4a rfl Tryz.func57 rfl (Nat.le_of_ble_eq_true rfl) ?_
 have hres:Tryz.f57.results.toList=[.tmp 4]:=rfl
 obtain ⟨sg,ar,en,rfl,hsg,har,hen⟩:=h
 have hb1:=NetBox.of (N:=N) hw hsg har hen
 have hk1:Kept H (H.new 4 [sg,.int .i64 N.states,ar,en]).2:=Kept.new hw 4 _
 simp only [↓Sh.dn,sx,Nat.reduceBEq,reduceCtorEq,Nat.reduceEqDiff,A1g hsg.isCell har.isCell hen.isCell]
 generalize H.next=gg at hb1 ⊢
 generalize (H.new 4 [sg,.int .i64 N.states,ar,en]).2=H1 at hb1 hk1 ⊢
 have hu1:=hu.grow (hk1.grow hw)
 obtain ⟨r,H3,hd3,hk3,ev,bv,vals,hR⟩:=B4m hb1.netAt hok hsm hk1.wf
 simp only [↓Sh.dn,sx,Nat.reduceBEq,reduceCtorEq,Nat.reduceEqDiff,hb1.c0,hb1.c1,hb1.c2,hb1.c3,hb1.ca,A2a hb1,A1a hb1,A3a hb1,Option.map_some]
 refine ⟨_,_,hd3,?_⟩
 have hE':=hR.ed.sl.isCell
 have hB':=hR.en.isCell
 have hkn:=Kept.new hk3.wf 3 [.int .i64 0,ev,bv]
 have hbx:=RBox.of hR hk3.wf
 rw [hR.eq] at *
 simp only [↓Sh.dn,sx,Nat.reduceBEq,reduceCtorEq,Nat.reduceEqDiff,B07,B7w hE' hB',C76]
 have hu4:=(hu1.grow (hk3.grow hk1.wf)).grow (hkn.grow hk3.wf)
 generalize H3.next=gb at hbx ⊢
 generalize (H3.new 3 [.int .i64 0,ev,bv]).2=H4 at hbx hkn hu4 ⊢
 obtain ⟨r5,H5,hd5,hk5,out,b,hbf,hfr,hnd,hlt,hiff⟩:=refRun hbx.rg hu4 hwl hkn.wf
 have hbx5:=hbx.kept hkn.wf hk5
 have hol:=B2d hnd hlt
 have hn2:=hR.n2
 obtain ⟨r6,H6,hd6,hk6,rfl⟩:=refIsEnd hbx5.rg hbf.toSl hlt (by omega) hk5.wf
 have hvq:=C6x hR.ed.sl.veq hR.en.veq
 have s1:=hok.st1
 have hpos:∀ H',A6a Tryz.prog .len [65] [ev] H'=some (.int .i64 (N.states.toNat:Int),H'):=fun H'=>by
  rw [hR.ed.sl.len Tryz.underlying65,List.length_map,hR.ed.len]
  unfold A0m
  rw [List.length_map,hR.le]
 have hp:decide ((0:Int) < (N.states.toNat:Int))=true:=decide_eq_true (by omega)
 refine A6o (fl:=[(0,true),(1,false),(2,false),(3,true),(4,true),(5,false),(6,false),(7,true),(8,false),(9,true),(10,true),(11,true)]) (by kernel_rfl) (by kernel_rfl) hkn.wf ?_
 simp only [↓Sh.dn,sx,Nat.reduceBEq,reduceCtorEq,Nat.reduceEqDiff,wpg,A4q,isEff,A9b,isRead,A3e,A1c,A4e,A6c,A6b,forall_eq,forall_eq',hbx.ca,hbx.c1,hR.ed.sl.veq,Option.map_some,hvq,hpos,hp]
 refine ⟨_,_,hd5,hk5.wf,hk5.grow hkn.wf,?_⟩
 refine ⟨_,_,hd6,hk6.wf,?_⟩
 simp only [↓Sh.dn,sx,Nat.reduceBEq,reduceCtorEq,Nat.reduceEqDiff,wpg,A4q,isEff,A9b,isRead,A3e,A1c,A4e,A6c,A6b,forall_eq,forall_eq',hres]
 refine ⟨((((hk1.trans hk3).trans hkn).trans hk5).trans hk6),?_⟩
 have:(out.any fun t=>decide ((marksOf EndD.state N.states.toNat N.ends)[t]?=some true))=tB (A5p N w):=by
  rw [Bool.eq_iff_iff,A55,List.any_eq_true]
  simp only [decide_eq_true_eq,hiff,B9x hok,B1y hok]
  unfold A5p NetD.run NetD.clo
  constructor
  ·rintro ⟨t,⟨h1,h2⟩,h3⟩; exact ⟨h1,t,h2,h3⟩
  ·rintro ⟨h1,t,h2,h3⟩; exact ⟨t,⟨h1,h2⟩,h3⟩
 rw [this]
end Go.Proofs.YtnoengaghabmjaaGreat
