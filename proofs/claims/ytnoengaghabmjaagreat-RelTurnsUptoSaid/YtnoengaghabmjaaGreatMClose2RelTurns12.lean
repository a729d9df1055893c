/- A part of the proof: RefArcs, RefSpots, RefReach. -/
import Derived.Test.YtnoengaghabmjaaGreatMClose2RelTurns8
import Derived.Test.YtnoengaghabmjaaGreatMClose2RelTurns2
import Derived.Test.YtnoengaghabmjaaGreatMClose2RelTurns1
import Derived.Test.YtnoengaghabmjaaGreatMClose2RelTurns11
import Derived.Test.YtnoengaghabmjaaGreatMClose2RelTurns9
set_option linter.unusedVariables false
set_option linter.unusedSimpArgs false
/- The reference's arcsOf, endsOf, over: a net by its states, and places in a word. -/
set_option maxHeartbeats 4000000
set_option maxRecDepth 20000
set_option linter.unusedSimpArgs false
set_option linter.unusedVariables false
namespace Go.Proofs.YtnoengaghabmjaaGreat
open Go Go.Proofs Go.Proofs.Sh
def aRows (N:NetD) (l:List ArcD):List (List (List Value)):=rowsOf ArcD.fr ArcD.cells N.states.toNat l
theorem C36 {H:AH} {v:Value} {N:NetD} (h:A4h H v N) (hok:A1k N) (hsm:A3b N) (hw:Wf H):
  Sh.Call Tryz.prog (knows 10) 101 [v] H (fun r H'=>Kept H H'∧∃ vals,JagR H' r 5 (aRows N N.arcs) vals):=by
 refine A4a rfl Tryz.func101 rfl (Nat.le_of_ble_eq_true rfl) ?_
 have hres:Tryz.f101.results.toList=[.tmp 2]:=rfl
 obtain ⟨sg,ar,en,rfl,hsg,har,hen⟩:=h
 have hb1:=NetBox.of (N:=N) hw hsg har hen
 have hk1:Kept H (H.new 4 [sg,.int .i64 N.states,ar,en]).2:=Kept.new hw 4 _
 have h1:=hok.st1
 have h2:=hok.st2
 obtain ⟨n,hn⟩:∃ n:Nat,N.states=(n:Int):=⟨N.states.toNat,by omega⟩
 have hnn:N.states.toNat=n:=by omega
 simp only [↓Sh.dn,sx,Nat.reduceBEq,reduceCtorEq,Nat.reduceEqDiff,A1g hsg.isCell har.isCell hen.isCell]
 have e0:H.next≤(H.new 4 [sg,.int .i64 N.states,ar,en]).2.next:=Nat.le_succ _
 generalize H.next=gg at hb1 e0 ⊢
 generalize (H.new 4 [sg,.int .i64 N.states,ar,en]).2=H1 at hb1 hk1 e0 ⊢
 have mk:=mk_131 (H:=H1) (l:=n) (c:=n) (Nat.le_refl _) (by omega)
 have k2:=Kept.new hk1.wf 1 (List.replicate n (.slice none 0 0))
 have jg:=Jag.make hk1.wf 5 (n:=n) (by omega)
 simp only [↓Sh.dn,sx,Nat.reduceBEq,reduceCtorEq,Nat.reduceEqDiff,hb1.c0,hb1.c1,hb1.c2,hb1.c3,hb1.ca,A2a hb1,A1a hb1,A3a hb1,Option.map_some,hn,mk]
 have lot:∀ y,JIn (if n=0 then none else some H1.next) (List.replicate n none) y→y=H1.next:=by
  rintro y (h | ⟨i,h⟩)
  ·by_cases h0:n=0
   ·rw [if_pos h0] at h; cases h
   ·rw [if_neg h0] at h; exact (Option.some.inj h).symm
  ·rw [List.getElem?_replicate] at h
   split at h <;> cases h
 obtain ⟨ot,hot⟩:∃ ot,(if n=0 then none else some H1.next)=ot:=⟨_,rfl⟩
 rw [hot] at jg lot
 generalize (Value.slice (some ⟨H1.next,0,some 0⟩) n n)=ev at jg ⊢
 generalize (H1.new 1 (List.replicate n (.slice none 0 0))).2=H2 at jg k2 ⊢
 refine A0f N.arcs.length 4 (List.range' 4 36) (fun i F H'=>Kept H1 H'∧∃ vals obs,Jag H' ev ot 5 vals (aRows N (N.arcs.take i)) obs∧∀ y,JIn ot obs y→H1.next≤y) (by simp only [↓Sh.dn,sx,Nat.reduceBEq,reduceCtorEq,Nat.reduceEqDiff]) ⟨k2,_,_,by
  rw [List.take_zero]; unfold aRows; rw [A3y,hnn]; exact jg,fun y hy=>by rw [lot y hy]; exact Nat.le_refl _⟩ ?_ ?_
 ·rintro i F H' hlt hF f4 ⟨hk,vals,obs,hJ,hin⟩ k
  have f1:=hF 1 rfl
  have f3:=hF 3 rfl
  simp only [↓Sh.dn,sx,Nat.reduceBEq,reduceCtorEq,Nat.reduceEqDiff] at f1 f3
  have hb':=hb1.kept hk1.wf hk
  obtain ⟨q,o,kk,hia,hc,hcc⟩:=hb'.har.at Tryz.underlying23 A9l (i:=i) (x:=N.arcs[i].cells) (by simp [hlt]) .i64
  have hcs:=hcc 0 (.int .i64 N.arcs[i].fr) rfl
  simp only [Nat.add_zero] at hcs
  clear hcc
  have hgi:(N.arcs.map ArcD.cells)[i]?=some N.arcs[i].cells:=by simp [hlt]
  have htake:N.arcs.take (i+1)=N.arcs.take i++[N.arcs[i]]:=by rw [List.take_add_one,List.getElem?_eq_getElem hlt]; rfl
  obtain ⟨k0,k1,_⟩:=hok.arc _ (List.getElem_mem hlt)
  generalize N.arcs[i]=a at hc hcs hgi htake k0 k1
  obtain ⟨s,hs⟩:∃ s:Nat,a.fr=(s:Int):=⟨a.fr.toNat,by omega⟩
  have hsn:s < N.states.toNat:=by omega
  have hrow:=A3i (key:=ArcD.fr) (f:=ArcD.cells) (l:=N.arcs.take i) hsn
  have hrl:=A0x hrow
  have hsmA:=hsm.ar
  have htl:(N.arcs.take i).length≤1048576:=by rw [List.length_take]; omega
  obtain ⟨ba,cap,w',H5,H6,o',p,e1,e2,e3,e4,e5,e6,e7,e8,e9⟩:=hJ.pushAt Tryz.underlying131 A14 hk.wf hrow (x:=a.cells) rfl
  rw [← hs] at e2
  have hbs:=B2e (H:=H') (x:=.agg a.cells.toArray) rfl rfl
  have ha:=C3a (H:=H') (base:=ba) (len:=_) (cap:=cap) (x:=a.cells) rfl (Nat.le_trans hrl (by omega))
  rw [e1] at ha
  have st:A4f Tryz.prog 23 H5 w' (.pointer (some p))=some H6:=by rw [A1d A14 e8,e4]
  have va:∀ xs:Array Value,A0b (.agg xs)=xs.toList:=fun _=>rfl
  have hav:=hJ.top.veq
  have hgj:∀ g:Nat,g < H1.next→¬JIn ot obs g:=fun g hg h=>by have:=hin g h; omega
  have hk5:Kept H1 H5:=hk.then (Nat.le_refl _) (e7.weak fun y hy=>hin y hy)
  have hb5:=hb1.kept hk1.wf hk5
  obtain ⟨q5,o5,kk5,hia5,_,hcc5⟩:=hb5.har.at Tryz.underlying23 A9l hgi .i64
  have hc5:=hcc5 0 (.int .i64 a.fr) rfl
  simp only [Nat.add_zero] at hc5
  clear hcc5
  rw [hia] at hia5
  injection hia5 with hia5; injection hia5 with hia5; injection hia5 with hia5
  rw [← hia5] at hc5
  have hv5:=hb'.har.veq
  simp only [va] at hbs
  simp only [↓Sh.dn,sx,Nat.reduceBEq,reduceCtorEq,Nat.reduceEqDiff,hb'.c0,hb'.c1,hb'.c2,hb'.c3,hb'.ca,A2a hb',A1a hb',A3a hb',A5b,A5e,A8e,A9g,A1h,A5c,A7c,A2e,A7e,A5d,arc0,arc1,arc2,arc3,arc4,end0,end1,f1,f3,f4,Option.map_some,A5a,hlt,decide_true]
  refine A9v (fl:=[(0,[]),(1,[]),(2,[]),(3,[]),(4,[]),(5,[]),(6,[]),(7,[]),(8,[]),(9,[]),(10,[]),(11,[]),(12,[]),(13,[]),(14,[]),(15,[]),(16,[]),(17,[]),(18,[]),(19,[]),(20,[]),(21,[]),(22,[6,2]),(23,[]),(24,[])]) (by kernel_rfl) (by kernel_rfl) (by kernel_rfl) ?_
  simp only [↓Sh.dn,sx,Nat.reduceBEq,reduceCtorEq,Nat.reduceEqDiff,wpr,again,A9b,A3e,A1c,A4e,A6c,A6b,A0g,forall_eq,forall_eq',hb'.c0,hb'.c1,hb'.c2,hb'.c3,hb'.ca,A2a hb',A1a hb',A3a hb',f1,f3,f4,hia,hc,hcs,e2,e3,Option.map_some,hav,hbs,ha,hb5.c0,hb5.c1,hb5.c2,hb5.c3,hb5.ca,A2a hb5,A1a hb5,A3a hb5,hc5,hv5,st,forall_eq',true_and,wrap_succ hlt hsm.ar]
  refine k _ _ (by repeat (first | refine Same.put ?_ rfl | exact Same.rfl' _)) (by simp only [↓Sh.dn,sx,Nat.reduceBEq,reduceCtorEq,Nat.reduceEqDiff]) ⟨hk.then (Nat.le_refl _) (e6.weak fun y hy=>hin y hy),vals.set s w',obs.set s o',?_,?_⟩
  ·rw [htake]
   unfold aRows
   rw [A2u hsn hs]
   exact e5
  ·intro y hy
   rcases e9 y hy with h | h
   ·exact hin y h
   ·have:=hk.next; omega
 ·rintro F H' hF f4 ⟨hk,vals,obs,hJ,hin⟩
  have f1:=hF 1 rfl
  have f3:=hF 3 rfl
  simp only [↓Sh.dn,sx,Nat.reduceBEq,reduceCtorEq,Nat.reduceEqDiff] at f1 f3
  rw [List.take_length] at hJ
  have hb':=hb1.kept hk1.wf hk
  simp only [↓Sh.dn,sx,Nat.reduceBEq,reduceCtorEq,Nat.reduceEqDiff,hb'.c0,hb'.c1,hb'.c2,hb'.c3,hb'.ca,A2a hb',A1a hb',A3a hb',f1,f3,f4,A5a,Nat.lt_irrefl,decide_false,Option.map_some,hres]
  exact ⟨hk1.trans hk,vals,hJ.read⟩
theorem C23 {H:AH} {v:Value} {N:NetD} (h:A4h H v N) (hok:A1k N) (hsm:A3b N) (hw:Wf H):
  Sh.Call Tryz.prog (knows 10) 102 [v] H (fun r H'=>Kept H H'∧Sl H' r 1 ((marksOf EndD.state N.states.toNat N.ends).map A5r)):=by
 refine A4a rfl Tryz.func102 rfl (Nat.le_of_ble_eq_true rfl) ?_
 have hres:Tryz.f102.results.toList=[.tmp 2]:=rfl
 obtain ⟨sg,ar,en,rfl,hsg,har,hen⟩:=h
 have hb1:=NetBox.of (N:=N) hw hsg har hen
 have hk1:Kept H (H.new 4 [sg,.int .i64 N.states,ar,en]).2:=Kept.new hw 4 _
 have h1:=hok.st1
 have h2:=hok.st2
 obtain ⟨n,hn⟩:∃ n:Nat,N.states=(n:Int):=⟨N.states.toNat,by omega⟩
 have hnn:N.states.toNat=n:=by omega
 simp only [↓Sh.dn,sx,Nat.reduceBEq,reduceCtorEq,Nat.reduceEqDiff,A1g hsg.isCell har.isCell hen.isCell]
 have e0:H.next≤(H.new 4 [sg,.int .i64 N.states,ar,en]).2.next:=Nat.le_succ _
 generalize H.next=gg at hb1 e0 ⊢
 generalize (H.new 4 [sg,.int .i64 N.states,ar,en]).2=H1 at hb1 hk1 e0 ⊢
 have mk:=C31 (H:=H1) (l:=n) (c:=n) (Nat.le_refl _) (by omega)
 have k2:=Kept.new hk1.wf 1 (List.replicate n (.bool false))
 have f2:=Buf.fill hk1.wf (.bool false) (c:=n) (by omega)
 simp only [↓Sh.dn,sx,Nat.reduceBEq,reduceCtorEq,Nat.reduceEqDiff,hb1.c0,hb1.c1,hb1.c2,hb1.c3,hb1.ca,A2a hb1,A1a hb1,A3a hb1,Option.map_some,hn,mk]
 have lob:∀ y,(if n=0 then none else some H1.next)=some y→H1.next≤y:=by
  intro y h
  by_cases h0:n=0
  ·rw [if_pos h0] at h; cases h
  ·rw [if_neg h0] at h; rw [← Option.some.inj h]; exact Nat.le_refl _
 obtain ⟨ob,hob⟩:∃ ob,(if n=0 then none else some H1.next)=ob:=⟨_,rfl⟩
 rw [hob] at f2 lob
 generalize (Value.slice (some ⟨H1.next,0,some 0⟩) n n)=bv at f2 ⊢
 generalize (H1.new 1 (List.replicate n (.bool false))).2=H2 at f2 k2 ⊢
 have hmk:∀ b:Bool,∀ m:Nat,(List.replicate m b).map A5r=List.replicate m [.bool b]:=fun b m=>by simp [A5r]
 refine A0f N.ends.length 4 (List.range' 4 20) (fun i F H'=>Kept H1 H'∧Buf H' 1 bv ((marksOf EndD.state N.states.toNat (N.ends.take i)).map A5r) ob) (by simp only [↓Sh.dn,sx,Nat.reduceBEq,reduceCtorEq,Nat.reduceEqDiff]) ⟨k2,by rw [List.take_zero,B7b,hnn,hmk]; exact f2⟩ ?_ ?_
 ·rintro i F H' hlt hF f4 ⟨hk,hbb⟩ k
  have f1:=hF 1 rfl
  have f3:=hF 3 rfl
  simp only [↓Sh.dn,sx,Nat.reduceBEq,reduceCtorEq,Nat.reduceEqDiff] at f1 f3
  have hb':=hb1.kept hk1.wf hk
  obtain ⟨q,o,kk,hia,hc,hcc⟩:=hb'.hen.at Tryz.underlying24 A1r (i:=i) (x:=N.ends[i].cells) (by simp [hlt]) .i64
  have hcs:=hcc 0 _ rfl
  simp only [Nat.add_zero,List.getElem_cons_zero] at hcs
  clear hcc
  have htake:N.ends.take (i+1)=N.ends.take i++[N.ends[i]]:=by rw [List.take_add_one,List.getElem?_eq_getElem hlt]; rfl
  obtain ⟨k0,k1⟩:=hok.fin _ (List.getElem_mem hlt)
  generalize N.ends[i]=e at hc hcs htake k0 k1
  obtain ⟨s,hs⟩:∃ s:Nat,e.state=(s:Int):=⟨e.state.toNat,by omega⟩
  have hsn:s < N.states.toNat:=by omega
  obtain ⟨p,H6,ia,e1,e2,e3,e4⟩:=Buf.set (P:=Tryz.prog) hbb hk.wf (i:=s) (x:=A5r true) (by simp [A2j,hsn]) rfl
  have ia2:=ia Tryz.underlying66 A3n (j:=.i64)
  rw [← hs] at ia2
  have st:A4f Tryz.prog 4 H' (.bool true) (.pointer (some p))=some H6:=by rw [A1d A3n rfl]; exact e1
  simp only [↓Sh.dn,sx,Nat.reduceBEq,reduceCtorEq,Nat.reduceEqDiff,hb'.c0,hb'.c1,hb'.c2,hb'.c3,hb'.ca,A2a hb',A1a hb',A3a hb',f1,f3,f4,Option.map_some,A5a,hlt,decide_true,hia,hcs,ia2,st,wrap_succ hlt hsm.en]
  refine k _ _ (by repeat (first | refine Same.put ?_ rfl | exact Same.rfl' _)) (by simp only [↓Sh.dn,sx,Nat.reduceBEq,reduceCtorEq,Nat.reduceEqDiff]) ⟨hk.then (Nat.le_refl _) (e3.weak fun y hy=>lob y hy),?_⟩
  rw [htake,B3c hsn hs,List.map_set]
  exact e2
 ·rintro F H' hF f4 ⟨hk,hbb⟩
  have f1:=hF 1 rfl
  have f3:=hF 3 rfl
  simp only [↓Sh.dn,sx,Nat.reduceBEq,reduceCtorEq,Nat.reduceEqDiff] at f1 f3
  rw [List.take_length] at hbb
  have hb':=hb1.kept hk1.wf hk
  simp only [↓Sh.dn,sx,Nat.reduceBEq,reduceCtorEq,Nat.reduceEqDiff,hb'.c0,hb'.c1,hb'.c2,hb'.c3,hb'.ca,A2a hb',A1a hb',A3a hb',f1,f3,f4,A5a,Nat.lt_irrefl,decide_false,Option.map_some,hres]
  exact ⟨hk1.trans hk,by rw [hn] at hbb; exact hbb.toSl⟩
def labT (x:ByteArray):Option ByteArray:=if x=A7f then none else some x
def B0j (w:List ByteArray) (i:Nat) (s:ByteArray):Nat×Bool:=if s=A7f then (i,true) else if w[i]?=some s then (i+1,true) else (i,false)
theorem A56 {w:List ByteArray} {i j:Nat} {s:ByteArray}:B2v w i (labT s) j↔(B0j w i s).2=true∧(B0j w i s).1=j:=by
 unfold B2v labT B0j
 by_cases h:s=A7f
 ·rw [if_pos h,if_pos h]; simp [eq_comm]
 ·rw [if_neg h,if_neg h]
  by_cases h2:w[i]?=some s
  ·rw [if_pos h2]; simp [h2,eq_comm]
  ·rw [if_neg h2]; simp [h2]
theorem C47 {H:AH} {v:Value} {w:List ByteArray} {i:Nat} {s:ByteArray} (hv:Sl H v 1 (w.map A1b)) (hi:i≤1048576):
  Sh.Call Tryz.prog (knows 10) 82 [v,.int .i64 (i:Int),.string s] H (fun r H'=>H'=H∧r=.tuple #[.int .i64 ((B0j w i s).1:Int),.bool (B0j w i s).2]):=by
 refine A4a rfl Tryz.func82 rfl (Nat.le_of_ble_eq_true rfl) ?_
 have hres:Tryz.f82.results.toList=[.tmp 6,.tmp 7]:=rfl
 have hlen:=fun H'=>hv.len Tryz.underlying22 H'
 simp only [List.length_map] at hlen
 have e0:(⟨#[]⟩:ByteArray)=A7f:=rfl
 by_cases h:s=A7f
 ·simp only [↓Sh.dn,sx,Nat.reduceBEq,reduceCtorEq,Nat.reduceEqDiff,e0,h,decide_true,hres]
  unfold B0j
  rw [if_pos rfl]
 ·simp only [↓Sh.dn,sx,Nat.reduceBEq,reduceCtorEq,Nat.reduceEqDiff,e0,h,decide_false,hlen,A5a]
  by_cases hl:i < w.length
  ·obtain ⟨p,i1,c1⟩:=Sl.elem (s:=1) Tryz.underlying22 A2n hv (i:=i) (u:=.string w[i]) (by rw [List.getElem?_map,List.getElem?_eq_getElem hl]; rfl)
   have hg:w[i]?=some w[i]:=List.getElem?_eq_getElem hl
   generalize w[i]=x at c1 hg
   by_cases h2:x=s
   ·have hw1:IntKind.wrap .i64 ((i:Int)+1)=((i+1:Nat):Int):=by rw [wrap64 (by omega) (by omega)]; omega
    simp only [↓Sh.dn,sx,Nat.reduceBEq,reduceCtorEq,Nat.reduceEqDiff,hl,decide_true,i1,c1,h2,hw1,hres]
    unfold B0j
    rw [if_neg h,if_pos (by rw [hg,h2])]
   ·simp only [↓Sh.dn,sx,Nat.reduceBEq,reduceCtorEq,Nat.reduceEqDiff,hl,decide_true,i1,c1,h2,decide_false,hres]
    unfold B0j
    rw [if_neg h,if_neg (by rw [hg]; simpa using h2)]
  ·simp only [↓Sh.dn,sx,Nat.reduceBEq,reduceCtorEq,Nat.reduceEqDiff,hl,decide_false,hres]
   unfold B0j
   rw [if_neg h,if_neg (by rw [List.getElem?_eq_none (by omega)]; simp)]
end Go.Proofs.YtnoengaghabmjaaGreat
/- Places in two words, and with a state: as values, as keys. -/
namespace Go.Proofs.YtnoengaghabmjaaGreat
open Go Go.Proofs Go.Proofs.Sh
def A7g (p:Nat×Nat):List Value:=[.int .i64 (p.1:Int),.int .i64 (p.2:Int)]
def A4l (p:Nat×Nat×Nat):List Value:=[.int .i64 (p.1:Int),.int .i64 (p.2.1:Int),.int .i64 (p.2.2:Int)]
theorem C83:Tryz.prog.stoodInHeld 83=false:=by kernel_rfl
theorem C6r:Tryz.prog.stoodInHeld 137=false:=by kernel_rfl
theorem C9o:Tryz.prog.eqGuardType Tryz.prog.depth 83=false:=by kernel_rfl
theorem natI {a b:Nat}:((a:Int)=(b:Int))↔a=b:=Int.ofNat_inj
theorem C1v {d:Nat} (a b:Nat×Nat):eqT Tryz.prog (d+1+1) 83 (.agg (A7g a).toArray) (.agg (A7g b).toArray)=some (decide (a=b)):=by
 obtain ⟨a0,a1⟩:=a
 obtain ⟨b0,b1⟩:=b
 rw [eqT.eq_def]
 have s1:("x" == "_")=false:=rfl
 have s2:("y" == "_")=false:=rfl
 simp only [A7g,Tryz.underlying83,C83,cond_false,eqFields,apart,B58,List.getElem?_cons_zero,List.getElem?_cons_succ,Option.bind_some,B1u,s1,s2,natI,Prod.mk.injEq]
 by_cases h0:a0=b0
 ·by_cases h1:a1=b1
  ·simp [h0,h1]
  ·simp [h0,h1]
 ·simp [h0]
theorem B7t (a b:Nat×Nat):eqT Tryz.prog A5h 83 (A08 A7g a) (A08 A7g b)=some (decide (a=b)):=C1v (d:=18) a b
theorem B8i (a b:Nat×Nat×Nat):eqT Tryz.prog A5h 137 (A08 A4l a) (A08 A4l b)=some (decide (a=b)):=by
 show eqT Tryz.prog (19+1) _ _ _=_
 obtain ⟨a0,a⟩:=a
 obtain ⟨b0,b⟩:=b
 have hs:=C1v (d:=17) a b
 rw [eqT.eq_def]
 have s1:("state" == "_")=false:=rfl
 have s2:("at" == "_")=false:=rfl
 have t1:∀ p:Nat×Nat,A1m [Value.int .i64 (a0:Int),.int .i64 (p.1:Int),.int .i64 (p.2:Int)] 1 2=some (A7g p):=fun _=>rfl
 have t2:∀ p:Nat×Nat,A1m [Value.int .i64 (b0:Int),.int .i64 (p.1:Int),.int .i64 (p.2:Int)] 1 2=some (A7g p):=fun _=>rfl
 simp only [A08,A4l,Tryz.underlying137,C6r,cond_false,eqFields,apart,B58,C2z,A1v,List.getElem?_cons_zero,List.getElem?_cons_succ,Option.bind_some,Option.map_some,B1u (d:=18),s1,s2,t1,t2,natI,Prod.mk.injEq]
 rw [hs]
 by_cases h0:a0=b0
 ·by_cases h1:a=b
  ·simp [h0,h1]
  ·simp [h0,h1]
 ·simp [h0]
theorem C5g {d:Nat} (n:Int):keyT Tryz.prog (d+1) 3 (.int .i64 n)=true:=by
 rw [keyT.eq_def]
 simp only [Tryz.underlying3]
theorem B27 {d:Nat} (a:Nat×Nat):keyT Tryz.prog (d+1+1) 83 (.agg (A7g a).toArray)=true:=by
 rw [keyT.eq_def]
 simp only [A7g,Tryz.underlying83,List.all_cons,List.all_nil,apart,B58,List.getElem?_cons_zero,List.getElem?_cons_succ,C5g,Bool.or_true,Bool.and_self]
theorem B5x (a:Nat×Nat):A4n Tryz.prog 83 (A08 A7g a)=true:=by
 unfold A4n
 rw [Bool.and_eq_true]
 exact ⟨rfl,B27 (d:=18) a⟩
theorem A29 (a:Nat×Nat×Nat):A4n Tryz.prog 137 (A08 A4l a)=true:=by
 obtain ⟨a0,a⟩:=a
 unfold A4n
 rw [Bool.and_eq_true]
 refine ⟨rfl,?_⟩
 show keyT Tryz.prog (19+1) _ _=true
 rw [keyT.eq_def]
 have t1:A1m [Value.int .i64 (a0:Int),.int .i64 (a.1:Int),.int .i64 (a.2:Int)] 1 2=some (A7g a):=rfl
 simp only [A08,A4l,Tryz.underlying137,List.all_cons,List.all_nil,apart,B58,C2z,A1v,Option.bind_some,Option.map_some,t1,List.getElem?_cons_zero,List.getElem?_cons_succ,C5g (d:=18),B27 (d:=17),Bool.or_true,Bool.and_self]
theorem B9t {a b:Nat}:A2m Tryz.prog 83 [(0,.int .i64 (a:Int)),(1,.int .i64 (b:Int))]=some (.agg (A7g (a,b)).toArray):=by
 have va:∀ xs:Array Value,A0b (.agg xs)=xs.toList:=fun _=>rfl
 have hi:∀ n:Int,isCell (.int .i64 n)=true:=fun _=>rfl
 refine A0i (pl:=[(0,1),(1,1)]) Tryz.underlying83 B0a (by kernel_rfl) ?_
 simp [A5u,va,A7b (hi _),hi,setCells,A7g,A8a,A3c]
theorem C0o {s:Nat} {p:Nat×Nat}:A2m Tryz.prog 137 [(0,.int .i64 (s:Int)),(1,.agg (A7g p).toArray)]=some (.agg (A4l (s,p)).toArray):=by
 have va:∀ xs:Array Value,A0b (.agg xs)=xs.toList:=fun _=>rfl
 have hi:∀ n:Int,isCell (.int .i64 n)=true:=fun _=>rfl
 refine A0i (pl:=[(0,1),(1,2)]) Tryz.underlying137 A41 (by kernel_rfl) ?_
 simp [A5u,va,A7b (hi _),hi,setCells,A4l,A7g,A8a,A3c]
section
variable {H:AH} {p:Nat×Nat×Nat} {q:Nat×Nat}
theorem C6d:anew Tryz.prog 137 H (.agg #[.int .i64 0,.int .i64 0,.int .i64 0])=some (.pointer (some ⟨H.next,0,some 0⟩),(H.new 3 [.int .i64 0,.int .i64 0,.int .i64 0]).2):=A4o (vs:=[.int .i64 0,.int .i64 0,.int .i64 0]) A91 rfl rfl
theorem B8w {a:Addr}:A4f Tryz.prog 137 H (.agg (A4l p).toArray) (.pointer (some a))=H.write a (A4l p):=A7p A91 rfl rfl
theorem C7n {x y z:Value}:(H.new 3 [x,y,z]).2.write ⟨H.next,0,some 0⟩ (A4l p)=some (H.new 3 (A4l p)).2:=A4p rfl
theorem spNew:anew Tryz.prog 83 H (.agg (A7g q).toArray)=some (.pointer (some ⟨H.next,0,some 0⟩),(H.new 2 (A7g q)).2):=A4o (vs:=A7g q) A1v rfl rfl
theorem C82:A9a Tryz.prog 134 1 [(0,.agg (A4l p).toArray)] H=some (.slice (some ⟨H.next,0,some 0⟩) 1 1,(H.new 3 (A4l p)).2):=C5o (H:=H) (x:=.agg (A4l p).toArray) rfl rfl
theorem B5s:A9a Tryz.prog 80 1 [(0,.agg (A7g q).toArray)] H=some (.slice (some ⟨H.next,0,some 0⟩) 1 1,(H.new 2 (A7g q)).2):=C50 (H:=H) (x:=.agg (A7g q).toArray) rfl rfl
end
structure WBox (H:AH) (g:Nat) (p:Nat×Nat×Nat):Prop where
 ar:Arr H g 0 3 (A4l p)
theorem WBox.new {H:AH} {p:Nat×Nat×Nat}:WBox (H.new 3 (A4l p)).2 H.next p:=⟨(Sh.Obj.new (H:=H) 3 (A4l p)).arr⟩
theorem WBox.chg {H H':AH} {g:Nat} {p:Nat×Nat×Nat} {X:Nat→Prop} (h:WBox H g p) (hw:Wf H) (hc:Chg X H H') (hx:¬X g):WBox H' g p:=⟨h.ar.keep (hc.old g (h.ar.lt hw) hx)⟩
theorem WBox.kept {H H':AH} {g:Nat} {p:Nat×Nat×Nat} (h:WBox H g p) (hw:Wf H) (hk:Kept H H'):WBox H' g p:=⟨h.ar.keep (hk.old g (h.ar.lt hw))⟩
section
variable {H:AH} {g:Nat} {p:Nat×Nat×Nat} (h:WBox H g p)
include h
theorem WBox.c0:H.cell ⟨g,0,some 0⟩=some (.int .i64 (p.1:Int)):=h.ar.cell 0
theorem WBox.c1:H.cell ⟨g,1,some 0⟩=some (.int .i64 (p.2.1:Int)):=h.ar.cell 1
theorem WBox.c2:H.cell ⟨g,2,some 0⟩=some (.int .i64 (p.2.2:Int)):=h.ar.cell 2
theorem WBox.ca:H.cells ⟨g,0,some 0⟩ 3=some (A4l p):=h.ar.cells (i:=0) (n:=3) (by simp [A4l])
theorem WBox.cs:H.cells ⟨g,1,some 0⟩ 2=some (A7g p.2):=h.ar.cells (i:=1) (n:=2) (by simp [A4l])
end
theorem whApp (H:AH) (len cap:Nat) (b:Option Addr) (x:List Value) (hx:x.length=3) (hl:len≤1073741823):A6a Tryz.prog .append [134,134] [.slice b len cap,.slice (some ⟨H.next,0,some 0⟩) 1 1] (H.new 3 x).2=A9f 3 b len cap 1 x (H.new 3 x).2:=app1_134 hx hl
theorem spApp (H:AH) (len cap:Nat) (b:Option Addr) (x:List Value) (hx:x.length=2) (hl:len≤1073741823):A6a Tryz.prog .append [80,80] [.slice b len cap,.slice (some ⟨H.next,0,some 0⟩) 1 1] (H.new 2 x).2=A9f 2 b len cap 1 x (H.new 2 x).2:=app1_80 hx hl
theorem whLook {H:AH} {base g:Nat} {z:Value} {ob:Option Nat} {T:List (Nat×Nat×Nat)} (h:QS H 3 A4l base g z ob T) (a:Nat×Nat×Nat):A9p Tryz.prog 135 (.map (some g)) (.agg (A4l a).toArray) false H=some (.bool (decide (a∈T))):=
 (h.sn.look Tryz.underlying135 A76 A29 B8i a).trans (congrArg (fun b=>some (Value.bool b)) (decide_eq_decide.2 Iff.rfl))
theorem spLook {H:AH} {base g:Nat} {z:Value} {ob:Option Nat} {T:List (Nat×Nat)} (h:QS H 2 A7g base g z ob T) (a:Nat×Nat):A9p Tryz.prog 138 (.map (some g)) (.agg (A7g a).toArray) false H=some (.bool (decide (a∈T))):=
 (h.sn.look Tryz.underlying138 A76 B5x B7t a).trans (congrArg (fun b=>some (Value.bool b)) (decide_eq_decide.2 Iff.rfl))
end Go.Proofs.YtnoengaghabmjaaGreat
/- The reference's reach: the places in two words at which pairs end. -/
namespace Go.Proofs.YtnoengaghabmjaaGreat
open Go Go.Proofs Go.Proofs.Sh
def A6k (N:NetD):Arcs Nat ByteArray:=fun s a b t=>∃ c∈N.arcs,c.fr=(s:Int)∧labT c.inn=a∧labT c.out=b∧c.to=(t:Int)
theorem B9d {N:NetD} (hok:A1k N) {x y:List ByteArray} {S:Nat×Nat×Nat→Prop} (hS:∀ p,S p→p.1=0∧p.2.1≤x.length∧p.2.2≤y.length) {p:Nat×Nat×Nat} (h:Cl (A23 (A6k N) x y) S p):p.1 < N.states.toNat∧p.2.1 < x.length+1∧p.2.2 < y.length+1:=by
 have h1:=hok.st1
 refine h.of (Q:=fun p=>p.1 < N.states.toNat∧p.2.1 < x.length+1∧p.2.2 < y.length+1) (fun q hq=>?_) ?_
 ·obtain ⟨h2,h3,h4⟩:=hS q hq
  exact ⟨by omega,by omega,by omega⟩
 ·rintro p q ⟨_,h3,h4⟩ ⟨a,b,⟨c,hc,_,_,_,h5⟩,h6,h7⟩
  have:=hok.arc c hc
  exact ⟨by omega,Nat.lt_succ_of_le (C4f h6 (by omega)),Nat.lt_succ_of_le (C4f h7 (by omega))⟩
theorem B60 {a b c:Nat} (ha:a≤3000) (hb:b≤401) (hc:c≤401):a * b * c≤482403000:=by
 have h1:a * b≤3000 * 401:=Nat.mul_le_mul ha hb
 have h2:a * b * c≤3000 * 401 * 401:=Nat.mul_le_mul h1 hc
 omega
theorem B12 {p:Nat×Nat}:A2m Tryz.prog 137 [(0,.int .i64 0),(1,.agg (A7g p).toArray)]=some (.agg (A4l (0,p)).toArray):=C0o (s:=0)
theorem B0y {b0:Nat} {H:AH} {v ux uy ul:Value} {N:NetD} {x y:List ByteArray} {L:List (Nat×Nat)} (h:A4h H v N) (hok:A1k N) (hsm:A3b N) (hx:Sl H ux 1 (x.map A1b)) (hy:Sl H uy 1 (y.map A1b)) (hxl:x.length≤400) (hyl:y.length≤400)
  (hl:Sl H ul 2 (L.map A7g)) (hL:∀ p∈L,p.1≤x.length∧p.2≤y.length) (hLl:L.length≤1048576) (hb0:b0≤H.next) (hw:Wf H):
  Sh.Call Tryz.prog (knows 10) 49 [v,ux,uy,ul] H (fun r H'=>Kept H H'∧∃ (O:List (Nat×Nat)) (oo:Option Nat),Buf H' 2 r (O.map A7g) oo∧O.Nodup∧(∀ y,oo=some y→b0≤y)∧∀ p,p∈O↔∃ s,N.isEnd s∧Cl (A23 (A6k N) x y) (fun q=>q.1=0∧q.2∈L) (s,p)):=by
 refine A4a rfl Tryz.func49 rfl (Nat.le_of_ble_eq_true rfl) ?_
 have hres:Tryz.f49.results.toList=[.tmp 8]:=rfl
 obtain ⟨sg,ar,en,rfl,hsg,har,hen⟩:=h
 have hb1:=NetBox.of (N:=N) hw hsg har hen
 have hk1:Kept H (H.new 4 [sg,.int .i64 N.states,ar,en]).2:=Kept.new hw 4 _
 simp only [↓Sh.dn,sx,Nat.reduceBEq,reduceCtorEq,Nat.reduceEqDiff,A1g hsg.isCell har.isCell hen.isCell]
 generalize H.next=gg at hb1 ⊢
 generalize (H.new 4 [sg,.int .i64 N.states,ar,en]).2=H1 at hb1 hk1 ⊢
 obtain ⟨av,H2,hd2,hk2,avals,hJ⟩:=C36 hb1.netAt hok hsm hk1.wf
 have hb2:=hb1.kept hk1.wf hk2
 obtain ⟨bv,H3,hd3,hk3,hE⟩:=C23 hb2.netAt hok hsm hk2.wf
 have hvq:veq (.agg #[sg,.int .i64 N.states,ar,en]) (.agg #[sg,.int .i64 N.states,ar,en])=true:=A9t (by simp only [A6l,A0o,A1c,hsg.veq,har.veq,hen.veq,Bool.and_self])
 refine A6o (fl:=[(0,false),(2,false),(1,false),(3,true),(4,true),(5,true)]) (by kernel_rfl) (by kernel_rfl) hk1.wf ?_
 simp only [↓Sh.dn,sx,Nat.reduceBEq,reduceCtorEq,Nat.reduceEqDiff,wpg,A4q,isEff,A9b,isRead,A3e,A1c,A4e,A6c,A6b,forall_eq,forall_eq',hb1.c0,hb1.c1,hb1.c2,hb1.c3,hb1.ca,A2a hb1,A1a hb1,A3a hb1,hb2.c0,hb2.c1,hb2.c2,hb2.c3,hb2.ca,A2a hb2,A1a hb2,A3a hb2,Option.map_some,hvq]
 refine ⟨_,_,hd2,hk2.wf,hk2.grow hk1.wf,?_⟩
 refine ⟨_,_,hd3,hk3.wf,?_⟩
 have hJ3:=hJ.grow (hk3.grow hk2.wf)
 have k03:Kept H H3:=(hk1.trans hk2).trans hk3
 have hx3:=hx.grow (k03.grow hw)
 have hy3:=hy.grow (k03.grow hw)
 have hl3:=hl.grow (k03.grow hw)
 clear hb1 hb2 hd2 hd3 hJ hk1 hk2 hk3 hvq
 have kp:=Kept.push k03.wf (.map [])
 have q0:QS (H3.push (.map [])).2 3 A4l H3.next H3.next (.slice none 0 0) none []:=QS.start k03.wf (Nat.le_refl _)
 obtain ⟨base,hbase⟩:∃ y,H3.next=y:=⟨_,rfl⟩
 have hbH:b0≤base:=by rw [← hbase]; exact Nat.le_trans hb0 k03.next
 rw [hbase] at q0
 simp only [hbase]
 have hbn:base≤(H3.push (.map [])).2.next:=by rw [← hbase]; exact Nat.le_succ _
 generalize (H3.push (.map [])).2=H4 at kp q0 hbn ⊢
 have hn1:=hok.st1
 have hn2:=hok.st2
 have inB:∀ {T:List (Nat×Nat×Nat)},T.Nodup→(∀ w∈T,Cl (A23 (A6k N) x y) (fun q=>q.1=0∧q.2∈L) w)→T.length≤482403000:=fun {T} hn hT=>by
  refine Nat.le_trans (C0w (a:=N.states.toNat) (b:=x.length+1) (c:=y.length+1) hn fun w hw=>?_) (B60 (by omega) (by omega) (by omega))
  exact B9d hok (fun p hp=>⟨hp.1,hL p.2 hp.2⟩) (hT w hw)
 refine A0f L.length 13 (List.range' 31 21++[11,13,14]) (fun i F H'=>Kept H3 H'∧∃ z ob T,F.get 11=some z∧QS H' 3 A4l base base z ob T∧(∀ w∈T,w.1=0∧w.2∈L)∧∀ (j:Nat) p,j < i→L[j]?=some p→(0,p)∈T) (by simp only [↓Sh.dn,sx,Nat.reduceBEq,reduceCtorEq,Nat.reduceEqDiff]) ⟨kp,_,none,[],by simp only [↓Sh.dn,sx,Nat.reduceBEq,reduceCtorEq,Nat.reduceEqDiff],q0,fun w hw=>by (cases hw),fun j p hj=>absurd hj (Nat.not_lt_zero j)⟩ ?_ ?_
 ·rintro i F H' hi hF f13 ⟨hk,z,ob,T,f11,q,hT,hdone⟩ k
  have f3:=hF 3 rfl
  have f12:=hF 12 rfl
  simp only [↓Sh.dn,sx,Nat.reduceBEq,reduceCtorEq,Nat.reduceEqDiff] at f3 f12
  have hl':=hl3.grow (hk.grow k03.wf)
  have hlen:=fun H'=>hl'.len Tryz.underlying80 H'
  simp only [List.length_map] at hlen
  obtain ⟨g1,o1,q1,i1,c1,_⟩:=hl'.at Tryz.underlying80 A1v (i:=i) (x:=A7g L[i]) (by simp [hi]) .i64
  have hgi:L[i]?=some L[i]:=List.getElem?_eq_getElem hi
  have hmem:L[i]∈L:=List.getElem_mem hi
  generalize L[i]=p at c1 hgi hmem
  have kn:=Kept.new hk.wf 3 (A4l (0,p))
  have wb:WBox (H'.new 3 (A4l (0,p))).2 H'.next (0,p):=WBox.new
  have qn:=q.kept hk.wf kn
  have hlt:=q.lt hk.wf
  have hlook:=whLook qn (0,p)
  have wi:=A7a hi (by omega)
  by_cases hin:(0,p)∈T
  ·simp only [↓Sh.dn,sx,Nat.reduceBEq,reduceCtorEq,Nat.reduceEqDiff,f3,f11,f12,f13,hlen,A5a,hi,decide_true,i1,c1,Option.map_some,B12,C6d,B8w,C7n,wb.ca,hlook,hin,wi]
   refine k _ _ (by repeat (first | refine Same.put ?_ rfl | exact Same.rfl' _)) (by simp only [↓Sh.dn,sx,Nat.reduceBEq,reduceCtorEq,Nat.reduceEqDiff]) ⟨hk.trans kn,z,ob,T,by simp only [↓Sh.dn,sx,Nat.reduceBEq,reduceCtorEq,Nat.reduceEqDiff,f11],qn,hT,fun j p' hj hp'=>?_⟩
   by_cases hji:j=i
   ·subst hji; rw [hgi] at hp'; rw [← Option.some.inj hp']; exact hin
   ·exact hdone j p' (by omega) hp'
  ·have hTl:=inB q.nd fun w hw=>.base (hT w hw)
   obtain ⟨H6,b,cap,z',H7,ob',a1,a2,a3,rfl,a5,a6,a7,a8⟩:=qn.add (ts:=134) Tryz.underlying135 A29 B8i (fun _=>rfl) whApp kn.wf (by have:=hk.next; have:=kn.next; omega) hin (by omega)
   have a1':A7h Tryz.prog 135 (.map (some base)) (.agg (A4l (0,p)).toArray) (.bool true) (H'.new 3 (A4l (0,p))).2=some H6:=a1
   have hbl:=q.sn.lt hk.wf
   have wb6:WBox H6 H'.next (0,p):=wb.chg kn.wf a2 (by omega)
   simp only [↓Sh.dn,sx,Nat.reduceBEq,reduceCtorEq,Nat.reduceEqDiff,f3,f11,f12,f13,hlen,A5a,hi,decide_true,i1,c1,Option.map_some,B12,C6d,B8w,C7n,wb.ca,hlook,hin,decide_false,a1',wb6.ca,C82,a5,wi]
   refine k _ _ (by repeat (first | refine Same.put ?_ rfl | exact Same.rfl' _)) (by simp only [↓Sh.dn,sx,Nat.reduceBEq,reduceCtorEq,Nat.reduceEqDiff]) ⟨(hk.trans kn).then (Nat.le_refl _) (a7.weak fun y hy=>by have:=qn.ge y hy; omega),z',ob',_,by simp only [↓Sh.dn,sx,Nat.reduceBEq,reduceCtorEq,Nat.reduceEqDiff],a6,fun w hw=>?_,fun j p' hj hp'=>?_⟩
   ·rcases List.mem_append.1 hw with h1 | h1
    ·exact hT w h1
    ·rw [List.mem_singleton.1 h1]; exact ⟨rfl,hmem⟩
   ·by_cases hji:j=i
    ·subst hji; rw [hgi] at hp'; rw [← Option.some.inj hp']; exact List.mem_append_right _ List.mem_cons_self
    ·exact List.mem_append_left _ (hdone j p' (by omega) hp')
 ·rintro F H' hF f13 ⟨hk,z,ob,T,f11,q,hT,hdone⟩
  have f1:=hF 1 rfl
  have f2:=hF 2 rfl
  have f3:=hF 3 rfl
  have f9:=hF 9 rfl
  have f10:=hF 10 rfl
  have f12:=hF 12 rfl
  simp only [↓Sh.dn,sx,Nat.reduceBEq,reduceCtorEq,Nat.reduceEqDiff] at f1 f2 f3 f9 f10 f12
  have hl':=hl3.grow (hk.grow k03.wf)
  have hlen:=fun H'=>hl'.len Tryz.underlying80 H'
  simp only [List.length_map] at hlen
  have hLT:∀ p∈L,(0,p)∈T:=fun p hp=>by
   obtain ⟨j,hj⟩:=List.mem_iff_getElem?.1 hp
   exact hdone j p (List.getElem?_eq_some_iff.1 hj).1 hj
  have kp2:=Kept.push hk.wf (.map [])
  have o0:QS (H'.push (.map [])).2 2 A7g base H'.next (.slice none 0 0) none []:=QS.start hk.wf (by have:=q.b0; have:=q.sn.lt hk.wf; omega)
  have qlt:=q.lt hk.wf
  obtain ⟨gf,hgf⟩:∃ y,H'.next=y:=⟨_,rfl⟩
  rw [hgf] at o0 qlt
  have qn:=q.kept hk.wf kp2
  simp only [↓Sh.dn,sx,Nat.reduceBEq,reduceCtorEq,Nat.reduceEqDiff,f3,f13,hlen,A5a,Nat.lt_irrefl,decide_false,hgf]
  have hkn:=hk.trans kp2
  generalize (H'.push (.map [])).2=H5 at o0 qn hkn ⊢
  clear kp2 q hdone hk
  refine A1f (m:=482403001) (fun m F H'=>∃ i,m+i=482403001∧F.get 17=some (.int .i64 (i:Int))∧F.get 1=some ux∧F.get 2=some uy∧F.get 9=some av∧F.get 10=some bv∧F.get 12=some (.map (some base))∧F.get 16=some (.map (some gf))∧Kept H3 H'∧∃ z ob T zo oo O,F.get 11=some z∧F.get 15=some zo∧QS H' 3 A4l base base z ob T∧QS H' 2 A7g base gf zo oo O∧(∀ y,QO base ob y→¬QO gf oo y)∧i≤T.length∧(∀ p∈L,(0,p)∈T)∧(∀ w∈T,Cl (A23 (A6k N) x y) (fun q=>q.1=0∧q.2∈L) w)∧(∀ w∈T.take i,∀ v,A23 (A6k N) x y w v→v∈T)∧(∀ p∈O,∃ s,N.isEnd s∧(s,p)∈T)∧∀ w∈T.take i,N.isEnd w.1→w.2∈O)
   ⟨0,rfl,by simp only [↓Sh.dn,sx,Nat.reduceBEq,reduceCtorEq,Nat.reduceEqDiff]; rfl,by simp only [↓Sh.dn,sx,Nat.reduceBEq,reduceCtorEq,Nat.reduceEqDiff,f1],by simp only [↓Sh.dn,sx,Nat.reduceBEq,reduceCtorEq,Nat.reduceEqDiff,f2],by simp only [↓Sh.dn,sx,Nat.reduceBEq,reduceCtorEq,Nat.reduceEqDiff,f9],by simp only [↓Sh.dn,sx,Nat.reduceBEq,reduceCtorEq,Nat.reduceEqDiff,f10],by simp only [↓Sh.dn,sx,Nat.reduceBEq,reduceCtorEq,Nat.reduceEqDiff,f12],by simp only [↓Sh.dn,sx,Nat.reduceBEq,reduceCtorEq,Nat.reduceEqDiff],hkn,z,ob,T,_,none,[],by simp only [↓Sh.dn,sx,Nat.reduceBEq,reduceCtorEq,Nat.reduceEqDiff,f11],by simp only [↓Sh.dn,sx,Nat.reduceBEq,reduceCtorEq,Nat.reduceEqDiff],qn,o0,fun y hy h=>(by
    rcases h with h | h
    ·have:=qlt y hy; omega
    ·(cases h)),Nat.zero_le _,hLT,fun w hw=>.base (hT w hw),fun w hw=>by simp at hw,fun p hp=>by (cases hp),fun w hw=>by simp at hw⟩ ?_
  clear hkn qn o0 hLT hT f1 f2 f3 f9 f10 f11 f12 f13 hlen hl' hF qlt hgf
  clear z ob T F H' H5
  rintro m F H' ⟨i,hmi,f17,f1,f2,f9,f10,f12,f16,hk,z,ob,T,zo,oo,O,f11,f15,q,o,hdj,hiT,hLT,hcl,hcls,hO,hOc⟩ k
  have hTl:=inB q.nd hcl
  have hlenT:=q.len Tryz.underlying134
  by_cases hi:i < T.length
  ·obtain ⟨p1,i1,c1⟩:=q.read Tryz.underlying134 A91 (List.getElem?_eq_getElem hi)
   have hgi:T[i]?=some T[i]:=List.getElem?_eq_getElem hi
   have hcw:=hcl _ (List.getElem_mem hi)
   have htk:T.take (i+1)=T.take i++[T[i]]:=by rw [List.take_add_one,List.getElem?_eq_getElem hi]; rfl
   generalize T[i]=w at c1 hgi hcw htk
   obtain ⟨w1,w2,w3⟩:=B9d hok (fun p hp=>⟨hp.1,hL p.2 hp.2⟩) hcw
   have kn:=Kept.new hk.wf 3 (A4l w)
   have wb:WBox (H'.new 3 (A4l w)).2 H'.next w:=WBox.new
   have qn:=q.kept hk.wf kn
   have on:=o.kept hk.wf kn
   have qlt:=q.lt hk.wf
   have olt:=o.lt hk.wf
   have hkn:=hk.trans kn
   have hbl:=q.sn.lt hk.wf
   have hgw:base≤H'.next:=by omega
   have hEn:=hE.grow (hkn.grow k03.wf)
   obtain ⟨be,hbe1,hbe2⟩:∃ b,(marksOf EndD.state N.states.toNat N.ends)[w.1]?=some b∧(b=true↔N.isEnd w.1):=by
    refine ⟨_,A9q w1,?_⟩
    unfold NetD.isEnd
    rw [List.any_eq_true]
    simp only [decide_eq_true_eq]
   obtain ⟨p2,i2,c2⟩:=Sl.elem (s:=1) Tryz.underlying66 A3n hEn (i:=w.1) (u:=.bool be) (by rw [List.getElem?_map,hbe1]; rfl)
   simp only [↓Sh.dn,sx,Nat.reduceBEq,reduceCtorEq,Nat.reduceEqDiff,f10,f11,f17,hlenT,A5a,hi,decide_true,i1,c1,Option.map_some,C6d,B8w,C7n,wb.c0,i2,c2]
   have hgn:H'.next < (H'.new 3 (A4l w)).2.next:=Nat.lt_succ_self _
   obtain ⟨gb,hgb⟩:∃ y,H'.next=y:=⟨_,rfl⟩
   rw [hgb] at wb qlt olt hgw hbl hgn
   simp only [hgb]
   generalize (H'.new 3 (A4l w)).2=H5 at kn wb qn on hkn hEn c2 hgn ⊢
   clear kn q o
   obtain ⟨R,hR⟩:∃ R:AH→Value→Option Nat→List (Nat×Nat)→Prop,R=fun H' zo oo O=>Kept H3 H'∧WBox H' gb w∧gb < H'.next∧QS H' 3 A4l base base z ob T∧QS H' 2 A7g base gf zo oo O∧(∀ y,QO base ob y→¬QO gf oo y)∧¬QO gf oo gb∧(∀ p∈O,∃ s,N.isEnd s∧(s,p)∈T)∧(∀ w∈T.take i,N.isEnd w.1→w.2∈O)∧(N.isEnd w.1→w.2∈O):=⟨_,rfl⟩
   obtain ⟨M,hM⟩:∃ M:Fr→AH→Prop,M=fun F' H'=>F'.get 17=some (.int .i64 (i:Int))∧F'.get 1=some ux∧F'.get 2=some uy∧F'.get 9=some av∧F'.get 10=some bv∧F'.get 11=some z∧F'.get 12=some (.map (some base))∧F'.get 16=some (.map (some gf))∧F'.get 18=some (.pointer (some ⟨gb,0,some 0⟩))∧∃ zo oo O,F'.get 15=some zo∧R H' zo oo O:=⟨_,rfl⟩
   refine wpo_two M (by rfl) ?_ ?_
   ·cases be with
    | false=>
     have hne:¬N.isEnd w.1:=fun h=>by have:=hbe2.2 h; cases this
     simp only [↓Sh.dn,sx,Nat.reduceBEq,reduceCtorEq,Nat.reduceEqDiff,hM,f1,f2,f9,f10,f11,f12,f15,f16,f17]
     refine ⟨oo,O,?_⟩
     rw [hR]
     exact ⟨hkn,wb,hgn,qn,on,hdj,fun h=>by have:=olt gb h; omega,hO,hOc,fun h=>absurd h hne⟩
    | true=>
     have hlook:=spLook on w.2
     by_cases hO2:w.2∈O
     ·simp only [↓Sh.dn,sx,Nat.reduceBEq,reduceCtorEq,Nat.reduceEqDiff,hM,f1,f2,f9,f10,f11,f12,f15,f16,f17,wb.cs,Option.map_some,hlook,hO2,decide_true]
      refine ⟨oo,O,?_⟩
      rw [hR]
      exact ⟨hkn,wb,hgn,qn,on,hdj,fun h=>by have:=olt gb h; omega,hO,hOc,fun _=>hO2⟩
     ·have hOl : O.length ≤ 1073741823 := by
        have h1 : (O.map fun p => (0, p)).Nodup := by
          have := on.nd
          rw [List.nodup_iff_pairwise_ne] at this ⊢
          rw [List.pairwise_map]
          exact this.imp fun h e => h (Prod.mk.inj e).2
        have h2 := C0w (a := 1) (b := x.length + 1) (c := y.length + 1) h1 fun w hw => by
          obtain ⟨p, hp, rfl⟩ := List.mem_map.1 hw
          obtain ⟨s, _, h3⟩ := hO p hp
          have := B9d hok (fun p hp => ⟨hp.1, hL p.2 hp.2⟩) (hcl _ h3)
          exact ⟨Nat.one_pos, this.2⟩
        rw [List.length_map] at h2
        have h3 := B60 (a := 1) (b := x.length + 1) (c := y.length + 1) (by omega) (by omega) (by omega)
        omega
      obtain ⟨H6, b, cap, z', H7, ob', a1, a2, a3, rfl, a5, a6, a7, a8⟩ := on.add (ts := 80) Tryz.underlying138 B5x B7t (fun _ => rfl) spApp hkn.wf (by omega) hO2 hOl
      have a1' : A7h Tryz.prog 138 (.map (some gf)) (.agg (A7g w.2).toArray) (.bool true) H5 = some H6 := a1
      have wb6 : WBox H6 gb w := wb.chg hkn.wf a2 fun h => by have := olt gf (.inl rfl); omega
      have hgo : ¬QO gf oo gb := fun h => by have := olt gb h; omega
      have ha6 := a7.next
      simp only [↓Sh.dn, sx, Nat.reduceBEq, reduceCtorEq, Nat.reduceEqDiff, hM, f1, f2, f9, f10, f11, f12, f15, f16, f17, wb.cs, Option.map_some, hlook, hO2, decide_false, a1', wb6.cs, B5s, a5]
      refine ⟨ob', O ++ [w.2], ?_⟩
      rw [hR]
      refine ⟨hkn.then (Nat.le_refl _) (a7.weak fun y hy => by have := on.ge y hy; omega), wb.chg hkn.wf a7 hgo, by omega, qn.chg hkn.wf a7 fun y hy h => hdj y h hy, a6, fun y hy h => ?_, fun h => ?_, fun p hp => ?_, fun v hv h => List.mem_append_left _ (hOc v hv h), fun _ => List.mem_append_right _ List.mem_cons_self⟩
      · rcases a8 y h with h1 | h1
        · exact hdj y hy h1
        · have := qlt y hy; omega
      · rcases a8 gb h with h1 | h1
        · exact hgo h1
        · omega
      · rcases List.mem_append.1 hp with h1 | h1
        · exact hO p h1
        · rw [List.mem_singleton.1 h1]; exact ⟨w.1, hbe2.1 rfl, List.mem_of_getElem? hgi⟩
   ·intro F2 H6 h9
    rw [hM] at h9
    obtain ⟨f17,f1,f2,f9,f10,f11,f12,f16,f18,zo,oo,O,f15,h9⟩:=h9
    rw [hR] at h9
    obtain ⟨hk6,wb6,hg6,q6,o6,hdj6,hgo,hO6,hOc6,hOw⟩:=h9
    clear hM hR hkn wb hgn qn on olt hEn hbe2 hbe1 c2 i2 hOc hO hdj
    have hrow:=A3i (key:=ArcD.fr) (f:=ArcD.cells) (l:=N.arcs) w1
    have hAm:∀ c,c∈(N.arcs.filter fun a=>decide (a.fr=(w.1:Int)))↔c∈N.arcs∧c.fr=(w.1:Int):=fun c=>by rw [List.mem_filter]; simp
    have hAl:(N.arcs.filter fun a=>decide (a.fr=(w.1:Int))).length≤N.arcs.length:=List.length_filter_le _ _
    generalize (N.arcs.filter fun a=>decide (a.fr=(w.1:Int)))=A at hrow hAm hAl
    obtain ⟨ga,oa,ka,wr,hia,hca,hsr⟩:=hJ3.at Tryz.underlying131 A14 hrow
    have hro:∀ {H'},Kept H3 H'→H'.cell ⟨ga,oa,some ka⟩=some wr∧Sl H' wr 5 (A.map ArcD.cells)∧A6a Tryz.prog .len [23] [wr] H'=some (.int .i64 (A.length:Int),H'):=fun hk=>by
     have h2:=hsr.grow (hk.grow k03.wf)
     refine ⟨A9d (hk.grow k03.wf) hca,h2,?_⟩
     rw [h2.len Tryz.underlying23,List.length_map]
    have hsA:=hsm.ar
    have hokA:=hok.ar
    simp only [↓Sh.dn,sx,Nat.reduceBEq,reduceCtorEq,Nat.reduceEqDiff]
    refine A0f A.length 19 (List.range' 83 60++[11,19,20,21,22,23,24,25]) (fun q F3 H7=>Kept H3 H7∧WBox H7 gb w∧gb < H7.next∧∃ z ob T',F3.get 11=some z∧QS H7 3 A4l base base z ob T'∧QS H7 2 A7g base gf zo oo O∧(∀ y,QO base ob y→¬QO gf oo y)∧¬QO base ob gb∧T'[i]?=some w∧T'.take i=T.take i∧(∀ v∈T,v∈T')∧(∀ v∈T',Cl (A23 (A6k N) x y) (fun q=>q.1=0∧q.2∈L) v)∧∀ c∈A.take q,∀ v:Nat×Nat×Nat,B2v x w.2.1 (labT c.inn) v.2.1→B2v y w.2.2 (labT c.out) v.2.2→c.to=(v.1:Int)→v∈T') (by simp only [↓Sh.dn,sx,Nat.reduceBEq,reduceCtorEq,Nat.reduceEqDiff])
     ⟨hk6,wb6,hg6,z,ob,T,by simp only [↓Sh.dn,sx,Nat.reduceBEq,reduceCtorEq,Nat.reduceEqDiff,f11],q6,o6,hdj6,fun h=>by have:=qlt gb h; omega,hgi,rfl,fun v hv=>hv,hcl,fun c hc=>by simp at hc⟩ ?_ ?_
    ·rintro q F3 H7 hq hF3 f19 ⟨hk7,wb7,hg7,z',ob',T',g11,q7,o7,hdj7,hgq,hgi',htk',hsub,hcl',hdone⟩ k2
     have g1:=hF3 1 rfl
     have g2:=hF3 2 rfl
     have g9:=hF3 9 rfl
     have g12:=hF3 12 rfl
     have g18:=hF3 18 rfl
     simp only [↓Sh.dn,sx,Nat.reduceBEq,reduceCtorEq,Nat.reduceEqDiff,f1,f2,f9,f12,f18] at g1 g2 g9 g12 g18
     obtain ⟨hc1,hs1,hl1⟩:=hro hk7
     obtain ⟨g',o',k',hia2,hcs2,_⟩:=hs1.at Tryz.underlying23 A9l (i:=q) (x:=A[q].cells) (by simp [hq]) .i64
     have hcq:=(hAm _).1 (List.getElem_mem hq)
     have htake:A.take (q+1)=A.take q++[A[q]]:=by rw [List.take_add_one,List.getElem?_eq_getElem hq]; rfl
     generalize A[q]=c at hcs2 hcq htake
     obtain ⟨hc0,_,hc2,hc3,_⟩:=hok.arc c hcq.1
     obtain ⟨t,ht⟩:∃ t:Nat,c.to=(t:Int):=⟨c.to.toNat,by omega⟩
     have kn:=Kept.new hk7.wf 5 c.cells
     have ab:Arr (H7.new 5 c.cells).2 H7.next 0 5 c.cells:=(Sh.Obj.new (H:=H7) 5 c.cells).arr
     have x3:=hx3.grow ((hk7.trans kn).grow k03.wf)
     have y3:=hy3.grow ((hk7.trans kn).grow k03.wf)
     obtain ⟨r8,H8,hd8,rfl,rfl⟩:=C47 (i:=w.2.1) (s:=c.inn) x3 (by omega)
     obtain ⟨r9,H9,hd9,rfl,rfl⟩:=C47 (i:=w.2.2) (s:=c.out) y3 (by omega)
     have wb8:=wb7.kept hk7.wf kn
     simp only [↓Sh.dn,sx,Nat.reduceBEq,reduceCtorEq,Nat.reduceEqDiff,g1,g2,g9,g12,g18,f19,wb7.c0,hia,hc1,hl1,A5a,hq,decide_true,hia2,hcs2,Option.map_some,A5b,A5e,A8e,A9g,A1h,A5c,A7c,A2e,A7e,A5d,arc0,arc1,arc2,arc3,arc4,end0,end1,wb8.c1,wb8.c2]
     refine ⟨_,_,hd8,?_⟩
     simp only [↓Sh.dn,sx,Nat.reduceBEq,reduceCtorEq,Nat.reduceEqDiff,g2,g18,wb8.c2,A5b,A5e,A8e,A9g,A1h,A5c,A7c,A2e,A7e,A5d,arc0,arc1,arc2,arc3,arc4,end0,end1]
     refine ⟨_,_,hd9,?_⟩
     have ht3:(H7.new 5 c.cells).2.cell ⟨H7.next,3,some 0⟩=some (.int .i64 (t:Int)):=by rw [arc3,ht]
     obtain ⟨i9,hi9⟩:∃ e,B0j x w.2.1 c.inn=e:=⟨_,rfl⟩
     obtain ⟨j9,hj9⟩:∃ e,B0j y w.2.2 c.out=e:=⟨_,rfl⟩
     simp only [↓Sh.dn,sx,Nat.reduceBEq,reduceCtorEq,Nat.reduceEqDiff,ht3,hi9,hj9,B9t,C0o,C6d,B8w,C7n]
     obtain ⟨v,hv⟩:∃ v:Nat×Nat×Nat,(t,(i9.1,j9.1))=v:=⟨_,rfl⟩
     simp only [hv]
     have q8:=q7.kept hk7.wf kn
     have o8:=o7.kept hk7.wf kn
     have hk8:=hk7.trans kn
     have hn8:=kn.next
     generalize (H7.new 5 c.cells).2=H8 at kn wb8 q8 o8 hk8 hn8 ⊢
     have km:=Kept.new hk8.wf 3 (A4l v)
     have wv:WBox (H8.new 3 (A4l v)).2 H8.next v:=WBox.new
     have q9:=q8.kept hk8.wf km
     have o9:=o8.kept hk8.wf km
     have wb9:=wb8.kept hk8.wf km
     have q8lt:=q8.lt hk8.wf
     have hk9:=hk8.trans km
     have hn9:=km.next
     have hvn:H8.next < (H8.new 3 (A4l v)).2.next:=Nat.lt_succ_self _
     generalize (H8.new 3 (A4l v)).2=H9 at wv km q9 o9 wb9 hk9 hn9 hvn ⊢
     have wq:=A7a hq (by omega)
     have hk3:=hk9.next
     have bound:=inB q9.nd hcl'
     have hlook:=whLook q9 v
     have hnext : ∀ {z2 : Value} {ob2 : Option Nat} {T2 : List (Nat × Nat × Nat)} {F4 : Fr} {H10 : AH}, Same (List.range' 83 60 ++ [11, 19, 20, 21, 22, 23, 24, 25]) F3 F4 → F4.get 11 = some z2 → F4.get 19 = some (.int .i64 ((q + 1 : Nat) : Int)) → Kept H3 H10 → WBox H10 gb w → gb < H10.next → QS H10 3 A4l base base z2 ob2 T2 → QS H10 2 A7g base gf zo oo O → (∀ y, QO base ob2 y → ¬QO gf oo y) → ¬QO base ob2 gb → (T2 = T' ∨ T2 = T' ++ [v] ∧ i9.2 = true ∧ j9.2 = true) → (i9.2 = true → j9.2 = true → v ∈ T2) →
         wp Tryz.prog (knows 10) _ _ F4 H10 := fun {z2 ob2 T2 F4 H10} a1 a2 a3 a4 a5 a6 a7 a8 a9 a10 a11 a12 => k2 F4 H10 a1 a3 ⟨a4, a5, a6, z2, ob2, T2, a2, a7, a8, a9, a10, by
           rcases a11 with h | ⟨h, _⟩
           · rw [h]; exact hgi'
           · rw [h, List.getElem?_append_left (List.getElem?_eq_some_iff.1 hgi').1]; exact hgi', by
           rcases a11 with h | ⟨h, _⟩
           · rw [h]; exact htk'
           · rw [h, List.take_append_of_le_length (Nat.le_of_lt (List.getElem?_eq_some_iff.1 hgi').1)]; exact htk', fun u hu => by
           rcases a11 with h | ⟨h, _⟩
           · rw [h]; exact hsub u hu
           · rw [h]; exact List.mem_append_left _ (hsub u hu), fun u hu => by
           rcases a11 with h | ⟨h, h2, h3⟩
           · rw [h] at hu; exact hcl' u hu
           · rw [h] at hu
             rcases List.mem_append.1 hu with h4 | h4
             · exact hcl' u h4
             · rw [List.mem_singleton.1 h4, ← hv]
               exact .step hcw ⟨_, _, ⟨c, hcq.1, hcq.2, rfl, rfl, ht⟩, A56.2 ⟨by rw [hi9]; exact h2, by rw [hi9]⟩, A56.2 ⟨by rw [hj9]; exact h3, by rw [hj9]⟩⟩, fun d hd u hu1 hu2 hu3 => by
           rw [htake] at hd
           rcases List.mem_append.1 hd with h4 | h4
           · have := hdone d h4 u hu1 hu2 hu3
             rcases a11 with h | ⟨h, _⟩
             · rw [h]; exact this
             · rw [h]; exact List.mem_append_left _ this
           · rw [List.mem_singleton.1 h4] at hu1 hu2 hu3
             obtain ⟨b1, b2⟩ := A56.1 hu1
             obtain ⟨b3, b4⟩ := A56.1 hu2
             rw [hi9] at b1 b2
             rw [hj9] at b3 b4
             have : u = v := by
               rw [← hv]
               exact Prod.ext (by have : (t : Int) = u.1 := by rw [← ht]; exact hu3
                                  simp only; omega) (Prod.ext b2.symm b4.symm)
             rw [this]; exact a12 b1 b3⟩
     have hgq':¬QO base ob' gb:=hgq
     obtain ⟨i0,ib⟩:=i9
     obtain ⟨j0,jb⟩:=j9
     cases ib with
     | false=>
      simp only [↓Sh.dn,sx,Nat.reduceBEq,reduceCtorEq,Nat.reduceEqDiff,f19,wq]
      exact hnext (by repeat (first | refine Same.put ?_ rfl | exact Same.rfl' _)) (by simp only [↓Sh.dn,sx,Nat.reduceBEq,reduceCtorEq,Nat.reduceEqDiff,g11]) (by simp only [↓Sh.dn,sx,Nat.reduceBEq,reduceCtorEq,Nat.reduceEqDiff]) hk9 wb9 (by omega) q9 o9 hdj7 hgq' (.inl rfl) fun h=>by cases h
     | true=>
      cases jb with
      | false=>
       simp only [↓Sh.dn,sx,Nat.reduceBEq,reduceCtorEq,Nat.reduceEqDiff,f19,wq]
       exact hnext (by repeat (first | refine Same.put ?_ rfl | exact Same.rfl' _)) (by simp only [↓Sh.dn,sx,Nat.reduceBEq,reduceCtorEq,Nat.reduceEqDiff,g11]) (by simp only [↓Sh.dn,sx,Nat.reduceBEq,reduceCtorEq,Nat.reduceEqDiff]) hk9 wb9 (by omega) q9 o9 hdj7 hgq' (.inl rfl) fun _ h=>by cases h
      | true=>
       by_cases hin:v∈T'
       ·simp only [↓Sh.dn,sx,Nat.reduceBEq,reduceCtorEq,Nat.reduceEqDiff,g12,f19,wv.ca,Option.map_some,hlook,hin,decide_true,wq]
        exact hnext (by repeat (first | refine Same.put ?_ rfl | exact Same.rfl' _)) (by simp only [↓Sh.dn,sx,Nat.reduceBEq,reduceCtorEq,Nat.reduceEqDiff,g11]) (by simp only [↓Sh.dn,sx,Nat.reduceBEq,reduceCtorEq,Nat.reduceEqDiff]) hk9 wb9 (by omega) q9 o9 hdj7 hgq' (.inl rfl) fun _ _=>hin
       ·obtain ⟨H10,b,cap,z2,H11,ob2,a1,a2,a3,rfl,a5,a6,a7,a8⟩:=q9.add (ts:=134) Tryz.underlying135 A29 B8i (fun _=>rfl) whApp hk9.wf (by omega) hin (by omega)
        have a1':A7h Tryz.prog 135 (.map (some base)) (.agg (A4l v).toArray) (.bool true) H9=some H10:=a1
        have wv2:WBox H10 H8.next v:=wv.chg hk9.wf a2 fun h=>by have:=q8lt base (.inl rfl); omega
        have ha7:=a7.next
        simp only [↓Sh.dn,sx,Nat.reduceBEq,reduceCtorEq,Nat.reduceEqDiff,g11,g12,f19,wv.ca,Option.map_some,hlook,hin,decide_false,a1',wv2.ca,C82,a5,wq]
        refine hnext (by repeat (first | refine Same.put ?_ rfl | exact Same.rfl' _)) (by simp only [↓Sh.dn,sx,Nat.reduceBEq,reduceCtorEq,Nat.reduceEqDiff]) (by simp only [↓Sh.dn,sx,Nat.reduceBEq,reduceCtorEq,Nat.reduceEqDiff]) (hk9.then (Nat.le_refl _) (a7.weak fun y hy=>by have:=q9.ge y hy; omega)) (wb9.chg hk9.wf a7 hgq') (by omega) a6 (o9.chg hk9.wf a7 fun y hy=>hdj7 y hy) (fun y hy h=>?_) (fun h=>?_) (.inr ⟨rfl,rfl,rfl⟩) fun _ _=>List.mem_append_right _ List.mem_cons_self
        ·rcases a8 y hy with h1 | h1
         ·exact hdj7 y h1 h
         ·have:=o9.lt hk9.wf y h; omega
        ·rcases a8 gb h with h1 | h1
         ·exact hgq' h1
         ·omega
    ·rintro F3 H7 hF3 f19 ⟨hk7,wb7,hg7,z',ob',T',g11,q7,o7,hdj7,hgq,hgi',htk',hsub,hcl',hdone⟩
     have g1:=hF3 1 rfl
     have g2:=hF3 2 rfl
     have g9:=hF3 9 rfl
     have g10:=hF3 10 rfl
     have g12:=hF3 12 rfl
     have g15:=hF3 15 rfl
     have g16:=hF3 16 rfl
     have g17:=hF3 17 rfl
     have g18:=hF3 18 rfl
     simp only [↓Sh.dn,sx,Nat.reduceBEq,reduceCtorEq,Nat.reduceEqDiff,f1,f2,f9,f10,f12,f15,f16,f17,f18] at g1 g2 g9 g10 g12 g15 g16 g17 g18
     obtain ⟨hc1,hs1,hl1⟩:=hro hk7
     rw [List.take_length] at hdone
     have wi:IntKind.wrap .i64 ((i:Int)+1)=((i+1:Nat):Int):=by rw [wrap64 (by omega) (by omega)]; omega
     have hil:=(List.getElem?_eq_some_iff.1 hgi').1
     have htk2:T'.take (i+1)=T.take (i+1):=by rw [List.take_add_one,hgi',htk',htk]; rfl
     simp only [↓Sh.dn,sx,Nat.reduceBEq,reduceCtorEq,Nat.reduceEqDiff,g9,g17,g18,f19,wb7.c0,hia,hc1,hl1,A5a,Nat.lt_irrefl,decide_false,wi]
     refine k (482403001 - (i+1)) _ _ (by omega) ⟨i+1,by omega,by simp only [↓Sh.dn,sx,Nat.reduceBEq,reduceCtorEq,Nat.reduceEqDiff],by simp only [↓Sh.dn,sx,Nat.reduceBEq,reduceCtorEq,Nat.reduceEqDiff,g1],by simp only [↓Sh.dn,sx,Nat.reduceBEq,reduceCtorEq,Nat.reduceEqDiff,g2],by simp only [↓Sh.dn,sx,Nat.reduceBEq,reduceCtorEq,Nat.reduceEqDiff,g9],by simp only [↓Sh.dn,sx,Nat.reduceBEq,reduceCtorEq,Nat.reduceEqDiff,g10],by simp only [↓Sh.dn,sx,Nat.reduceBEq,reduceCtorEq,Nat.reduceEqDiff,g12],by simp only [↓Sh.dn,sx,Nat.reduceBEq,reduceCtorEq,Nat.reduceEqDiff,g16],hk7,z',ob',T',zo,oo,O,by simp only [↓Sh.dn,sx,Nat.reduceBEq,reduceCtorEq,Nat.reduceEqDiff,g11],by simp only [↓Sh.dn,sx,Nat.reduceBEq,reduceCtorEq,Nat.reduceEqDiff,g15],q7,o7,hdj7,hil,fun p hp=>hsub _ (hLT p hp),hcl',fun u hu v hv=>?_,fun p hp=>?_,fun u hu he=>?_⟩
     ·rw [htk2,htk] at hu
      rcases List.mem_append.1 hu with h4 | h4
      ·exact hsub _ (hcls u h4 v hv)
      ·rw [List.mem_singleton.1 h4] at hv
       obtain ⟨a,b,⟨c,hc,h5,rfl,rfl,h6⟩,h7,h8⟩:=hv
       exact hdone c ((hAm c).2 ⟨hc,h5⟩) v h7 h8 h6
     ·obtain ⟨s,h4,h5⟩:=hO6 p hp
      exact ⟨s,h4,hsub _ h5⟩
     ·rw [htk2,htk] at hu
      rcases List.mem_append.1 hu with h4 | h4
      ·exact hOc6 u h4 he
      ·rw [List.mem_singleton.1 h4] at he ⊢
       exact hOw he
  ·have hie:i=T.length:=by omega
   subst hie
   simp only [↓Sh.dn,sx,Nat.reduceBEq,reduceCtorEq,Nat.reduceEqDiff,f11,f15,f17,hlenT,A5a,Nat.lt_irrefl,decide_false,hres]
   rw [List.take_length] at hcls hOc
   have hiff:=fun t=>Cl.iff (R:=A23 (A6k N) x y) (S:=fun q=>q.1=0∧q.2∈L) (l:=T) (fun s hs=>by
    obtain ⟨s0,p⟩:=s
    obtain ⟨rfl,h2⟩:=hs
    exact hLT p h2) hcl hcls t
   refine ⟨k03.trans hk,O,oo,o.td,o.nd,fun y hy=>Nat.le_trans hbH (o.tb y hy).1,fun p=>⟨fun hp=>?_,?_⟩⟩
   ·obtain ⟨s,h1,h2⟩:=hO p hp
    exact ⟨s,h1,(hiff _).1 h2⟩
   ·rintro ⟨s,h1,h2⟩
    exact hOc (s,p) ((hiff _).2 h2) h1
theorem refReach {H:AH} {v ux uy ul:Value} {N:NetD} {x y:List ByteArray} {L:List (Nat×Nat)} (h:A4h H v N) (hok:A1k N) (hsm:A3b N) (hx:Sl H ux 1 (x.map A1b)) (hy:Sl H uy 1 (y.map A1b)) (hxl:x.length≤400) (hyl:y.length≤400)
  (hl:Sl H ul 2 (L.map A7g)) (hL:∀ p∈L,p.1≤x.length∧p.2≤y.length) (hLl:L.length≤1048576) (hw:Wf H):
  Sh.Call Tryz.prog (knows 10) 49 [v,ux,uy,ul] H (fun r H'=>Kept H H'∧∃ (O:List (Nat×Nat)) (oo:Option Nat),Buf H' 2 r (O.map A7g) oo∧O.Nodup∧∀ p,p∈O↔∃ s,N.isEnd s∧Cl (A23 (A6k N) x y) (fun q=>q.1=0∧q.2∈L) (s,p)):=by
 refine (B0y (b0:=0) h hok hsm hx hy hxl hyl hl hL hLl (Nat.zero_le _) hw).mono ?_
 rintro r H' ⟨h1,O,oo,h2,h3,_,h4⟩
 exact ⟨h1,O,oo,h2,h3,h4⟩
end Go.Proofs.YtnoengaghabmjaaGreat
