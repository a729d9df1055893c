/- A part of the proof: RelTwo, Marks, GraphEdges, CloneStr, GraphNet, GraphArc, GraphEnd, GraphX, GraphAdd, GraphNew, GraphB, PlaceWord, GraphOf, GraphIs. -/
import Derived.Test.YtnoengaghabmjaaGreatDoorMClose3RelComposes2
import Derived.Test.YtnoengaghabmjaaGreatDoorMClose3RelComposes3
set_option linter.unusedVariables false
set_option linter.unusedSimpArgs false
/- Two nets in a row: rel.checked, rel.great, slices.Equal. -/
set_option maxHeartbeats 4000000
set_option maxRecDepth 20000
set_option linter.unusedSimpArgs false
set_option linter.unusedVariables false
namespace Go.Proofs.YtnoengaghabmjaaGreatDoor
open Go Go.Proofs Go.Proofs.Sh
theorem B83 {H:AH} {v u:Value} {l m:List ByteArray} (hl:Sl H v 1 (l.map A1b)) (hm:Sl H u 1 (m.map A1b)) (hll:l.length≤1048576) (hml:m.length≤1048576) (hw:Wf H):
  Sh.Call Tryz.prog (knows 8) 62 [v,u] H (fun r H'=>H'=H∧r=.bool (decide (l=m))):=by
 refine A3b rfl Tryz.func62 rfl (Nat.le_of_ble_eq_true rfl) ?_
 have hres:Tryz.f62.results.toList=[.tmp 4]:=rfl
 have l1:=fun H'=>hl.len Tryz.underlying22 H'
 have l2:=fun H'=>hm.len Tryz.underlying22 H'
 simp only [List.length_map] at l1 l2
 by_cases hlen:l.length=m.length
 case neg=>
  have:¬l=m:=fun h=>hlen (by rw [h])
  simp only [↓Sh.dn,sx,Nat.reduceBEq,reduceCtorEq,Nat.reduceEqDiff,l1,l2,nat_eq,hlen,decide_false,hres,this]
 simp only [↓Sh.dn,sx,Nat.reduceBEq,reduceCtorEq,Nat.reduceEqDiff,l1,l2,nat_eq,hlen,decide_true]
 rw [← hlen]
 refine A0i l.length 13 (List.range' 13 13++[5]) (fun i F H'=>H'=H∧l.take i=m.take i) (by simp only [↓Sh.dn,sx,Nat.reduceBEq,reduceCtorEq,Nat.reduceEqDiff]) ⟨rfl,rfl⟩ ?_ ?_
 ·rintro i F H' hi hF f13 ⟨rfl,heq⟩ k
  have f0:=hF 0 rfl
  have f1:=hF 1 rfl
  have f12:=hF 12 rfl
  simp only [↓Sh.dn,sx,Nat.reduceBEq,reduceCtorEq,Nat.reduceEqDiff,hlen] at f0 f1 f12
  rw [← hlen] at f12
  have him:i < m.length:=by omega
  obtain ⟨p1,i1,c1⟩:=Sl.elem (s:=1) Tryz.underlying22 A6l hl (i:=i) (u:=.string l[i]) (by rw [List.getElem?_map,List.getElem?_eq_getElem hi]; rfl)
  obtain ⟨p2,i2,c2⟩:=Sl.elem (s:=1) Tryz.underlying22 A6l hm (i:=i) (u:=.string m[i]) (by rw [List.getElem?_map,List.getElem?_eq_getElem him]; rfl)
  have t1:l.take (i+1)=l.take i++[l[i]]:=by rw [List.take_add_one,List.getElem?_eq_getElem hi]; rfl
  have t2:m.take (i+1)=m.take i++[m[i]]:=by rw [List.take_add_one,List.getElem?_eq_getElem him]; rfl
  by_cases hx:l[i]=m[i]
  ·simp only [↓Sh.dn,sx,Nat.reduceBEq,reduceCtorEq,Nat.reduceEqDiff,f0,f1,f12,f13,A9a,hi,decide_true,i1,c1,i2,c2,hx,A7d hi (by omega)]
   exact k _ _ (by repeat (first | refine Same.put ?_ rfl | exact Same.rfl' _)) (by simp only [↓Sh.dn,sx,Nat.reduceBEq,reduceCtorEq,Nat.reduceEqDiff]) ⟨rfl,by rw [t1,t2,heq,hx]⟩
  ·have:¬l=m:=fun h=>hx (by subst h; rfl)
   simp only [↓Sh.dn,sx,Nat.reduceBEq,reduceCtorEq,Nat.reduceEqDiff,f0,f1,f12,f13,A9a,hi,decide_true,i1,c1,i2,c2,hx,decide_false,hres,this]
 ·rintro F H' hF f13 ⟨rfl,heq⟩
  have f12:=hF 12 rfl
  simp only [↓Sh.dn,sx,Nat.reduceBEq,reduceCtorEq,Nat.reduceEqDiff,hlen] at f12
  rw [← hlen] at f12
  have:l=m:=by
   rw [List.take_length,hlen,List.take_length] at heq
   exact heq
  simp only [↓Sh.dn,sx,Nat.reduceBEq,reduceCtorEq,Nat.reduceEqDiff,f12,f13,A9a,Nat.lt_irrefl,decide_false,hres,this,decide_true]
structure TwoNets (H:AH) (g:Nat) (sgA arA enA sgB arB enB:Value) (A B:NetD):Prop where
 ar:Arr H g 0 4 [sgA,.int .i64 A.states,arA,enA,sgB,.int .i64 B.states,arB,enB]
 a1:Sl H sgA 1 (A.sigma.map A1b)
 a2:Sl H arA 5 (A.arcs.map ArcD.cells)
 a3:Sl H enA 2 (A.ends.map EndD.cells)
 b1:Sl H sgB 1 (B.sigma.map A1b)
 b2:Sl H arB 5 (B.arcs.map ArcD.cells)
 b3:Sl H enB 2 (B.ends.map EndD.cells)
theorem TwoNets.kept {H H':AH} {g:Nat} {sgA arA enA sgB arB enB:Value} {A B:NetD} (h:TwoNets H g sgA arA enA sgB arB enB A B) (hw:Wf H) (hk:Kept H H'):TwoNets H' g sgA arA enA sgB arB enB A B:=
 ⟨h.ar.keep (hk.old g (h.ar.lt hw)),h.a1.grow (hk.grow hw),h.a2.grow (hk.grow hw),h.a3.grow (hk.grow hw),h.b1.grow (hk.grow hw),h.b2.grow (hk.grow hw),h.b3.grow (hk.grow hw)⟩
theorem TwoNets.get {H:AH} {g:Nat} {sgA arA enA sgB arB enB:Value} {A B:NetD} (h:TwoNets H g sgA arA enA sgB arB enB A B) {i:Nat} (hi:i < 2):
  ∃ (N:NetD) (sg ar en:Value),N=(if i=0 then A else B)∧H.cells ⟨g,0+i * 4,some 0⟩ 4=some [sg,.int .i64 N.states,ar,en]∧Sl H sg 1 (N.sigma.map A1b)∧Sl H ar 5 (N.arcs.map ArcD.cells)∧Sl H en 2 (N.ends.map EndD.cells):=by
 match i,hi with
 | 0,_=>exact ⟨A,sgA,arA,enA,rfl,h.ar.cells (i:=0) (n:=4) (by simp),h.a1,h.a2,h.a3⟩
 | 1,_=>exact ⟨B,sgB,arB,enB,rfl,h.ar.cells (i:=4) (n:=4) (by simp),h.b1,h.b2,h.b3⟩
theorem twoBuild {H:AH} {sgA arA enA sgB arB enB:Value} {A B:NetD} (hw:Wf H) (a1:Sl H sgA 1 (A.sigma.map A1b)) (a2:Sl H arA 5 (A.arcs.map ArcD.cells)) (a3:Sl H enA 2 (A.ends.map EndD.cells)) (b1:Sl H sgB 1 (B.sigma.map A1b)) (b2:Sl H arB 5 (B.arcs.map ArcD.cells)) (b3:Sl H enB 2 (B.ends.map EndD.cells)):
  ∃ H',A4a Tryz.prog 51 2 [(0,.agg #[sgA,.int .i64 A.states,arA,enA]),(1,.agg #[sgB,.int .i64 B.states,arB,enB])] H=some (.slice (some ⟨H.next,0,some 0⟩) 2 2,H')∧Kept H H'∧TwoNets H' H.next sgA arA enA sgB arB enB A B∧H.next < H'.next:=by
 have k:=Kept.new hw 4 [sgA,.int .i64 A.states,arA,enA,sgB,.int .i64 B.states,arB,enB]
 refine ⟨(H.new 4 [sgA,.int .i64 A.states,arA,enA,sgB,.int .i64 B.states,arB,enB]).2,?_,k,⟨(Sh.Obj.new (H:=H) 4 _).arr,a1.grow (k.grow hw),a2.grow (k.grow hw),a3.grow (k.grow hw),b1.grow (k.grow hw),b2.grow (k.grow hw),b3.grow (k.grow hw)⟩,Nat.lt_succ_self _⟩
 unfold A4a
 have va:∀ xs:Array Value,A8a (.agg xs)=xs.toList:=fun _=>rfl
 have hi:∀ n:Int,isCell (.int .i64 n)=true:=fun _=>rfl
 have hn:(H.new 4 [sgA,.int .i64 A.states,arA,enA,sgB,.int .i64 B.states,arB,enB]).1=⟨H.next,0,some 0⟩:=rfl
 simp only [Tryz.underlying51,A6o,A01,Option.bind_some,va]
 simp [repl,A5r,va,a1.isCell,a2.isCell,a3.isCell,b1.isCell,b2.isCell,b3.isCell,hi,setCells,A6a,A0c,hn]
def A0k (A B:NetD):Int:=if A5h A≠0 then A5h A else if A5h B≠0 then A5h B else if A.sigma=B.sigma then 0 else 10
theorem B3e {A B:NetD} (h:A0k A B=0):A5h A=0∧A5h B=0∧A.sigma=B.sigma:=by
 unfold A0k at h
 split at h
 ·rename_i h1; exact absurd h h1
 rename_i h1
 split at h
 ·rename_i h2; exact absurd h h2
 rename_i h2
 split at h
 ·rename_i h3; exact ⟨by simpa using h1,by simpa using h2,h3⟩
 ·cases h
theorem slice1 {H:AH} {g:Nat} {vs:List Value} (h:Arr H g 0 4 vs):A25 Tryz.prog 51 H (.slice (some ⟨g,0,some 0⟩) 2 2) (some (.int .i64 1)) none none=some (.slice (some ⟨g,4,some 0⟩) 1 1):=by
 have e:=h.esz 0
 have c1:A0r 2=2:=rfl
 have c2:A2x 2=true:=rfl
 have b1:bound 0 (some (.int .i64 1))=some 1:=rfl
 unfold A25
 simp only [Tryz.underlying51,A6o,Option.bind_some,b1,bound,c1,c2,e]
 rfl
theorem C8f {H:AH} {g:Nat} {sgA arA enA sgB arB enB:Value} {A B:NetD} (h:TwoNets H g sgA arA enA sgB arB enB A B) (hA:A4c A) (hB:A4c B) (hw:Wf H):
  Sh.Call Tryz.prog (knows 8) 33 [.slice (some ⟨g,0,some 0⟩) 2 2] H (fun r H'=>Kept H H'∧r=.int .i64 (A0k A B)):=by
 refine A3b rfl Tryz.func33 rfl (Nat.le_of_ble_eq_true rfl) ?_
 have hres:Tryz.f33.results.toList=[.tmp 2]:=rfl
 have hN:∀ i:Nat,A4c (if i=0 then A else B):=fun i=>by split; exact hA; exact hB
 simp only [↓Sh.dn,sx,Nat.reduceBEq,reduceCtorEq,Nat.reduceEqDiff]
 refine A0i 2 10 (List.range' 10 10++[4,5]) (fun i F H'=>Kept H H'∧∀ j,j < i→A5h (if j=0 then A else B)=0) (by simp only [↓Sh.dn,sx,Nat.reduceBEq,reduceCtorEq,Nat.reduceEqDiff]) ⟨Kept.refl hw,fun j hj=>absurd hj (Nat.not_lt_zero j)⟩ ?_ ?_
 ·rintro i F H' hi hF f10 ⟨hk,hall⟩ k
  have f8:=hF 8 rfl
  have f9:=hF 9 rfl
  simp only [↓Sh.dn,sx,Nat.reduceBEq,reduceCtorEq,Nat.reduceEqDiff] at f8 f9
  obtain ⟨N,sg,ar,en,hNe,hc,s1,s2,s3⟩:=(h.kept hw hk).get hi
  have hia:=ia_51 (g:=g) (o:=0) (k:=0) (n:=2) (c:=2) (j:=.i64) hi
  rw [Nat.zero_add] at hc hia
  have kn:=Kept.new hk.wf 4 [sg,.int .i64 N.states,ar,en]
  have hsm:A4c N:=by rw [hNe]; exact hN i
  have hb:=NetBox.of (N:=N) hk.wf s1 s2 s3
  obtain ⟨r,H4,hd4,hk4,rfl⟩:=B93 hb.netAt hsm kn.wf
  simp only [↓Sh.dn,sx,Nat.reduceBEq,reduceCtorEq,Nat.reduceEqDiff,f8,f9,f10,A9a,hi,decide_true,hia,hc,Option.map_some,A1c,A9z s1.isCell s2.isCell s3.isCell,A3c,hb.c0,hb.c1,hb.c2,hb.c3,hb.ca,A3a hb,A1a hb,A2a hb]
  refine ⟨_,_,hd4,?_⟩
  by_cases hE:A5h N=0
  ·simp only [↓Sh.dn,sx,Nat.reduceBEq,reduceCtorEq,Nat.reduceEqDiff,hE,decide_true,f10,A7d hi (by decide)]
   refine k _ _ (by repeat (first | refine Same.put ?_ rfl | exact Same.rfl' _)) (by simp only [↓Sh.dn,sx,Nat.reduceBEq,reduceCtorEq,Nat.reduceEqDiff]) ⟨(hk.trans kn).trans hk4,fun j hj=>?_⟩
   by_cases hji:j=i
   ·subst hji; rw [← hNe]; exact hE
   ·exact hall j (by omega)
  ·have e1 : A0k A B = A5h N := by
     unfold A0k
     match i, hi, hNe, hall with
     | 0, _, hNe, _ => rw [hNe] at hE ⊢; exact if_pos hE
     | 1, _, hNe, hall =>
       have := hall 0 (by omega)
       simp only [if_true] at this
       rw [hNe] at hE ⊢
       rw [if_neg (by simpa using this)]
       exact if_pos hE
   simp only [↓Sh.dn, sx, Nat.reduceBEq, reduceCtorEq, Nat.reduceEqDiff, hE, decide_false, hres, e1]
   exact (hk.trans kn).trans hk4
 ·rintro F H' hF f10 ⟨hk,hall⟩
  have f0:=hF 0 rfl
  have f9:=hF 9 rfl
  simp only [↓Sh.dn,sx,Nat.reduceBEq,reduceCtorEq,Nat.reduceEqDiff] at f0 f9
  have h0:=hall 0 (by omega)
  have h1:=hall 1 (by omega)
  simp only [if_true,Nat.one_ne_zero,if_false] at h0 h1
  have h':=h.kept hw hk
  have hsl:=slice1 h'.ar
  have hlz:∀ H',A5a Tryz.prog .len [51] [.slice (some ⟨g,4,some 0⟩) 1 1] H'=some (.int .i64 ((1:Nat):Int),H'):=fun H'=>C4r
  simp only [↓Sh.dn,sx,Nat.reduceBEq,reduceCtorEq,Nat.reduceEqDiff,f0,f9,f10,A9a,Nat.lt_irrefl,decide_false,hsl,hlz]
  have he:A0k A B=if A.sigma=B.sigma then 0 else 10:=by
   unfold A0k
   rw [if_neg (by simpa using h0),if_neg (by simpa using h1)]
  refine A0i 1 23 (List.range' 23 13++[7]) (fun i F H2=>Kept H H2∧(0 < i→A.sigma=B.sigma)) (by simp only [↓Sh.dn,sx,Nat.reduceBEq,reduceCtorEq,Nat.reduceEqDiff]) ⟨hk,fun hi=>absurd hi (Nat.lt_irrefl 0)⟩ ?_ ?_
  ·rintro i F2 H2 hi hF2 f23 ⟨hk2,_⟩ k2
   have hi0:i=0:=by omega
   subst hi0
   have g0:=hF2 0 rfl
   have g21:=hF2 21 rfl
   have g22:=hF2 22 rfl
   simp only [↓Sh.dn,sx,Nat.reduceBEq,reduceCtorEq,Nat.reduceEqDiff,f0] at g0 g21 g22
   have h2:=h.kept hw hk2
   have hia:=ia_51 (g:=g) (o:=4) (k:=0) (n:=1) (c:=1) (j:=.i64) hi
   have hia0:A8d Tryz.prog 51 (.slice (some ⟨g,0,some 0⟩) 2 2) (.int .i64 0)=some (.pointer (some ⟨g,0,some 0⟩)):=ia_51 (i:=0) (g:=g) (o:=0) (k:=0) (n:=2) (c:=2) (j:=.i64) (by decide)
   have hc:H2.cells ⟨g,4+0 * 4,some 0⟩ 4=some [sgB,.int .i64 B.states,arB,enB]:=h2.ar.cells (i:=4) (n:=4) (by simp)
   have kn:=Kept.new hk2.wf 4 [sgB,.int .i64 B.states,arB,enB]
   have hb:=NetBox.of (N:=B) hk2.wf h2.b1 h2.b2 h2.b3
   have h3:=h2.kept hk2.wf kn
   have hc0:(H2.new 4 [sgB,.int .i64 B.states,arB,enB]).2.cell ⟨g,0,some 0⟩=some sgA:=h3.ar.cell 0
   obtain ⟨r,H4,hd4,rfl,rfl⟩:=B83 hb.hsg h3.a1 hB.sg hA.sg kn.wf
   simp only [↓Sh.dn,sx,Nat.reduceBEq,reduceCtorEq,Nat.reduceEqDiff,g0,g21,g22,f23,A9a,hi,decide_true,hia,hc,Option.map_some,A1c,A9z h2.b1.isCell h2.b2.isCell h2.b3.isCell,A3c,hb.c0,hb.c1,hb.c2,hb.c3,hb.ca,A3a hb,A1a hb,A2a hb,hia0,hc0]
   first | refine (B0b (by kernel_rfl)).2 ?_ | skip
   simp only [↓Sh.dn,sx,Nat.reduceBEq,reduceCtorEq,Nat.reduceEqDiff,g0,g21,g22,hb.c0,hb.c1,hb.c2,hb.c3,hb.ca,A3a hb,A1a hb,A2a hb,hia0,hc0]
   refine ⟨_,_,hd4,?_⟩
   by_cases hs:A.sigma=B.sigma
   ·simp only [↓Sh.dn,sx,Nat.reduceBEq,reduceCtorEq,Nat.reduceEqDiff,hs,decide_true,f23]
    exact k2 _ _ (by repeat (first | refine Same.put ?_ rfl | exact Same.rfl' _)) (by simp only [↓Sh.dn,sx,Nat.reduceBEq,reduceCtorEq,Nat.reduceEqDiff]; rfl) ⟨hk2.trans kn,fun _=>hs⟩
   ·have hs':¬B.sigma=A.sigma:=fun h=>hs h.symm
    rw [if_neg hs] at he
    simp only [↓Sh.dn,sx,Nat.reduceBEq,reduceCtorEq,Nat.reduceEqDiff,hs',decide_false,hres,he]
    exact hk2.trans kn
  ·rintro F2 H2 hF2 f23 ⟨hk2,hs⟩
   have g22:=hF2 22 rfl
   simp only [↓Sh.dn,sx,Nat.reduceBEq,reduceCtorEq,Nat.reduceEqDiff] at g22
   rw [if_pos (hs Nat.one_pos)] at he
   simp only [↓Sh.dn,sx,Nat.reduceBEq,reduceCtorEq,Nat.reduceEqDiff,g22,f23,A9a,Nat.lt_irrefl,decide_false,hres,he]
   exact hk2
end Go.Proofs.YtnoengaghabmjaaGreatDoor
/- A state is marked and put into a list. -/
namespace Go.Proofs.YtnoengaghabmjaaGreatDoor
open Go Go.Proofs Go.Proofs.Sh
end Go.Proofs.YtnoengaghabmjaaGreatDoor
/- Reading the graph of the program; maps of marks. -/
namespace Go.Proofs.YtnoengaghabmjaaGreatDoor
open Go Go.Proofs Go.Proofs.Sh
def natK (n:Nat):Value:=.int .i64 (n:Int)
theorem C9e (a:Nat):A4j Tryz.prog 3 (natK a)=true:=by
 unfold A4j natK
 simp only [plainKey,keyT,A4f,Tryz.underlying3,Bool.and_self]; rfl
theorem C3w (a b:Nat):eqT Tryz.prog A4f 3 (natK a) (natK b)=some (decide (a=b)):=by
 unfold natK
 show eqT Tryz.prog (19+1) _ _ _=_
 rw [A17]
 congr 1
 exact decide_eq_decide.2 Int.ofNat_inj
def BMap (H:AH) (g:Nat) (D:List Nat):Prop:=MapIs H g natK (D.map fun t=>(t,.bool true))
theorem B7j (D:List Nat) (t:Nat):A6q (D.map fun t=>(t,Value.bool true)) t=if t∈D then some (.bool true) else none:=by
 unfold A6q
 by_cases h:t∈D
 ·rw [if_pos h]
  cases hf:(D.map fun t=>(t,Value.bool true)).find? fun p=>decide (t=p.1) with
  | none=>
   rw [List.find?_eq_none] at hf
   have:=hf (t,.bool true) (List.mem_map.2 ⟨t,h,rfl⟩)
   simp at this
  | some p=>
   have:=List.mem_of_find?_eq_some hf
   obtain ⟨u,_,rfl⟩:=List.mem_map.1 this
   rfl
 ·rw [if_neg h]
  have:(D.map fun t=>(t,Value.bool true)).find? (fun p=>decide (t=p.1))=none:=by
   rw [List.find?_eq_none]
   rintro p hp
   obtain ⟨u,hu,rfl⟩:=List.mem_map.1 hp
   simp only [decide_eq_true_eq]
   rintro rfl
   exact h hu
  rw [this]; rfl
theorem BMap.look {H:AH} {g:Nat} {D:List Nat} (h:BMap H g D) (t:Nat):A6n Tryz.prog 195 (.map (some g)) (.int .i64 (t:Int)) false H=some (.bool (decide (t∈D))):=by
 have:=MapIs.look (P:=Tryz.prog) (ok:=false) Tryz.underlying195 A94 C9e C3w h t
 rw [B7j] at this
 unfold natK at this
 rw [this]
 by_cases hd:t∈D <;> simp [hd]
theorem BMap.add {H:AH} {g:Nat} {D:List Nat} (h:BMap H g D) (hw:Wf H) {t:Nat} (ht:t∉D):∃ H',A3e Tryz.prog 195 (.map (some g)) (.int .i64 (t:Int)) (.bool true) H=some H'∧BMap H' g (D++[t])∧Chg (fun y=>y=g) H H'∧H'.next=H.next:=by
 obtain ⟨H',h1,h2,h3,h4⟩:=MapIs.add (P:=Tryz.prog) Tryz.underlying195 C9e C3w h hw (a:=t) (by rw [B7j,if_neg ht]) (.bool true)
 exact ⟨H',h1,by unfold BMap; rw [List.map_append]; exact h2,h3,h4⟩
theorem C8c {H:AH}:anew Tryz.prog 107 H (.agg #[.int .i64 0,.int .i64 0,.int .i64 0,.int .i64 0])=some (.pointer (some ⟨H.next,0,some 0⟩),(H.new 4 [.int .i64 0,.int .i64 0,.int .i64 0,.int .i64 0]).2):=A4n (vs:=[.int .i64 0,.int .i64 0,.int .i64 0,.int .i64 0]) A6z rfl rfl
theorem B5m {H:AH} {e:Nat×Int×Int×Int} {p:Addr}:A4h Tryz.prog 107 H (.agg (A3h e).toArray) (.pointer (some p))=H.write p (A3h e):=A4q A6z rfl rfl
theorem C1b {H:AH} {e:Nat×Int×Int×Int} {x0 x1 x2 x3:Value}:(H.new 4 [x0,x1,x2,x3]).2.write ⟨H.next,0,some 0⟩ (A3h e)=some (H.new 4 (A3h e)).2:=A3q rfl
theorem ge0 {H:AH} {e:Nat×Int×Int×Int}:(H.new 4 (A3h e)).2.cell ⟨H.next,0,some 0⟩=some (.int .i64 (e.1:Int)):=A1k _ _ _
theorem ge1 {H:AH} {e:Nat×Int×Int×Int}:(H.new 4 (A3h e)).2.cell ⟨H.next,1,some 0⟩=some (.int .i64 e.2.1):=A1k _ _ _
theorem ge2 {H:AH} {e:Nat×Int×Int×Int}:(H.new 4 (A3h e)).2.cell ⟨H.next,2,some 0⟩=some (.int .i64 e.2.2.1):=A1k _ _ _
theorem ge3 {H:AH} {e:Nat×Int×Int×Int}:(H.new 4 (A3h e)).2.cell ⟨H.next,3,some 0⟩=some (.int .i64 e.2.2.2):=A1k _ _ _
theorem geAll {H:AH} {e:Nat×Int×Int×Int}:(H.new 4 (A3h e)).2.cells ⟨H.next,0,some 0⟩ 4=some (A3h e):=(Sh.Obj.new (H:=H) 4 (A3h e)).cells (i:=0) (n:=4) (by simp [A3h])
theorem PG.row {H:AH} {g n rb:Nat} {E:List (List (Nat×Int×Int×Int))} {ends:List Int} {sv av ev cv:Value} {vals:List Value} {sigma:List ByteArray} {costs:List Int} (h:PG H g n rb E ends sv av ev cv vals sigma costs) {s:Nat} {r:List (Nat×Int×Int×Int)} (hr:E[s]?=some r):
  ∃ p w,A8d Tryz.prog 101 av (.int .i64 (s:Int))=some (.pointer (some p))∧H.cell p=some w∧Sl H w 4 (r.map A3h)∧∀ H',A5a Tryz.prog .len [108] [w] H'=some (.int .i64 (r.length:Int),H'):=by
 obtain ⟨ga,oa,ka,w,h1,h2,h3⟩:=h.gr.jag.at Tryz.underlying101 A9r (i:=s) (r:=r.map A3h) (by unfold A5l; rw [List.getElem?_map,hr]; rfl)
 exact ⟨_,w,h1,h2,h3,fun H'=>by rw [h3.len Tryz.underlying108,List.length_map]⟩
theorem PG.edge {H:AH} {w:Value} {r:List (Nat×Int×Int×Int)} (h:Sl H w 4 (r.map A3h)) {q:Nat} (hq:q < r.length):
  ∃ p,A8d Tryz.prog 108 w (.int .i64 (q:Int))=some (.pointer (some p))∧H.cells p 4=some (A3h r[q]):=by
 obtain ⟨g',o',k',h1,h2,_⟩:=h.at Tryz.underlying108 A6z (i:=q) (x:=A3h r[q]) (by simp [hq]) .i64
 exact ⟨_,h1,h2⟩
end Go.Proofs.YtnoengaghabmjaaGreatDoor
/- slices.Clone. -/
namespace Go.Proofs.YtnoengaghabmjaaGreatDoor
open Go Go.Proofs Go.Proofs.Sh
theorem B51 {H:AH} {v:Value} {l:List (List Value)} (hs:Sl H v 1 l) (hl:l.length≤1073741823) (hw:Wf H):
  Sh.Call Tryz.prog (knows 8) 72 [v] H (fun r H'=>Kept H H'∧∃ b,Buf H' 1 r l b∧∀ g,b=some g→H.next≤g):=by
 refine A3b rfl Tryz.func72 rfl (Nat.le_of_ble_eq_true rfl) ?_
 have hres:Tryz.f72.results.toList=[.tmp 2]:=rfl
 obtain ⟨a,cap,rfl,h2,h3,h4⟩:=id hs
 cases a with
 | none=>
  obtain ⟨rfl,rfl⟩:=h3 rfl
  simp only [↓Sh.dn,sx,Nat.reduceBEq,reduceCtorEq,Nat.reduceEqDiff,List.length_nil,Option.isNone_none,hres]
  exact ⟨Kept.refl hw,none,.void none,fun g h=>by cases h⟩
 | some a=>
  have hs1:=hs.grow (HGrow.new hw 1 [])
  have hk1:Kept H (H.new 1 []).2:=Kept.new hw 1 []
  obtain ⟨v',H',b',e1,e2,e3,e4⟩:=(Buf.void (H:=(H.new 1 []).2) (s:=1) (some ⟨H.next,0,some 0⟩)).append hk1.wf h2
  have happ:=app_22 (base:=some ⟨H.next,0,some 0⟩) (len:=0) (cap:=0) (hs1.srcKind Tryz.underlying22) hs1.newCells (by omega)
  have hk2:Kept (H.new 1 []).2 H':=e3.kept fun g hg h=>by cases h
  simp only [↓Sh.dn,sx,Nat.reduceBEq,reduceCtorEq,Nat.reduceEqDiff,Option.isNone_some,happ,e1,hres]
  refine ⟨hk1.trans hk2,b',by simpa using e2,fun g hg=>?_⟩
  rcases e4 with rfl | ⟨rfl,_⟩
  ·cases hg
  ·cases hg; exact Nat.le_succ _
theorem B08 {H:AH} {v:Value} {l:List (List Value)} (hs:Sl H v 1 l) (hl:l.length≤1048576) (hw:Wf H):
  Sh.Call Tryz.prog (knows 8) 72 [v] H (fun r H'=>Kept H H'∧∃ b,Buf H' 1 r l b∧∀ g,b=some g→H.next≤g):=B51 hs (Nat.le_trans hl (by decide)) hw
end Go.Proofs.YtnoengaghabmjaaGreatDoor
/- (*graph.Graph).Net: the net of a graph. -/
namespace Go.Proofs.YtnoengaghabmjaaGreatDoor
open Go Go.Proofs Go.Proofs.Sh
def A1t (sigma:List ByteArray) (k:Int):ByteArray:=if k < 0 then ⟨#[]⟩ else sigma.getD k.toNat ⟨#[]⟩
theorem B4y {H:AH} {g:Nat} {sv av ev cv:Value} {vals:List Value} {sigma:List ByteArray} {rows:List (List (List Value))} {ends costs:List Int} (h:GrR H g sv av ev cv vals sigma rows ends costs) {k:Int} (hk:k < sigma.length):
  Sh.Call Tryz.prog (knows 8) 73 [.pointer (some ⟨g,0,some 0⟩),.int .i64 k] H (fun r H'=>H'=H∧r=.string (A1t sigma k)):=by
 refine A3b rfl Tryz.func73 rfl (Nat.le_of_ble_eq_true rfl) ?_
 have hres:Tryz.f73.results.toList=[.tmp 4]:=rfl
 have hc:=h.arr.cell 0
 by_cases h0:k < 0
 ·have:A1t sigma k=⟨#[]⟩:=if_pos h0
  simp only [↓Sh.dn,sx,Nat.reduceBEq,reduceCtorEq,Nat.reduceEqDiff,h0,decide_true,hres,this]
 ·obtain ⟨i,rfl⟩:∃ i:Nat,k=(i:Int):=⟨k.toNat,by omega⟩
  have hi:i < sigma.length:=by omega
  have:A1t sigma (i:Int)=sigma[i]:=by unfold A1t; rw [if_neg h0]; simp [List.getD,hi]
  obtain ⟨p,hia,hcc⟩:=Sl.elem (s:=1) Tryz.underlying22 A6l h.sg (i:=i) (u:=.string sigma[i]) (by rw [List.getElem?_map,List.getElem?_eq_getElem hi]; rfl)
  simp only [↓Sh.dn,sx,Nat.reduceBEq,reduceCtorEq,Nat.reduceEqDiff,h0,decide_false,hc,hia,hcc,hres,this]
abbrev GE:=Nat×Int×Int×Int
def geK (e:GE):Value:=.agg (A3h e).toArray
theorem held_ge:Tryz.prog.stoodInHeld 107=false:=by kernel_rfl
theorem geK_eq (a b:GE):eqT Tryz.prog A4f 107 (geK a) (geK b)=some (decide (a=b)):=by
 show eqT Tryz.prog (19+1) _ _ _=_
 obtain ⟨a0,a1,a2,a3⟩:=a
 obtain ⟨b0,b1,b2,b3⟩:=b
 rw [eqT.eq_def]
 simp only [geK,A3h,Tryz.underlying107,held_ge,cond_false,eqFields,apart,B7c,List.getElem?_cons_zero,List.getElem?_cons_succ,Option.bind_some,A17 (d:=18)]
 have s1:("To" == "_")=false:=rfl
 have s2:("In" == "_")=false:=rfl
 have s3:("Out" == "_")=false:=rfl
 have s4:("Cost" == "_")=false:=rfl
 simp only [s1,s2,s3,s4,cond_false]
 have e0:((a0:Int)=(b0:Int))↔a0=b0:=Int.ofNat_inj
 simp only [e0,Prod.mk.injEq]
 by_cases h0:a0=b0
 ·by_cases h1:a1=b1
  ·by_cases h2:a2=b2
   ·by_cases h3:a3=b3
    ·simp [h0,h1,h2,h3]
    ·simp [h0,h1,h2,h3]
   ·simp [h0,h1,h2]
  ·simp [h0,h1]
 ·simp [h0]
theorem C9t (a:GE):A4j Tryz.prog 107 (geK a)=true:=by
 obtain ⟨a0,a1,a2,a3⟩:=a
 unfold A4j
 rw [Bool.and_eq_true]
 refine ⟨rfl,?_⟩
 show keyT Tryz.prog (19+1) _ _=true
 rw [keyT.eq_def]
 simp only [geK,A3h,Tryz.underlying107]
 have hk:∀ n:Int,keyT Tryz.prog 19 3 (.int .i64 n)=true:=fun n=>by
  show keyT Tryz.prog (18+1) _ _=true
  rw [keyT.eq_def]
  simp only [Tryz.underlying3]
 simp only [List.all_cons,List.all_nil,apart,B7c,List.getElem?_cons_zero,List.getElem?_cons_succ,hk,Bool.or_true,Bool.and_self]
def EMap (H:AH) (g:Nat) (D:List GE):Prop:=MapIs H g geK (D.map fun t=>(t,.bool true))
theorem B0l {α:Type} [DecidableEq α] (v:Value) (D:List α) (t:α):A6q (D.map fun t=>(t,v)) t=if t∈D then some v else none:=by
 unfold A6q
 by_cases h:t∈D
 ·rw [if_pos h]
  cases hf:(D.map fun t=>(t,v)).find? fun p=>decide (t=p.1) with
  | none=>
   rw [List.find?_eq_none] at hf
   have:=hf (t,v) (List.mem_map.2 ⟨t,h,rfl⟩)
   simp at this
  | some p=>
   have:=List.mem_of_find?_eq_some hf
   obtain ⟨u,_,rfl⟩:=List.mem_map.1 this
   rfl
 ·rw [if_neg h]
  have:(D.map fun t=>(t,v)).find? (fun p=>decide (t=p.1))=none:=by
   rw [List.find?_eq_none]
   rintro p hp
   obtain ⟨u,hu,rfl⟩:=List.mem_map.1 hp
   simp only [decide_eq_true_eq]
   rintro rfl
   exact h hu
  rw [this]; rfl
theorem EMap.look {H:AH} {g:Nat} {D:List GE} (h:EMap H g D) (t:GE):A6n Tryz.prog 113 (.map (some g)) (.agg (A3h t).toArray) false H=some (.bool (decide (t∈D))):=by
 have:=MapIs.look (P:=Tryz.prog) (ok:=false) Tryz.underlying113 A94 C9t geK_eq h t
 rw [B0l] at this
 unfold geK at this
 rw [this]
 by_cases hd:t∈D <;> simp [hd]
theorem EMap.add {H:AH} {g:Nat} {D:List GE} (h:EMap H g D) (hw:Wf H) {t:GE} (ht:t∉D):∃ H',A3e Tryz.prog 113 (.map (some g)) (.agg (A3h t).toArray) (.bool true) H=some H'∧EMap H' g (D++[t])∧Chg (fun y=>y=g) H H'∧H'.next=H.next:=by
 obtain ⟨H',h1,h2,h3,h4⟩:=MapIs.add (P:=Tryz.prog) Tryz.underlying113 C9t geK_eq h hw (a:=t) (by rw [B0l,if_neg ht]) (.bool true)
 exact ⟨H',h1,by unfold EMap; rw [List.map_append]; exact h2,h3,h4⟩
structure NB (H:AH) (base gb:Nat) (cl av ev:Value) (os oa oe:Option Nat) (n:Nat) (sigma:List ByteArray) (arcs:List ArcD) (es:List EndD):Prop where
 bx:Arr H gb 0 4 [cl,.int .i64 (n:Int),av,ev]
 sg:Buf H 1 cl (sigma.map A1b) os
 ar:Buf H 5 av (arcs.map ArcD.cells) oa
 en:Buf H 2 ev (es.map EndD.cells) oe
 b0:base≤gb
 bs:∀ y,os=some y→base≤y∧y≠gb
 ba:∀ y,oa=some y→base≤y∧y≠gb∧os≠some y
 be:∀ y,oe=some y→base≤y∧y≠gb∧os≠some y∧oa≠some y
section
variable {H H':AH} {base gb n:Nat} {cl av ev:Value} {os oa oe:Option Nat} {sigma:List ByteArray} {arcs:List ArcD} {es:List EndD}
theorem NB.chg (h:NB H base gb cl av ev os oa oe n sigma arcs es) (hw:Wf H) {X:Nat→Prop} (hc:Chg X H H') (hx:∀ y,X y→y≠gb∧os≠some y∧oa≠some y∧oe≠some y):NB H' base gb cl av ev os oa oe n sigma arcs es:=
 { h with
  bx:=h.bx.keep (hc.old gb (h.bx.lt hw) fun hy=>(hx gb hy).1 rfl)
  sg:=h.sg.chg hw hc fun y hy hX=>(hx y hX).2.1 hy
  ar:=h.ar.chg hw hc fun y hy hX=>(hx y hX).2.2.1 hy
  en:=h.en.chg hw hc fun y hy hX=>(hx y hX).2.2.2 hy }
theorem NB.kept (h:NB H base gb cl av ev os oa oe n sigma arcs es) (hw:Wf H) (hk:Kept H H'):NB H' base gb cl av ev os oa oe n sigma arcs es:=h.chg hw (hk.chg (X:=none')) fun y hy=>hy.elim
theorem NB.pushArc (h:NB H base gb cl av ev os oa oe n sigma arcs es) (hw:Wf H) (a:ArcD) (hl:arcs.length≤1073741823):
  ∃ b cap av' H1 H2 oa',av=.slice b arcs.length cap∧A4a Tryz.prog 23 1 [(0,.agg a.cells.toArray)] H=some (.slice (some ⟨H.next,0,some 0⟩) 1 1,(H.new 5 a.cells).2)∧
   A5a Tryz.prog .append [23,23] [.slice b arcs.length cap,.slice (some ⟨H.next,0,some 0⟩) 1 1] (H.new 5 a.cells).2=some (av',H1)∧
   A4h Tryz.prog 23 H1 av' (.pointer (some ⟨gb,2,some 0⟩))=some H2∧NB H2 base gb cl av' ev os oa' oe n sigma (arcs++[a]) es∧Chg (fun y=>base≤y∧(y=gb∨oa=some y)) H H2∧∀ y,oa'=some y→oa=some y∨H.next≤y:=by
 obtain ⟨b,cap,av',H1,oa',rfl,e1,e2,e3,e4⟩:=h.ar.push hw (x:=a.cells) rfl
 rw [List.length_map] at e1
 have hbs:=B7t (H:=H) (x:=.agg a.cells.toArray) rfl rfl
 have va:∀ xs:Array Value,A8a (.agg xs)=xs.toList:=fun _=>rfl
 simp only [va] at hbs
 have ha:=C9n (H:=H) (base:=b) (len:=arcs.length) (cap:=cap) (x:=a.cells) rfl hl
 rw [e1] at ha
 have hgb:=h.bx.lt hw
 have bx1:=h.bx.keep (e3.old gb hgb fun hy=>(h.ba gb hy).2.1 rfl)
 obtain ⟨H2,w1,ar1,v1,z1⟩:=bx1.write e3.wf (i:=2) (vs:=[av']) (by simp)
 have sc:setCells [cl,.int .i64 (n:Int),.slice b arcs.length cap,ev] 2 [av']=[cl,.int .i64 (n:Int),av',ev]:=rfl
 rw [List.length_map] at ar1
 rw [sc] at ar1
 have st:A4h Tryz.prog 23 H1 av' (.pointer (some ⟨gb,2,some 0⟩))=some H2:=by rw [A8i A9w e2.isCell,w1]
 have old:∀ y,oa'=some y→oa=some y∨H.next≤y:=e4
 have z0:Chg (fun y=>base≤y∧(y=gb∨oa=some y)) H H1:=e3.weak fun y hy=>⟨(h.ba y hy).1,.inr hy⟩
 have z2:Chg (fun y=>base≤y∧(y=gb∨oa=some y)) H1 H2:=z1.weak fun y hy=>⟨by rw [hy]; exact h.b0,.inl hy⟩
 refine ⟨b,cap,av',H1,H2,oa',by rw [List.length_map],hbs,ha,st,⟨ar1,?_,?_,?_,h.b0,h.bs,fun y hy=>?_,fun y hy=>?_⟩,z0.trans z2,old⟩
 ·exact (h.sg.chg hw e3 fun y hy hya=>(h.ba y hya).2.2 hy).chg e3.wf z1 fun y hy hyg=>(h.bs y hy).2 hyg
 ·rw [List.map_append]
  refine e2.chg e3.wf z1 fun y hy hyg=>?_
  rcases old y hy with h1 | h1
  ·exact (h.ba y h1).2.1 hyg
  ·omega
 ·exact (h.en.chg hw e3 fun y hy hya=>(h.be y hy).2.2.2 hya).chg e3.wf z1 fun y hy hyg=>(h.be y hy).2.1 hyg
 ·rcases old y hy with h1 | h1
  ·exact h.ba y h1
  ·have h0:=h.b0
   exact ⟨by omega,by omega,fun hs=>by have:=h.sg.lt hw y hs; omega⟩
 ·have h5:=h.be y hy
  refine ⟨h5.1,h5.2.1,h5.2.2.1,fun ha=>?_⟩
  rcases old y ha with h1 | h1
  ·exact h5.2.2.2 h1
  ·have:=h.en.lt hw y hy; omega
theorem NB.pushEnd (h:NB H base gb cl av ev os oa oe n sigma arcs es) (hw:Wf H) (x:EndD) (hl:es.length≤1073741823):
  ∃ b cap ev' H1 H2 oe',ev=.slice b es.length cap∧A4a Tryz.prog 24 1 [(0,.agg x.cells.toArray)] H=some (.slice (some ⟨H.next,0,some 0⟩) 1 1,(H.new 2 x.cells).2)∧
   A5a Tryz.prog .append [24,24] [.slice b es.length cap,.slice (some ⟨H.next,0,some 0⟩) 1 1] (H.new 2 x.cells).2=some (ev',H1)∧
   A4h Tryz.prog 24 H1 ev' (.pointer (some ⟨gb,3,some 0⟩))=some H2∧NB H2 base gb cl av ev' os oa oe' n sigma arcs (es++[x])∧Chg (fun y=>base≤y∧(y=gb∨oe=some y)) H H2∧∀ y,oe'=some y→oe=some y∨H.next≤y:=by
 obtain ⟨b,cap,ev',H1,oe',rfl,e1,e2,e3,e4⟩:=h.en.push hw (x:=x.cells) rfl
 rw [List.length_map] at e1
 have hbs:=C8t (H:=H) (x:=.agg x.cells.toArray) rfl rfl
 have va:∀ xs:Array Value,A8a (.agg xs)=xs.toList:=fun _=>rfl
 simp only [va] at hbs
 have ha:=app1_24 (H:=H) (base:=b) (len:=es.length) (cap:=cap) (x:=x.cells) rfl hl
 rw [e1] at ha
 have hgb:=h.bx.lt hw
 have bx1:=h.bx.keep (e3.old gb hgb fun hy=>(h.be gb hy).2.1 rfl)
 obtain ⟨H2,w1,ar1,v1,z1⟩:=bx1.write e3.wf (i:=3) (vs:=[ev']) (by simp)
 have sc:setCells [cl,.int .i64 (n:Int),av,.slice b es.length cap] 3 [ev']=[cl,.int .i64 (n:Int),av,ev']:=rfl
 rw [List.length_map] at ar1
 rw [sc] at ar1
 have st:A4h Tryz.prog 24 H1 ev' (.pointer (some ⟨gb,3,some 0⟩))=some H2:=by rw [A8i C9u e2.isCell,w1]
 have old:∀ y,oe'=some y→oe=some y∨H.next≤y:=e4
 have z0:Chg (fun y=>base≤y∧(y=gb∨oe=some y)) H H1:=e3.weak fun y hy=>⟨(h.be y hy).1,.inr hy⟩
 have z2:Chg (fun y=>base≤y∧(y=gb∨oe=some y)) H1 H2:=z1.weak fun y hy=>⟨by rw [hy]; exact h.b0,.inl hy⟩
 refine ⟨b,cap,ev',H1,H2,oe',by rw [List.length_map],hbs,ha,st,⟨ar1,?_,?_,?_,h.b0,h.bs,h.ba,fun y hy=>?_⟩,z0.trans z2,old⟩
 ·exact (h.sg.chg hw e3 fun y hy hye=>(h.be y hye).2.2.1 hy).chg e3.wf z1 fun y hy hyg=>(h.bs y hy).2 hyg
 ·exact (h.ar.chg hw e3 fun y hy hye=>(h.be y hye).2.2.2 hy).chg e3.wf z1 fun y hy hyg=>(h.ba y hy).2.1 hyg
 ·rw [List.map_append]
  refine e2.chg e3.wf z1 fun y hy hyg=>?_
  rcases old y hy with h1 | h1
  ·exact (h.be y h1).2.1 hyg
  ·omega
 ·rcases old y hy with h1 | h1
  ·exact h.be y h1
  ·have h0:=h.b0
   exact ⟨by omega,by omega,fun hs=>by have:=h.sg.lt hw y hs; omega,fun ha=>by have:=h.ar.lt hw y ha; omega⟩
end
def B4a (sigma:List ByteArray) (s:Nat) (e:GE):ArcD:=⟨s,A1t sigma e.2.1,A1t sigma e.2.2.1,e.1,e.2.2.2⟩
theorem graphNet {H:AH} {X:Nat→Prop} {g n:Nat} {sigma:List ByteArray} {ends costs:List Int} {E:List (List GE)}
  (h:GrX H X g sigma (A5l E) ends costs) (hE:E.length=n) (he:ends.length=n) (hcl:costs.length=n) (hn1:1≤n) (hn:n≤3000) (hsg:sigma.length≤1048576) (hto:∀ r∈E,∀ e∈r,e.1 < n∧e.2.1 < sigma.length∧e.2.2.1 < sigma.length) (htot:(E.map List.length).sum≤1048576) (hw:Wf H):
  Sh.Call Tryz.prog (knows 8) 41 [.pointer (some ⟨g,0,some 0⟩)] H (fun r H'=>Kept H H'∧∃ M:NetD,(∀ H'',(∀ y,H.next≤y→H''.objs.get y=H'.objs.get y)→Nonempty (A8k H'' r M))∧M.sigma=sigma∧M.states=(n:Int)∧M.arcs.length≤(E.map List.length).sum∧(∀ a,a∈M.arcs↔∃ (s:Nat) (r:List GE),E[s]?=some r∧∃ e∈r,a=B4a sigma s e)∧M.ends.length≤n∧∀ x,x∈M.ends↔∃ s:Nat,s < n∧0 < ends.getD s 0∧x=⟨(s:Int),costs.getD s 0⟩):=by
 refine A3b rfl Tryz.func41 rfl (Nat.le_of_ble_eq_true rfl) ?_
 have hres:Tryz.f41.results.toList=[.cell 2 26]:=rfl
 obtain ⟨sv,av,ev,cv,vals,hR⟩:=h.read
 have hpre:∀ i,((E.take i).map List.length).sum≤(E.map List.length).sum:=fun i=>by
  have h1:((E.take i).map List.length).sum+((E.drop i).map List.length).sum=(E.map List.length).sum:=by
   rw [← List.sum_append,← List.map_append,List.take_append_drop]
  omega
 have hrl:∀ (s:Nat) r,E[s]?=some r→r.length≤1048576:=fun s r hr=>by
  have h1:=hpre (s+1)
  have h2:E.take (s+1)=E.take s++[r]:=by rw [List.take_add_one,hr]; rfl
  rw [h2,List.map_append,List.sum_append] at h1
  simp at h1; omega
 have hP:PG H g n 1048576 E ends sv av ev cv vals sigma costs:=⟨hR,hE,he,hn1,hn,fun s r hr=>⟨hrl s r hr,fun e he'=>(hto r (List.mem_of_getElem? hr) e he').1⟩⟩
 have hlenA:∀ H',A5a Tryz.prog .len [101] [av] H'=some (.int .i64 (n:Int),H'):=fun H'=>by
  rw [hR.jag.sl.len Tryz.underlying101,List.length_map,hR.jag.len]; unfold A5l; rw [List.length_map,hE]
 simp only [↓Sh.dn,sx,Nat.reduceBEq,reduceCtorEq,Nat.reduceEqDiff,A1c]
 have k0:=Kept.new hw 4 [.slice none 0 0,.int .i64 0,.slice none 0 0,.slice none 0 0]
 have o0:=Sh.Obj.new (H:=H) 4 [.slice none 0 0,.int .i64 0,.slice none 0 0,.slice none 0 0]
 have x0:H.next < (H.new 4 [.slice none 0 0,.int .i64 0,.slice none 0 0,.slice none 0 0]).2.next:=Nat.lt_succ_self _
 obtain ⟨go,hgo⟩:∃ y,H.next=y:=⟨_,rfl⟩
 rw [hgo] at o0 x0
 generalize (H.new 4 [.slice none 0 0,.int .i64 0,.slice none 0 0,.slice none 0 0]).2=H0 at k0 o0 x0 ⊢
 have k1:=Kept.new k0.wf 4 [.slice none 0 0,.int .i64 0,.slice none 0 0,.slice none 0 0]
 have o1:=Sh.Obj.new (H:=H0) 4 [.slice none 0 0,.int .i64 0,.slice none 0 0,.slice none 0 0]
 have x1:H0.next < (H0.new 4 [.slice none 0 0,.int .i64 0,.slice none 0 0,.slice none 0 0]).2.next:=Nat.lt_succ_self _
 have m1:∀ x,(H0.new 4 [.slice none 0 0,.int .i64 0,.slice none 0 0,.slice none 0 0]).2.objs.get H0.next=some x→A66 x x=true:=by
  intro x hx
  have:=o1
  unfold Sh.Obj at this
  rw [this] at hx
  injection hx with hx
  subst hx
  simp [A66,C1l,A6k,A1n,A5e,A3d]
 obtain ⟨H1,hH1⟩:∃ K,(H0.new 4 [.slice none 0 0,.int .i64 0,.slice none 0 0,.slice none 0 0]).2=K:=⟨_,rfl⟩
 have nz:=A1c (H:=H0)
 rw [hH1] at k1 o1 x1 m1 nz
 have k01:=k0.trans k1
 have hR0:=hR.kept hw k0
 have hR1:=hR.kept hw k01
 obtain ⟨r2,H2,hd2,hk2,os,hcb,hcf⟩:=B08 hR1.sg (by rw [List.length_map]; exact hsg) k1.wf
 have k02:=k01.trans hk2
 have ic:=hcb.isCell
 have bq:A2m Tryz.prog 26 [(0,r2),(1,.int .i64 (n:Int))]=some (.agg #[r2,.int .i64 (n:Int),.slice none 0 0,.slice none 0 0]):=by
  have va:∀ xs:Array Value,A8a (.agg xs)=xs.toList:=fun _=>rfl
  have hci:isCell (.int .i64 (n:Int))=true:=rfl
  refine A9g (pl:=[(0,1),(1,1),(2,1),(3,1)]) Tryz.underlying26 A01 (by kernel_rfl) ?_
  simp [A5r,va,A8b ic,A8b hci,ic,hci,setCells,A6a,A0c]
 have arr2:=o1.arr.keep (hk2.old H0.next x1)
 obtain ⟨H3,w3,ar3,v3,z3⟩:=arr2.write hk2.wf (i:=0) (vs:=[r2,.int .i64 (n:Int),.slice none 0 0,.slice none 0 0]) (by simp)
 have sc:setCells [.slice none 0 0,.int .i64 0,.slice none 0 0,.slice none 0 0] 0 [r2,.int .i64 (n:Int),.slice none 0 0,.slice none 0 0]=[r2,.int .i64 (n:Int),.slice none 0 0,.slice none 0 0]:=rfl
 rw [sc] at ar3
 have st3:=A9z (H:=H2) (n:=(n:Int)) (p:=⟨H0.next,0,some 0⟩) ic (show isCell (.slice none 0 0)=true from rfl) (show isCell (.slice none 0 0)=true from rfl)
 rw [w3] at st3
 have k03:Kept H0 H3:=(k1.trans hk2).then (Nat.le_refl _) (z3.weak fun y hy=>by omega)
 have hnb:NB H3 H0.next H0.next r2 (.slice none 0 0) (.slice none 0 0) os none none n sigma [] []:=
  ⟨ar3,hcb.chg hk2.wf z3 fun y hy e=>by have:=hcf y hy; omega,.void none,.void none,Nat.le_refl _,fun y hy=>by have:=hcf y hy; exact ⟨by omega,by omega⟩,fun y hy=>(by cases hy),fun y hy=>by cases hy⟩
 have hav:=hR.jag.sl.veq
 have hsv:=hR.sg.veq
 refine A8u (fl:=[(0,true),(1,true),(2,true),(3,false),(5,true),(6,true),(7,true),(8,false),(9,false),(11,false),(4,false),(10,true),(12,true)]) (by kernel_rfl) (by kernel_rfl) k0.wf ?_
 have q0:=hR0.arr.cell 0
 have q1:=hR0.arr.cell 1
 have q0':=hR1.arr.cell 0
 have q1':=hR1.arr.cell 1
 simp only [↓Sh.dn,sx,Nat.reduceBEq,reduceCtorEq,Nat.reduceEqDiff,wpg,A50,isEff,A2c,isRead,A7f,A3d,A8f,A9d,A6c,forall_eq,forall_eq',q0,q1,q0',q1',hlenA,nz,hH1,hav,hsv]
 refine ⟨m1,_,_,hd2,hk2.wf,?_⟩
 try refine ⟨hk2.grow k1.wf,?_⟩
 have hR2:=hR.kept hw k02
 have q1'':=hR2.arr.cell 1
 have hR3:=hR.kept hw (k0.trans k03)
 have q3:=hR3.arr.cell 1
 simp only [↓Sh.dn,sx,Nat.reduceBEq,reduceCtorEq,Nat.reduceEqDiff,wpg,A50,isEff,A2c,isRead,A7f,A3d,A8f,A9d,A6c,forall_eq,forall_eq',q1'',hlenA,bq,st3,hav]
 try refine ⟨hk2.grow k1.wf,?_⟩
 try simp only [↓Sh.dn,sx,Nat.reduceBEq,reduceCtorEq,Nat.reduceEqDiff,wpg,A50,isEff,A2c,isRead,A7f,A3d,A8f,A9d,A6c,forall_eq,forall_eq',q3,hlenA]
 refine ⟨k03.wf,?_⟩
 refine A0i n 25 (List.range' 25 61++[4,5,6,8]) (fun i F H'=>Kept H0 H'∧∃ av' ev' oa oe arcs es,NB H' H0.next H0.next r2 av' ev' os oa oe n sigma arcs es∧arcs.length≤((E.take i).map List.length).sum∧(∀ a,a∈arcs↔∃ (s:Nat) (r:List GE),s < i∧E[s]?=some r∧∃ e∈r,a=B4a sigma s e)∧es.length≤i∧∀ x,x∈es↔∃ s:Nat,s < i∧0 < ends.getD s 0∧x=⟨(s:Int),costs.getD s 0⟩) (by simp only [↓Sh.dn,sx,Nat.reduceBEq,reduceCtorEq,Nat.reduceEqDiff]) ⟨k03,_,_,none,none,[],[],hnb,Nat.zero_le _,fun a=>by simp,Nat.le_refl _,fun x=>by simp⟩ ?_ ?_
 ·rintro i F H' hi hF f25 ⟨hk,av',ev',oa,oe,arcs,es,hN,hal,hai,hel,hei⟩ k
  have f0:=hF 0 rfl
  have f3:=hF 3 rfl
  have f23:=hF 23 rfl
  have f24:=hF 24 rfl
  simp only [↓Sh.dn,sx,Nat.reduceBEq,reduceCtorEq,Nat.reduceEqDiff] at f0 f3 f23 f24
  have hiE:i < E.length:=by omega
  have hr:E[i]?=some E[i]:=List.getElem?_eq_getElem hiE
  have hrt:=hto E[i] (List.getElem_mem hiE)
  have htE:E.take (i+1)=E.take i++[E[i]]:=by rw [List.take_add_one,hr]; rfl
  generalize E[i]=r at hr hrt htE
  have hrl2:=hrl i r hr
  have hsum:((E.take (i+1)).map List.length).sum=((E.take i).map List.length).sum+r.length:=by rw [htE]; simp
  have hp1:=hpre (i+1)
  have hkH:=fun {H'} (hk:Kept H0 H')=>k0.trans hk
  obtain ⟨pr,wr,hiar,hcr0,hsr,hlr⟩:=PG.row hP hr
  have hcr:=A8g ((hkH hk).grow hw) hcr0
  have km:=Kept.push hk.wf (.map [])
  have hm0:EMap (H'.push (.map [])).2 H'.next []:=MapIs.new
  have hN0:=hN.kept hk.wf km
  have hgbl:=hN.bx.lt hk.wf
  have osl:=fun y h=>hN.sg.lt hk.wf y h
  have oal:=fun y h=>hN.ar.lt hk.wf y h
  have oel:=fun y h=>hN.en.lt hk.wf y h
  have hkm:=hk.trans km
  simp only [↓Sh.dn,sx,Nat.reduceBEq,reduceCtorEq,Nat.reduceEqDiff,f23,f24,f25,A9a,hi,decide_true,hiar,hcr,hlr]
  have nx:H'.next < (H'.push (.map [])).2.next:=Nat.lt_succ_self _
  obtain ⟨gm,hgm⟩:∃ gm,H'.next=gm:=⟨_,rfl⟩
  rw [hgm] at hm0 hgbl osl oal oel nx
  refine A0i r.length 33 (List.range' 33 30++[8]) (fun q F'' H''=>Kept H0 H''∧∃ av' oa arcs D,NB H'' H0.next H0.next r2 av' ev' os oa oe n sigma arcs es∧EMap H'' gm D∧(∀ y,oa=some y→y≠gm)∧arcs.length≤((E.take i).map List.length).sum+q∧(∀ e,e∈D↔e∈r.take q)∧∀ a,a∈arcs↔(∃ (s:Nat) (r:List GE),s < i∧E[s]?=some r∧∃ e∈r,a=B4a sigma s e)∨∃ e∈r.take q,a=B4a sigma i e) (by simp only [↓Sh.dn,sx,Nat.reduceBEq,reduceCtorEq,Nat.reduceEqDiff]) ⟨hkm,av',oa,arcs,[],hN0,hm0,fun y hy=>by have:=oal y hy; omega,Nat.le_trans hal (Nat.le_add_right _ _),fun e=>by simp,fun a=>by rw [hai]; simp⟩ ?_ ?_
  ·rintro q F'' H'' hq hF'' f33 ⟨hk'',av',oa,arcs,D,hN,hM,hom,hal,hD,hai⟩ k2
   have g0:=hF'' 0 rfl
   have g3:=hF'' 3 rfl
   have g4:=hF'' 4 rfl
   have g6:=hF'' 6 rfl
   have g31:=hF'' 31 rfl
   have g32:=hF'' 32 rfl
   simp only [↓Sh.dn,sx,Nat.reduceBEq,reduceCtorEq,Nat.reduceEqDiff,f0,f3,hgm] at g0 g3 g4 g6 g31 g32
   obtain ⟨pe,hiae,hce⟩:=PG.edge (hsr.grow ((hkH hk'').grow hw)) hq
   have hrq:r[q]∈r:=List.getElem_mem hq
   have htk:r.take (q+1)=r.take q++[r[q]]:=by rw [List.take_add_one,List.getElem?_eq_getElem hq]; rfl
   generalize r[q]=e at hce hrq htk
   obtain ⟨ht1,ht2,ht3⟩:=hrt e hrq
   have kn:=Kept.new hk''.wf 4 (A3h e)
   have hk3:=hk''.trans kn
   have hN3:=hN.kept hk''.wf kn
   have hM3:EMap (H''.new 4 (A3h e)).2 gm D:=hM.keep (kn.old _ (hM.lt hk''.wf))
   have hlk:=hM3.look e
   have hgml:=hM.lt hk''.wf
   have hall:(H''.new 4 (A3h e)).2.cells ⟨H''.next,0,some 0⟩ 4=some (A3h e):=geAll
   have hj:∀ (p:GE→Prop),(∃ e'∈r.take (q+1),p e')↔(∃ e'∈r.take q,p e')∨p e:=fun p=>by
    rw [htk]
    simp only [List.mem_append,List.mem_singleton]
    constructor
    ·rintro ⟨e',h1 | h1,h2⟩
     ·exact .inl ⟨e',h1,h2⟩
     ·subst h1; exact .inr h2
    ·rintro (⟨e',h1,h2⟩ | h2)
     ·exact ⟨e',.inl h1,h2⟩
     ·exact ⟨e,.inr rfl,h2⟩
   simp only [↓Sh.dn,sx,Nat.reduceBEq,reduceCtorEq,Nat.reduceEqDiff,f33,g6,g31,g32,hiae,hce,A9a,hq,decide_true,Option.map_some,C8c,B5m,C1b,hall,hlk]
   by_cases hin:e∈D
   ·simp only [↓Sh.dn,sx,Nat.reduceBEq,reduceCtorEq,Nat.reduceEqDiff,hin,decide_true,f33,A7d hq (Nat.le_trans hrl2 (by decide))]
    refine k2 _ _ (by repeat (first | refine Same.put ?_ rfl | exact Same.rfl' _)) (by simp only [↓Sh.dn,sx,Nat.reduceBEq,reduceCtorEq,Nat.reduceEqDiff]) ⟨hk3,av',oa,arcs,D,hN3,hM3,hom,by omega,fun e'=>?_,fun a=>?_⟩
    ·rw [hD,htk,List.mem_append,List.mem_singleton]
     exact ⟨.inl,fun h=>h.elim id fun h=>by rw [h]; exact (hD e).1 hin⟩
    ·rw [hai,hj]
     constructor
     ·rintro (h1 | h1)
      ·exact .inl h1
      ·exact .inr (.inl h1)
     ·rintro (h1 | h1 | h1)
      ·exact .inl h1
      ·exact .inr h1
      ·exact .inr ⟨e,(hD e).1 hin,h1⟩
   ·obtain ⟨K1,e1,hM4,c4,n4⟩:=hM3.add hk3.wf hin
    have hN4:=hN3.chg hk3.wf c4 fun y hy=>by
     subst hy
     exact ⟨by omega,fun h=>by have:=osl _ h; omega,fun h=>hom _ h rfl,fun h=>by have:=oel _ h; omega⟩
    have hk4:Kept H0 K1:=hk3.then (Nat.le_refl _) (c4.weak fun y hy=>by rw [hy,← hgm]; exact hk.next)
    have hR4:=hR.kept hw (hkH hk4)
    have ob:=(Sh.Obj.new (H:=H'') 4 (A3h e)).arr.keep (c4.old H''.next (Nat.lt_succ_self _) (by omega))
    have c0:K1.cell ⟨H''.next,0,some 0⟩=some (.int .i64 (e.1:Int)):=ob.cell 0
    have c1:K1.cell ⟨H''.next,1,some 0⟩=some (.int .i64 e.2.1):=ob.cell 1
    have c2:K1.cell ⟨H''.next,2,some 0⟩=some (.int .i64 e.2.2.1):=ob.cell 2
    have c3:K1.cell ⟨H''.next,3,some 0⟩=some (.int .i64 e.2.2.2):=ob.cell 3
    have bx2:=hN4.bx.cell 2
    obtain ⟨r5,K5,hd5,rfl,rfl⟩:=B4y hR4 ht2
    obtain ⟨r6,K6,hd6,rfl,rfl⟩:=B4y hR4 ht3
    obtain ⟨b,cap,av2,K7,K8,oa',rfl,e2,e3,e4,hN8,c8,new8⟩:=hN4.pushArc hk4.wf (B4a sigma i e) (by omega)
    have bl:A2m Tryz.prog 43 [(0,.int .i64 (i:Int)),(1,.string (A1t sigma e.2.1)),(2,.string (A1t sigma e.2.2.1)),(3,.int .i64 (e.1:Int)),(4,.int .i64 e.2.2.2)]=some (.agg (B4a sigma i e).cells.toArray):=bld_43 rfl rfl rfl rfl rfl
    have hk8:Kept H0 K8:=hk4.then (Nat.le_refl _) (c8.weak fun y hy=>hy.1)
    have hgm4:=hM4.lt hk4.wf
    have hM8:EMap K8 gm (D++[e]):=hM4.keep (c8.old gm hgm4 fun hy=>by
     rcases hy.2 with h1 | h1
     ·omega
     ·exact hom gm h1 rfl)
    simp only [↓Sh.dn,sx,Nat.reduceBEq,reduceCtorEq,Nat.reduceEqDiff,hin,decide_false,g6,hall,e1]
    refine A6w (fl:=[(0,[]),(1,[]),(2,[]),(3,[]),(4,[]),(5,[]),(7,[]),(8,[]),(9,[]),(11,[]),(12,[]),(13,[]),(14,[]),(6,[14,12,9,1]),(10,[14,12,1]),(15,[]),(16,[]),(17,[]),(18,[]),(19,[])]) (by kernel_rfl) (by kernel_rfl) (by kernel_rfl) ?_
    simp only [↓Sh.dn,sx,Nat.reduceBEq,reduceCtorEq,Nat.reduceEqDiff,wpr,again,A2c,A7f,A3d,A8f,A9d,A6c,A5e,forall_eq,forall_eq',g0,g3,g4,bx2,c0,c1,c2,c3]
    refine ⟨_,_,hd5,?_⟩
    simp only [↓Sh.dn,sx,Nat.reduceBEq,reduceCtorEq,Nat.reduceEqDiff,wpr,again,A2c,A7f,A3d,A8f,A9d,A6c,A5e,forall_eq,forall_eq',g0,g3,g4,bx2,c0,c1,c2,c3]
    refine ⟨_,_,hd6,?_⟩
    simp only [↓Sh.dn,sx,Nat.reduceBEq,reduceCtorEq,Nat.reduceEqDiff,wpr,again,A2c,A7f,A3d,A8f,A9d,A6c,A5e,forall_eq,forall_eq',g0,g3,g4,bx2,c0,c1,c2,c3,bl,e2,e3,e4,f33,A7d hq (Nat.le_trans hrl2 (by decide))]
    refine k2 _ _ (by repeat (first | refine Same.put ?_ rfl | exact Same.rfl' _)) (by simp only [↓Sh.dn,sx,Nat.reduceBEq,reduceCtorEq,Nat.reduceEqDiff]) ⟨hk8,av2,oa',arcs++[B4a sigma i e],D++[e],hN8,hM8,fun y hy=>?_,by simp only [List.length_append,List.length_singleton]; omega,fun e'=>?_,fun a=>?_⟩
    ·rcases new8 y hy with h1 | h1
     ·exact hom y h1
     ·omega
    ·rw [List.mem_append,hD,htk,List.mem_append]
    ·rw [List.mem_append,List.mem_singleton,hai,hj]
     constructor
     ·rintro ((h1 | h1) | h1)
      ·exact .inl h1
      ·exact .inr (.inl h1)
      ·exact .inr (.inr h1)
     ·rintro (h1 | h1 | h1)
      ·exact .inl (.inl h1)
      ·exact .inl (.inr h1)
      ·exact .inr h1
  ·rintro F'' H'' hF'' f33 ⟨hk'',av',oa,arcs,D,hN,hM,hom,hal,hD,hai⟩
   have g0:=hF'' 0 rfl
   have g3:=hF'' 3 rfl
   have g4:=hF'' 4 rfl
   have g25:=hF'' 25 rfl
   have g32:=hF'' 32 rfl
   simp only [↓Sh.dn,sx,Nat.reduceBEq,reduceCtorEq,Nat.reduceEqDiff,f0,f3,f25] at g0 g3 g4 g25 g32
   rw [List.take_length] at hai
   have hR4:=hR.kept hw (hkH hk'')
   have n2:=hR4.arr.cell 2
   have n3:=hR4.arr.cell 3
   have hie:i < ends.length:=by omega
   have hic:i < costs.length:=by omega
   obtain ⟨pa,ia,ca⟩:=Sl.elem (s:=1) Tryz.underlying86 A7h hR4.en (i:=i) (u:=.int .i64 ends[i]) (by rw [List.getElem?_map,List.getElem?_eq_getElem hie]; rfl)
   obtain ⟨pb,ib,cb⟩:=Sl.elem (s:=1) Tryz.underlying86 A7h hR4.co (i:=i) (u:=.int .i64 costs[i]) (by rw [List.getElem?_map,List.getElem?_eq_getElem hic]; rfl)
   have hge:ends.getD i 0=ends[i]:=by simp [List.getD,hie]
   have hgc:costs.getD i 0=costs[i]:=by simp [List.getD,hic]
   have hai2:∀ a,a∈arcs↔∃ (s:Nat) (r:List GE),s < i+1∧E[s]?=some r∧∃ e∈r,a=B4a sigma s e:=fun a=>by
    rw [hai]
    constructor
    ·rintro (⟨s,r',h1,h2⟩ | ⟨e,h1,h2⟩)
     ·exact ⟨s,r',by omega,h2⟩
     ·exact ⟨i,r,by omega,hr,e,h1,h2⟩
    ·rintro ⟨s,r',h1,h2,e,h3,h4⟩
     by_cases hs:s=i
     ·subst hs
      rw [hr] at h2
      exact .inr ⟨e,by rw [Option.some.inj h2]; exact h3,h4⟩
     ·exact .inl ⟨s,r',by omega,h2,e,h3,h4⟩
   simp only [↓Sh.dn,sx,Nat.reduceBEq,reduceCtorEq,Nat.reduceEqDiff,f33,g0,g4,g32,A9a,Nat.lt_irrefl,decide_false,n2,ia,ca]
   by_cases hpos:0 < ends[i]
   ·obtain ⟨b,cap,ev2,K7,K8,oe',rfl,e2,e3,e4,hN8,c8,_⟩:=hN.pushEnd hk''.wf ⟨(i:Int),costs[i]⟩ (by omega)
    have bx3:=hN.bx.cell 3
    have bl:A2m Tryz.prog 45 [(0,.int .i64 (i:Int)),(1,.int .i64 costs[i])]=some (.agg (EndD.cells ⟨(i:Int),costs[i]⟩).toArray):=bld_45 rfl rfl
    have hk8:Kept H0 K8:=hk''.then (Nat.le_refl _) (c8.weak fun y hy=>hy.1)
    simp only [↓Sh.dn,sx,Nat.reduceBEq,reduceCtorEq,Nat.reduceEqDiff,hpos,decide_true]
    refine A6w (fl:=[(0,[]),(1,[]),(2,[]),(3,[]),(4,[]),(5,[]),(6,[]),(7,[]),(8,[]),(9,[]),(10,[]),(11,[]),(12,[]),(13,[]),(14,[])]) (by kernel_rfl) (by kernel_rfl) (by kernel_rfl) ?_
    simp only [↓Sh.dn,sx,Nat.reduceBEq,reduceCtorEq,Nat.reduceEqDiff,wpr,again,A2c,A7f,A3d,A8f,A9d,A6c,A5e,forall_eq,forall_eq',g0,g3,g4,g25,bx3,n3,ib,cb,bl,e2,e3,e4,A7d hi (Nat.le_trans hn (by decide))]
    refine k _ _ ?_ (by simp only [↓Sh.dn,sx,Nat.reduceBEq,reduceCtorEq,Nat.reduceEqDiff]) ⟨hk8,av',ev2,oa,oe',arcs,es++[⟨(i:Int),costs[i]⟩],hN8,by rw [hsum]; exact hal,hai2,by simp; omega,fun x=>?_⟩
    ·repeat refine Same.put ?_ rfl
     exact Same.trans (by repeat (first | refine Same.put ?_ rfl | exact Same.rfl' _)) (hF''.sub rfl)
    ·rw [List.mem_append,List.mem_singleton,hei]
     constructor
     ·rintro (⟨s,h1,h2⟩ | h1)
      ·exact ⟨s,by omega,h2⟩
      ·exact ⟨i,by omega,by rw [hge]; exact hpos,by rw [hgc]; exact h1⟩
     ·rintro ⟨s,h1,h2,h3⟩
      by_cases hs:s=i
      ·subst hs; rw [hgc] at h3; exact .inr h3
      ·exact .inl ⟨s,by omega,h2,h3⟩
   ·simp only [↓Sh.dn,sx,Nat.reduceBEq,reduceCtorEq,Nat.reduceEqDiff,hpos,decide_false,g25,A7d hi (Nat.le_trans hn (by decide))]
    refine k _ _ ?_ (by simp only [↓Sh.dn,sx,Nat.reduceBEq,reduceCtorEq,Nat.reduceEqDiff]) ⟨hk'',av',ev',oa,oe,arcs,es,hN,by rw [hsum]; exact hal,hai2,by omega,fun x=>?_⟩
    ·repeat refine Same.put ?_ rfl
     exact Same.trans (by repeat (first | refine Same.put ?_ rfl | exact Same.rfl' _)) (hF''.sub rfl)
    ·rw [hei]
     constructor
     ·rintro ⟨s,h1,h2⟩; exact ⟨s,by omega,h2⟩
     ·rintro ⟨s,h1,h2,h3⟩
      by_cases hs:s=i
      ·subst hs; rw [hge] at h2; exact absurd h2 hpos
      ·exact ⟨s,by omega,h2,h3⟩
 ·rintro F H' hF f25 ⟨hk,av',ev',oa,oe,arcs,es,hN,hal,hai,hel,hei⟩
  have f2:=hF 2 rfl
  have f3:=hF 3 rfl
  have f24:=hF 24 rfl
  simp only [↓Sh.dn,sx,Nat.reduceBEq,reduceCtorEq,Nat.reduceEqDiff,hgo] at f2 f3 f24
  rw [List.take_of_length_le (by omega)] at hal
  have o0':Sh.Obj H' go 4 [.slice none 0 0,.int .i64 0,.slice none 0 0,.slice none 0 0] true:=by
   unfold Sh.Obj at o0 ⊢
   rw [hk.old go x0]; exact o0
  obtain ⟨H6,w6,ar6,v6,z6⟩:=o0'.arr.write hk.wf (i:=0) (vs:=[r2,.int .i64 (n:Int),av',ev']) (by simp)
  have sc6:setCells [.slice none 0 0,.int .i64 0,.slice none 0 0,.slice none 0 0] 0 [r2,.int .i64 (n:Int),av',ev']=[r2,.int .i64 (n:Int),av',ev']:=rfl
  rw [sc6] at ar6
  have st6:=A9z (H:=H') (n:=(n:Int)) (p:=⟨go,0,some 0⟩) ic hN.ar.isCell hN.en.isCell
  rw [w6] at st6
  have hca:=hN.bx.cells (i:=0) (n:=4) (by simp)
  have hcr:=ar6.cells (i:=0) (n:=4) (by simp)
  have hgb:=hN.b0
  have hN6:=hN.chg hk.wf z6 fun y hy=>by
   subst hy
   exact ⟨by omega,fun h=>by have:=(hN.bs _ h).1; omega,fun h=>by have:=(hN.ba _ h).1; omega,fun h=>by have:=(hN.be _ h).1; omega⟩
  simp only [↓Sh.dn,sx,Nat.reduceBEq,reduceCtorEq,Nat.reduceEqDiff,f2,f3,f24,f25,A9a,Nat.lt_irrefl,decide_false,hca,Option.map_some,List.drop_zero,List.take_succ_cons,List.take_zero,st6,hres,hcr]
  refine ⟨(k0.trans hk).then (Nat.le_of_eq hgo) (z6.weak fun y hy=>by omega),⟨sigma,(n:Int),arcs,es⟩,fun H'' hh=>⟨⟨r2,av',ev',rfl,(hN6.sg.keep fun y hy=>hh y (by have:=(hN6.bs y hy).1; omega)).toSl,(hN6.ar.keep fun y hy=>hh y (by have:=(hN6.ba y hy).1; omega)).toSl,(hN6.en.keep fun y hy=>hh y (by have:=(hN6.be y hy).1; omega)).toSl⟩⟩,rfl,rfl,hal,fun a=>?_,hel,hei⟩
  rw [hai]
  constructor
  ·rintro ⟨s,r,_,h2⟩; exact ⟨s,r,h2⟩
  ·rintro ⟨s,r,h1,h2⟩
   exact ⟨s,r,by rw [← hE]; exact (List.getElem?_eq_some_iff.1 h1).1,h1,h2⟩
end Go.Proofs.YtnoengaghabmjaaGreatDoor
/- (*graph.Graph).Arc: an arc is noted. -/
namespace Go.Proofs.YtnoengaghabmjaaGreatDoor
open Go Go.Proofs Go.Proofs.Sh
theorem graphArc {H:AH} {g:Nat} {sv av ev cv:Value} {ot:Option Nat} {vals:List Value} {rows:List (List (List Value))} {obs:List (Option Nat)} {s:Nat} {r:List (List Value)} {x0 x1 x2 x3:Int}
  (hg:Arr H g 0 4 [sv,av,ev,cv]) (hj:Jag H av ot 4 vals rows obs) (hgj:¬JIn ot obs g) (hr:rows[s]?=some r) (hl:r.length≤1073741823) (hw:Wf H):
  Sh.Call Tryz.prog (knows 8) 67 [.pointer (some ⟨g,0,some 0⟩),.int .i64 (s:Int),.int .i64 x0,.int .i64 x1,.int .i64 x2,.int .i64 x3] H (fun _ H'=>Chg (JIn ot obs) H H'∧∃ vals' obs',Jag H' av ot 4 vals' (rows.set s (r++[[.int .i64 x0,.int .i64 x1,.int .i64 x2,.int .i64 x3]])) obs'∧∀ y,JIn ot obs' y→JIn ot obs y∨H.next≤y):=by
 refine A3b rfl Tryz.func67 rfl (Nat.le_of_ble_eq_true rfl) ?_
 have hres:Tryz.f67.results.toList=[]:=rfl
 have hn:=hg.cell 1
 obtain ⟨a,cap,w',H2,H3,o',p,e1,e2,e3,e4,e5,e6,e7,e8,e9⟩:=hj.pushAt Tryz.underlying101 A9r hw hr (x:=[.int .i64 x0,.int .i64 x1,.int .i64 x2,.int .i64 x3]) rfl
 have hb:=C6j (v0:=.int .i64 x0) (v1:=.int .i64 x1) (v2:=.int .i64 x2) (v3:=.int .i64 x3) rfl rfl rfl rfl
 have hbs:=B1m (H:=H) (x:=.agg #[.int .i64 x0,.int .i64 x1,.int .i64 x2,.int .i64 x3]) rfl rfl
 have ha:=C2a (H:=H) (base:=a) (len:=r.length) (cap:=cap) (x:=[.int .i64 x0,.int .i64 x1,.int .i64 x2,.int .i64 x3]) rfl (by omega)
 rw [e1] at ha
 have hn2:=(hg.keep (e7.old g (hg.lt hw) hgj)).cell 1
 have st:A4h Tryz.prog 108 H2 w' (.pointer (some p))=some H3:=by rw [A8i A9r e8,e4]
 have hav:=hj.top.veq
 have va:∀ xs:Array Value,A8a (.agg xs)=xs.toList:=fun _=>rfl
 simp only [va] at hbs
 refine A6w (fl:=[(0,[]),(1,[]),(2,[]),(3,[]),(4,[]),(5,[]),(6,[]),(7,[]),(8,[]),(9,[]),(10,[]),(11,[]),(12,[]),(13,[]),(14,[]),(15,[]),(16,[]),(17,[]),(18,[3]),(19,[]),(20,[])]) (by kernel_rfl) (by kernel_rfl) (by kernel_rfl) ?_
 simp only [↓Sh.dn,sx,Nat.reduceBEq,reduceCtorEq,Nat.reduceEqDiff,wpr,again,A2c,A7f,A3d,A8f,A9d,A6c,A5e,forall_eq,forall_eq',hn,e2,e3,hb,hbs,ha,hn2,st,hres,hav]
 exact ⟨e6,_,_,e5,e9⟩
end Go.Proofs.YtnoengaghabmjaaGreatDoor
/- (*graph.Graph).End: an end is noted. -/
namespace Go.Proofs.YtnoengaghabmjaaGreatDoor
open Go Go.Proofs Go.Proofs.Sh
def A4r (n c x:Int):Int:=if n=0∨x < c then x else c
theorem B49 {H:AH} {g:Nat} {sv av ev cv:Value} {ends costs:List Int} {oe oc:Option Nat} {s:Nat} {x:Int}
  (hg:Arr H g 0 4 [sv,av,ev,cv]) (he:Buf H 1 ev (ends.map fun n=>[.int .i64 n]) oe) (hc:Buf H 1 cv (costs.map fun n=>[.int .i64 n]) oc)
  (hge:oe≠some g) (hgc:oc≠some g) (hec:∀ y,oe=some y→oc≠some y) (hs:s < ends.length) (hs':s < costs.length) (hw:Wf H)
  (h0:0≤ends[s]) (h1:ends[s]≤1048576):
  Sh.Call Tryz.prog (knows 8) 70 [.pointer (some ⟨g,0,some 0⟩),.int .i64 (s:Int),.int .i64 x] H (fun r H'=>Chg (fun y=>oe=some y∨oc=some y) H H'∧H'.next=H.next∧Buf H' 1 ev ((ends.set s (ends[s]+1)).map fun n=>[.int .i64 n]) oe∧Buf H' 1 cv ((costs.set s (A4r ends[s] costs[s] x)).map fun n=>[.int .i64 n]) oc):=by
 refine A3b rfl Tryz.func70 rfl (Nat.le_of_ble_eq_true rfl) ?_
 have hres:Tryz.f70.results.toList=[]:=rfl
 have hn:=hg.cell 2
 have hm:=hg.cell 3
 obtain ⟨q,o,k,hia,hcs,hcc⟩:=he.toSl.at Tryz.underlying86 A7h (i:=s) (x:=[.int .i64 ends[s]]) (by simp [hs]) .i64
 have hy:=hcc 0 _ rfl
 obtain ⟨q',o',k',hia',hcs',hcc'⟩:=hc.toSl.at Tryz.underlying86 A7h (i:=s) (x:=[.int .i64 costs[s]]) (by simp [hs']) .i64
 have hy':=hcc' 0 _ rfl
 simp only [Nat.add_zero] at hy hy'
 have wu:IntKind.wrap .i64 (ends[s]+1)=ends[s]+1:=by rw [wrap64 (by omega) (by omega)]
 have tl : ∀ H1, Chg (fun y => oc = some y) H H1 → H1.next = H.next → ∃ H2, H1.cell ⟨g, 2, some 0⟩ = some ev ∧ H1.cell ⟨q, o, some k⟩ = some (.int .i64 ends[s]) ∧
     H1.write ⟨q, o, some k⟩ [.int .i64 (ends[s] + 1)] = some H2 ∧ Buf H2 1 ev ((ends.set s (ends[s] + 1)).map fun n => [.int .i64 n]) oe ∧ Chg (fun y => oe = some y ∨ oc = some y) H H2 ∧ Chg (fun y => oe = some y) H1 H2 ∧ H2.next = H.next := by
   intro H1 hch hnx
   have he1 := he.chg hw hch fun y h1 h2 => hec y h1 h2
   obtain ⟨q1, o1, k1, hia1, hcs, hcc⟩ := he1.toSl.at Tryz.underlying86 A7h (i := s) (x := [.int .i64 ends[s]]) (by simp [hs]) .i64
   have hy := hcc 0 _ rfl
   simp only [Nat.add_zero] at hy
   obtain ⟨pe, H2, ia1, e1, b1, c1, n1⟩ := Buf.set (P := Tryz.prog) he1 hch.wf (i := s) (x := [.int .i64 (ends[s] + 1)]) (by simpa using hs) rfl
   have ia := ia1 Tryz.underlying86 A7h (j := .i64)
   rw [hia1] at ia
   injection ia with ia; injection ia with ia; injection ia with ia; subst ia
   rw [hia] at hia1
   injection hia1 with ib; injection ib with ib; injection ib with ib; rw [← ib] at hy e1
   have hg1 := hg.keep (hch.old g (hg.lt hw) hgc)
   exact ⟨H2, hg1.cell 2, hy, e1, by simpa only [List.map_set] using b1, (hch.weak fun _ h => Or.inr h).trans (c1.weak fun _ h => Or.inl h), c1, by rw [n1, hnx]⟩
 have st:∀ (H:AH) (a:Addr) (n:Int),A4h Tryz.prog 3 H (.int .i64 n) (.pointer (some a))=H.write a [.int .i64 n]:=fun H a n=>A8i A7h rfl
 have lastC:∀ H1 H2,Buf H1 1 cv ((costs.set s x).map fun n=>[.int .i64 n]) oc→Wf H1→Chg (fun y=>oe=some y) H1 H2→(ends[s]=0∨x < costs[s])→Buf H2 1 cv ((costs.set s (A4r ends[s] costs[s] x)).map fun n=>[.int .i64 n]) oc:=by
  intro H1 H2 hb hw1 hch h
  unfold A4r
  rw [if_pos h]
  exact hb.chg hw1 hch fun y h1 h2=>hec y h2 h1
 obtain ⟨pc,C1,ia2,f1,d1,g1,m1⟩:=Buf.set (P:=Tryz.prog) hc hw (i:=s) (x:=[.int .i64 x]) (by simpa using hs') rfl
 have ia:=ia2 Tryz.underlying86 A7h (j:=.i64)
 rw [hia'] at ia
 injection ia with ia; injection ia with ia; injection ia with ia; subst ia
 have d1':Buf C1 1 cv ((costs.set s x).map fun n=>[.int .i64 n]) oc:=by simpa only [List.map_set] using d1
 by_cases hz:ends[s]=0
 ·have d:decide (ends[s]=0)=true:=by simp [hz]
  obtain ⟨H2,j2,j3,j4,j5,j6,j7,j8⟩:=tl C1 g1 m1
  simp only [↓Sh.dn,sx,Nat.reduceBEq,reduceCtorEq,Nat.reduceEqDiff,hn,hm,hia,hy,hia',hy',d,st,f1,j2,j3,j4,wu,hres]
  exact ⟨j6,j8,j5,lastC _ _ d1' g1.wf j7 (Or.inl hz)⟩
 ·have d:decide (ends[s]=0)=false:=by simp [hz]
  by_cases hx:x < costs[s]
  ·have d':decide (x < costs[s])=true:=by simp [hx]
   obtain ⟨H2,j2,j3,j4,j5,j6,j7,j8⟩:=tl C1 g1 m1
   simp only [↓Sh.dn,sx,Nat.reduceBEq,reduceCtorEq,Nat.reduceEqDiff,hn,hm,hia,hy,hia',hy',d,d',st,f1,j2,j3,j4,wu,hres]
   exact ⟨j6,j8,j5,lastC _ _ d1' g1.wf j7 (Or.inr hx)⟩
  ·have d':decide (x < costs[s])=false:=by simp [hx]
   obtain ⟨H2,j2,j3,j4,j5,j6,j7,j8⟩:=tl H (Chg.refl hw) rfl
   simp only [↓Sh.dn,sx,Nat.reduceBEq,reduceCtorEq,Nat.reduceEqDiff,hn,hm,hia,hy,hia',hy',d,d',st,j2,j3,j4,wu,hres]
   refine ⟨j6,j8,j5,?_⟩
   have e:costs.set s (A4r ends[s] costs[s] x)=costs:=by
    unfold A4r
    rw [if_neg (by simp [hz,hx])]
    exact List.set_getElem_self hs'
   rw [e]; exact hc.chg hw j7 fun y h1 h2=>hec y h2 h1
end Go.Proofs.YtnoengaghabmjaaGreatDoor
/- (*graph.Graph).Arc, End, State, of a graph that keeps to its own places. -/
namespace Go.Proofs.YtnoengaghabmjaaGreatDoor
open Go Go.Proofs Go.Proofs.Sh
theorem grArcX {H:AH} {X:Nat→Prop} {g:Nat} {sigma:List ByteArray} {rows:List (List (List Value))} {ends costs:List Int} {s:Nat} {r:List (List Value)} {x0 x1 x2 x3:Int}
  (h:GrX H X g sigma rows ends costs) (hr:rows[s]?=some r) (hl:r.length≤1073741823) (hw:Wf H):
  Sh.Call Tryz.prog (knows 8) 67 [.pointer (some ⟨g,0,some 0⟩),.int .i64 (s:Int),.int .i64 x0,.int .i64 x1,.int .i64 x2,.int .i64 x3] H (fun _ H'=>Chg X H H'∧GrX H' (fun y=>X y∨H.next≤y) g sigma (rows.set s (r++[[.int .i64 x0,.int .i64 x1,.int .i64 x2,.int .i64 x3]])) ends costs):=by
 obtain ⟨sv,av,ev,cv,os,ot,oe,oc,vals,obs,h,ho⟩:=h
 refine (graphArc h.arr h.jag h.gj hr hl hw).mono ?_
 rintro _ H' ⟨hc,vals',obs',hj,hin⟩
 have hg:=h.arr.lt hw
 refine ⟨hc.weak fun y hy=>ho y (.inr (.inr (.inl hy))),sv,av,ev,cv,os,ot,oe,oc,vals',obs',?_,?_⟩
 ·exact { h with
  arr:=h.arr.keep (hc.old g hg h.gj)
  sg:=h.sg.chg hw hc h.sj
  jag:=hj
  en:=h.en.chg hw hc h.je
  co:=h.co.chg hw hc h.jc
  fj:=fun _ _=>Nat.zero_le _
  gj:=fun hy=>by
   rcases hin g hy with h1 | h1
   ·exact h.gj h1
   ·omega
  sj:=fun y hy hy2=>by
   rcases hin y hy2 with h1 | h1
   ·exact h.sj y hy h1
   ·have:=h.sg.lt hw y hy; omega
  je:=fun y hy hy2=>by
   rcases hin y hy2 with h1 | h1
   ·exact h.je y hy h1
   ·have:=h.en.lt hw y hy; omega
  jc:=fun y hy hy2=>by
   rcases hin y hy2 with h1 | h1
   ·exact h.jc y hy h1
   ·have:=h.co.lt hw y hy; omega }
 ·rintro y (hy | hy | hy | hy | hy)
  ·exact .inl (ho y (.inl hy))
  ·exact .inl (ho y (.inr (.inl hy)))
  ·rcases hin y hy with h1 | h1
   ·exact .inl (ho y (.inr (.inr (.inl h1))))
   ·exact .inr h1
  ·exact .inl (ho y (.inr (.inr (.inr (.inl hy)))))
  ·exact .inl (ho y (.inr (.inr (.inr (.inr hy)))))
theorem grEndX {H:AH} {X:Nat→Prop} {g:Nat} {sigma:List ByteArray} {rows:List (List (List Value))} {ends costs:List Int} {s:Nat} {x:Int}
  (h:GrX H X g sigma rows ends costs) (hs:s < ends.length) (hs':s < costs.length) (hw:Wf H) (h0:0≤ends[s]) (h1:ends[s]≤1048576):
  Sh.Call Tryz.prog (knows 8) 70 [.pointer (some ⟨g,0,some 0⟩),.int .i64 (s:Int),.int .i64 x] H (fun _ H'=>Chg X H H'∧GrX H' X g sigma rows (ends.set s (ends[s]+1)) (costs.set s (A4r ends[s] costs[s] x))):=by
 obtain ⟨sv,av,ev,cv,os,ot,oe,oc,vals,obs,h,ho⟩:=h
 refine (B49 h.arr h.en h.co h.ge h.gc h.ec hs hs' hw h0 h1).mono ?_
 rintro _ H' ⟨hc,hn,he,hcc⟩
 refine ⟨hc.weak fun y hy=>?_,sv,av,ev,cv,os,ot,oe,oc,vals,obs,{ h with arr:=h.arr.keep (hc.old g (h.arr.lt hw) ?_),sg:=h.sg.chg hw hc ?_,jag:=h.jag.chg hw hc ?_,en:=he,co:=hcc },ho⟩
 ·rcases hy with hy | hy
  ·exact ho y (.inr (.inr (.inr (.inl hy))))
  ·exact ho y (.inr (.inr (.inr (.inr hy))))
 ·rintro (hy | hy)
  ·exact h.ge hy
  ·exact h.gc hy
 ·rintro y hy (hy2 | hy2)
  ·exact h.se y hy hy2
  ·exact h.sc y hy hy2
 ·rintro y hy (hy2 | hy2)
  ·exact h.je y hy2 hy
  ·exact h.jc y hy2 hy
theorem B7n {H H2:AH} {s:Nat} {vals:List Value} (hv:veqs vals vals=true) (he:H2.objs.get H.next=(H.new s vals).2.objs.get H.next):C0p H.next (H.new s vals).2 H2:=by
 intro x hx
 have:=Sh.Obj.new (H:=H) s vals
 unfold Sh.Obj at this
 rw [he]
 refine ⟨hx,?_⟩
 rw [this] at hx
 injection hx with hx
 subst hx
 simp [A66,C1l,hv]
theorem grState {H:AH} {X:Nat→Prop} {g:Nat} {sigma:List ByteArray} {rows:List (List (List Value))} {ends costs:List Int}
  (h:GrX H X g sigma rows ends costs) (hl:rows.length≤1048576) (he:ends.length=rows.length) (hc:costs.length=rows.length) (hw:Wf H):
  Sh.Call Tryz.prog (knows 8) 79 [.pointer (some ⟨g,0,some 0⟩)] H (fun r H'=>Chg X H H'∧r=.int .i64 (rows.length:Int)∧GrX H' (fun y=>X y∨H.next≤y) g sigma (rows++[[]]) (ends++[0]) (costs++[0])):=by
 refine A3b rfl Tryz.func79 rfl (Nat.le_of_ble_eq_true rfl) ?_
 have hres:Tryz.f79.results.toList=[.tmp 2]:=rfl
 obtain ⟨sv,av,ev,cv,os,ot,oe,oc,vals,obs,h,ho⟩:=h
 have hg:=h.arr.lt hw
 have b1:=C7h (H:=H) (x:=.slice none 0 0) rfl rfl
 have k1:=Kept.new hw 1 [.slice none 0 0]
 have q1:Buf (H.new 1 [.slice none 0 0]).2 1 (.slice (some ⟨H.next,0,some 0⟩) 1 1) [[.slice none 0 0]] (some H.next):=Buf.fresh (H:=H) (s:=1) (xs:=[[.slice none 0 0]]) hw (by simp) (by simp) 1 rfl
 have m1:=fun H2=>B7n (H:=H) (H2:=H2) (s:=1) (vals:=[.slice none 0 0]) (by simp [A6k,A1n,A5e])
 have n1:(H.new 1 [.slice none 0 0]).2.next=H.next+1:=rfl
 obtain ⟨K1,hK1⟩:∃ K,(H.new 1 [.slice none 0 0]).2=K:=⟨_,rfl⟩
 simp only [A8a] at b1
 rw [hK1] at b1 k1 q1 m1 n1
 have b2:=B7s (H:=K1) (x:=.int .i64 0) rfl rfl
 have k2:=Kept.new k1.wf 1 [.int .i64 0]
 have q2:Buf (K1.new 1 [.int .i64 0]).2 1 (.slice (some ⟨K1.next,0,some 0⟩) 1 1) [[.int .i64 0]] (some K1.next):=Buf.fresh (H:=K1) (s:=1) (xs:=[[.int .i64 0]]) k1.wf (by simp) (by simp) 1 rfl
 have m2:=fun H2=>B7n (H:=K1) (H2:=H2) (s:=1) (vals:=[.int .i64 0]) (by simp [A6k,A1n,A3d])
 have n2:(K1.new 1 [.int .i64 0]).2.next=K1.next+1:=rfl
 obtain ⟨K2,hK2⟩:∃ K,(K1.new 1 [.int .i64 0]).2=K:=⟨_,rfl⟩
 simp only [A8a] at b2
 rw [hK2] at b2 k2 q2 m2 n2
 have b3:=B7s (H:=K2) (x:=.int .i64 0) rfl rfl
 have k3:=Kept.new k2.wf 1 [.int .i64 0]
 have q3:Buf (K2.new 1 [.int .i64 0]).2 1 (.slice (some ⟨K2.next,0,some 0⟩) 1 1) [[.int .i64 0]] (some K2.next):=Buf.fresh (H:=K2) (s:=1) (xs:=[[.int .i64 0]]) k2.wf (by simp) (by simp) 1 rfl
 have m3:=fun H2=>B7n (H:=K2) (H2:=H2) (s:=1) (vals:=[.int .i64 0]) (by simp [A6k,A1n,A3d])
 have n3:(K2.new 1 [.int .i64 0]).2.next=K2.next+1:=rfl
 obtain ⟨K3,hK3⟩:∃ K,(K2.new 1 [.int .i64 0]).2=K:=⟨_,rfl⟩
 simp only [A8a] at b3
 rw [hK3] at b3 k3 q3 m3 n3
 have k12:=k1.trans k2
 have k13:=k12.trans k3
 have h3:GrB K3 0 g sv av ev cv os ot oe oc vals obs sigma rows ends costs:=h.chg hw (k13.chg (X:=none')) fun _ _ h=>h
 have hg3:=h3.arr.lt k3.wf
 obtain ⟨a1,c1,av',A1,ot',rfl,e1,hj1,g1,i1,in1⟩:=h3.jag.addRow k3.wf
 have q1a:=(q1.kept k1.wf (k2.trans k3)).toSl
 have ap1:=app_101 (base:=a1) (len:=rows.length) (cap:=c1) (q1a.srcKind Tryz.underlying101) q1a.newCells (by simp; omega)
 have hfl1:flat [[Value.slice none 0 0]]=[.slice none 0 0]:=by simp [flat]
 have hfl2:flat [[Value.int .i64 0]]=[.int .i64 0]:=by simp [flat]
 simp only [List.length_singleton,hfl1] at ap1
 rw [e1] at ap1
 have otK:∀ y,ot=some y→y < H.next:=fun y hy=>h.jag.top.lt hw y hy
 have jK:∀ y,JIn ot obs y→y < H.next:=fun y hy=>h.jag.lt hw y hy
 have oeK:∀ y,oe=some y→y < H.next:=fun y hy=>h.en.lt hw y hy
 have ocK:∀ y,oc=some y→y < H.next:=fun y hy=>h.co.lt hw y hy
 have x1:=g1.next
 have en1:=h3.en.chg k3.wf g1 fun y hy hyt=>h3.je y hy (.inl hyt)
 have co1:=h3.co.chg k3.wf g1 fun y hy hyt=>h3.jc y hy (.inl hyt)
 have q2a:=(q2.kept k2.wf k3).chg k3.wf g1 fun y hy hyt=>by have:=otK y hyt; have:=Option.some.inj hy; omega
 have q3a:=q3.chg k3.wf g1 fun y hy hyt=>by have:=otK y hyt; have:=Option.some.inj hy; omega
 obtain ⟨a2,c2,hev⟩:=en1.shape
 rw [List.length_map] at hev
 subst hev
 obtain ⟨ev',A2,oe',e2,hj2,g2,ne2⟩:=en1.append g1.wf (xs:=[[.int .i64 0]]) (by simp)
 have ap2:=app_86 (base:=a2) (len:=ends.length) (cap:=c2) (q2a.toSl.srcKind Tryz.underlying86) q2a.toSl.newCells (by simp; omega)
 simp only [List.length_singleton,hfl2] at ap2 e2
 rw [e2] at ap2
 have x2:=g2.next
 have co2:=co1.chg g1.wf g2 fun y hy hye=>h3.ec y hye hy
 have q3b:=q3a.chg g1.wf g2 fun y hy hye=>by have:=oeK y hye; have:=Option.some.inj hy; omega
 obtain ⟨a3,c3,hcv⟩:=co2.shape
 rw [List.length_map] at hcv
 subst hcv
 obtain ⟨cv',A3,oc',e3,hj3,g3,ne3⟩:=co2.append g2.wf (xs:=[[.int .i64 0]]) (by simp)
 have ap3:=app_86 (base:=a3) (len:=costs.length) (cap:=c3) (q3b.toSl.srcKind Tryz.underlying86) q3b.toSl.newCells (by simp; omega)
 simp only [List.length_singleton,hfl2] at ap3 e3
 rw [e3] at ap3
 have x3:=g3.next
 have arr1:=h3.arr.keep (g1.old g hg3 fun hy=>h3.gj (.inl hy))
 have arr2:=arr1.keep (g2.old g (Nat.lt_of_lt_of_le hg3 x1) h3.ge)
 have arr3:=arr2.keep (g3.old g (Nat.lt_of_lt_of_le hg3 (Nat.le_trans x1 x2)) h3.gc)
 obtain ⟨S1,w1,ar1,v1,z1⟩:=arr3.write g3.wf (i:=1) (vs:=[av']) (by simp)
 have sc1:setCells [sv,.slice a1 rows.length c1,.slice a2 ends.length c2,.slice a3 costs.length c3] 1 [av']=[sv,av',.slice a2 ends.length c2,.slice a3 costs.length c3]:=rfl
 rw [sc1] at ar1
 obtain ⟨S2,w2,ar2,v2,z2⟩:=ar1.write z1.wf (i:=2) (vs:=[ev']) (by simp)
 have sc2:setCells [sv,av',.slice a2 ends.length c2,.slice a3 costs.length c3] 2 [ev']=[sv,av',ev',.slice a3 costs.length c3]:=rfl
 rw [sc2] at ar2
 obtain ⟨S3,w3,ar3,v3,z3⟩:=ar2.write z2.wf (i:=3) (vs:=[cv']) (by simp)
 have sc3:setCells [sv,av',ev',.slice a3 costs.length c3] 3 [cv']=[sv,av',ev',cv']:=rfl
 rw [sc3] at ar3
 have ih1:=hj1.top.isCell
 have ih2:=hj2.isCell
 have ih3:=hj3.isCell
 have st1:A4h Tryz.prog 101 A3 av' (.pointer (some ⟨g,1,some 0⟩))=some S1:=by rw [A8i C3d ih1,w1]
 have st2:A4h Tryz.prog 86 S1 ev' (.pointer (some ⟨g,2,some 0⟩))=some S2:=by rw [A8i B9n ih2,w2]
 have st3:A4h Tryz.prog 86 S2 cv' (.pointer (some ⟨g,3,some 0⟩))=some S3:=by rw [A8i B9n ih3,w3]
 have l1:=h.arr.cell 1
 have l2:K1.cell ⟨g,2,some 0⟩=some (.slice a2 ends.length c2):=(h.arr.keep (k1.old g hg)).cell 2
 have l3:K2.cell ⟨g,3,some 0⟩=some (.slice a3 costs.length c3):=(h.arr.keep (k12.old g hg)).cell 3
 have r2:A1.cell ⟨g,2,some 0⟩=some (.slice a2 ends.length c2):=arr1.cell 2
 have r3:A1.cell ⟨g,3,some 0⟩=some (.slice a3 costs.length c3):=arr1.cell 3
 have r4:A2.cell ⟨g,3,some 0⟩=some (.slice a3 costs.length c3):=arr2.cell 3
 have u1:C0p K1.next K2 A1:=m2 A1 ((g1.old K1.next (by omega) fun hy=>by have:=otK _ hy; omega).trans (k3.old K1.next (by omega)))
 have u2:C0p K2.next K3 A1:=m3 A1 (g1.old K2.next (by omega) fun hy=>by have:=otK _ hy; omega)
 have u3:C0p K2.next K3 A2:=m3 A2 ((g2.old K2.next (by omega) fun hy=>by have:=oeK _ hy; omega).trans (g1.old K2.next (by omega) fun hy=>by have:=otK _ hy; omega))
 have hlenA:∀ H',A5a Tryz.prog .len [101] [av'] H'=some (.int .i64 ((rows.length+1:Nat):Int),H'):=fun H'=>by
  rw [hj1.top.toSl.len Tryz.underlying101]; simp [h.jag.len1]
 have wl:IntKind.wrap .i64 (((rows.length+1:Nat):Int) - 1)=(rows.length:Int):=by rw [wrap64 (by omega) (by omega)]; omega
 have lf:S3.cell ⟨g,1,some 0⟩=some av':=ar3.cell 1
 simp only [↓Sh.dn,sx,Nat.reduceBEq,reduceCtorEq,Nat.reduceEqDiff]
 refine wp_made (fl:=[(0,[],[],[]),(1,[],[],[]),(2,[],[],[]),(3,[],[],[]),(4,[],[],[]),(5,[],[],[]),(6,[],[],[]),(7,[],[],[]),(9,[],[],[]),(10,[],[],[]),(11,[],[],[]),(12,[],[],[]),(13,[],[],[]),(15,[],[],[]),(16,[],[],[]),(17,[],[],[]),(18,[],[],[]),(19,[],[],[]),(8,[18,12],[true,true,false],[true,true,false]),(14,[18],[true,false],[true,false]),(20,[],[false],[false]),(21,[],[],[]),(22,[],[],[]),(23,[],[],[]),(24,[],[],[]),(25,[],[],[]),(26,[],[],[]),(27,[],[],[]),(28,[],[],[]),(29,[],[],[])]) (by kernel_rfl) (by kernel_rfl) (by kernel_rfl) ?_
 simp only [↓Sh.dn,sx,Nat.reduceBEq,reduceCtorEq,Nat.reduceEqDiff,wpm,B3u,C6o,B9c,again,isEff,A2c,A7f,A3d,A8f,A9d,A6c,A5e,forall_eq,forall_eq',l1,l2,l3,b1,b2,b3,hK1,hK2,hK3,ap1,ap2,ap3,r2,r3,r4,u1,u2,u3,st1,st2,st3,lf,hlenA,wl,hres]
 have hX:∀ y,(ot=some y∨oe=some y∨oc=some y∨y=g)→X y:=by
  rintro y (hy | hy | hy | hy)
  ·exact ho y (.inr (.inr (.inl (.inl hy))))
  ·exact ho y (.inr (.inr (.inr (.inl hy))))
  ·exact ho y (.inr (.inr (.inr (.inr hy))))
  ·exact ho y (.inl hy)
 have tot:Chg X H S3:=((((((k13.chg (X:=X)).trans (g1.weak fun y hy=>hX y (.inl hy))).trans (g2.weak fun y hy=>hX y (.inr (.inl hy)))).trans (g3.weak fun y hy=>hX y (.inr (.inr (.inl hy))))).trans (z1.weak fun y hy=>hX y (.inr (.inr (.inr hy))))).trans (z2.weak fun y hy=>hX y (.inr (.inr (.inr hy))))).trans (z3.weak fun y hy=>hX y (.inr (.inr (.inr hy))))
 refine ⟨tot,sv,av',ev',cv',os,ot',oe',oc',vals++[.slice none 0 0],obs++[none],?_,?_⟩
 ·have hen:(ends++[0]).map intC=ends.map intC++[[.int .i64 0]]:=by simp [intC]
  have hco:(costs++[0]).map intC=costs.map intC++[[.int .i64 0]]:=by simp [intC]
  have jn:∀ y,JIn ot' (obs++[none]) y→JIn ot obs y∨K3.next≤y∧y < A1.next:=fun y hy=>(in1 y hy).imp id fun h=>⟨h,hj1.lt g1.wf y hy⟩
  have en':∀ y,oe'=some y→oe=some y∨y=A1.next∧A1.next < A2.next:=fun y hy=>by
   rcases ne2 with h4 | ⟨h4,h5⟩
   ·exact .inl (by rw [← h4]; exact hy)
   ·rw [h4] at hy; exact .inr ⟨(Option.some.inj hy).symm,h5⟩
  have cn':∀ y,oc'=some y→oc=some y∨y=A2.next:=fun y hy=>by
   rcases ne3 with h4 | ⟨h4,h5⟩
   ·exact .inl (by rw [← h4]; exact hy)
   ·rw [h4] at hy; exact .inr (Option.some.inj hy).symm
  have osK:∀ y,os=some y→y < H.next:=fun y hy=>h.sg.lt hw y hy
  have gtot:∀ {B:AH},Chg (fun y=>y=g) A3 B→True:=fun _=>trivial
  have z12:=z1.trans (z2.trans z3)
  have kS:=(z1.trans z2).trans z3
  refine { arr:=ar3,sg:=?_,jag:=?_,en:=?_,co:=?_,fg:=Nat.zero_le _,fs:=fun _ _=>Nat.zero_le _,fj:=fun _ _=>Nat.zero_le _,fe:=fun _ _=>Nat.zero_le _,fc:=fun _ _=>Nat.zero_le _,gs:=h.gs,gj:=?_,ge:=?_,gc:=?_,sj:=?_,se:=?_,sc:=?_,je:=?_,jc:=?_,ec:=?_ }
  ·exact (((h3.sg.chg k3.wf g1 fun y hy hyt=>h3.sj y hy (.inl hyt)).chg g1.wf g2 fun y hy hye=>h3.se y hy hye).chg g2.wf g3 fun y hy hyc=>h3.sc y hy hyc).chg g3.wf kS fun y hy hyg=>h.gs (by rw [hy,hyg])
  ·refine ((hj1.chg g1.wf g2 fun y hy hye=>?_).chg g2.wf g3 fun y hy hyc=>?_).chg g3.wf kS fun y hy hyg=>?_
   ·rcases jn y hy with h1 | h1
    ·exact h3.je y hye h1
    ·have:=oeK y hye; omega
   ·rcases jn y hy with h1 | h1
    ·exact h3.jc y hyc h1
    ·have:=ocK y hyc; omega
   ·rcases jn y hy with h1 | h1
    ·exact h.gj (hyg ▸ h1)
    ·omega
  ·rw [hen]
   refine (hj2.chg g2.wf g3 fun y hy hyc=>?_).chg g3.wf kS fun y hy hyg=>?_
   ·rcases en' y hy with h1 | ⟨h1,_⟩
    ·exact h3.ec y h1 hyc
    ·have:=ocK y hyc; omega
   ·rcases en' y hy with h1 | ⟨h1,_⟩
    ·exact h.ge (hyg ▸ h1)
    ·omega
  ·rw [hco]
   refine hj3.chg g3.wf kS fun y hy hyg=>?_
   rcases cn' y hy with h1 | h1
   ·exact h.gc (hyg ▸ h1)
   ·omega
  ·intro hy
   rcases jn g hy with h1 | h1
   ·exact h.gj h1
   ·omega
  ·intro hy
   rcases en' g hy with h1 | ⟨h1,_⟩
   ·exact h.ge h1
   ·omega
  ·intro hy
   rcases cn' g hy with h1 | h1
   ·exact h.gc h1
   ·omega
  ·intro y hy hy2
   rcases jn y hy2 with h1 | h1
   ·exact h.sj y hy h1
   ·have:=osK y hy; omega
  ·intro y hy hy2
   rcases en' y hy2 with h1 | ⟨h1,_⟩
   ·exact h.se y hy h1
   ·have:=osK y hy; omega
  ·intro y hy hy2
   rcases cn' y hy2 with h1 | h1
   ·exact h.sc y hy h1
   ·have:=osK y hy; omega
  ·intro y hy hy2
   rcases en' y hy with h1 | ⟨h1,h5⟩
   ·rcases jn y hy2 with h2 | h2
    ·exact h.je y h1 h2
    ·have:=oeK y h1; omega
   ·rcases jn y hy2 with h2 | h2
    ·have:=jK y h2; omega
    ·omega
  ·intro y hy hy2
   rcases cn' y hy with h1 | h1
   ·rcases jn y hy2 with h2 | h2
    ·exact h.jc y h1 h2
    ·have:=ocK y h1; omega
   ·rcases jn y hy2 with h2 | h2
    ·have:=jK y h2; omega
    ·omega
  ·intro y hy hy2
   rcases en' y hy with h1 | ⟨h1,h5⟩
   ·rcases cn' y hy2 with h2 | h2
    ·exact h.ec y h1 h2
    ·have:=oeK y h1; omega
   ·rcases cn' y hy2 with h2 | h2
    ·have:=ocK y h2; omega
    ·omega
 ·rintro y (hy | hy | hy | hy | hy)
  ·exact .inl (ho y (.inl hy))
  ·exact .inl (ho y (.inr (.inl hy)))
  ·rcases in1 y hy with h1 | h1
   ·exact .inl (ho y (.inr (.inr (.inl h1))))
   ·exact .inr (by omega)
  ·rcases ne2 with h4 | ⟨h4,h5⟩
   ·exact .inl (ho y (.inr (.inr (.inr (.inl (by rw [← h4]; exact hy))))))
   ·rw [h4] at hy; have:=Option.some.inj hy; exact .inr (by omega)
  ·rcases ne3 with h4 | ⟨h4,h5⟩
   ·exact .inl (ho y (.inr (.inr (.inr (.inr (by rw [← h4]; exact hy))))))
   ·rw [h4] at hy; have:=Option.some.inj hy; exact .inr (by omega)
end Go.Proofs.YtnoengaghabmjaaGreatDoor
/- (*graph.Graph).Add: another graph is put into one. -/
namespace Go.Proofs.YtnoengaghabmjaaGreatDoor
open Go Go.Proofs Go.Proofs.Sh
theorem GrX.steady {H:AH} {X Y:Nat→Prop} {g:Nat} {sigma:List ByteArray} {rows:List (List (List Value))} {ends costs:List Int} (h:GrX H Y g sigma rows ends costs) (hw:Wf H) (hd:∀ y,Y y→¬X y):
  ∃ sv av ev cv vals,∀ H',Chg X H H'→GrR H' g sv av ev cv vals sigma rows ends costs:=by
 obtain ⟨sv,av,ev,cv,os,ot,oe,oc,vals,obs,h,ho⟩:=h
 refine ⟨sv,av,ev,cv,vals,fun H' hc=>⟨h.arr.keep (hc.old g (h.arr.lt hw) (hd g (ho g (.inl rfl)))),(h.sg.chg hw hc fun y hy=>hd y (ho y (.inr (.inl hy)))).toSl,(h.jag.chg hw hc fun y hy=>hd y (ho y (.inr (.inr (.inl hy))))).read,(h.en.chg hw hc fun y hy=>hd y (ho y (.inr (.inr (.inr (.inl hy)))))).toSl,(h.co.chg hw hc fun y hy=>hd y (ho y (.inr (.inr (.inr (.inr hy)))))).toSl⟩⟩
end Go.Proofs.YtnoengaghabmjaaGreatDoor
/- graph.New. -/
namespace Go.Proofs.YtnoengaghabmjaaGreatDoor
open Go Go.Proofs Go.Proofs.Sh
theorem objNew {H:AH} {s:Nat} {vals:List Value} (h:veqs vals vals=true):∀ x,(H.new s vals).2.objs.get H.next=some x→A66 x x=true:=by
 intro x hx
 have:=Obj.new (H:=H) s vals
 unfold Obj at this
 rw [this] at hx
 injection hx with hx
 subst hx
 simp [A66,C1l,h]
theorem C4j {H:AH} {n:Nat} {z:Value} (hz:veq z z=true):∀ x,(H.new 1 (List.replicate n z)).2.objs.get H.next=some x→A66 x x=true:=
 objNew (B6c fun x hx=>by rw [(List.mem_replicate.1 hx).2]; exact hz)
theorem B95 {H:AH} {v:Value} {l:List ByteArray} {n:Nat} (hs:Sl H v 1 (l.map A1b)) (hl:l.length≤1048576) (hn:n≤1048576) (hw:Wf H):
  Sh.Call Tryz.prog (knows 8) 65 [v,.int .i64 (n:Int)] H (fun r H'=>Kept H H'∧∃ g,r=.pointer (some ⟨g,0,some 0⟩)∧Gr H' H.next g l (List.replicate n []) (List.replicate n 0) (List.replicate n 0)):=by
 refine A3b rfl Tryz.func65 rfl (Nat.le_of_ble_eq_true rfl) ?_
 have hres:Tryz.f65.results.toList=[.tmp 4]:=rfl
 have m1:=mk_101 (H:=H) (l:=n) (c:=n) (Nat.le_refl _) (by omega)
 obtain ⟨K1,hK1⟩:∃ K,(H.new 1 (List.replicate n (.slice none 0 0))).2=K:=⟨_,rfl⟩
 have k1:=Kept.new hw 1 (List.replicate n (.slice none 0 0))
 have jg:=Jag.make hw 4 (n:=n) (by omega)
 rw [hK1] at m1 k1 jg
 have m2:=mk_86 (H:=K1) (l:=n) (c:=n) (Nat.le_refl _) (by omega)
 have k2:=Kept.new k1.wf 1 (List.replicate n (.int .i64 0))
 have f2:=Buf.fill k1.wf (.int .i64 0) (c:=n) (by omega)
 obtain ⟨K2,hK2⟩:∃ K,(K1.new 1 (List.replicate n (.int .i64 0))).2=K:=⟨_,rfl⟩
 rw [hK2] at m2 k2 f2
 have m3:=mk_86 (H:=K2) (l:=n) (c:=n) (Nat.le_refl _) (by omega)
 have k3:=Kept.new k2.wf 1 (List.replicate n (.int .i64 0))
 have f3:=Buf.fill k2.wf (.int .i64 0) (c:=n) (by omega)
 obtain ⟨K3,hK3⟩:∃ K,(K2.new 1 (List.replicate n (.int .i64 0))).2=K:=⟨_,rfl⟩
 rw [hK3] at m3 k3 f3
 have x1:H.next < K1.next:=by rw [← hK1]; exact Nat.lt_succ_self _
 have x2:K1.next < K2.next:=by rw [← hK2]; exact Nat.lt_succ_self _
 have x3:K2.next < K3.next:=by rw [← hK3]; exact Nat.lt_succ_self _
 have k123:=(k1.trans k2).trans k3
 obtain ⟨r,H1,hd,hk,b,hb,hf⟩:=B08 (hs.grow (k123.grow hw)) (by simpa using hl) k123.wf
 have o1:=C4j (H:=H) (n:=n) (z:=.slice none 0 0) rfl
 have o2:=C4j (H:=K1) (n:=n) (z:=.int .i64 0) A3d
 have o3:=C4j (H:=K2) (n:=n) (z:=.int .i64 0) A3d
 rw [hK1] at o1; rw [hK2] at o2; rw [hK3] at o3
 simp only [↓Sh.wp_seq]
 simp only [↓Sh.dn,sx,Nat.reduceBEq,reduceCtorEq,Nat.reduceEqDiff]
 refine A8u (fl:=[(0,true),(2,true),(3,false),(4,true),(5,false),(6,true),(7,false),(1,false),(8,true),(9,false),(10,true)]) (by kernel_rfl) (by kernel_rfl) hw ?_
 simp only [↓Sh.dn,sx,Nat.reduceBEq,reduceCtorEq,Nat.reduceEqDiff,wpg,A50,isEff,A2c,isRead,A7f,A3d,A8f,A9d,A6c,forall_eq,forall_eq',m1,m2,m3,k1.wf,k2.wf,k3.wf]
 refine ⟨o1,o2,o3,_,_,hd,hk.wf,hk.grow k123.wf,?_⟩
 have nw:∀ (H:AH) (a b c d:Value),isCell a=true→isCell b=true→isCell c=true→isCell d=true→anew Tryz.prog 103 H (.agg #[a,b,c,d])=some (.pointer (some ⟨H.next,0,some 0⟩),(H.new 4 [a,b,c,d]).2):=
  fun H a b c d ha hb hc hd=>A4n B46 rfl (by simp [ha,hb,hc,hd])
 have bl:∀ a b c d:Value,isCell a=true→isCell b=true→isCell c=true→isCell d=true→A2m Tryz.prog 103 [(0,a),(1,b),(2,c),(3,d)]=some (.agg #[a,b,c,d]):=by
  intro a b c d ha hb hc hd
  have va:∀ xs:Array Value,A8a (.agg xs)=xs.toList:=fun _=>rfl
  refine A9g (pl:=[(0,1),(1,1),(2,1),(3,1)]) Tryz.underlying103 B6o (by kernel_rfl) ?_
  simp [A5r,A8b ha,A8b hb,A8b hc,A8b hd,va,ha,hb,hc,hd,setCells,A6a,A0c]
 have cr:=hb.isCell
 have q:=nw H1 r (.slice (some ⟨H.next,0,some 0⟩) n n) (.slice (some ⟨K1.next,0,some 0⟩) n n) (.slice (some ⟨K2.next,0,some 0⟩) n n) cr rfl rfl rfl
 have oq:=Obj.new (H:=H1) 4 [r,.slice (some ⟨H.next,0,some 0⟩) n n,.slice (some ⟨K1.next,0,some 0⟩) n n,.slice (some ⟨K2.next,0,some 0⟩) n n]
 have ee:veqs [r,.slice (some ⟨H.next,0,some 0⟩) n n,.slice (some ⟨K1.next,0,some 0⟩) n n,.slice (some ⟨K2.next,0,some 0⟩) n n] [r,.slice (some ⟨H.next,0,some 0⟩) n n,.slice (some ⟨K1.next,0,some 0⟩) n n,.slice (some ⟨K2.next,0,some 0⟩) n n]=true:=by
  refine B6c fun x hx=>?_
  simp only [List.mem_cons,List.not_mem_nil,or_false] at hx
  rcases hx with rfl | rfl | rfl | rfl
  ·exact hb.toSl.veq
  ·exact A5e
  ·exact A5e
  ·exact A5e
 have o4:=objNew (H:=H1) (s:=4) ee
 have k4:=Kept.new hk.wf 4 [r,.slice (some ⟨H.next,0,some 0⟩) n n,.slice (some ⟨K1.next,0,some 0⟩) n n,.slice (some ⟨K2.next,0,some 0⟩) n n]
 have bq:=bl r (.slice (some ⟨H.next,0,some 0⟩) n n) (.slice (some ⟨K1.next,0,some 0⟩) n n) (.slice (some ⟨K2.next,0,some 0⟩) n n) cr rfl rfl rfl
 simp only [↓Sh.dn,sx,Nat.reduceBEq,reduceCtorEq,Nat.reduceEqDiff,wpg,A50,isEff,A2c,isRead,A7f,A3d,A8f,A9d,A6c,forall_eq,forall_eq',bq,q,hres]
 have hbs:∀ g,b=some g→K3.next≤g:=hf
 have if1:∀ {m y:Nat},(if n=0 then none else some m)=some y→y=m:=by
  intro m y h
  by_cases hn0:n=0
  ·rw [if_pos hn0] at h; cases h
  ·rw [if_neg hn0] at h; exact (Option.some.inj h).symm
 have jin:∀ y,JIn (if n=0 then none else some H.next) (List.replicate n none) y→y=H.next:=by
  rintro y (h | ⟨i,h⟩)
  ·exact if1 h
  ·rw [List.getElem?_replicate] at h
   split at h <;> cases h
 have hn:=hk.next
 have c1:=(((jg.kept k1.wf k2).kept k2.wf k3).kept k3.wf hk).kept hk.wf k4
 have c2:=((f2.kept k2.wf k3).kept k3.wf hk).kept hk.wf k4
 have c3:=(f3.kept k3.wf hk).kept hk.wf k4
 have rp:∀ m:Int,(List.replicate n m).map intC=List.replicate n [.int .i64 m]:=fun m=>by simp [intC]
 have hlt:=fun y (h:b=some y)=>hb.lt hk.wf y h
 refine ⟨o4,k123.trans (hk.trans k4),_,rfl,_,_,_,_,b,_,_,_,_,_,⟨oq.arr,hb.kept hk.wf k4,c1,by rw [rp]; exact c2,by rw [rp]; exact c3,?_,?_,?_,?_,?_,?_,?_,?_,?_,?_,?_,?_,?_,?_,?_⟩⟩
 ·omega
 ·intro y h; have:=hbs y h; omega
 ·intro y h; rw [jin y h]; exact Nat.le_refl _
 ·intro y h; rw [if1 h]; omega
 ·intro y h; rw [if1 h]; omega
 ·intro h; have:=hlt _ h; omega
 ·intro h; have:=jin _ h; omega
 ·intro h; have:=if1 h; omega
 ·intro h; have:=if1 h; omega
 ·intro y h h2; have:=hbs y h; have:=jin y h2; omega
 ·intro y h h2; have:=hbs y h; have:=if1 h2; omega
 ·intro y h h2; have:=hbs y h; have:=if1 h2; omega
 ·intro y h h2; have:=if1 h; have:=jin y h2; omega
 ·intro y h h2; have:=if1 h; have:=jin y h2; omega
 ·intro y h h2; have:=if1 h; have:=if1 h2; omega
end Go.Proofs.YtnoengaghabmjaaGreatDoor
/- (*graph.Graph).Arc and End, of a graph that is being made. -/
namespace Go.Proofs.YtnoengaghabmjaaGreatDoor
open Go Go.Proofs Go.Proofs.Sh
theorem GrB.arced {H H':AH} {base g:Nat} {sv av ev cv:Value} {os ot oe oc:Option Nat} {vals vals':List Value} {obs obs':List (Option Nat)} {sigma:List ByteArray} {rows rows':List (List (List Value))} {ends costs:List Int}
  (h:GrB H base g sv av ev cv os ot oe oc vals obs sigma rows ends costs) (hw:Wf H) (hc:Chg (JIn ot obs) H H') (hj:Jag H' av ot 4 vals' rows' obs') (hin:∀ y,JIn ot obs' y→JIn ot obs y∨H.next≤y):
  Chg (fun y=>base≤y) H H'∧Gr H' base g sigma rows' ends costs:=by
 have hg:=h.arr.lt hw
 refine ⟨hc.weak h.fj,sv,av,ev,cv,os,ot,oe,oc,vals',obs',?_⟩
 exact { h with
  arr:=h.arr.keep (hc.old g hg h.gj)
  sg:=h.sg.chg hw hc h.sj
  jag:=hj
  en:=h.en.chg hw hc h.je
  co:=h.co.chg hw hc h.jc
  fj:=fun y hy=>by
   rcases hin y hy with h1 | h1
   ·exact h.fj y h1
   ·have:=h.fg; omega
  gj:=fun hy=>by
   rcases hin g hy with h1 | h1
   ·exact h.gj h1
   ·omega
  sj:=fun y hy hy2=>by
   rcases hin y hy2 with h1 | h1
   ·exact h.sj y hy h1
   ·have:=h.sg.lt hw y hy; omega
  je:=fun y hy hy2=>by
   rcases hin y hy2 with h1 | h1
   ·exact h.je y hy h1
   ·have:=h.en.lt hw y hy; omega
  jc:=fun y hy hy2=>by
   rcases hin y hy2 with h1 | h1
   ·exact h.jc y hy h1
   ·have:=h.co.lt hw y hy; omega }
theorem grEnd {H:AH} {base g:Nat} {sigma:List ByteArray} {rows:List (List (List Value))} {ends costs:List Int} {s:Nat} {x:Int}
  (h:Gr H base g sigma rows ends costs) (hs:s < ends.length) (hs':s < costs.length) (hw:Wf H) (h0:0≤ends[s]) (h1:ends[s]≤1048576):
  Sh.Call Tryz.prog (knows 8) 70 [.pointer (some ⟨g,0,some 0⟩),.int .i64 (s:Int),.int .i64 x] H (fun _ H'=>Chg (fun y=>base≤y) H H'∧Gr H' base g sigma rows (ends.set s (ends[s]+1)) (costs.set s (A4r ends[s] costs[s] x))):=by
 obtain ⟨sv,av,ev,cv,os,ot,oe,oc,vals,obs,h⟩:=h
 refine (B49 h.arr h.en h.co h.ge h.gc h.ec hs hs' hw h0 h1).mono ?_
 rintro _ H' ⟨hc,hn,he,hcc⟩
 refine ⟨hc.weak fun y hy=>?_,sv,av,ev,cv,os,ot,oe,oc,vals,obs,{ h with arr:=h.arr.keep (hc.old g (h.arr.lt hw) ?_),sg:=h.sg.chg hw hc ?_,jag:=h.jag.chg hw hc ?_,en:=he,co:=hcc }⟩
 ·rcases hy with hy | hy
  ·exact h.fe y hy
  ·exact h.fc y hy
 ·rintro (hy | hy)
  ·exact h.ge hy
  ·exact h.gc hy
 ·rintro y hy (hy2 | hy2)
  ·exact h.se y hy hy2
  ·exact h.sc y hy hy2
 ·rintro y hy (hy2 | hy2)
  ·exact h.je y hy2 hy
  ·exact h.jc y hy2 hy
end Go.Proofs.YtnoengaghabmjaaGreatDoor
/- The number of a symbol; a word as numbers. -/
namespace Go.Proofs.YtnoengaghabmjaaGreatDoor
open Go Go.Proofs Go.Proofs.Sh
theorem place {H:AH} {v:Value} {x:ByteArray} {l:List ByteArray} (hs:Sl H v 1 (l.map A1b)) (ha:Asc l) (hl:l.length≤1048576):
  Sh.Call Tryz.prog (knows 8) 69 [v,.string x] H (fun r H'=>H'=H∧r=.int .i64 (A8q l x)):=by
 refine A3b rfl Tryz.func69 rfl (Nat.le_of_ble_eq_true rfl) ?_
 have hres:Tryz.f69.results.toList=[.tmp 4]:=rfl
 obtain ⟨r,H1,hd,rfl,k,rfl,_,hk⟩:=A18 (x:=x) hs ha hl
 simp only [↓Sh.dn,sx,Nat.reduceBEq,reduceCtorEq,Nat.reduceEqDiff]
 refine ⟨_,_,hd,?_⟩
 cases hin:A8t l x with
 | true=>
  have:=A20 ha (hk.2 (A4k.1 hin))
  simp only [↓Sh.dn,sx,Nat.reduceBEq,reduceCtorEq,Nat.reduceEqDiff,hres,this]
 | false=>
  have:=B3k (l:=l) (x:=x) (fun h=>by rw [A4k.2 h] at hin; cases hin)
  simp only [↓Sh.dn,sx,Nat.reduceBEq,reduceCtorEq,Nat.reduceEqDiff,hres,this]
theorem C4t {l:List ByteArray} {x:ByteArray} (ha:Asc l):decide (A8q l x < 0)=!A8t l x:=by
 cases hin:A8t l x with
 | true=>
  obtain ⟨k,hk⟩:=List.mem_iff_getElem?.1 (A4k.1 hin)
  rw [A20 ha hk]; simp
 | false=>
  rw [B3k (fun h=>by rw [A4k.2 h] at hin; cases hin)]; rfl
end Go.Proofs.YtnoengaghabmjaaGreatDoor
/- graph.Of: the graph of a net. -/
namespace Go.Proofs.YtnoengaghabmjaaGreatDoor
open Go Go.Proofs Go.Proofs.Sh
theorem C6n {H:AH} {v:Value} {N:NetD} (h:A8k H v N) (hok:A5j N) (hsm:A4c N) (hw:Wf H):
  Sh.Call Tryz.prog (knows 8) 39 [v] H (fun r H'=>Kept H H'∧∃ g,r=.pointer (some ⟨g,0,some 0⟩)∧∃ base,H.next≤base∧Gr H' base g N.sigma (B4c N N.arcs) (A7n N N.ends) (A5n N N.ends)):=by
 refine A3b rfl Tryz.func39 rfl (Nat.le_of_ble_eq_true rfl) ?_
 have hres:Tryz.f39.results.toList=[.tmp 2]:=rfl
 obtain ⟨sg,ar,en,rfl,hsg,har,hen⟩:=h
 have hb1:=NetBox.of (N:=N) hw hsg har hen
 have hk1:Kept H (H.new 4 [sg,.int .i64 N.states,ar,en]).2:=Kept.new hw 4 _
 have h1:=hok.st1
 have h2:=hok.st2
 obtain ⟨n,hn⟩:∃ n:Nat,N.states=(n:Int):=⟨N.states.toNat,by omega⟩
 have hnn:N.states.toNat=n:=by omega
 simp only [↓Sh.dn,sx,Nat.reduceBEq,reduceCtorEq,Nat.reduceEqDiff,A7k hsg.isCell har.isCell hen.isCell]
 have hnx:H.next < (H.new 4 [sg,.int .i64 N.states,ar,en]).2.next:=Nat.lt_succ_self _
 generalize H.next=gg at hb1 hnx ⊢
 generalize (H.new 4 [sg,.int .i64 N.states,ar,en]).2=H1 at hb1 hk1 hnx ⊢
 obtain ⟨r,H2,hd2,hk2,g,rfl,hgr⟩:=B95 (n:=n) hb1.hsg (by simpa using hsm.sg) (by omega) hk1.wf
 simp only [↓Sh.dn,sx,Nat.reduceBEq,reduceCtorEq,Nat.reduceEqDiff,hb1.c0,hb1.c1,hb1.c2,hb1.c3,hb1.ca,A3a hb1,A1a hb1,A2a hb1,Option.map_some,hn]
 refine ⟨_,_,hd2,?_⟩
 have hb2:=hb1.kept hk1.wf hk2
 simp only [↓Sh.dn,sx,Nat.reduceBEq,reduceCtorEq,Nat.reduceEqDiff,hb2.c0,hb2.c1,hb2.c2,hb2.c3,hb2.ca,A3a hb2,A1a hb2,A2a hb2,Option.map_some]
 have hz:∀ f:List Int→Int,f []=0→(rowsOf EndD.state EndD.cost N.states.toNat []).map f=List.replicate n 0:=by
  intro f hf
  rw [A22,hnn,List.map_replicate,hf]
 refine A0i N.arcs.length 16 (List.range' 16 37++[5]) (fun i F H'=>Kept H1 H'∧Gr H' H1.next g N.sigma (B4c N (N.arcs.take i)) (A7n N []) (A5n N [])) (by simp only [↓Sh.dn,sx,Nat.reduceBEq,reduceCtorEq,Nat.reduceEqDiff]) ⟨hk2,by
  rw [List.take_zero]; unfold B4c A7n A5n; rw [A22,hz _ rfl,hz _ rfl,hnn]; exact hgr⟩ ?_ ?_
 ·rintro i F H' hlt hF f16 ⟨hk,hg⟩ k
  have f1:=hF 1 rfl
  have f3:=hF 3 rfl
  have f14:=hF 14 rfl
  have f15:=hF 15 rfl
  simp only [↓Sh.dn,sx,Nat.reduceBEq,reduceCtorEq,Nat.reduceEqDiff] at f1 f3 f14 f15
  have hb':=hb1.kept hk1.wf hk
  obtain ⟨q,o,kk,hia,hc,hcc⟩:=hb'.har.at Tryz.underlying23 A2l (i:=i) (x:=N.arcs[i].cells) (by simp [hlt]) .i64
  clear hcc
  have htake:N.arcs.take (i+1)=N.arcs.take i++[N.arcs[i]]:=by rw [List.take_add_one,List.getElem?_eq_getElem hlt]; rfl
  obtain ⟨k0,k1,k2,k3,k4,k5⟩:=hok.arc _ (List.getElem_mem hlt)
  have hb3:=hb'.new hk.wf 5 (N.arcs[i].cells)
  have hk3:=hk.news 5 (N.arcs[i].cells)
  generalize N.arcs[i]=a at hb3 hk3 hc htake k0 k1 k2 k3 k4 k5
  obtain ⟨s,hs⟩:∃ s:Nat,a.fr=(s:Int):=⟨a.fr.toNat,by omega⟩
  have hsn:s < N.states.toNat:=by omega
  obtain ⟨r1,K1,hd1,rfl,rfl⟩:=place (x:=a.inn) hb3.hsg hok.asc hsm.sg
  obtain ⟨r2,K2,hd2,rfl,rfl⟩:=place (x:=a.out) hb3.hsg hok.asc hsm.sg
  have hrow:=A1h (key:=ArcD.fr) (f:=B9z N.sigma) (l:=N.arcs.take i) hsn
  have hrl:=A14 hrow
  have hsmA:=hsm.ar
  have htl:(N.arcs.take i).length≤1048576:=by rw [List.length_take]; omega
  obtain ⟨sv,av,ev,cv,os,ot,oe,oc,vals,obs,hG0⟩:=hg
  have hG:=hG0.chg hk.wf ((Kept.new hk.wf 5 a.cells).chg (X:=none')) fun _ _ h=>h
  have hnj:¬JIn ot obs H'.next:=fun h=>by have:=hG0.jag.lt hk.wf _ h; omega
  have hn:=hG.arr.cell 1
  obtain ⟨ba,cap,w',H4,H5,o',p,e1,e2,e3,e4,e5,e6,e7,e8,e9⟩:=hG.jag.pushAt Tryz.underlying101 A9r hk3.wf hrow (x:=B9z N.sigma a) rfl
  rw [← hs] at e2
  have bl:=C6j (v0:=.int .i64 a.to) (v1:=.int .i64 (A8q N.sigma a.inn)) (v2:=.int .i64 (A8q N.sigma a.out)) (v3:=.int .i64 a.cost) rfl rfl rfl rfl
  have hbs:=B1m (H:=(H'.new 5 a.cells).2) (x:=.agg (B9z N.sigma a).toArray) rfl rfl
  have ha:=C2a (H:=(H'.new 5 a.cells).2) (base:=ba) (len:=_) (cap:=cap) (x:=B9z N.sigma a) rfl (Nat.le_trans hrl (by omega))
  rw [e1] at ha
  have hn4:=(hG.arr.keep (e7.old g (hG.arr.lt hk3.wf) hG.gj)).cell 1
  have c4:=((Obj.new (H:=H') 5 a.cells).arr.keep (e7.old H'.next (Nat.lt_succ_self _) hnj)).cell 0
  have c4':(a.cells)[0]?=some (.int .i64 a.fr):=rfl
  rw [c4'] at c4
  have st:A4h Tryz.prog 108 H4 w' (.pointer (some p))=some H5:=by rw [A8i A9r e8,e4]
  have va:∀ xs:Array Value,A8a (.agg xs)=xs.toList:=fun _=>rfl
  have hav:=hG.jag.top.veq
  simp only [va] at hbs
  obtain ⟨z1,z2⟩:=GrB.arced hG hk3.wf e6 e5 e9
  simp only [↓Sh.dn,sx,Nat.reduceBEq,reduceCtorEq,Nat.reduceEqDiff,hb'.c0,hb'.c1,hb'.c2,hb'.c3,hb'.ca,A3a hb',A1a hb',A2a hb',A1c,A9c,A7c,A9e,A0f,A5b,A6b,A0d,A8c,A3c,arc0,arc1,arc2,arc3,arc4,end0,end1,f1,f3,f14,f15,f16,Option.map_some,A9a,hlt,decide_true,hia,hc]
  refine A6w (fl:=[(0,[]),(1,[]),(2,[]),(3,[]),(4,[]),(5,[]),(6,[]),(7,[]),(8,[]),(9,[]),(10,[]),(11,[]),(12,[]),(13,[]),(14,[]),(15,[]),(16,[]),(17,[]),(18,[]),(19,[]),(21,[]),(22,[]),(23,[]),(24,[]),(26,[]),(27,[]),(20,[27,24,22,15,13,11,9,5,3]),(25,[27,15,13,11,9,5,3]),(28,[]),(29,[]),(30,[5,3]),(31,[]),(32,[])]) (by kernel_rfl) (by kernel_rfl) (by kernel_rfl) ?_
  simp only [↓Sh.dn,sx,Nat.reduceBEq,reduceCtorEq,Nat.reduceEqDiff,wpr,again,A2c,A7f,A3d,A8f,A9d,A6c,A5e,forall_eq,forall_eq',hb3.c0,hb3.c1,hb3.c2,hb3.c3,hb3.ca,A3a hb3,A1a hb3,A2a hb3,A1c,A9c,A7c,A9e,A0f,A5b,A6b,A0d,A8c,A3c,arc0,arc1,arc2,arc3,arc4,end0,end1,f1,f3,hn,e2,e3,Option.map_some]
  refine ⟨_,_,hd1,?_⟩
  simp only [↓Sh.dn,sx,Nat.reduceBEq,reduceCtorEq,Nat.reduceEqDiff,wpr,again,A2c,A7f,A3d,A8f,A9d,A6c,A5e,forall_eq,forall_eq',hb3.c0,hb3.c1,hb3.c2,hb3.c3,hb3.ca,A3a hb3,A1a hb3,A2a hb3,A1c,A9c,A7c,A9e,A0f,A5b,A6b,A0d,A8c,A3c,arc0,arc1,arc2,arc3,arc4,end0,end1,f1,f3,hn,e2,e3,Option.map_some,hav,hsg.veq]
  refine ⟨_,_,hd2,?_⟩
  have bl':A2m Tryz.prog 107 [(0,.int .i64 a.to),(1,.int .i64 (A8q N.sigma a.inn)),(2,.int .i64 (A8q N.sigma a.out)),(3,.int .i64 a.cost)]=some (.agg (B9z N.sigma a).toArray):=bl
  simp only [↓Sh.dn,sx,Nat.reduceBEq,reduceCtorEq,Nat.reduceEqDiff,wpr,again,A2c,A7f,A3d,A8f,A9d,A6c,A5e,forall_eq,forall_eq',hb3.c0,hb3.c1,hb3.c2,hb3.c3,hb3.ca,A3a hb3,A1a hb3,A2a hb3,A1c,A9c,A7c,A9e,A0f,A5b,A6b,A0d,A8c,A3c,arc0,arc1,arc2,arc3,arc4,end0,end1,f1,f3,hn,e2,e3,Option.map_some,hav,hsg.veq,bl',hbs,ha,hn4,st,c4,f16,wrap_succ hlt hsm.ar]
  refine k _ _ (by repeat (first | refine Same.put ?_ rfl | exact Same.rfl' _)) (by simp only [↓Sh.dn,sx,Nat.reduceBEq,reduceCtorEq,Nat.reduceEqDiff]) ⟨hk3.then (Nat.le_refl _) z1,?_⟩
  rw [htake]
  unfold B4c
  rw [A3v hsn hs]
  exact z2
 ·rintro F H' hF f16 ⟨hk,hg⟩
  have f1:=hF 1 rfl
  have f3:=hF 3 rfl
  have f15:=hF 15 rfl
  simp only [↓Sh.dn,sx,Nat.reduceBEq,reduceCtorEq,Nat.reduceEqDiff] at f1 f3 f15
  rw [List.take_length] at hg
  have hb':=hb1.kept hk1.wf hk
  simp only [↓Sh.dn,sx,Nat.reduceBEq,reduceCtorEq,Nat.reduceEqDiff,hb'.c0,hb'.c1,hb'.c2,hb'.c3,hb'.ca,A3a hb',A1a hb',A2a hb',f1,f3,f15,f16,A9a,Nat.lt_irrefl,decide_false,Option.map_some]
  refine A0i N.ends.length 56 (List.range' 56 11++[7]) (fun i F H'=>Kept H1 H'∧Gr H' H1.next g N.sigma (B4c N N.arcs) (A7n N (N.ends.take i)) (A5n N (N.ends.take i))) (by simp only [↓Sh.dn,sx,Nat.reduceBEq,reduceCtorEq,Nat.reduceEqDiff]) ⟨hk,hg⟩ ?_ ?_
  ·rintro i F' H' hlt hF' f56 ⟨hk,hg⟩ k
   have g1:=hF' 1 rfl
   have g3:=hF' 3 rfl
   have f54:=hF' 54 rfl
   have f55:=hF' 55 rfl
   simp only [↓Sh.dn,sx,Nat.reduceBEq,reduceCtorEq,Nat.reduceEqDiff,f1,f3] at g1 g3 f54 f55
   have hb':=hb1.kept hk1.wf hk
   obtain ⟨q,o,kk,hia,hc,hcc⟩:=hb'.hen.at Tryz.underlying24 A9q (i:=i) (x:=N.ends[i].cells) (by simp [hlt]) .i64
   clear hcc
   have htake:N.ends.take (i+1)=N.ends.take i++[N.ends[i]]:=by rw [List.take_add_one,List.getElem?_eq_getElem hlt]; rfl
   obtain ⟨k0,k1⟩:=hok.fin _ (List.getElem_mem hlt)
   have hk3:=hk.news 2 (N.ends[i].cells)
   have hg3:=hg.kept hk.wf (Kept.new hk.wf 2 (N.ends[i].cells))
   generalize N.ends[i]=e at hk3 hg3 hc htake k0 k1
   obtain ⟨s,hs⟩:∃ s:Nat,e.state=(s:Int):=⟨e.state.toNat,by omega⟩
   have hsn:s < N.states.toNat:=by omega
   have hrow:=A1h (key:=EndD.state) (f:=EndD.cost) (l:=N.ends.take i) hsn
   have hrl:=A14 hrow
   have htl:(N.ends.take i).length≤60000:=by rw [List.length_take]; have:=hok.en; omega
   have l1:s < (A7n N (N.ends.take i)).length:=by unfold A7n; rw [List.length_map,A1f]; exact hsn
   have l2:s < (A5n N (N.ends.take i)).length:=by unfold A5n; rw [List.length_map,A1f]; exact hsn
   have v1:(A7n N (N.ends.take i))[s]=((((N.ends.take i).filter fun a=>decide (a.state=(s:Int))).map EndD.cost).length:Int):=by
    apply Option.some.inj
    rw [← List.getElem?_eq_getElem l1]
    unfold A7n
    rw [List.getElem?_map,hrow]; rfl
   have v2:(A5n N (N.ends.take i))[s]=leastOf (((N.ends.take i).filter fun a=>decide (a.state=(s:Int))).map EndD.cost):=by
    apply Option.some.inj
    rw [← List.getElem?_eq_getElem l2]
    unfold A5n
    rw [List.getElem?_map,hrow]; rfl
   obtain ⟨r,H5,hd5,hc5,hg5⟩:=grEnd (x:=e.cost) hg3 l1 l2 hk3.wf (by rw [v1]; omega) (by rw [v1]; omega)
   rw [v1,v2] at hg5
   rw [← hs] at hd5
   simp only [↓Sh.dn,sx,Nat.reduceBEq,reduceCtorEq,Nat.reduceEqDiff,hb'.c0,hb'.c1,hb'.c2,hb'.c3,hb'.ca,A3a hb',A1a hb',A2a hb',A1c,A9c,A7c,A9e,A0f,A5b,A6b,A0d,A8c,A3c,arc0,arc1,arc2,arc3,arc4,end0,end1,g1,g3,f54,f55,f56,Option.map_some,A9a,hlt,decide_true,hia,hc]
   refine ⟨_,_,hd5,?_⟩
   have hen:=hsm.en
   simp only [↓Sh.dn,sx,Nat.reduceBEq,reduceCtorEq,Nat.reduceEqDiff,f56,wrap_succ hlt hen]
   refine k _ _ (by repeat (first | refine Same.put ?_ rfl | exact Same.rfl' _)) (by simp only [↓Sh.dn,sx,Nat.reduceBEq,reduceCtorEq,Nat.reduceEqDiff]) ⟨hk3.then (Nat.le_refl _) hc5,?_⟩
   rw [htake]
   have e1:A7n N (N.ends.take i++[e])=(A7n N (N.ends.take i)).set s (((((N.ends.take i).filter fun a=>decide (a.state=(s:Int))).map EndD.cost).length:Int)+1):=by
    unfold A7n
    rw [A3v hsn hs,List.map_set]
    congr 1
    rw [List.length_append]; simp
   have e2:A5n N (N.ends.take i++[e])=(A5n N (N.ends.take i)).set s (A4r ((((N.ends.take i).filter fun a=>decide (a.state=(s:Int))).map EndD.cost).length:Int) (leastOf (((N.ends.take i).filter fun a=>decide (a.state=(s:Int))).map EndD.cost)) e.cost):=by
    unfold A5n
    rw [A3v hsn hs,List.map_set]
    congr 1
    rw [B0s]
    unfold A4r
    have:((((N.ends.take i).filter fun a=>decide (a.state=(s:Int))).map EndD.cost).length:Int)=0↔((N.ends.take i).filter fun a=>decide (a.state=(s:Int))).map EndD.cost=[]:=by
     rw [← List.length_eq_zero_iff]; omega
    simp only [this]
   rw [e1,e2]
   exact hg5
  ·rintro F' H' hF' f56 ⟨hk,hg⟩
   have g3:=hF' 3 rfl
   have f55:=hF' 55 rfl
   simp only [↓Sh.dn,sx,Nat.reduceBEq,reduceCtorEq,Nat.reduceEqDiff,f3] at g3 f55
   rw [List.take_length] at hg
   simp only [↓Sh.dn,sx,Nat.reduceBEq,reduceCtorEq,Nat.reduceEqDiff,g3,f55,f56,A9a,Nat.lt_irrefl,decide_false,hres]
   exact ⟨hk1.trans hk,_,rfl,_,Nat.le_of_lt hnx,hg⟩
end Go.Proofs.YtnoengaghabmjaaGreatDoor
/- The program's graph of a net: its edges by numbers. -/
namespace Go.Proofs.YtnoengaghabmjaaGreatDoor
open Go Go.Proofs Go.Proofs.Sh
def A3l (N:NetD):List (List (Nat×Int×Int×Int)):=rowsOf ArcD.fr (fun a=>(a.to.toNat,A8q N.sigma a.inn,A8q N.sigma a.out,a.cost)) N.states.toNat N.arcs
theorem A38 {N:NetD} (hok:A5j N):A5l (A3l N)=B4c N N.arcs:=by
 unfold A5l A3l B4c rowsOf
 rw [List.map_map]
 refine List.map_congr_left fun s _=>?_
 simp only [Function.comp,List.map_map]
 refine List.map_congr_left fun a ha=>?_
 have:=hok.arc a (List.mem_filter.1 ha).1
 simp only [Function.comp,A3h,B9z]
 rw [show ((a.to.toNat:Nat):Int)=a.to by omega]
theorem B05 {l:List ByteArray} {x:ByteArray} (ha:Asc l):A8q l x < 0↔x∉l:=by
 have:=C4t (x:=x) ha
 rw [← A4k]
 cases h:A8t l x with
 | true=>rw [h] at this; simpa using this
 | false=>rw [h] at this; simpa using this
theorem C1h {N:NetD} (hok:A5j N):A1m∉N.sigma:=by
 intro h
 have:=hok.sym _ h
 have h0:A7w A1m=false:=rfl
 rw [h0] at this; cases this
theorem B9p {N:NetD} (hok:A5j N) (t:Nat):0 < (A7n N N.ends).getD t 0↔N.isEnd t:=by
 unfold NetD.isEnd A7n
 rw [List.getD_eq_getElem?_getD,List.getElem?_map]
 by_cases ht:t < N.states.toNat
 ·rw [A1h ht]
  simp only [Option.map_some,Option.getD_some,List.length_map]
  rw [show (0:Int) < ((N.ends.filter fun a=>decide (a.state=(t:Int))).length:Int)↔0 < (N.ends.filter fun a=>decide (a.state=(t:Int))).length by omega,List.length_pos_iff_exists_mem]
  simp only [List.mem_filter,decide_eq_true_eq]
 ·rw [List.getElem?_eq_none (by rw [A1f]; omega)]
  simp only [Option.map_none,Option.getD_none,Int.lt_irrefl,false_iff,not_exists,not_and]
  intro e he h
  have:=hok.fin e he
  omega
def ixN (sigma:List ByteArray) (x:ByteArray):Nat:=(A8q sigma x).toNat
theorem B57 {sigma:List ByteArray} (ha:Asc sigma) {x:ByteArray} (hx:x∈sigma):∃ k:Nat,sigma[k]?=some x∧A8q sigma x=(k:Int)∧ixN sigma x=k:=by
 obtain ⟨k,hk⟩:=List.mem_iff_getElem?.1 hx
 have:=A20 ha hk
 exact ⟨k,hk,this,by unfold ixN; rw [this]; rfl⟩
theorem B5a {sigma:List ByteArray} (ha:Asc sigma) (x y:ByteArray) (hx:x∈sigma) (hy:y∈sigma) (h:ixN sigma x=ixN sigma y):x=y:=by
 obtain ⟨k,h1,_,h2⟩:=B57 ha hx
 obtain ⟨j,h3,_,h4⟩:=B57 ha hy
 rw [h2,h4] at h
 rw [h,h3] at h1
 exact (Option.some.inj h1).symm
theorem C4g {sigma:List ByteArray} (h:A7i sigma=0):A1m∉sigma:=by
 intro hx
 unfold A7i at h
 split at h
 ·cases h
 ·split at h
  ·rename_i h1
   rw [Bool.and_eq_true,List.all_eq_true] at h1
   have:=h1.1 _ hx
   revert this
   decide
  ·cases h
end Go.Proofs.YtnoengaghabmjaaGreatDoor
