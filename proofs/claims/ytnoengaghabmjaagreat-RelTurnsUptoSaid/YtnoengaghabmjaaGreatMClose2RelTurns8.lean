/- A part of the proof: GraphNet, GraphArc, GraphEnd, GraphX, GraphAdd, GraphNew, GraphB, AnyLong, IsSymbol, AllSymbols, IsSet, RefSigma, Search, SearchAt, SearchStrings, IsIn, ValidateNet, IsFree, RefValidate, NetOk, CmpLessStr, BinarySearch, PlaceWord, GraphOf, GraphIs. -/
import Derived.Test.YtnoengaghabmjaaGreatMClose2RelTurns6
import Derived.Test.YtnoengaghabmjaaGreatMClose2RelTurns2
import Derived.Test.YtnoengaghabmjaaGreatMClose2RelTurns7
import Derived.Test.YtnoengaghabmjaaGreatMClose2RelTurns1
set_option linter.unusedVariables false
set_option linter.unusedSimpArgs false
/- (*graph.Graph).Net: the net of a graph. -/
set_option maxHeartbeats 4000000
set_option maxRecDepth 20000
set_option linter.unusedSimpArgs false
set_option linter.unusedVariables false
namespace Go.Proofs.YtnoengaghabmjaaGreat
open Go Go.Proofs Go.Proofs.Sh
def A4w (sigma:List ByteArray) (k:Int):ByteArray:=if k < 0 then ⟨#[]⟩ else sigma.getD k.toNat ⟨#[]⟩
theorem B90 {H:AH} {g:Nat} {sv av ev cv:Value} {vals:List Value} {sigma:List ByteArray} {rows:List (List (List Value))} {ends costs:List Int} (h:GrR H g sv av ev cv vals sigma rows ends costs) {k:Int} (hk:k < sigma.length):
  Sh.Call Tryz.prog (knows 10) 97 [.pointer (some ⟨g,0,some 0⟩),.int .i64 k] H (fun r H'=>H'=H∧r=.string (A4w sigma k)):=by
 refine A4a rfl Tryz.func97 rfl (Nat.le_of_ble_eq_true rfl) ?_
 have hres:Tryz.f97.results.toList=[.tmp 4]:=rfl
 have hc:=h.arr.cell 0
 by_cases h0:k < 0
 ·have:A4w sigma k=⟨#[]⟩:=if_pos h0
  simp only [↓Sh.dn,sx,Nat.reduceBEq,reduceCtorEq,Nat.reduceEqDiff,h0,decide_true,hres,this]
 ·obtain ⟨i,rfl⟩:∃ i:Nat,k=(i:Int):=⟨k.toNat,by omega⟩
  have hi:i < sigma.length:=by omega
  have:A4w sigma (i:Int)=sigma[i]:=by unfold A4w; rw [if_neg h0]; simp [List.getD,hi]
  obtain ⟨p,hia,hcc⟩:=Sl.elem (s:=1) Tryz.underlying22 A2n h.sg (i:=i) (u:=.string sigma[i]) (by rw [List.getElem?_map,List.getElem?_eq_getElem hi]; rfl)
  simp only [↓Sh.dn,sx,Nat.reduceBEq,reduceCtorEq,Nat.reduceEqDiff,h0,decide_false,hc,hia,hcc,hres,this]
abbrev GE:=Nat×Int×Int×Int
def geK (e:GE):Value:=.agg (A9e e).toArray
theorem held_ge:Tryz.prog.stoodInHeld 100=false:=by kernel_rfl
theorem geK_eq (a b:GE):eqT Tryz.prog A5h 100 (geK a) (geK b)=some (decide (a=b)):=by
 show eqT Tryz.prog (19+1) _ _ _=_
 obtain ⟨a0,a1,a2,a3⟩:=a
 obtain ⟨b0,b1,b2,b3⟩:=b
 rw [eqT.eq_def]
 simp only [geK,A9e,Tryz.underlying100,held_ge,cond_false,eqFields,apart,B58,List.getElem?_cons_zero,List.getElem?_cons_succ,Option.bind_some,B1u (d:=18)]
 have s1:("To" == "_")=false:=rfl
 have s2:("In" == "_")=false:=rfl
 have s3:("Out" == "_")=false:=rfl
 have s4:("Cost" == "_")=false:=rfl
 simp only [s1,s2,s3,s4,cond_false]
 have e0:((a0:Int)=(b0:Int))↔a0=b0:=Int.ofNat_inj
 simp only [e0,Prod.mk.injEq]
 by_cases h0:a0=b0
 ·by_cases h1:a1=b1
  ·by_cases h2:a2=b2
   ·by_cases h3:a3=b3
    ·simp [h0,h1,h2,h3]
    ·simp [h0,h1,h2,h3]
   ·simp [h0,h1,h2]
  ·simp [h0,h1]
 ·simp [h0]
theorem C7w (a:GE):A4n Tryz.prog 100 (geK a)=true:=by
 obtain ⟨a0,a1,a2,a3⟩:=a
 unfold A4n
 rw [Bool.and_eq_true]
 refine ⟨rfl,?_⟩
 show keyT Tryz.prog (19+1) _ _=true
 rw [keyT.eq_def]
 simp only [geK,A9e,Tryz.underlying100]
 have hk:∀ n:Int,keyT Tryz.prog 19 3 (.int .i64 n)=true:=fun n=>by
  show keyT Tryz.prog (18+1) _ _=true
  rw [keyT.eq_def]
  simp only [Tryz.underlying3]
 simp only [List.all_cons,List.all_nil,apart,B58,List.getElem?_cons_zero,List.getElem?_cons_succ,hk,Bool.or_true,Bool.and_self]
def EMap (H:AH) (g:Nat) (D:List GE):Prop:=MapIs H g geK (D.map fun t=>(t,.bool true))
theorem B1n {α:Type} [DecidableEq α] (v:Value) (D:List α) (t:α):A0u (D.map fun t=>(t,v)) t=if t∈D then some v else none:=by
 unfold A0u
 by_cases h:t∈D
 ·rw [if_pos h]
  cases hf:(D.map fun t=>(t,v)).find? fun p=>decide (t=p.1) with
  | none=>
   rw [List.find?_eq_none] at hf
   have:=hf (t,v) (List.mem_map.2 ⟨t,h,rfl⟩)
   simp at this
  | some p=>
   have:=List.mem_of_find?_eq_some hf
   obtain ⟨u,_,rfl⟩:=List.mem_map.1 this
   rfl
 ·rw [if_neg h]
  have:(D.map fun t=>(t,v)).find? (fun p=>decide (t=p.1))=none:=by
   rw [List.find?_eq_none]
   rintro p hp
   obtain ⟨u,hu,rfl⟩:=List.mem_map.1 hp
   simp only [decide_eq_true_eq]
   rintro rfl
   exact h hu
  rw [this]; rfl
theorem EMap.look {H:AH} {g:Nat} {D:List GE} (h:EMap H g D) (t:GE):A9p Tryz.prog 127 (.map (some g)) (.agg (A9e t).toArray) false H=some (.bool (decide (t∈D))):=by
 have:=MapIs.look (P:=Tryz.prog) (ok:=false) Tryz.underlying127 A76 C7w geK_eq h t
 rw [B1n] at this
 unfold geK at this
 rw [this]
 by_cases hd:t∈D <;> simp [hd]
theorem EMap.add {H:AH} {g:Nat} {D:List GE} (h:EMap H g D) (hw:Wf H) {t:GE} (ht:t∉D):∃ H',A7h Tryz.prog 127 (.map (some g)) (.agg (A9e t).toArray) (.bool true) H=some H'∧EMap H' g (D++[t])∧Chg (fun y=>y=g) H H'∧H'.next=H.next:=by
 obtain ⟨H',h1,h2,h3,h4⟩:=MapIs.add (P:=Tryz.prog) Tryz.underlying127 C7w geK_eq h hw (a:=t) (by rw [B1n,if_neg ht]) (.bool true)
 exact ⟨H',h1,by unfold EMap; rw [List.map_append]; exact h2,h3,h4⟩
structure NB (H:AH) (base gb:Nat) (cl av ev:Value) (os oa oe:Option Nat) (n:Nat) (sigma:List ByteArray) (arcs:List ArcD) (es:List EndD):Prop where
 bx:Arr H gb 0 4 [cl,.int .i64 (n:Int),av,ev]
 sg:Buf H 1 cl (sigma.map A1b) os
 ar:Buf H 5 av (arcs.map ArcD.cells) oa
 en:Buf H 2 ev (es.map EndD.cells) oe
 b0:base≤gb
 bs:∀ y,os=some y→base≤y∧y≠gb
 ba:∀ y,oa=some y→base≤y∧y≠gb∧os≠some y
 be:∀ y,oe=some y→base≤y∧y≠gb∧os≠some y∧oa≠some y
section
variable {H H':AH} {base gb n:Nat} {cl av ev:Value} {os oa oe:Option Nat} {sigma:List ByteArray} {arcs:List ArcD} {es:List EndD}
theorem NB.chg (h:NB H base gb cl av ev os oa oe n sigma arcs es) (hw:Wf H) {X:Nat→Prop} (hc:Chg X H H') (hx:∀ y,X y→y≠gb∧os≠some y∧oa≠some y∧oe≠some y):NB H' base gb cl av ev os oa oe n sigma arcs es:=
 { h with
  bx:=h.bx.keep (hc.old gb (h.bx.lt hw) fun hy=>(hx gb hy).1 rfl)
  sg:=h.sg.chg hw hc fun y hy hX=>(hx y hX).2.1 hy
  ar:=h.ar.chg hw hc fun y hy hX=>(hx y hX).2.2.1 hy
  en:=h.en.chg hw hc fun y hy hX=>(hx y hX).2.2.2 hy }
theorem NB.kept (h:NB H base gb cl av ev os oa oe n sigma arcs es) (hw:Wf H) (hk:Kept H H'):NB H' base gb cl av ev os oa oe n sigma arcs es:=h.chg hw (hk.chg (X:=none')) fun y hy=>hy.elim
theorem NB.pushArc (h:NB H base gb cl av ev os oa oe n sigma arcs es) (hw:Wf H) (a:ArcD) (hl:arcs.length≤1073741823):
  ∃ b cap av' H1 H2 oa',av=.slice b arcs.length cap∧A9a Tryz.prog 23 1 [(0,.agg a.cells.toArray)] H=some (.slice (some ⟨H.next,0,some 0⟩) 1 1,(H.new 5 a.cells).2)∧
   A6a Tryz.prog .append [23,23] [.slice b arcs.length cap,.slice (some ⟨H.next,0,some 0⟩) 1 1] (H.new 5 a.cells).2=some (av',H1)∧
   A4f Tryz.prog 23 H1 av' (.pointer (some ⟨gb,2,some 0⟩))=some H2∧NB H2 base gb cl av' ev os oa' oe n sigma (arcs++[a]) es∧Chg (fun y=>base≤y∧(y=gb∨oa=some y)) H H2∧∀ y,oa'=some y→oa=some y∨H.next≤y:=by
 obtain ⟨b,cap,av',H1,oa',rfl,e1,e2,e3,e4⟩:=h.ar.push hw (x:=a.cells) rfl
 rw [List.length_map] at e1
 have hbs:=B2e (H:=H) (x:=.agg a.cells.toArray) rfl rfl
 have va:∀ xs:Array Value,A0b (.agg xs)=xs.toList:=fun _=>rfl
 simp only [va] at hbs
 have ha:=C3a (H:=H) (base:=b) (len:=arcs.length) (cap:=cap) (x:=a.cells) rfl hl
 rw [e1] at ha
 have hgb:=h.bx.lt hw
 have bx1:=h.bx.keep (e3.old gb hgb fun hy=>(h.ba gb hy).2.1 rfl)
 obtain ⟨H2,w1,ar1,v1,z1⟩:=bx1.write e3.wf (i:=2) (vs:=[av']) (by simp)
 have sc:setCells [cl,.int .i64 (n:Int),.slice b arcs.length cap,ev] 2 [av']=[cl,.int .i64 (n:Int),av',ev]:=rfl
 rw [List.length_map] at ar1
 rw [sc] at ar1
 have st:A4f Tryz.prog 23 H1 av' (.pointer (some ⟨gb,2,some 0⟩))=some H2:=by rw [A1d A14 e2.isCell,w1]
 have old:∀ y,oa'=some y→oa=some y∨H.next≤y:=e4
 have z0:Chg (fun y=>base≤y∧(y=gb∨oa=some y)) H H1:=e3.weak fun y hy=>⟨(h.ba y hy).1,.inr hy⟩
 have z2:Chg (fun y=>base≤y∧(y=gb∨oa=some y)) H1 H2:=z1.weak fun y hy=>⟨by rw [hy]; exact h.b0,.inl hy⟩
 refine ⟨b,cap,av',H1,H2,oa',by rw [List.length_map],hbs,ha,st,⟨ar1,?_,?_,?_,h.b0,h.bs,fun y hy=>?_,fun y hy=>?_⟩,z0.trans z2,old⟩
 ·exact (h.sg.chg hw e3 fun y hy hya=>(h.ba y hya).2.2 hy).chg e3.wf z1 fun y hy hyg=>(h.bs y hy).2 hyg
 ·rw [List.map_append]
  refine e2.chg e3.wf z1 fun y hy hyg=>?_
  rcases old y hy with h1 | h1
  ·exact (h.ba y h1).2.1 hyg
  ·omega
 ·exact (h.en.chg hw e3 fun y hy hya=>(h.be y hy).2.2.2 hya).chg e3.wf z1 fun y hy hyg=>(h.be y hy).2.1 hyg
 ·rcases old y hy with h1 | h1
  ·exact h.ba y h1
  ·have h0:=h.b0
   exact ⟨by omega,by omega,fun hs=>by have:=h.sg.lt hw y hs; omega⟩
 ·have h5:=h.be y hy
  refine ⟨h5.1,h5.2.1,h5.2.2.1,fun ha=>?_⟩
  rcases old y ha with h1 | h1
  ·exact h5.2.2.2 h1
  ·have:=h.en.lt hw y hy; omega
theorem NB.pushEnd (h:NB H base gb cl av ev os oa oe n sigma arcs es) (hw:Wf H) (x:EndD) (hl:es.length≤1073741823):
  ∃ b cap ev' H1 H2 oe',ev=.slice b es.length cap∧A9a Tryz.prog 24 1 [(0,.agg x.cells.toArray)] H=some (.slice (some ⟨H.next,0,some 0⟩) 1 1,(H.new 2 x.cells).2)∧
   A6a Tryz.prog .append [24,24] [.slice b es.length cap,.slice (some ⟨H.next,0,some 0⟩) 1 1] (H.new 2 x.cells).2=some (ev',H1)∧
   A4f Tryz.prog 24 H1 ev' (.pointer (some ⟨gb,3,some 0⟩))=some H2∧NB H2 base gb cl av ev' os oa oe' n sigma arcs (es++[x])∧Chg (fun y=>base≤y∧(y=gb∨oe=some y)) H H2∧∀ y,oe'=some y→oe=some y∨H.next≤y:=by
 obtain ⟨b,cap,ev',H1,oe',rfl,e1,e2,e3,e4⟩:=h.en.push hw (x:=x.cells) rfl
 rw [List.length_map] at e1
 have hbs:=C05 (H:=H) (x:=.agg x.cells.toArray) rfl rfl
 have va:∀ xs:Array Value,A0b (.agg xs)=xs.toList:=fun _=>rfl
 simp only [va] at hbs
 have ha:=app1_24 (H:=H) (base:=b) (len:=es.length) (cap:=cap) (x:=x.cells) rfl hl
 rw [e1] at ha
 have hgb:=h.bx.lt hw
 have bx1:=h.bx.keep (e3.old gb hgb fun hy=>(h.be gb hy).2.1 rfl)
 obtain ⟨H2,w1,ar1,v1,z1⟩:=bx1.write e3.wf (i:=3) (vs:=[ev']) (by simp)
 have sc:setCells [cl,.int .i64 (n:Int),av,.slice b es.length cap] 3 [ev']=[cl,.int .i64 (n:Int),av,ev']:=rfl
 rw [List.length_map] at ar1
 rw [sc] at ar1
 have st:A4f Tryz.prog 24 H1 ev' (.pointer (some ⟨gb,3,some 0⟩))=some H2:=by rw [A1d C07 e2.isCell,w1]
 have old:∀ y,oe'=some y→oe=some y∨H.next≤y:=e4
 have z0:Chg (fun y=>base≤y∧(y=gb∨oe=some y)) H H1:=e3.weak fun y hy=>⟨(h.be y hy).1,.inr hy⟩
 have z2:Chg (fun y=>base≤y∧(y=gb∨oe=some y)) H1 H2:=z1.weak fun y hy=>⟨by rw [hy]; exact h.b0,.inl hy⟩
 refine ⟨b,cap,ev',H1,H2,oe',by rw [List.length_map],hbs,ha,st,⟨ar1,?_,?_,?_,h.b0,h.bs,h.ba,fun y hy=>?_⟩,z0.trans z2,old⟩
 ·exact (h.sg.chg hw e3 fun y hy hye=>(h.be y hye).2.2.1 hy).chg e3.wf z1 fun y hy hyg=>(h.bs y hy).2 hyg
 ·exact (h.ar.chg hw e3 fun y hy hye=>(h.be y hye).2.2.2 hy).chg e3.wf z1 fun y hy hyg=>(h.ba y hy).2.1 hyg
 ·rw [List.map_append]
  refine e2.chg e3.wf z1 fun y hy hyg=>?_
  rcases old y hy with h1 | h1
  ·exact (h.be y h1).2.1 hyg
  ·omega
 ·rcases old y hy with h1 | h1
  ·exact h.be y h1
  ·have h0:=h.b0
   exact ⟨by omega,by omega,fun hs=>by have:=h.sg.lt hw y hs; omega,fun ha=>by have:=h.ar.lt hw y ha; omega⟩
end
def B7c (sigma:List ByteArray) (s:Nat) (e:GE):ArcD:=⟨s,A4w sigma e.2.1,A4w sigma e.2.2.1,e.1,e.2.2.2⟩
theorem A71 {H:AH} {X:Nat→Prop} {g n:Nat} {sigma:List ByteArray} {ends costs:List Int} {E:List (List GE)}
  (h:GrX H X g sigma (A0d E) ends costs) (hE:E.length=n) (he:ends.length=n) (hcl:costs.length=n) (hn1:1≤n) (hn:n≤3000) (hsg:sigma.length≤1048576) (hto:∀ r∈E,∀ e∈r,e.1 < n∧e.2.1 < sigma.length∧e.2.2.1 < sigma.length) (htot:(E.map List.length).sum≤1048576) (hw:Wf H):
  Sh.Call Tryz.prog (knows 10) 44 [.pointer (some ⟨g,0,some 0⟩)] H (fun r H'=>Kept H H'∧∃ M:NetD,(∀ H'',(∀ y,H.next≤y→H''.objs.get y=H'.objs.get y)→Nonempty (A4h H'' r M))∧M.sigma=sigma∧M.states=(n:Int)∧M.arcs.length≤(E.map List.length).sum∧(∀ a,a∈M.arcs↔∃ (s:Nat) (r:List GE),E[s]?=some r∧∃ e∈r,a=B7c sigma s e)∧M.ends.length≤n∧∀ x,x∈M.ends↔∃ s:Nat,s < n∧0 < ends.getD s 0∧x=⟨(s:Int),costs.getD s 0⟩):=by
 refine A4a rfl Tryz.func44 rfl (Nat.le_of_ble_eq_true rfl) ?_
 have hres:Tryz.f44.results.toList=[.cell 2 26]:=rfl
 obtain ⟨sv,av,ev,cv,vals,hR⟩:=h.read
 have hpre:∀ i,((E.take i).map List.length).sum≤(E.map List.length).sum:=fun i=>by
  have h1:((E.take i).map List.length).sum+((E.drop i).map List.length).sum=(E.map List.length).sum:=by
   rw [← List.sum_append,← List.map_append,List.take_append_drop]
  omega
 have hrl:∀ (s:Nat) r,E[s]?=some r→r.length≤1048576:=fun s r hr=>by
  have h1:=hpre (s+1)
  have h2:E.take (s+1)=E.take s++[r]:=by rw [List.take_add_one,hr]; rfl
  rw [h2,List.map_append,List.sum_append] at h1
  simp at h1; omega
 have hP:PG H g n 1048576 E ends sv av ev cv vals sigma costs:=⟨hR,hE,he,hn1,hn,fun s r hr=>⟨hrl s r hr,fun e he'=>(hto r (List.mem_of_getElem? hr) e he').1⟩⟩
 have hlenA:∀ H',A6a Tryz.prog .len [123] [av] H'=some (.int .i64 (n:Int),H'):=fun H'=>by
  rw [hR.jag.sl.len Tryz.underlying123,List.length_map,hR.jag.len]; unfold A0d; rw [List.length_map,hE]
 simp only [↓Sh.dn,sx,Nat.reduceBEq,reduceCtorEq,Nat.reduceEqDiff,A5b]
 have k0:=Kept.new hw 4 [.slice none 0 0,.int .i64 0,.slice none 0 0,.slice none 0 0]
 have o0:=Sh.Obj.new (H:=H) 4 [.slice none 0 0,.int .i64 0,.slice none 0 0,.slice none 0 0]
 have x0:H.next < (H.new 4 [.slice none 0 0,.int .i64 0,.slice none 0 0,.slice none 0 0]).2.next:=Nat.lt_succ_self _
 obtain ⟨go,hgo⟩:∃ y,H.next=y:=⟨_,rfl⟩
 rw [hgo] at o0 x0
 generalize (H.new 4 [.slice none 0 0,.int .i64 0,.slice none 0 0,.slice none 0 0]).2=H0 at k0 o0 x0 ⊢
 have k1:=Kept.new k0.wf 4 [.slice none 0 0,.int .i64 0,.slice none 0 0,.slice none 0 0]
 have o1:=Sh.Obj.new (H:=H0) 4 [.slice none 0 0,.int .i64 0,.slice none 0 0,.slice none 0 0]
 have x1:H0.next < (H0.new 4 [.slice none 0 0,.int .i64 0,.slice none 0 0,.slice none 0 0]).2.next:=Nat.lt_succ_self _
 have m1:∀ x,(H0.new 4 [.slice none 0 0,.int .i64 0,.slice none 0 0,.slice none 0 0]).2.objs.get H0.next=some x→A69 x x=true:=by
  intro x hx
  have:=o1
  unfold Sh.Obj at this
  rw [this] at hx
  injection hx with hx
  subst hx
  simp [A69,C4x,A6l,A0o,A0g,A1c]
 obtain ⟨H1,hH1⟩:∃ K,(H0.new 4 [.slice none 0 0,.int .i64 0,.slice none 0 0,.slice none 0 0]).2=K:=⟨_,rfl⟩
 have nz:=A5b (H:=H0)
 rw [hH1] at k1 o1 x1 m1 nz
 have k01:=k0.trans k1
 have hR0:=hR.kept hw k0
 have hR1:=hR.kept hw k01
 obtain ⟨r2,H2,hd2,hk2,os,hcb,hcf⟩:=C4l hR1.sg (by rw [List.length_map]; exact hsg) k1.wf
 have k02:=k01.trans hk2
 have ic:=hcb.isCell
 have bq:A2m Tryz.prog 26 [(0,r2),(1,.int .i64 (n:Int))]=some (.agg #[r2,.int .i64 (n:Int),.slice none 0 0,.slice none 0 0]):=by
  have va:∀ xs:Array Value,A0b (.agg xs)=xs.toList:=fun _=>rfl
  have hci:isCell (.int .i64 (n:Int))=true:=rfl
  refine A0i (pl:=[(0,1),(1,1),(2,1),(3,1)]) Tryz.underlying26 A04 (by kernel_rfl) ?_
  simp [A5u,va,A7b ic,A7b hci,ic,hci,setCells,A8a,A3c]
 have arr2:=o1.arr.keep (hk2.old H0.next x1)
 obtain ⟨H3,w3,ar3,v3,z3⟩:=arr2.write hk2.wf (i:=0) (vs:=[r2,.int .i64 (n:Int),.slice none 0 0,.slice none 0 0]) (by simp)
 have sc:setCells [.slice none 0 0,.int .i64 0,.slice none 0 0,.slice none 0 0] 0 [r2,.int .i64 (n:Int),.slice none 0 0,.slice none 0 0]=[r2,.int .i64 (n:Int),.slice none 0 0,.slice none 0 0]:=rfl
 rw [sc] at ar3
 have st3:=A02 (H:=H2) (n:=(n:Int)) (p:=⟨H0.next,0,some 0⟩) ic (show isCell (.slice none 0 0)=true from rfl) (show isCell (.slice none 0 0)=true from rfl)
 rw [w3] at st3
 have k03:Kept H0 H3:=(k1.trans hk2).then (Nat.le_refl _) (z3.weak fun y hy=>by omega)
 have hnb:NB H3 H0.next H0.next r2 (.slice none 0 0) (.slice none 0 0) os none none n sigma [] []:=
  ⟨ar3,hcb.chg hk2.wf z3 fun y hy e=>by have:=hcf y hy; omega,.void none,.void none,Nat.le_refl _,fun y hy=>by have:=hcf y hy; exact ⟨by omega,by omega⟩,fun y hy=>(by cases hy),fun y hy=>by cases hy⟩
 have hav:=hR.jag.sl.veq
 have hsv:=hR.sg.veq
 refine A6o (fl:=[(0,true),(1,true),(2,true),(3,false),(5,true),(6,true),(7,true),(8,false),(9,false),(11,false),(4,false),(10,true),(12,true)]) (by kernel_rfl) (by kernel_rfl) k0.wf ?_
 have q0:=hR0.arr.cell 0
 have q1:=hR0.arr.cell 1
 have q0':=hR1.arr.cell 0
 have q1':=hR1.arr.cell 1
 simp only [↓Sh.dn,sx,Nat.reduceBEq,reduceCtorEq,Nat.reduceEqDiff,wpg,A4q,isEff,A9b,isRead,A3e,A1c,A4e,A6c,A6b,forall_eq,forall_eq',q0,q1,q0',q1',hlenA,nz,hH1,hav,hsv]
 refine ⟨m1,_,_,hd2,hk2.wf,?_⟩
 try refine ⟨hk2.grow k1.wf,?_⟩
 have hR2:=hR.kept hw k02
 have q1'':=hR2.arr.cell 1
 have hR3:=hR.kept hw (k0.trans k03)
 have q3:=hR3.arr.cell 1
 simp only [↓Sh.dn,sx,Nat.reduceBEq,reduceCtorEq,Nat.reduceEqDiff,wpg,A4q,isEff,A9b,isRead,A3e,A1c,A4e,A6c,A6b,forall_eq,forall_eq',q1'',hlenA,bq,st3,hav]
 try refine ⟨hk2.grow k1.wf,?_⟩
 try simp only [↓Sh.dn,sx,Nat.reduceBEq,reduceCtorEq,Nat.reduceEqDiff,wpg,A4q,isEff,A9b,isRead,A3e,A1c,A4e,A6c,A6b,forall_eq,forall_eq',q3,hlenA]
 refine ⟨k03.wf,?_⟩
 refine A0f n 25 (List.range' 25 61++[4,5,6,8]) (fun i F H'=>Kept H0 H'∧∃ av' ev' oa oe arcs es,NB H' H0.next H0.next r2 av' ev' os oa oe n sigma arcs es∧arcs.length≤((E.take i).map List.length).sum∧(∀ a,a∈arcs↔∃ (s:Nat) (r:List GE),s < i∧E[s]?=some r∧∃ e∈r,a=B7c sigma s e)∧es.length≤i∧∀ x,x∈es↔∃ s:Nat,s < i∧0 < ends.getD s 0∧x=⟨(s:Int),costs.getD s 0⟩) (by simp only [↓Sh.dn,sx,Nat.reduceBEq,reduceCtorEq,Nat.reduceEqDiff]) ⟨k03,_,_,none,none,[],[],hnb,Nat.zero_le _,fun a=>by simp,Nat.le_refl _,fun x=>by simp⟩ ?_ ?_
 ·rintro i F H' hi hF f25 ⟨hk,av',ev',oa,oe,arcs,es,hN,hal,hai,hel,hei⟩ k
  have f0:=hF 0 rfl
  have f3:=hF 3 rfl
  have f23:=hF 23 rfl
  have f24:=hF 24 rfl
  simp only [↓Sh.dn,sx,Nat.reduceBEq,reduceCtorEq,Nat.reduceEqDiff] at f0 f3 f23 f24
  have hiE:i < E.length:=by omega
  have hr:E[i]?=some E[i]:=List.getElem?_eq_getElem hiE
  have hrt:=hto E[i] (List.getElem_mem hiE)
  have htE:E.take (i+1)=E.take i++[E[i]]:=by rw [List.take_add_one,hr]; rfl
  generalize E[i]=r at hr hrt htE
  have hrl2:=hrl i r hr
  have hsum:((E.take (i+1)).map List.length).sum=((E.take i).map List.length).sum+r.length:=by rw [htE]; simp
  have hp1:=hpre (i+1)
  have hkH:=fun {H'} (hk:Kept H0 H')=>k0.trans hk
  obtain ⟨pr,wr,hiar,hcr0,hsr,hlr⟩:=PG.row hP hr
  have hcr:=A9d ((hkH hk).grow hw) hcr0
  have km:=Kept.push hk.wf (.map [])
  have hm0:EMap (H'.push (.map [])).2 H'.next []:=MapIs.new
  have hN0:=hN.kept hk.wf km
  have hgbl:=hN.bx.lt hk.wf
  have osl:=fun y h=>hN.sg.lt hk.wf y h
  have oal:=fun y h=>hN.ar.lt hk.wf y h
  have oel:=fun y h=>hN.en.lt hk.wf y h
  have hkm:=hk.trans km
  simp only [↓Sh.dn,sx,Nat.reduceBEq,reduceCtorEq,Nat.reduceEqDiff,f23,f24,f25,A5a,hi,decide_true,hiar,hcr,hlr]
  have nx:H'.next < (H'.push (.map [])).2.next:=Nat.lt_succ_self _
  obtain ⟨gm,hgm⟩:∃ gm,H'.next=gm:=⟨_,rfl⟩
  rw [hgm] at hm0 hgbl osl oal oel nx
  refine A0f r.length 33 (List.range' 33 30++[8]) (fun q F'' H''=>Kept H0 H''∧∃ av' oa arcs D,NB H'' H0.next H0.next r2 av' ev' os oa oe n sigma arcs es∧EMap H'' gm D∧(∀ y,oa=some y→y≠gm)∧arcs.length≤((E.take i).map List.length).sum+q∧(∀ e,e∈D↔e∈r.take q)∧∀ a,a∈arcs↔(∃ (s:Nat) (r:List GE),s < i∧E[s]?=some r∧∃ e∈r,a=B7c sigma s e)∨∃ e∈r.take q,a=B7c sigma i e) (by simp only [↓Sh.dn,sx,Nat.reduceBEq,reduceCtorEq,Nat.reduceEqDiff]) ⟨hkm,av',oa,arcs,[],hN0,hm0,fun y hy=>by have:=oal y hy; omega,Nat.le_trans hal (Nat.le_add_right _ _),fun e=>by simp,fun a=>by rw [hai]; simp⟩ ?_ ?_
  ·rintro q F'' H'' hq hF'' f33 ⟨hk'',av',oa,arcs,D,hN,hM,hom,hal,hD,hai⟩ k2
   have g0:=hF'' 0 rfl
   have g3:=hF'' 3 rfl
   have g4:=hF'' 4 rfl
   have g6:=hF'' 6 rfl
   have g31:=hF'' 31 rfl
   have g32:=hF'' 32 rfl
   simp only [↓Sh.dn,sx,Nat.reduceBEq,reduceCtorEq,Nat.reduceEqDiff,f0,f3,hgm] at g0 g3 g4 g6 g31 g32
   obtain ⟨pe,hiae,hce⟩:=PG.edge (hsr.grow ((hkH hk'').grow hw)) hq
   have hrq:r[q]∈r:=List.getElem_mem hq
   have htk:r.take (q+1)=r.take q++[r[q]]:=by rw [List.take_add_one,List.getElem?_eq_getElem hq]; rfl
   generalize r[q]=e at hce hrq htk
   obtain ⟨ht1,ht2,ht3⟩:=hrt e hrq
   have kn:=Kept.new hk''.wf 4 (A9e e)
   have hk3:=hk''.trans kn
   have hN3:=hN.kept hk''.wf kn
   have hM3:EMap (H''.new 4 (A9e e)).2 gm D:=hM.keep (kn.old _ (hM.lt hk''.wf))
   have hlk:=hM3.look e
   have hgml:=hM.lt hk''.wf
   have hall:(H''.new 4 (A9e e)).2.cells ⟨H''.next,0,some 0⟩ 4=some (A9e e):=geAll
   have hj:∀ (p:GE→Prop),(∃ e'∈r.take (q+1),p e')↔(∃ e'∈r.take q,p e')∨p e:=fun p=>by
    rw [htk]
    simp only [List.mem_append,List.mem_singleton]
    constructor
    ·rintro ⟨e',h1 | h1,h2⟩
     ·exact .inl ⟨e',h1,h2⟩
     ·subst h1; exact .inr h2
    ·rintro (⟨e',h1,h2⟩ | h2)
     ·exact ⟨e',.inl h1,h2⟩
     ·exact ⟨e,.inr rfl,h2⟩
   simp only [↓Sh.dn,sx,Nat.reduceBEq,reduceCtorEq,Nat.reduceEqDiff,f33,g6,g31,g32,hiae,hce,A5a,hq,decide_true,Option.map_some,B4q,A79,B3o,hall,hlk]
   by_cases hin:e∈D
   ·simp only [↓Sh.dn,sx,Nat.reduceBEq,reduceCtorEq,Nat.reduceEqDiff,hin,decide_true,f33,A7a hq (Nat.le_trans hrl2 (by decide))]
    refine k2 _ _ (by repeat (first | refine Same.put ?_ rfl | exact Same.rfl' _)) (by simp only [↓Sh.dn,sx,Nat.reduceBEq,reduceCtorEq,Nat.reduceEqDiff]) ⟨hk3,av',oa,arcs,D,hN3,hM3,hom,by omega,fun e'=>?_,fun a=>?_⟩
    ·rw [hD,htk,List.mem_append,List.mem_singleton]
     exact ⟨.inl,fun h=>h.elim id fun h=>by rw [h]; exact (hD e).1 hin⟩
    ·rw [hai,hj]
     constructor
     ·rintro (h1 | h1)
      ·exact .inl h1
      ·exact .inr (.inl h1)
     ·rintro (h1 | h1 | h1)
      ·exact .inl h1
      ·exact .inr h1
      ·exact .inr ⟨e,(hD e).1 hin,h1⟩
   ·obtain ⟨K1,e1,hM4,c4,n4⟩:=hM3.add hk3.wf hin
    have hN4:=hN3.chg hk3.wf c4 fun y hy=>by
     subst hy
     exact ⟨by omega,fun h=>by have:=osl _ h; omega,fun h=>hom _ h rfl,fun h=>by have:=oel _ h; omega⟩
    have hk4:Kept H0 K1:=hk3.then (Nat.le_refl _) (c4.weak fun y hy=>by rw [hy,← hgm]; exact hk.next)
    have hR4:=hR.kept hw (hkH hk4)
    have ob:=(Sh.Obj.new (H:=H'') 4 (A9e e)).arr.keep (c4.old H''.next (Nat.lt_succ_self _) (by omega))
    have c0:K1.cell ⟨H''.next,0,some 0⟩=some (.int .i64 (e.1:Int)):=ob.cell 0
    have c1:K1.cell ⟨H''.next,1,some 0⟩=some (.int .i64 e.2.1):=ob.cell 1
    have c2:K1.cell ⟨H''.next,2,some 0⟩=some (.int .i64 e.2.2.1):=ob.cell 2
    have c3:K1.cell ⟨H''.next,3,some 0⟩=some (.int .i64 e.2.2.2):=ob.cell 3
    have bx2:=hN4.bx.cell 2
    obtain ⟨r5,K5,hd5,rfl,rfl⟩:=B90 hR4 ht2
    obtain ⟨r6,K6,hd6,rfl,rfl⟩:=B90 hR4 ht3
    obtain ⟨b,cap,av2,K7,K8,oa',rfl,e2,e3,e4,hN8,c8,new8⟩:=hN4.pushArc hk4.wf (B7c sigma i e) (by omega)
    have bl:A2m Tryz.prog 54 [(0,.int .i64 (i:Int)),(1,.string (A4w sigma e.2.1)),(2,.string (A4w sigma e.2.2.1)),(3,.int .i64 (e.1:Int)),(4,.int .i64 e.2.2.2)]=some (.agg (B7c sigma i e).cells.toArray):=bld_54 rfl rfl rfl rfl rfl
    have hk8:Kept H0 K8:=hk4.then (Nat.le_refl _) (c8.weak fun y hy=>hy.1)
    have hgm4:=hM4.lt hk4.wf
    have hM8:EMap K8 gm (D++[e]):=hM4.keep (c8.old gm hgm4 fun hy=>by
     rcases hy.2 with h1 | h1
     ·omega
     ·exact hom gm h1 rfl)
    simp only [↓Sh.dn,sx,Nat.reduceBEq,reduceCtorEq,Nat.reduceEqDiff,hin,decide_false,g6,hall,e1]
    refine A9v (fl:=[(0,[]),(1,[]),(2,[]),(3,[]),(4,[]),(5,[]),(7,[]),(8,[]),(9,[]),(11,[]),(12,[]),(13,[]),(14,[]),(6,[14,12,9,1]),(10,[14,12,1]),(15,[]),(16,[]),(17,[]),(18,[]),(19,[])]) (by kernel_rfl) (by kernel_rfl) (by kernel_rfl) ?_
    simp only [↓Sh.dn,sx,Nat.reduceBEq,reduceCtorEq,Nat.reduceEqDiff,wpr,again,A9b,A3e,A1c,A4e,A6c,A6b,A0g,forall_eq,forall_eq',g0,g3,g4,bx2,c0,c1,c2,c3]
    refine ⟨_,_,hd5,?_⟩
    simp only [↓Sh.dn,sx,Nat.reduceBEq,reduceCtorEq,Nat.reduceEqDiff,wpr,again,A9b,A3e,A1c,A4e,A6c,A6b,A0g,forall_eq,forall_eq',g0,g3,g4,bx2,c0,c1,c2,c3]
    refine ⟨_,_,hd6,?_⟩
    simp only [↓Sh.dn,sx,Nat.reduceBEq,reduceCtorEq,Nat.reduceEqDiff,wpr,again,A9b,A3e,A1c,A4e,A6c,A6b,A0g,forall_eq,forall_eq',g0,g3,g4,bx2,c0,c1,c2,c3,bl,e2,e3,e4,f33,A7a hq (Nat.le_trans hrl2 (by decide))]
    refine k2 _ _ (by repeat (first | refine Same.put ?_ rfl | exact Same.rfl' _)) (by simp only [↓Sh.dn,sx,Nat.reduceBEq,reduceCtorEq,Nat.reduceEqDiff]) ⟨hk8,av2,oa',arcs++[B7c sigma i e],D++[e],hN8,hM8,fun y hy=>?_,by simp only [List.length_append,List.length_singleton]; omega,fun e'=>?_,fun a=>?_⟩
    ·rcases new8 y hy with h1 | h1
     ·exact hom y h1
     ·omega
    ·rw [List.mem_append,hD,htk,List.mem_append]
    ·rw [List.mem_append,List.mem_singleton,hai,hj]
     constructor
     ·rintro ((h1 | h1) | h1)
      ·exact .inl h1
      ·exact .inr (.inl h1)
      ·exact .inr (.inr h1)
     ·rintro (h1 | h1 | h1)
      ·exact .inl (.inl h1)
      ·exact .inl (.inr h1)
      ·exact .inr h1
  ·rintro F'' H'' hF'' f33 ⟨hk'',av',oa,arcs,D,hN,hM,hom,hal,hD,hai⟩
   have g0:=hF'' 0 rfl
   have g3:=hF'' 3 rfl
   have g4:=hF'' 4 rfl
   have g25:=hF'' 25 rfl
   have g32:=hF'' 32 rfl
   simp only [↓Sh.dn,sx,Nat.reduceBEq,reduceCtorEq,Nat.reduceEqDiff,f0,f3,f25] at g0 g3 g4 g25 g32
   rw [List.take_length] at hai
   have hR4:=hR.kept hw (hkH hk'')
   have n2:=hR4.arr.cell 2
   have n3:=hR4.arr.cell 3
   have hie:i < ends.length:=by omega
   have hic:i < costs.length:=by omega
   obtain ⟨pa,ia,ca⟩:=Sl.elem (s:=1) Tryz.underlying88 A6d hR4.en (i:=i) (u:=.int .i64 ends[i]) (by rw [List.getElem?_map,List.getElem?_eq_getElem hie]; rfl)
   obtain ⟨pb,ib,cb⟩:=Sl.elem (s:=1) Tryz.underlying88 A6d hR4.co (i:=i) (u:=.int .i64 costs[i]) (by rw [List.getElem?_map,List.getElem?_eq_getElem hic]; rfl)
   have hge:ends.getD i 0=ends[i]:=by simp [List.getD,hie]
   have hgc:costs.getD i 0=costs[i]:=by simp [List.getD,hic]
   have hai2:∀ a,a∈arcs↔∃ (s:Nat) (r:List GE),s < i+1∧E[s]?=some r∧∃ e∈r,a=B7c sigma s e:=fun a=>by
    rw [hai]
    constructor
    ·rintro (⟨s,r',h1,h2⟩ | ⟨e,h1,h2⟩)
     ·exact ⟨s,r',by omega,h2⟩
     ·exact ⟨i,r,by omega,hr,e,h1,h2⟩
    ·rintro ⟨s,r',h1,h2,e,h3,h4⟩
     by_cases hs:s=i
     ·subst hs
      rw [hr] at h2
      exact .inr ⟨e,by rw [Option.some.inj h2]; exact h3,h4⟩
     ·exact .inl ⟨s,r',by omega,h2,e,h3,h4⟩
   simp only [↓Sh.dn,sx,Nat.reduceBEq,reduceCtorEq,Nat.reduceEqDiff,f33,g0,g4,g32,A5a,Nat.lt_irrefl,decide_false,n2,ia,ca]
   by_cases hpos:0 < ends[i]
   ·obtain ⟨b,cap,ev2,K7,K8,oe',rfl,e2,e3,e4,hN8,c8,_⟩:=hN.pushEnd hk''.wf ⟨(i:Int),costs[i]⟩ (by omega)
    have bx3:=hN.bx.cell 3
    have bl:A2m Tryz.prog 56 [(0,.int .i64 (i:Int)),(1,.int .i64 costs[i])]=some (.agg (EndD.cells ⟨(i:Int),costs[i]⟩).toArray):=bld_56 rfl rfl
    have hk8:Kept H0 K8:=hk''.then (Nat.le_refl _) (c8.weak fun y hy=>hy.1)
    simp only [↓Sh.dn,sx,Nat.reduceBEq,reduceCtorEq,Nat.reduceEqDiff,hpos,decide_true]
    refine A9v (fl:=[(0,[]),(1,[]),(2,[]),(3,[]),(4,[]),(5,[]),(6,[]),(7,[]),(8,[]),(9,[]),(10,[]),(11,[]),(12,[]),(13,[]),(14,[])]) (by kernel_rfl) (by kernel_rfl) (by kernel_rfl) ?_
    simp only [↓Sh.dn,sx,Nat.reduceBEq,reduceCtorEq,Nat.reduceEqDiff,wpr,again,A9b,A3e,A1c,A4e,A6c,A6b,A0g,forall_eq,forall_eq',g0,g3,g4,g25,bx3,n3,ib,cb,bl,e2,e3,e4,A7a hi (Nat.le_trans hn (by decide))]
    refine k _ _ ?_ (by simp only [↓Sh.dn,sx,Nat.reduceBEq,reduceCtorEq,Nat.reduceEqDiff]) ⟨hk8,av',ev2,oa,oe',arcs,es++[⟨(i:Int),costs[i]⟩],hN8,by rw [hsum]; exact hal,hai2,by simp; omega,fun x=>?_⟩
    ·repeat refine Same.put ?_ rfl
     exact Same.trans (by repeat (first | refine Same.put ?_ rfl | exact Same.rfl' _)) (hF''.sub rfl)
    ·rw [List.mem_append,List.mem_singleton,hei]
     constructor
     ·rintro (⟨s,h1,h2⟩ | h1)
      ·exact ⟨s,by omega,h2⟩
      ·exact ⟨i,by omega,by rw [hge]; exact hpos,by rw [hgc]; exact h1⟩
     ·rintro ⟨s,h1,h2,h3⟩
      by_cases hs:s=i
      ·subst hs; rw [hgc] at h3; exact .inr h3
      ·exact .inl ⟨s,by omega,h2,h3⟩
   ·simp only [↓Sh.dn,sx,Nat.reduceBEq,reduceCtorEq,Nat.reduceEqDiff,hpos,decide_false,g25,A7a hi (Nat.le_trans hn (by decide))]
    refine k _ _ ?_ (by simp only [↓Sh.dn,sx,Nat.reduceBEq,reduceCtorEq,Nat.reduceEqDiff]) ⟨hk'',av',ev',oa,oe,arcs,es,hN,by rw [hsum]; exact hal,hai2,by omega,fun x=>?_⟩
    ·repeat refine Same.put ?_ rfl
     exact Same.trans (by repeat (first | refine Same.put ?_ rfl | exact Same.rfl' _)) (hF''.sub rfl)
    ·rw [hei]
     constructor
     ·rintro ⟨s,h1,h2⟩; exact ⟨s,by omega,h2⟩
     ·rintro ⟨s,h1,h2,h3⟩
      by_cases hs:s=i
      ·subst hs; rw [hge] at h2; exact absurd h2 hpos
      ·exact ⟨s,by omega,h2,h3⟩
 ·rintro F H' hF f25 ⟨hk,av',ev',oa,oe,arcs,es,hN,hal,hai,hel,hei⟩
  have f2:=hF 2 rfl
  have f3:=hF 3 rfl
  have f24:=hF 24 rfl
  simp only [↓Sh.dn,sx,Nat.reduceBEq,reduceCtorEq,Nat.reduceEqDiff,hgo] at f2 f3 f24
  rw [List.take_of_length_le (by omega)] at hal
  have o0':Sh.Obj H' go 4 [.slice none 0 0,.int .i64 0,.slice none 0 0,.slice none 0 0] true:=by
   unfold Sh.Obj at o0 ⊢
   rw [hk.old go x0]; exact o0
  obtain ⟨H6,w6,ar6,v6,z6⟩:=o0'.arr.write hk.wf (i:=0) (vs:=[r2,.int .i64 (n:Int),av',ev']) (by simp)
  have sc6:setCells [.slice none 0 0,.int .i64 0,.slice none 0 0,.slice none 0 0] 0 [r2,.int .i64 (n:Int),av',ev']=[r2,.int .i64 (n:Int),av',ev']:=rfl
  rw [sc6] at ar6
  have st6:=A02 (H:=H') (n:=(n:Int)) (p:=⟨go,0,some 0⟩) ic hN.ar.isCell hN.en.isCell
  rw [w6] at st6
  have hca:=hN.bx.cells (i:=0) (n:=4) (by simp)
  have hcr:=ar6.cells (i:=0) (n:=4) (by simp)
  have hgb:=hN.b0
  have hN6:=hN.chg hk.wf z6 fun y hy=>by
   subst hy
   exact ⟨by omega,fun h=>by have:=(hN.bs _ h).1; omega,fun h=>by have:=(hN.ba _ h).1; omega,fun h=>by have:=(hN.be _ h).1; omega⟩
  simp only [↓Sh.dn,sx,Nat.reduceBEq,reduceCtorEq,Nat.reduceEqDiff,f2,f3,f24,f25,A5a,Nat.lt_irrefl,decide_false,hca,Option.map_some,List.drop_zero,List.take_succ_cons,List.take_zero,st6,hres,hcr]
  refine ⟨(k0.trans hk).then (Nat.le_of_eq hgo) (z6.weak fun y hy=>by omega),⟨sigma,(n:Int),arcs,es⟩,fun H'' hh=>⟨⟨r2,av',ev',rfl,(hN6.sg.keep fun y hy=>hh y (by have:=(hN6.bs y hy).1; omega)).toSl,(hN6.ar.keep fun y hy=>hh y (by have:=(hN6.ba y hy).1; omega)).toSl,(hN6.en.keep fun y hy=>hh y (by have:=(hN6.be y hy).1; omega)).toSl⟩⟩,rfl,rfl,hal,fun a=>?_,hel,hei⟩
  rw [hai]
  constructor
  ·rintro ⟨s,r,_,h2⟩; exact ⟨s,r,h2⟩
  ·rintro ⟨s,r,h1,h2⟩
   exact ⟨s,r,by rw [← hE]; exact (List.getElem?_eq_some_iff.1 h1).1,h1,h2⟩
end Go.Proofs.YtnoengaghabmjaaGreat
/- (*graph.Graph).Arc: an arc is noted. -/
namespace Go.Proofs.YtnoengaghabmjaaGreat
open Go Go.Proofs Go.Proofs.Sh
theorem C3k {H:AH} {g:Nat} {sv av ev cv:Value} {ot:Option Nat} {vals:List Value} {rows:List (List (List Value))} {obs:List (Option Nat)} {s:Nat} {r:List (List Value)} {x0 x1 x2 x3:Int}
  (hg:Arr H g 0 4 [sv,av,ev,cv]) (hj:Jag H av ot 4 vals rows obs) (hgj:¬JIn ot obs g) (hr:rows[s]?=some r) (hl:r.length≤1073741823) (hw:Wf H):
  Sh.Call Tryz.prog (knows 10) 119 [.pointer (some ⟨g,0,some 0⟩),.int .i64 (s:Int),.int .i64 x0,.int .i64 x1,.int .i64 x2,.int .i64 x3] H (fun _ H'=>Chg (JIn ot obs) H H'∧∃ vals' obs',Jag H' av ot 4 vals' (rows.set s (r++[[.int .i64 x0,.int .i64 x1,.int .i64 x2,.int .i64 x3]])) obs'∧∀ y,JIn ot obs' y→JIn ot obs y∨H.next≤y):=by
 refine A4a rfl Tryz.func119 rfl (Nat.le_of_ble_eq_true rfl) ?_
 have hres:Tryz.f119.results.toList=[]:=rfl
 have hn:=hg.cell 1
 obtain ⟨a,cap,w',H2,H3,o',p,e1,e2,e3,e4,e5,e6,e7,e8,e9⟩:=hj.pushAt Tryz.underlying123 A2t hw hr (x:=[.int .i64 x0,.int .i64 x1,.int .i64 x2,.int .i64 x3]) rfl
 have hb:=C1x (v0:=.int .i64 x0) (v1:=.int .i64 x1) (v2:=.int .i64 x2) (v3:=.int .i64 x3) rfl rfl rfl rfl
 have hbs:=B8l (H:=H) (x:=.agg #[.int .i64 x0,.int .i64 x1,.int .i64 x2,.int .i64 x3]) rfl rfl
 have ha:=C7d (H:=H) (base:=a) (len:=r.length) (cap:=cap) (x:=[.int .i64 x0,.int .i64 x1,.int .i64 x2,.int .i64 x3]) rfl (by omega)
 rw [e1] at ha
 have hn2:=(hg.keep (e7.old g (hg.lt hw) hgj)).cell 1
 have st:A4f Tryz.prog 126 H2 w' (.pointer (some p))=some H3:=by rw [A1d A2t e8,e4]
 have hav:=hj.top.veq
 have va:∀ xs:Array Value,A0b (.agg xs)=xs.toList:=fun _=>rfl
 simp only [va] at hbs
 refine A9v (fl:=[(0,[]),(1,[]),(2,[]),(3,[]),(4,[]),(5,[]),(6,[]),(7,[]),(8,[]),(9,[]),(10,[]),(11,[]),(12,[]),(13,[]),(14,[]),(15,[]),(16,[]),(17,[]),(18,[3]),(19,[]),(20,[])]) (by kernel_rfl) (by kernel_rfl) (by kernel_rfl) ?_
 simp only [↓Sh.dn,sx,Nat.reduceBEq,reduceCtorEq,Nat.reduceEqDiff,wpr,again,A9b,A3e,A1c,A4e,A6c,A6b,A0g,forall_eq,forall_eq',hn,e2,e3,hb,hbs,ha,hn2,st,hres,hav]
 exact ⟨e6,_,_,e5,e9⟩
end Go.Proofs.YtnoengaghabmjaaGreat
/- (*graph.Graph).End: an end is noted. -/
namespace Go.Proofs.YtnoengaghabmjaaGreat
open Go Go.Proofs Go.Proofs.Sh
def A3v (n c x:Int):Int:=if n=0∨x < c then x else c
theorem C7m {H:AH} {g:Nat} {sv av ev cv:Value} {ends costs:List Int} {oe oc:Option Nat} {s:Nat} {x:Int}
  (hg:Arr H g 0 4 [sv,av,ev,cv]) (he:Buf H 1 ev (ends.map fun n=>[.int .i64 n]) oe) (hc:Buf H 1 cv (costs.map fun n=>[.int .i64 n]) oc)
  (hge:oe≠some g) (hgc:oc≠some g) (hec:∀ y,oe=some y→oc≠some y) (hs:s < ends.length) (hs':s < costs.length) (hw:Wf H)
  (h0:0≤ends[s]) (h1:ends[s]≤1048576):
  Sh.Call Tryz.prog (knows 10) 110 [.pointer (some ⟨g,0,some 0⟩),.int .i64 (s:Int),.int .i64 x] H (fun r H'=>Chg (fun y=>oe=some y∨oc=some y) H H'∧H'.next=H.next∧Buf H' 1 ev ((ends.set s (ends[s]+1)).map fun n=>[.int .i64 n]) oe∧Buf H' 1 cv ((costs.set s (A3v ends[s] costs[s] x)).map fun n=>[.int .i64 n]) oc):=by
 refine A4a rfl Tryz.func110 rfl (Nat.le_of_ble_eq_true rfl) ?_
 have hres:Tryz.f110.results.toList=[]:=rfl
 have hn:=hg.cell 2
 have hm:=hg.cell 3
 obtain ⟨q,o,k,hia,hcs,hcc⟩:=he.toSl.at Tryz.underlying88 A6d (i:=s) (x:=[.int .i64 ends[s]]) (by simp [hs]) .i64
 have hy:=hcc 0 _ rfl
 obtain ⟨q',o',k',hia',hcs',hcc'⟩:=hc.toSl.at Tryz.underlying88 A6d (i:=s) (x:=[.int .i64 costs[s]]) (by simp [hs']) .i64
 have hy':=hcc' 0 _ rfl
 simp only [Nat.add_zero] at hy hy'
 have wu:IntKind.wrap .i64 (ends[s]+1)=ends[s]+1:=by rw [wrap64 (by omega) (by omega)]
 have tl : ∀ H1, Chg (fun y => oc = some y) H H1 → H1.next = H.next → ∃ H2, H1.cell ⟨g, 2, some 0⟩ = some ev ∧ H1.cell ⟨q, o, some k⟩ = some (.int .i64 ends[s]) ∧
     H1.write ⟨q, o, some k⟩ [.int .i64 (ends[s] + 1)] = some H2 ∧ Buf H2 1 ev ((ends.set s (ends[s] + 1)).map fun n => [.int .i64 n]) oe ∧ Chg (fun y => oe = some y ∨ oc = some y) H H2 ∧ Chg (fun y => oe = some y) H1 H2 ∧ H2.next = H.next := by
   intro H1 hch hnx
   have he1 := he.chg hw hch fun y h1 h2 => hec y h1 h2
   obtain ⟨q1, o1, k1, hia1, hcs, hcc⟩ := he1.toSl.at Tryz.underlying88 A6d (i := s) (x := [.int .i64 ends[s]]) (by simp [hs]) .i64
   have hy := hcc 0 _ rfl
   simp only [Nat.add_zero] at hy
   obtain ⟨pe, H2, ia1, e1, b1, c1, n1⟩ := Buf.set (P := Tryz.prog) he1 hch.wf (i := s) (x := [.int .i64 (ends[s] + 1)]) (by simpa using hs) rfl
   have ia := ia1 Tryz.underlying88 A6d (j := .i64)
   rw [hia1] at ia
   injection ia with ia; injection ia with ia; injection ia with ia; subst ia
   rw [hia] at hia1
   injection hia1 with ib; injection ib with ib; injection ib with ib; rw [← ib] at hy e1
   have hg1 := hg.keep (hch.old g (hg.lt hw) hgc)
   exact ⟨H2, hg1.cell 2, hy, e1, by simpa only [List.map_set] using b1, (hch.weak fun _ h => Or.inr h).trans (c1.weak fun _ h => Or.inl h), c1, by rw [n1, hnx]⟩
 have st:∀ (H:AH) (a:Addr) (n:Int),A4f Tryz.prog 3 H (.int .i64 n) (.pointer (some a))=H.write a [.int .i64 n]:=fun H a n=>A1d A6d rfl
 have lastC:∀ H1 H2,Buf H1 1 cv ((costs.set s x).map fun n=>[.int .i64 n]) oc→Wf H1→Chg (fun y=>oe=some y) H1 H2→(ends[s]=0∨x < costs[s])→Buf H2 1 cv ((costs.set s (A3v ends[s] costs[s] x)).map fun n=>[.int .i64 n]) oc:=by
  intro H1 H2 hb hw1 hch h
  unfold A3v
  rw [if_pos h]
  exact hb.chg hw1 hch fun y h1 h2=>hec y h2 h1
 obtain ⟨pc,C1,ia2,f1,d1,g1,m1⟩:=Buf.set (P:=Tryz.prog) hc hw (i:=s) (x:=[.int .i64 x]) (by simpa using hs') rfl
 have ia:=ia2 Tryz.underlying88 A6d (j:=.i64)
 rw [hia'] at ia
 injection ia with ia; injection ia with ia; injection ia with ia; subst ia
 have d1':Buf C1 1 cv ((costs.set s x).map fun n=>[.int .i64 n]) oc:=by simpa only [List.map_set] using d1
 by_cases hz:ends[s]=0
 ·have d:decide (ends[s]=0)=true:=by simp [hz]
  obtain ⟨H2,j2,j3,j4,j5,j6,j7,j8⟩:=tl C1 g1 m1
  simp only [↓Sh.dn,sx,Nat.reduceBEq,reduceCtorEq,Nat.reduceEqDiff,hn,hm,hia,hy,hia',hy',d,st,f1,j2,j3,j4,wu,hres]
  exact ⟨j6,j8,j5,lastC _ _ d1' g1.wf j7 (Or.inl hz)⟩
 ·have d:decide (ends[s]=0)=false:=by simp [hz]
  by_cases hx:x < costs[s]
  ·have d':decide (x < costs[s])=true:=by simp [hx]
   obtain ⟨H2,j2,j3,j4,j5,j6,j7,j8⟩:=tl C1 g1 m1
   simp only [↓Sh.dn,sx,Nat.reduceBEq,reduceCtorEq,Nat.reduceEqDiff,hn,hm,hia,hy,hia',hy',d,d',st,f1,j2,j3,j4,wu,hres]
   exact ⟨j6,j8,j5,lastC _ _ d1' g1.wf j7 (Or.inr hx)⟩
  ·have d':decide (x < costs[s])=false:=by simp [hx]
   obtain ⟨H2,j2,j3,j4,j5,j6,j7,j8⟩:=tl H (Chg.refl hw) rfl
   simp only [↓Sh.dn,sx,Nat.reduceBEq,reduceCtorEq,Nat.reduceEqDiff,hn,hm,hia,hy,hia',hy',d,d',st,j2,j3,j4,wu,hres]
   refine ⟨j6,j8,j5,?_⟩
   have e:costs.set s (A3v ends[s] costs[s] x)=costs:=by
    unfold A3v
    rw [if_neg (by simp [hz,hx])]
    exact List.set_getElem_self hs'
   rw [e]; exact hc.chg hw j7 fun y h1 h2=>hec y h2 h1
end Go.Proofs.YtnoengaghabmjaaGreat
/- (*graph.Graph).Arc, End, State, of a graph that keeps to its own places. -/
namespace Go.Proofs.YtnoengaghabmjaaGreat
open Go Go.Proofs Go.Proofs.Sh
theorem B73 {H:AH} {X:Nat→Prop} {g:Nat} {sigma:List ByteArray} {rows:List (List (List Value))} {ends costs:List Int} {s:Nat} {r:List (List Value)} {x0 x1 x2 x3:Int}
  (h:GrX H X g sigma rows ends costs) (hr:rows[s]?=some r) (hl:r.length≤1073741823) (hw:Wf H):
  Sh.Call Tryz.prog (knows 10) 119 [.pointer (some ⟨g,0,some 0⟩),.int .i64 (s:Int),.int .i64 x0,.int .i64 x1,.int .i64 x2,.int .i64 x3] H (fun _ H'=>Chg X H H'∧GrX H' (fun y=>X y∨H.next≤y) g sigma (rows.set s (r++[[.int .i64 x0,.int .i64 x1,.int .i64 x2,.int .i64 x3]])) ends costs):=by
 obtain ⟨sv,av,ev,cv,os,ot,oe,oc,vals,obs,h,ho⟩:=h
 refine (C3k h.arr h.jag h.gj hr hl hw).mono ?_
 rintro _ H' ⟨hc,vals',obs',hj,hin⟩
 have hg:=h.arr.lt hw
 refine ⟨hc.weak fun y hy=>ho y (.inr (.inr (.inl hy))),sv,av,ev,cv,os,ot,oe,oc,vals',obs',?_,?_⟩
 ·exact { h with
  arr:=h.arr.keep (hc.old g hg h.gj)
  sg:=h.sg.chg hw hc h.sj
  jag:=hj
  en:=h.en.chg hw hc h.je
  co:=h.co.chg hw hc h.jc
  fj:=fun _ _=>Nat.zero_le _
  gj:=fun hy=>by
   rcases hin g hy with h1 | h1
   ·exact h.gj h1
   ·omega
  sj:=fun y hy hy2=>by
   rcases hin y hy2 with h1 | h1
   ·exact h.sj y hy h1
   ·have:=h.sg.lt hw y hy; omega
  je:=fun y hy hy2=>by
   rcases hin y hy2 with h1 | h1
   ·exact h.je y hy h1
   ·have:=h.en.lt hw y hy; omega
  jc:=fun y hy hy2=>by
   rcases hin y hy2 with h1 | h1
   ·exact h.jc y hy h1
   ·have:=h.co.lt hw y hy; omega }
 ·rintro y (hy | hy | hy | hy | hy)
  ·exact .inl (ho y (.inl hy))
  ·exact .inl (ho y (.inr (.inl hy)))
  ·rcases hin y hy with h1 | h1
   ·exact .inl (ho y (.inr (.inr (.inl h1))))
   ·exact .inr h1
  ·exact .inl (ho y (.inr (.inr (.inr (.inl hy)))))
  ·exact .inl (ho y (.inr (.inr (.inr (.inr hy)))))
theorem grEndX {H:AH} {X:Nat→Prop} {g:Nat} {sigma:List ByteArray} {rows:List (List (List Value))} {ends costs:List Int} {s:Nat} {x:Int}
  (h:GrX H X g sigma rows ends costs) (hs:s < ends.length) (hs':s < costs.length) (hw:Wf H) (h0:0≤ends[s]) (h1:ends[s]≤1048576):
  Sh.Call Tryz.prog (knows 10) 110 [.pointer (some ⟨g,0,some 0⟩),.int .i64 (s:Int),.int .i64 x] H (fun _ H'=>Chg X H H'∧GrX H' X g sigma rows (ends.set s (ends[s]+1)) (costs.set s (A3v ends[s] costs[s] x))):=by
 obtain ⟨sv,av,ev,cv,os,ot,oe,oc,vals,obs,h,ho⟩:=h
 refine (C7m h.arr h.en h.co h.ge h.gc h.ec hs hs' hw h0 h1).mono ?_
 rintro _ H' ⟨hc,hn,he,hcc⟩
 refine ⟨hc.weak fun y hy=>?_,sv,av,ev,cv,os,ot,oe,oc,vals,obs,{ h with arr:=h.arr.keep (hc.old g (h.arr.lt hw) ?_),sg:=h.sg.chg hw hc ?_,jag:=h.jag.chg hw hc ?_,en:=he,co:=hcc },ho⟩
 ·rcases hy with hy | hy
  ·exact ho y (.inr (.inr (.inr (.inl hy))))
  ·exact ho y (.inr (.inr (.inr (.inr hy))))
 ·rintro (hy | hy)
  ·exact h.ge hy
  ·exact h.gc hy
 ·rintro y hy (hy2 | hy2)
  ·exact h.se y hy hy2
  ·exact h.sc y hy hy2
 ·rintro y hy (hy2 | hy2)
  ·exact h.je y hy2 hy
  ·exact h.jc y hy2 hy
theorem B6w {H H2:AH} {s:Nat} {vals:List Value} (hv:veqs vals vals=true) (he:H2.objs.get H.next=(H.new s vals).2.objs.get H.next):C0x H.next (H.new s vals).2 H2:=by
 intro x hx
 have:=Sh.Obj.new (H:=H) s vals
 unfold Sh.Obj at this
 rw [he]
 refine ⟨hx,?_⟩
 rw [this] at hx
 injection hx with hx
 subst hx
 simp [A69,C4x,hv]
theorem grState {H:AH} {X:Nat→Prop} {g:Nat} {sigma:List ByteArray} {rows:List (List (List Value))} {ends costs:List Int}
  (h:GrX H X g sigma rows ends costs) (hl:rows.length≤1048576) (he:ends.length=rows.length) (hc:costs.length=rows.length) (hw:Wf H):
  Sh.Call Tryz.prog (knows 10) 118 [.pointer (some ⟨g,0,some 0⟩)] H (fun r H'=>Chg X H H'∧r=.int .i64 (rows.length:Int)∧GrX H' (fun y=>X y∨H.next≤y) g sigma (rows++[[]]) (ends++[0]) (costs++[0])):=by
 refine A4a rfl Tryz.func118 rfl (Nat.le_of_ble_eq_true rfl) ?_
 have hres:Tryz.f118.results.toList=[.tmp 2]:=rfl
 obtain ⟨sv,av,ev,cv,os,ot,oe,oc,vals,obs,h,ho⟩:=h
 have hg:=h.arr.lt hw
 have b1:=C4r (H:=H) (x:=.slice none 0 0) rfl rfl
 have k1:=Kept.new hw 1 [.slice none 0 0]
 have q1:Buf (H.new 1 [.slice none 0 0]).2 1 (.slice (some ⟨H.next,0,some 0⟩) 1 1) [[.slice none 0 0]] (some H.next):=Buf.fresh (H:=H) (s:=1) (xs:=[[.slice none 0 0]]) hw (by simp) (by simp) 1 rfl
 have m1:=fun H2=>B6w (H:=H) (H2:=H2) (s:=1) (vals:=[.slice none 0 0]) (by simp [A6l,A0o,A0g])
 have n1:(H.new 1 [.slice none 0 0]).2.next=H.next+1:=rfl
 obtain ⟨K1,hK1⟩:∃ K,(H.new 1 [.slice none 0 0]).2=K:=⟨_,rfl⟩
 simp only [A0b] at b1
 rw [hK1] at b1 k1 q1 m1 n1
 have b2:=A2w (H:=K1) (x:=.int .i64 0) rfl rfl
 have k2:=Kept.new k1.wf 1 [.int .i64 0]
 have q2:Buf (K1.new 1 [.int .i64 0]).2 1 (.slice (some ⟨K1.next,0,some 0⟩) 1 1) [[.int .i64 0]] (some K1.next):=Buf.fresh (H:=K1) (s:=1) (xs:=[[.int .i64 0]]) k1.wf (by simp) (by simp) 1 rfl
 have m2:=fun H2=>B6w (H:=K1) (H2:=H2) (s:=1) (vals:=[.int .i64 0]) (by simp [A6l,A0o,A1c])
 have n2:(K1.new 1 [.int .i64 0]).2.next=K1.next+1:=rfl
 obtain ⟨K2,hK2⟩:∃ K,(K1.new 1 [.int .i64 0]).2=K:=⟨_,rfl⟩
 simp only [A0b] at b2
 rw [hK2] at b2 k2 q2 m2 n2
 have b3:=A2w (H:=K2) (x:=.int .i64 0) rfl rfl
 have k3:=Kept.new k2.wf 1 [.int .i64 0]
 have q3:Buf (K2.new 1 [.int .i64 0]).2 1 (.slice (some ⟨K2.next,0,some 0⟩) 1 1) [[.int .i64 0]] (some K2.next):=Buf.fresh (H:=K2) (s:=1) (xs:=[[.int .i64 0]]) k2.wf (by simp) (by simp) 1 rfl
 have m3:=fun H2=>B6w (H:=K2) (H2:=H2) (s:=1) (vals:=[.int .i64 0]) (by simp [A6l,A0o,A1c])
 have n3:(K2.new 1 [.int .i64 0]).2.next=K2.next+1:=rfl
 obtain ⟨K3,hK3⟩:∃ K,(K2.new 1 [.int .i64 0]).2=K:=⟨_,rfl⟩
 simp only [A0b] at b3
 rw [hK3] at b3 k3 q3 m3 n3
 have k12:=k1.trans k2
 have k13:=k12.trans k3
 have h3:GrB K3 0 g sv av ev cv os ot oe oc vals obs sigma rows ends costs:=h.chg hw (k13.chg (X:=none')) fun _ _ h=>h
 have hg3:=h3.arr.lt k3.wf
 obtain ⟨a1,c1,av',A1,ot',rfl,e1,hj1,g1,i1,in1⟩:=h3.jag.addRow k3.wf
 have q1a:=(q1.kept k1.wf (k2.trans k3)).toSl
 have ap1:=app_123 (base:=a1) (len:=rows.length) (cap:=c1) (q1a.srcKind Tryz.underlying123) q1a.newCells (by simp; omega)
 have hfl1:flat [[Value.slice none 0 0]]=[.slice none 0 0]:=by simp [flat]
 have hfl2:flat [[Value.int .i64 0]]=[.int .i64 0]:=by simp [flat]
 simp only [List.length_singleton,hfl1] at ap1
 rw [e1] at ap1
 have otK:∀ y,ot=some y→y < H.next:=fun y hy=>h.jag.top.lt hw y hy
 have jK:∀ y,JIn ot obs y→y < H.next:=fun y hy=>h.jag.lt hw y hy
 have oeK:∀ y,oe=some y→y < H.next:=fun y hy=>h.en.lt hw y hy
 have ocK:∀ y,oc=some y→y < H.next:=fun y hy=>h.co.lt hw y hy
 have x1:=g1.next
 have en1:=h3.en.chg k3.wf g1 fun y hy hyt=>h3.je y hy (.inl hyt)
 have co1:=h3.co.chg k3.wf g1 fun y hy hyt=>h3.jc y hy (.inl hyt)
 have q2a:=(q2.kept k2.wf k3).chg k3.wf g1 fun y hy hyt=>by have:=otK y hyt; have:=Option.some.inj hy; omega
 have q3a:=q3.chg k3.wf g1 fun y hy hyt=>by have:=otK y hyt; have:=Option.some.inj hy; omega
 obtain ⟨a2,c2,hev⟩:=en1.shape
 rw [List.length_map] at hev
 subst hev
 obtain ⟨ev',A2,oe',e2,hj2,g2,ne2⟩:=en1.append g1.wf (xs:=[[.int .i64 0]]) (by simp)
 have ap2:=C8z (base:=a2) (len:=ends.length) (cap:=c2) (q2a.toSl.srcKind Tryz.underlying88) q2a.toSl.newCells (by simp; omega)
 simp only [List.length_singleton,hfl2] at ap2 e2
 rw [e2] at ap2
 have x2:=g2.next
 have co2:=co1.chg g1.wf g2 fun y hy hye=>h3.ec y hye hy
 have q3b:=q3a.chg g1.wf g2 fun y hy hye=>by have:=oeK y hye; have:=Option.some.inj hy; omega
 obtain ⟨a3,c3,hcv⟩:=co2.shape
 rw [List.length_map] at hcv
 subst hcv
 obtain ⟨cv',A3,oc',e3,hj3,g3,ne3⟩:=co2.append g2.wf (xs:=[[.int .i64 0]]) (by simp)
 have ap3:=C8z (base:=a3) (len:=costs.length) (cap:=c3) (q3b.toSl.srcKind Tryz.underlying88) q3b.toSl.newCells (by simp; omega)
 simp only [List.length_singleton,hfl2] at ap3 e3
 rw [e3] at ap3
 have x3:=g3.next
 have arr1:=h3.arr.keep (g1.old g hg3 fun hy=>h3.gj (.inl hy))
 have arr2:=arr1.keep (g2.old g (Nat.lt_of_lt_of_le hg3 x1) h3.ge)
 have arr3:=arr2.keep (g3.old g (Nat.lt_of_lt_of_le hg3 (Nat.le_trans x1 x2)) h3.gc)
 obtain ⟨S1,w1,ar1,v1,z1⟩:=arr3.write g3.wf (i:=1) (vs:=[av']) (by simp)
 have sc1:setCells [sv,.slice a1 rows.length c1,.slice a2 ends.length c2,.slice a3 costs.length c3] 1 [av']=[sv,av',.slice a2 ends.length c2,.slice a3 costs.length c3]:=rfl
 rw [sc1] at ar1
 obtain ⟨S2,w2,ar2,v2,z2⟩:=ar1.write z1.wf (i:=2) (vs:=[ev']) (by simp)
 have sc2:setCells [sv,av',.slice a2 ends.length c2,.slice a3 costs.length c3] 2 [ev']=[sv,av',ev',.slice a3 costs.length c3]:=rfl
 rw [sc2] at ar2
 obtain ⟨S3,w3,ar3,v3,z3⟩:=ar2.write z2.wf (i:=3) (vs:=[cv']) (by simp)
 have sc3:setCells [sv,av',ev',.slice a3 costs.length c3] 3 [cv']=[sv,av',ev',cv']:=rfl
 rw [sc3] at ar3
 have ih1:=hj1.top.isCell
 have ih2:=hj2.isCell
 have ih3:=hj3.isCell
 have st1:A4f Tryz.prog 123 A3 av' (.pointer (some ⟨g,1,some 0⟩))=some S1:=by rw [A1d C0d ih1,w1]
 have st2:A4f Tryz.prog 88 S1 ev' (.pointer (some ⟨g,2,some 0⟩))=some S2:=by rw [A1d B3w ih2,w2]
 have st3:A4f Tryz.prog 88 S2 cv' (.pointer (some ⟨g,3,some 0⟩))=some S3:=by rw [A1d B3w ih3,w3]
 have l1:=h.arr.cell 1
 have l2:K1.cell ⟨g,2,some 0⟩=some (.slice a2 ends.length c2):=(h.arr.keep (k1.old g hg)).cell 2
 have l3:K2.cell ⟨g,3,some 0⟩=some (.slice a3 costs.length c3):=(h.arr.keep (k12.old g hg)).cell 3
 have r2:A1.cell ⟨g,2,some 0⟩=some (.slice a2 ends.length c2):=arr1.cell 2
 have r3:A1.cell ⟨g,3,some 0⟩=some (.slice a3 costs.length c3):=arr1.cell 3
 have r4:A2.cell ⟨g,3,some 0⟩=some (.slice a3 costs.length c3):=arr2.cell 3
 have u1:C0x K1.next K2 A1:=m2 A1 ((g1.old K1.next (by omega) fun hy=>by have:=otK _ hy; omega).trans (k3.old K1.next (by omega)))
 have u2:C0x K2.next K3 A1:=m3 A1 (g1.old K2.next (by omega) fun hy=>by have:=otK _ hy; omega)
 have u3:C0x K2.next K3 A2:=m3 A2 ((g2.old K2.next (by omega) fun hy=>by have:=oeK _ hy; omega).trans (g1.old K2.next (by omega) fun hy=>by have:=otK _ hy; omega))
 have hlenA:∀ H',A6a Tryz.prog .len [123] [av'] H'=some (.int .i64 ((rows.length+1:Nat):Int),H'):=fun H'=>by
  rw [hj1.top.toSl.len Tryz.underlying123]; simp [h.jag.len1]
 have wl:IntKind.wrap .i64 (((rows.length+1:Nat):Int) - 1)=(rows.length:Int):=by rw [wrap64 (by omega) (by omega)]; omega
 have lf:S3.cell ⟨g,1,some 0⟩=some av':=ar3.cell 1
 simp only [↓Sh.dn,sx,Nat.reduceBEq,reduceCtorEq,Nat.reduceEqDiff]
 refine wp_made (fl:=[(0,[],[],[]),(1,[],[],[]),(2,[],[],[]),(3,[],[],[]),(4,[],[],[]),(5,[],[],[]),(6,[],[],[]),(7,[],[],[]),(9,[],[],[]),(10,[],[],[]),(11,[],[],[]),(12,[],[],[]),(13,[],[],[]),(15,[],[],[]),(16,[],[],[]),(17,[],[],[]),(18,[],[],[]),(19,[],[],[]),(8,[18,12],[true,true,false],[true,true,false]),(14,[18],[true,false],[true,false]),(20,[],[false],[false]),(21,[],[],[]),(22,[],[],[]),(23,[],[],[]),(24,[],[],[]),(25,[],[],[]),(26,[],[],[]),(27,[],[],[]),(28,[],[],[]),(29,[],[],[])]) (by kernel_rfl) (by kernel_rfl) (by kernel_rfl) ?_
 simp only [↓Sh.dn,sx,Nat.reduceBEq,reduceCtorEq,Nat.reduceEqDiff,wpm,B74,C9w,B1j,again,isEff,A9b,A3e,A1c,A4e,A6c,A6b,A0g,forall_eq,forall_eq',l1,l2,l3,b1,b2,b3,hK1,hK2,hK3,ap1,ap2,ap3,r2,r3,r4,u1,u2,u3,st1,st2,st3,lf,hlenA,wl,hres]
 have hX:∀ y,(ot=some y∨oe=some y∨oc=some y∨y=g)→X y:=by
  rintro y (hy | hy | hy | hy)
  ·exact ho y (.inr (.inr (.inl (.inl hy))))
  ·exact ho y (.inr (.inr (.inr (.inl hy))))
  ·exact ho y (.inr (.inr (.inr (.inr hy))))
  ·exact ho y (.inl hy)
 have tot:Chg X H S3:=((((((k13.chg (X:=X)).trans (g1.weak fun y hy=>hX y (.inl hy))).trans (g2.weak fun y hy=>hX y (.inr (.inl hy)))).trans (g3.weak fun y hy=>hX y (.inr (.inr (.inl hy))))).trans (z1.weak fun y hy=>hX y (.inr (.inr (.inr hy))))).trans (z2.weak fun y hy=>hX y (.inr (.inr (.inr hy))))).trans (z3.weak fun y hy=>hX y (.inr (.inr (.inr hy))))
 refine ⟨tot,sv,av',ev',cv',os,ot',oe',oc',vals++[.slice none 0 0],obs++[none],?_,?_⟩
 ·have hen:(ends++[0]).map intC=ends.map intC++[[.int .i64 0]]:=by simp [intC]
  have hco:(costs++[0]).map intC=costs.map intC++[[.int .i64 0]]:=by simp [intC]
  have jn:∀ y,JIn ot' (obs++[none]) y→JIn ot obs y∨K3.next≤y∧y < A1.next:=fun y hy=>(in1 y hy).imp id fun h=>⟨h,hj1.lt g1.wf y hy⟩
  have en':∀ y,oe'=some y→oe=some y∨y=A1.next∧A1.next < A2.next:=fun y hy=>by
   rcases ne2 with h4 | ⟨h4,h5⟩
   ·exact .inl (by rw [← h4]; exact hy)
   ·rw [h4] at hy; exact .inr ⟨(Option.some.inj hy).symm,h5⟩
  have cn':∀ y,oc'=some y→oc=some y∨y=A2.next:=fun y hy=>by
   rcases ne3 with h4 | ⟨h4,h5⟩
   ·exact .inl (by rw [← h4]; exact hy)
   ·rw [h4] at hy; exact .inr (Option.some.inj hy).symm
  have osK:∀ y,os=some y→y < H.next:=fun y hy=>h.sg.lt hw y hy
  have gtot:∀ {B:AH},Chg (fun y=>y=g) A3 B→True:=fun _=>trivial
  have z12:=z1.trans (z2.trans z3)
  have kS:=(z1.trans z2).trans z3
  refine { arr:=ar3,sg:=?_,jag:=?_,en:=?_,co:=?_,fg:=Nat.zero_le _,fs:=fun _ _=>Nat.zero_le _,fj:=fun _ _=>Nat.zero_le _,fe:=fun _ _=>Nat.zero_le _,fc:=fun _ _=>Nat.zero_le _,gs:=h.gs,gj:=?_,ge:=?_,gc:=?_,sj:=?_,se:=?_,sc:=?_,je:=?_,jc:=?_,ec:=?_ }
  ·exact (((h3.sg.chg k3.wf g1 fun y hy hyt=>h3.sj y hy (.inl hyt)).chg g1.wf g2 fun y hy hye=>h3.se y hy hye).chg g2.wf g3 fun y hy hyc=>h3.sc y hy hyc).chg g3.wf kS fun y hy hyg=>h.gs (by rw [hy,hyg])
  ·refine ((hj1.chg g1.wf g2 fun y hy hye=>?_).chg g2.wf g3 fun y hy hyc=>?_).chg g3.wf kS fun y hy hyg=>?_
   ·rcases jn y hy with h1 | h1
    ·exact h3.je y hye h1
    ·have:=oeK y hye; omega
   ·rcases jn y hy with h1 | h1
    ·exact h3.jc y hyc h1
    ·have:=ocK y hyc; omega
   ·rcases jn y hy with h1 | h1
    ·exact h.gj (hyg ▸ h1)
    ·omega
  ·rw [hen]
   refine (hj2.chg g2.wf g3 fun y hy hyc=>?_).chg g3.wf kS fun y hy hyg=>?_
   ·rcases en' y hy with h1 | ⟨h1,_⟩
    ·exact h3.ec y h1 hyc
    ·have:=ocK y hyc; omega
   ·rcases en' y hy with h1 | ⟨h1,_⟩
    ·exact h.ge (hyg ▸ h1)
    ·omega
  ·rw [hco]
   refine hj3.chg g3.wf kS fun y hy hyg=>?_
   rcases cn' y hy with h1 | h1
   ·exact h.gc (hyg ▸ h1)
   ·omega
  ·intro hy
   rcases jn g hy with h1 | h1
   ·exact h.gj h1
   ·omega
  ·intro hy
   rcases en' g hy with h1 | ⟨h1,_⟩
   ·exact h.ge h1
   ·omega
  ·intro hy
   rcases cn' g hy with h1 | h1
   ·exact h.gc h1
   ·omega
  ·intro y hy hy2
   rcases jn y hy2 with h1 | h1
   ·exact h.sj y hy h1
   ·have:=osK y hy; omega
  ·intro y hy hy2
   rcases en' y hy2 with h1 | ⟨h1,_⟩
   ·exact h.se y hy h1
   ·have:=osK y hy; omega
  ·intro y hy hy2
   rcases cn' y hy2 with h1 | h1
   ·exact h.sc y hy h1
   ·have:=osK y hy; omega
  ·intro y hy hy2
   rcases en' y hy with h1 | ⟨h1,h5⟩
   ·rcases jn y hy2 with h2 | h2
    ·exact h.je y h1 h2
    ·have:=oeK y h1; omega
   ·rcases jn y hy2 with h2 | h2
    ·have:=jK y h2; omega
    ·omega
  ·intro y hy hy2
   rcases cn' y hy with h1 | h1
   ·rcases jn y hy2 with h2 | h2
    ·exact h.jc y h1 h2
    ·have:=ocK y h1; omega
   ·rcases jn y hy2 with h2 | h2
    ·have:=jK y h2; omega
    ·omega
  ·intro y hy hy2
   rcases en' y hy with h1 | ⟨h1,h5⟩
   ·rcases cn' y hy2 with h2 | h2
    ·exact h.ec y h1 h2
    ·have:=oeK y h1; omega
   ·rcases cn' y hy2 with h2 | h2
    ·have:=ocK y h2; omega
    ·omega
 ·rintro y (hy | hy | hy | hy | hy)
  ·exact .inl (ho y (.inl hy))
  ·exact .inl (ho y (.inr (.inl hy)))
  ·rcases in1 y hy with h1 | h1
   ·exact .inl (ho y (.inr (.inr (.inl h1))))
   ·exact .inr (by omega)
  ·rcases ne2 with h4 | ⟨h4,h5⟩
   ·exact .inl (ho y (.inr (.inr (.inr (.inl (by rw [← h4]; exact hy))))))
   ·rw [h4] at hy; have:=Option.some.inj hy; exact .inr (by omega)
  ·rcases ne3 with h4 | ⟨h4,h5⟩
   ·exact .inl (ho y (.inr (.inr (.inr (.inr (by rw [← h4]; exact hy))))))
   ·rw [h4] at hy; have:=Option.some.inj hy; exact .inr (by omega)
end Go.Proofs.YtnoengaghabmjaaGreat
/- (*graph.Graph).Add: another graph is put into one. -/
namespace Go.Proofs.YtnoengaghabmjaaGreat
open Go Go.Proofs Go.Proofs.Sh
theorem GrX.steady {H:AH} {X Y:Nat→Prop} {g:Nat} {sigma:List ByteArray} {rows:List (List (List Value))} {ends costs:List Int} (h:GrX H Y g sigma rows ends costs) (hw:Wf H) (hd:∀ y,Y y→¬X y):
  ∃ sv av ev cv vals,∀ H',Chg X H H'→GrR H' g sv av ev cv vals sigma rows ends costs:=by
 obtain ⟨sv,av,ev,cv,os,ot,oe,oc,vals,obs,h,ho⟩:=h
 refine ⟨sv,av,ev,cv,vals,fun H' hc=>⟨h.arr.keep (hc.old g (h.arr.lt hw) (hd g (ho g (.inl rfl)))),(h.sg.chg hw hc fun y hy=>hd y (ho y (.inr (.inl hy)))).toSl,(h.jag.chg hw hc fun y hy=>hd y (ho y (.inr (.inr (.inl hy))))).read,(h.en.chg hw hc fun y hy=>hd y (ho y (.inr (.inr (.inr (.inl hy)))))).toSl,(h.co.chg hw hc fun y hy=>hd y (ho y (.inr (.inr (.inr (.inr hy)))))).toSl⟩⟩
theorem GrX.setEC {H:AH} {X:Nat→Prop} {g:Nat} {sigma:List ByteArray} {rows:List (List (List Value))} {ends costs:List Int} {s:Nat} (h:GrX H X g sigma rows ends costs) (hw:Wf H) (hs:s < ends.length) (hs':s < costs.length) (x y:Int):
  ∃ ev cv p1 p2 H1 H2,H.cell ⟨g,2,some 0⟩=some ev∧H.cell ⟨g,3,some 0⟩=some cv∧H1.cell ⟨g,3,some 0⟩=some cv∧veq cv cv=true∧A4c Tryz.prog 88 ev (.int .i64 (s:Int))=some (.pointer (some p1))∧A4c Tryz.prog 88 cv (.int .i64 (s:Int))=some (.pointer (some p2))∧
   A4f Tryz.prog 3 H (.int .i64 x) (.pointer (some p1))=some H1∧A4f Tryz.prog 3 H1 (.int .i64 y) (.pointer (some p2))=some H2∧Chg X H H1∧Chg X H H2∧GrX H2 X g sigma rows (ends.set s x) (costs.set s y):=by
 obtain ⟨sv,av,ev,cv,os,ot,oe,oc,vals,obs,h,ho⟩:=h
 obtain ⟨p1,H1,i1,e1,b1,c1,n1⟩:=Buf.set (P:=Tryz.prog) h.en hw (i:=s) (x:=intC x) (by simpa using hs) rfl
 have hco1:=h.co.chg hw c1 fun y hy hye=>h.ec y hye hy
 obtain ⟨p2,H2,i2,e2,b2,c2,n2⟩:=Buf.set (P:=Tryz.prog) hco1 c1.wf (i:=s) (x:=intC y) (by simpa using hs') rfl
 have a1:=h.arr.keep (c1.old g (h.arr.lt hw) h.ge)
 have hX1:Chg X H H1:=c1.weak fun y hy=>ho y (.inr (.inr (.inr (.inl hy))))
 have hX2:Chg X H1 H2:=c2.weak fun y hy=>ho y (.inr (.inr (.inr (.inr hy))))
 have c12:Chg (fun y=>oe=some y∨oc=some y) H H2:=(c1.weak fun y hy=>.inl hy).trans (c2.weak fun y hy=>.inr hy)
 refine ⟨ev,cv,p1,p2,H1,H2,h.arr.cell 2,h.arr.cell 3,a1.cell 3,h.co.toSl.veq,i1 Tryz.underlying88 A6d,i2 Tryz.underlying88 A6d,by rw [A1d A6d rfl]; exact e1,by rw [A1d A6d rfl]; exact e2,hX1,hX1.trans hX2,sv,av,ev,cv,os,ot,oe,oc,vals,obs,{ h with arr:=h.arr.keep (c12.old g (h.arr.lt hw) ?_),sg:=h.sg.chg hw c12 ?_,jag:=h.jag.chg hw c12 ?_,en:=?_,co:=?_ },ho⟩
 ·rintro (hy | hy)
  ·exact h.ge hy
  ·exact h.gc hy
 ·rintro y hy (hy2 | hy2)
  ·exact h.se y hy hy2
  ·exact h.sc y hy hy2
 ·rintro y hy (hy2 | hy2)
  ·exact h.je y hy2 hy
  ·exact h.jc y hy2 hy
 ·rw [List.map_set]; exact b1.chg c1.wf c2 fun y hy hyc=>h.ec y hy hyc
 ·rw [List.map_set]; exact b2
def A17 (at_:Nat) (e:Nat×Int×Int×Int):Nat×Int×Int×Int:=(at_+e.1,e.2)
def A8n (at_:Nat) (E:List (List (Nat×Int×Int×Int))):List (List (Nat×Int×Int×Int)):=E.map fun r=>r.map (A17 at_)
theorem B4w {α:Type} (A:List α) (x y:α):(A++[x]).set A.length y=A++[y]:=by
 rw [List.set_append_right _ _ (Nat.le_refl _),Nat.sub_self]; rfl
theorem grAdd {H:AH} {X Y:Nat→Prop} {g g2 n:Nat} {sigma sigma2:List ByteArray} {rows:List (List (List Value))} {ends costs ends2 costs2:List Int} {E:List (List (Nat×Int×Int×Int))}
  (h:GrX H X g sigma rows ends costs) (h2:GrX H Y g2 sigma2 (A0d E) ends2 costs2) (hd:∀ y,Y y→¬X y∧y < H.next) (hel:ends.length=rows.length) (hcl:costs.length=rows.length) (hE:E.length=n) (he2:ends2.length=n) (hc2:costs2.length=n) (hn1:1≤n) (hn:n≤3000) (hrl:rows.length≤10000)
  (hto:∀ r∈E,r.length≤180000000∧∀ e∈r,e.1 < n) (hw:Wf H):
  Sh.Call Tryz.prog (knows 10) 122 [.pointer (some ⟨g,0,some 0⟩),.pointer (some ⟨g2,0,some 0⟩)] H (fun r H'=>r=.int .i64 (rows.length:Int)∧Chg (fun y=>X y∨H.next≤y) H H'∧GrX H' (fun y=>X y∨H.next≤y) g sigma (rows++A0d (A8n rows.length E)) (ends++ends2) (costs++costs2)):=by
 refine A4a rfl Tryz.func122 rfl (Nat.le_of_ble_eq_true rfl) ?_
 have hres:Tryz.f122.results.toList=[.tmp 4]:=rfl
 simp only [↓Sh.dn,sx,Nat.reduceBEq,reduceCtorEq,Nat.reduceEqDiff]
 have inner:Sh.Call Tryz.prog (knows 10) 142 [.pointer (some ⟨g,0,some 0⟩),.pointer (some ⟨g2,0,some 0⟩)] H (fun r H'=>r=.int .i64 (rows.length:Int)∧Chg (fun y=>X y∨H.next≤y) H H'∧GrX H' (fun y=>X y∨H.next≤y) g sigma (rows++A0d (A8n rows.length E)) (ends++ends2) (costs++costs2)):=by
  refine A4a rfl Tryz.func142 rfl (Nat.le_of_ble_eq_true rfl) ?_
  have hres:Tryz.f142.results.toList=[.tmp 4]:=rfl
  obtain ⟨sv,av,ev,cv,vals,hst⟩:=GrX.steady (X:=fun y=>X y∨H.next≤y) h2 hw fun y hy h=>by
   have:=hd y hy
   rcases h with h | h
   ·exact this.1 h
   ·omega
  have hR0:=hst H (Chg.refl hw)
  obtain ⟨sv0,av0,ev0,cv0,vals0,hg0⟩:=h.read
  have hlen0:A6a Tryz.prog .len [123] [av0] H=some (.int .i64 (rows.length:Int),H):=by
   rw [hg0.jag.sl.len Tryz.underlying123,List.length_map,hg0.jag.len]
  have hlen2:A6a Tryz.prog .len [123] [av] H=some (.int .i64 (n:Int),H):=by
   rw [hR0.jag.sl.len Tryz.underlying123,List.length_map,hR0.jag.len]; unfold A0d; rw [List.length_map,hE]
  have c0:=hg0.arr.cell 1
  have c2:=hR0.arr.cell 1
  simp only [↓Sh.dn,sx,Nat.reduceBEq,reduceCtorEq,Nat.reduceEqDiff,c0,c2,hlen0,hlen2]
  obtain ⟨Z,hZ⟩:∃ Z,(fun y=>X y∨H.next≤y)=Z:=⟨_,rfl⟩
  rw [hZ] at hst ⊢
  have hXZ:∀ y,X y→Z y:=fun y hy=>by rw [← hZ]; exact .inl hy
  have hNZ:∀ {H'},Chg Z H H'→∀ y,Z y∨H'.next≤y→Z y:=fun hc y hy=>by
   rcases hy with hy | hy
   ·exact hy
   ·rw [← hZ]; exact .inr (Nat.le_trans hc.next hy)
  have hpg:∀ {H'},Chg Z H H'→PG H' g2 n 180000000 E ends2 sv av ev cv vals sigma2 costs2:=fun hc=>⟨hst _ hc,hE,he2,hn1,hn,fun s r hr=>hto r (List.mem_of_getElem? hr)⟩
  obtain ⟨at_,hat⟩:∃ k,rows.length=k:=⟨_,rfl⟩
  rw [hat]
  rw [hat] at hrl hel hcl
  refine A0f n 20 (List.range' 20 60++[6,7,9]) (fun i F H'=>Chg Z H H'∧GrX H' Z g sigma (rows++A0d (A8n at_ (E.take i))) (ends++ends2.take i) (costs++costs2.take i)) (by simp only [↓Sh.dn,sx,Nat.reduceBEq,reduceCtorEq,Nat.reduceEqDiff]) ⟨Chg.refl hw,by simpa [A0d,A8n] using h.mono hXZ⟩ ?_ ?_
  ·rintro i F H' hi hF f20 ⟨hc,hG⟩ k
   have f0:=hF 0 rfl
   have f1:=hF 1 rfl
   have f5:=hF 5 rfl
   have f18:=hF 18 rfl
   have f19:=hF 19 rfl
   simp only [↓Sh.dn,sx,Nat.reduceBEq,reduceCtorEq,Nat.reduceEqDiff,hat] at f0 f1 f5 f18 f19
   have hiE:i < E.length:=by omega
   have hr:E[i]?=some E[i]:=List.getElem?_eq_getElem hiE
   obtain ⟨hrl',hrt⟩:=hto E[i] (List.getElem_mem hiE)
   have htE:E.take (i+1)=E.take i++[E[i]]:=by rw [List.take_add_one,hr]; rfl
   generalize E[i]=r at hr hrl' hrt htE
   obtain ⟨R,hR⟩:∃ R,rows++A0d (A8n at_ (E.take i))=R:=⟨_,rfl⟩
   have hRl:R.length=at_+i:=by rw [← hR]; simp [A0d,A8n,hat]; omega
   have hel':(ends++ends2.take i).length=at_+i:=by simp [hel]; omega
   have hcl':(costs++costs2.take i).length=at_+i:=by simp [hcl]; omega
   rw [hR] at hG
   obtain ⟨pr,wr,hiar,hcr,hsr,hlr⟩:=PG.row (hpg hc) hr
   have hvl:i < vals.length:=by rw [hR0.jag.len]; unfold A0d; rw [List.length_map]; omega
   have key:∀ {Hx wx},Chg Z H Hx→Hx.cell pr=some wx→wx=vals[i]:=by
    intro Hx wx hcx hx
    obtain ⟨p',h1,h2⟩:=Sl.elem (s:=1) Tryz.underlying123 A2t (hst Hx hcx).jag.sl (i:=i) (u:=vals[i]) (by rw [List.getElem?_map,List.getElem?_eq_getElem hvl]; rfl)
    rw [hiar] at h1
    have e1:=Option.some.inj h1
    injection e1 with e1; injection e1 with e1
    subst e1
    rw [hx] at h2
    exact Option.some.inj h2
   obtain ⟨r1,H1,hd1,hc1,rfl,hG1⟩:=grState hG (by omega) (by omega) (by omega) hc.wf
   have hc01:=hc.trans hc1
   have hG1:=hG1.mono (hNZ hc)
   simp only [↓Sh.dn,sx,Nat.reduceBEq,reduceCtorEq,Nat.reduceEqDiff,f0,f18,f19,f20,A5a,hi,decide_true,hiar,hcr]
   refine ⟨_,_,hd1,?_⟩
   simp only [↓Sh.dn,sx,Nat.reduceBEq,reduceCtorEq,Nat.reduceEqDiff,hlr]
   refine A0f r.length 29 (List.range' 29 20++[9]) (fun q F'' H''=>Chg Z H H''∧GrX H'' Z g sigma (R++[((r.take q).map (A17 at_)).map A9e]) (ends++ends2.take i++[0]) (costs++costs2.take i++[0])) (by simp only [↓Sh.dn,sx,Nat.reduceBEq,reduceCtorEq,Nat.reduceEqDiff]) ⟨hc01,by simpa using hG1⟩ ?_ ?_
   ·rintro q F'' H'' hq hF'' f29 ⟨hc2,hG2⟩ k2
    have g0:=hF'' 0 rfl
    have g5:=hF'' 5 rfl
    have g6:=hF'' 6 rfl
    have g27:=hF'' 27 rfl
    have g28:=hF'' 28 rfl
    simp only [↓Sh.dn,sx,Nat.reduceBEq,reduceCtorEq,Nat.reduceEqDiff,f0,f5] at g0 g5 g6 g27 g28
    obtain ⟨pr2,wr2,hia2,hcr2,hsr2,hlr2⟩:=PG.row (hpg hc2) hr
    rw [hiar] at hia2
    have e1:=Option.some.inj hia2
    injection e1 with e1; injection e1 with e1
    subst e1
    have hwr:wr2=wr:=(key hc2 hcr2).trans (key hc hcr).symm
    subst hwr
    obtain ⟨pe,hiae,hce⟩:=PG.edge hsr2 hq
    have hrq:r[q]∈r:=List.getElem_mem hq
    have htk:r.take (q+1)=r.take q++[r[q]]:=by rw [List.take_add_one,List.getElem?_eq_getElem hq]; rfl
    generalize r[q]=e at hce hrq htk
    have kn:=Kept.new hc2.wf 4 (A9e e)
    have hc3:=hc2.trans (kn.chg (X:=Z))
    have hG3:=hG2.kept hc2.wf kn
    have hrow:(R++[((r.take q).map (A17 at_)).map A9e])[at_+i]?=some (((r.take q).map (A17 at_)).map A9e):=by
     rw [List.getElem?_append_right (by omega),hRl,Nat.sub_self]; rfl
    have hen:=hrt e hrq
    have w1:IntKind.wrap .i64 ((at_:Int)+(i:Int))=((at_+i:Nat):Int):=by rw [wrap64 (by omega) (by omega)]; omega
    have w2:IntKind.wrap .i64 ((at_:Int)+(e.1:Int))=((at_+e.1:Nat):Int):=by rw [wrap64 (by omega) (by omega)]; omega
    obtain ⟨rr,H5,hd5,hc5,hG5⟩:=B73 (x0:=((at_+e.1:Nat):Int)) (x1:=e.2.1) (x2:=e.2.2.1) (x3:=e.2.2.2) hG3 hrow (by rw [List.length_map,List.length_map,List.length_take]; omega) hc3.wf
    simp only [↓Sh.dn,sx,Nat.reduceBEq,reduceCtorEq,Nat.reduceEqDiff,f29,g0,g5,g6,g27,g28,hiae,hce,A5a,hq,decide_true,Option.map_some,B4q,A79,B3o,ge0,ge1,ge2,ge3,w1,w2]
    refine ⟨_,_,hd5,?_⟩
    simp only [↓Sh.dn,sx,Nat.reduceBEq,reduceCtorEq,Nat.reduceEqDiff,f29,A7a hq (Nat.le_trans hrl' (by decide))]
    refine k2 _ _ (by repeat (first | refine Same.put ?_ rfl | exact Same.rfl' _)) (by simp only [↓Sh.dn,sx,Nat.reduceBEq,reduceCtorEq,Nat.reduceEqDiff]) ⟨hc3.trans hc5,?_⟩
    have:=hG5.mono (hNZ hc3)
    rw [← hRl,B4w] at this
    rw [htk]
    simpa [A9e,A17] using this
   ·rintro F'' H'' hF'' f29 ⟨hc2,hG2⟩
    rw [List.take_length] at hG2
    have g0:=hF'' 0 rfl
    have g1:=hF'' 1 rfl
    have g5:=hF'' 5 rfl
    have g6:=hF'' 6 rfl
    have g20:=hF'' 20 rfl
    have g28:=hF'' 28 rfl
    simp only [↓Sh.dn,sx,Nat.reduceBEq,reduceCtorEq,Nat.reduceEqDiff,f0,f1,f5,f20] at g0 g1 g5 g6 g20 g28
    have hi2:i < ends2.length:=by omega
    have hi3:i < costs2.length:=by omega
    have hR2:=hst H'' hc2
    obtain ⟨evg,cvg,p1,p2,H6,H7,z1,z2,z3,zq,i1,i2,s1,s2,ch1,ch2,hG3⟩:=GrX.setEC (s:=at_+i) hG2 hc2.wf (by simp only [List.length_append,List.length_singleton] at hel' ⊢; omega) (by simp only [List.length_append,List.length_singleton] at hcl' ⊢; omega) ends2[i] costs2[i]
    have hR3:=hst H6 (hc2.trans ch1)
    have y1:=hR2.arr.cell 2
    have y2:=hR2.arr.cell 3
    have y3:=hR3.arr.cell 3
    obtain ⟨pa,ia,ca⟩:=Sl.elem (s:=1) Tryz.underlying88 A6d hR2.en (i:=i) (u:=.int .i64 ends2[i]) (by rw [List.getElem?_map,List.getElem?_eq_getElem hi2]; rfl)
    obtain ⟨pb,ib,cb⟩:=Sl.elem (s:=1) Tryz.underlying88 A6d hR2.co (i:=i) (u:=.int .i64 costs2[i]) (by rw [List.getElem?_map,List.getElem?_eq_getElem hi3]; rfl)
    obtain ⟨pb',ib',cb'⟩:=Sl.elem (s:=1) Tryz.underlying88 A6d hR3.co (i:=i) (u:=.int .i64 costs2[i]) (by rw [List.getElem?_map,List.getElem?_eq_getElem hi3]; rfl)
    rw [ib] at ib'
    have e1:=Option.some.inj ib'
    injection e1 with e1; injection e1 with e1
    subst e1
    have w1:IntKind.wrap .i64 ((at_:Int)+(i:Int))=((at_+i:Nat):Int):=by rw [wrap64 (by omega) (by omega)]; omega
    have qv:=hR2.co.veq
    simp only [↓Sh.dn,sx,Nat.reduceBEq,reduceCtorEq,Nat.reduceEqDiff,f29,g28,A5a,Nat.lt_irrefl,decide_false]
    refine A9v (fl:=[(0,[]),(1,[]),(2,[]),(3,[]),(4,[]),(5,[]),(6,[]),(7,[]),(8,[]),(9,[]),(10,[]),(11,[]),(12,[]),(13,[]),(14,[]),(15,[]),(16,[]),(17,[]),(18,[]),(19,[]),(20,[]),(21,[]),(22,[]),(23,[]),(24,[]),(25,[]),(26,[]),(27,[]),(28,[]),(29,[]),(30,[]),(31,[])]) (by kernel_rfl) (by kernel_rfl) (by kernel_rfl) ?_
    simp only [↓Sh.dn,sx,Nat.reduceBEq,reduceCtorEq,Nat.reduceEqDiff,wpr,again,A9b,A3e,A1c,A4e,A6c,A6b,A0g,forall_eq,forall_eq',g0,g1,g5,g6,g20,z1,z2,z3,zq,i1,i2,s1,s2,y1,y2,y3,qv,ia,ca,ib,cb,cb',w1,A7a hi (Nat.le_trans hn (by decide))]
    refine k _ _ ?_ (by simp only [↓Sh.dn,sx,Nat.reduceBEq,reduceCtorEq,Nat.reduceEqDiff]) ⟨hc2.trans ch2,?_⟩
    ·repeat refine Same.put ?_ rfl
     exact Same.trans (by repeat (first | refine Same.put ?_ rfl | exact Same.rfl' _)) (hF''.sub rfl)
    ·have t1:ends2.take (i+1)=ends2.take i++[ends2[i]]:=by rw [List.take_add_one,List.getElem?_eq_getElem hi2]; rfl
     have t2:costs2.take (i+1)=costs2.take i++[costs2[i]]:=by rw [List.take_add_one,List.getElem?_eq_getElem hi3]; rfl
     have s3:=B4w (ends++ends2.take i) 0 ends2[i]
     rw [hel'] at s3
     have s4:=B4w (costs++costs2.take i) 0 costs2[i]
     rw [hcl'] at s4
     rw [s3,s4] at hG3
     rw [t1,t2,htE]
     have:rows++A0d (A8n at_ (E.take i++[r]))=R++[(r.map (A17 at_)).map A9e]:=by rw [← hR]; simp [A0d,A8n]
     rw [this,← List.append_assoc,← List.append_assoc]
     exact hG3
  ·rintro F H' hF f20 ⟨hc,hG⟩
   have f5:=hF 5 rfl
   have f19:=hF 19 rfl
   simp only [↓Sh.dn,sx,Nat.reduceBEq,reduceCtorEq,Nat.reduceEqDiff,hat] at f5 f19
   rw [← hE,List.take_length,hE,← he2,List.take_length,he2,← hc2,List.take_length] at hG
   simp only [↓Sh.dn,sx,Nat.reduceBEq,reduceCtorEq,Nat.reduceEqDiff,f5,f19,f20,A5a,Nat.lt_irrefl,decide_false,hres]
   exact ⟨hc,hG⟩
 obtain ⟨r,H1,hd1,h1,h2,h3⟩:=inner
 refine ⟨_,_,hd1,?_⟩
 simp only [↓Sh.dn,sx,Nat.reduceBEq,reduceCtorEq,Nat.reduceEqDiff,hres]
 exact ⟨h1,h2,h3⟩
end Go.Proofs.YtnoengaghabmjaaGreat
/- graph.New. -/
namespace Go.Proofs.YtnoengaghabmjaaGreat
open Go Go.Proofs Go.Proofs.Sh
theorem objNew {H:AH} {s:Nat} {vals:List Value} (h:veqs vals vals=true):∀ x,(H.new s vals).2.objs.get H.next=some x→A69 x x=true:=by
 intro x hx
 have:=Obj.new (H:=H) s vals
 unfold Obj at this
 rw [this] at hx
 injection hx with hx
 subst hx
 simp [A69,C4x,h]
theorem B2y {H:AH} {n:Nat} {z:Value} (hz:veq z z=true):∀ x,(H.new 1 (List.replicate n z)).2.objs.get H.next=some x→A69 x x=true:=
 objNew (B5g fun x hx=>by rw [(List.mem_replicate.1 hx).2]; exact hz)
theorem A67 {H:AH} {v:Value} {l:List ByteArray} {n:Nat} (hs:Sl H v 1 (l.map A1b)) (hl:l.length≤1048576) (hn:n≤1048576) (hw:Wf H):
  Sh.Call Tryz.prog (knows 10) 43 [v,.int .i64 (n:Int)] H (fun r H'=>Kept H H'∧∃ g,r=.pointer (some ⟨g,0,some 0⟩)∧Gr H' H.next g l (List.replicate n []) (List.replicate n 0) (List.replicate n 0)):=by
 refine A4a rfl Tryz.func43 rfl (Nat.le_of_ble_eq_true rfl) ?_
 have hres:Tryz.f43.results.toList=[.tmp 4]:=rfl
 have m1:=mk_123 (H:=H) (l:=n) (c:=n) (Nat.le_refl _) (by omega)
 obtain ⟨K1,hK1⟩:∃ K,(H.new 1 (List.replicate n (.slice none 0 0))).2=K:=⟨_,rfl⟩
 have k1:=Kept.new hw 1 (List.replicate n (.slice none 0 0))
 have jg:=Jag.make hw 4 (n:=n) (by omega)
 rw [hK1] at m1 k1 jg
 have m2:=mk_88 (H:=K1) (l:=n) (c:=n) (Nat.le_refl _) (by omega)
 have k2:=Kept.new k1.wf 1 (List.replicate n (.int .i64 0))
 have f2:=Buf.fill k1.wf (.int .i64 0) (c:=n) (by omega)
 obtain ⟨K2,hK2⟩:∃ K,(K1.new 1 (List.replicate n (.int .i64 0))).2=K:=⟨_,rfl⟩
 rw [hK2] at m2 k2 f2
 have m3:=mk_88 (H:=K2) (l:=n) (c:=n) (Nat.le_refl _) (by omega)
 have k3:=Kept.new k2.wf 1 (List.replicate n (.int .i64 0))
 have f3:=Buf.fill k2.wf (.int .i64 0) (c:=n) (by omega)
 obtain ⟨K3,hK3⟩:∃ K,(K2.new 1 (List.replicate n (.int .i64 0))).2=K:=⟨_,rfl⟩
 rw [hK3] at m3 k3 f3
 have x1:H.next < K1.next:=by rw [← hK1]; exact Nat.lt_succ_self _
 have x2:K1.next < K2.next:=by rw [← hK2]; exact Nat.lt_succ_self _
 have x3:K2.next < K3.next:=by rw [← hK3]; exact Nat.lt_succ_self _
 have k123:=(k1.trans k2).trans k3
 obtain ⟨r,H1,hd,hk,b,hb,hf⟩:=C4l (hs.grow (k123.grow hw)) (by simpa using hl) k123.wf
 have o1:=B2y (H:=H) (n:=n) (z:=.slice none 0 0) rfl
 have o2:=B2y (H:=K1) (n:=n) (z:=.int .i64 0) A1c
 have o3:=B2y (H:=K2) (n:=n) (z:=.int .i64 0) A1c
 rw [hK1] at o1; rw [hK2] at o2; rw [hK3] at o3
 simp only [↓Sh.wp_seq]
 simp only [↓Sh.dn,sx,Nat.reduceBEq,reduceCtorEq,Nat.reduceEqDiff]
 refine A6o (fl:=[(0,true),(2,true),(3,false),(4,true),(5,false),(6,true),(7,false),(1,false),(8,true),(9,false),(10,true)]) (by kernel_rfl) (by kernel_rfl) hw ?_
 simp only [↓Sh.dn,sx,Nat.reduceBEq,reduceCtorEq,Nat.reduceEqDiff,wpg,A4q,isEff,A9b,isRead,A3e,A1c,A4e,A6c,A6b,forall_eq,forall_eq',m1,m2,m3,k1.wf,k2.wf,k3.wf]
 refine ⟨o1,o2,o3,_,_,hd,hk.wf,hk.grow k123.wf,?_⟩
 have nw:∀ (H:AH) (a b c d:Value),isCell a=true→isCell b=true→isCell c=true→isCell d=true→anew Tryz.prog 125 H (.agg #[a,b,c,d])=some (.pointer (some ⟨H.next,0,some 0⟩),(H.new 4 [a,b,c,d]).2):=
  fun H a b c d ha hb hc hd=>A4o C6e rfl (by simp [ha,hb,hc,hd])
 have bl:∀ a b c d:Value,isCell a=true→isCell b=true→isCell c=true→isCell d=true→A2m Tryz.prog 125 [(0,a),(1,b),(2,c),(3,d)]=some (.agg #[a,b,c,d]):=by
  intro a b c d ha hb hc hd
  have va:∀ xs:Array Value,A0b (.agg xs)=xs.toList:=fun _=>rfl
  refine A0i (pl:=[(0,1),(1,1),(2,1),(3,1)]) Tryz.underlying125 B1v (by kernel_rfl) ?_
  simp [A5u,A7b ha,A7b hb,A7b hc,A7b hd,va,ha,hb,hc,hd,setCells,A8a,A3c]
 have cr:=hb.isCell
 have q:=nw H1 r (.slice (some ⟨H.next,0,some 0⟩) n n) (.slice (some ⟨K1.next,0,some 0⟩) n n) (.slice (some ⟨K2.next,0,some 0⟩) n n) cr rfl rfl rfl
 have oq:=Obj.new (H:=H1) 4 [r,.slice (some ⟨H.next,0,some 0⟩) n n,.slice (some ⟨K1.next,0,some 0⟩) n n,.slice (some ⟨K2.next,0,some 0⟩) n n]
 have ee:veqs [r,.slice (some ⟨H.next,0,some 0⟩) n n,.slice (some ⟨K1.next,0,some 0⟩) n n,.slice (some ⟨K2.next,0,some 0⟩) n n] [r,.slice (some ⟨H.next,0,some 0⟩) n n,.slice (some ⟨K1.next,0,some 0⟩) n n,.slice (some ⟨K2.next,0,some 0⟩) n n]=true:=by
  refine B5g fun x hx=>?_
  simp only [List.mem_cons,List.not_mem_nil,or_false] at hx
  rcases hx with rfl | rfl | rfl | rfl
  ·exact hb.toSl.veq
  ·exact A0g
  ·exact A0g
  ·exact A0g
 have o4:=objNew (H:=H1) (s:=4) ee
 have k4:=Kept.new hk.wf 4 [r,.slice (some ⟨H.next,0,some 0⟩) n n,.slice (some ⟨K1.next,0,some 0⟩) n n,.slice (some ⟨K2.next,0,some 0⟩) n n]
 have bq:=bl r (.slice (some ⟨H.next,0,some 0⟩) n n) (.slice (some ⟨K1.next,0,some 0⟩) n n) (.slice (some ⟨K2.next,0,some 0⟩) n n) cr rfl rfl rfl
 simp only [↓Sh.dn,sx,Nat.reduceBEq,reduceCtorEq,Nat.reduceEqDiff,wpg,A4q,isEff,A9b,isRead,A3e,A1c,A4e,A6c,A6b,forall_eq,forall_eq',bq,q,hres]
 have hbs:∀ g,b=some g→K3.next≤g:=hf
 have if1:∀ {m y:Nat},(if n=0 then none else some m)=some y→y=m:=by
  intro m y h
  by_cases hn0:n=0
  ·rw [if_pos hn0] at h; cases h
  ·rw [if_neg hn0] at h; exact (Option.some.inj h).symm
 have jin:∀ y,JIn (if n=0 then none else some H.next) (List.replicate n none) y→y=H.next:=by
  rintro y (h | ⟨i,h⟩)
  ·exact if1 h
  ·rw [List.getElem?_replicate] at h
   split at h <;> cases h
 have hn:=hk.next
 have c1:=(((jg.kept k1.wf k2).kept k2.wf k3).kept k3.wf hk).kept hk.wf k4
 have c2:=((f2.kept k2.wf k3).kept k3.wf hk).kept hk.wf k4
 have c3:=(f3.kept k3.wf hk).kept hk.wf k4
 have rp:∀ m:Int,(List.replicate n m).map intC=List.replicate n [.int .i64 m]:=fun m=>by simp [intC]
 have hlt:=fun y (h:b=some y)=>hb.lt hk.wf y h
 refine ⟨o4,k123.trans (hk.trans k4),_,rfl,_,_,_,_,b,_,_,_,_,_,⟨oq.arr,hb.kept hk.wf k4,c1,by rw [rp]; exact c2,by rw [rp]; exact c3,?_,?_,?_,?_,?_,?_,?_,?_,?_,?_,?_,?_,?_,?_,?_⟩⟩
 ·omega
 ·intro y h; have:=hbs y h; omega
 ·intro y h; rw [jin y h]; exact Nat.le_refl _
 ·intro y h; rw [if1 h]; omega
 ·intro y h; rw [if1 h]; omega
 ·intro h; have:=hlt _ h; omega
 ·intro h; have:=jin _ h; omega
 ·intro h; have:=if1 h; omega
 ·intro h; have:=if1 h; omega
 ·intro y h h2; have:=hbs y h; have:=jin y h2; omega
 ·intro y h h2; have:=hbs y h; have:=if1 h2; omega
 ·intro y h h2; have:=hbs y h; have:=if1 h2; omega
 ·intro y h h2; have:=if1 h; have:=jin y h2; omega
 ·intro y h h2; have:=if1 h; have:=jin y h2; omega
 ·intro y h h2; have:=if1 h; have:=if1 h2; omega
end Go.Proofs.YtnoengaghabmjaaGreat
/- (*graph.Graph).Arc and End, of a graph that is being made. -/
namespace Go.Proofs.YtnoengaghabmjaaGreat
open Go Go.Proofs Go.Proofs.Sh
theorem GrB.arced {H H':AH} {base g:Nat} {sv av ev cv:Value} {os ot oe oc:Option Nat} {vals vals':List Value} {obs obs':List (Option Nat)} {sigma:List ByteArray} {rows rows':List (List (List Value))} {ends costs:List Int}
  (h:GrB H base g sv av ev cv os ot oe oc vals obs sigma rows ends costs) (hw:Wf H) (hc:Chg (JIn ot obs) H H') (hj:Jag H' av ot 4 vals' rows' obs') (hin:∀ y,JIn ot obs' y→JIn ot obs y∨H.next≤y):
  Chg (fun y=>base≤y) H H'∧Gr H' base g sigma rows' ends costs:=by
 have hg:=h.arr.lt hw
 refine ⟨hc.weak h.fj,sv,av,ev,cv,os,ot,oe,oc,vals',obs',?_⟩
 exact { h with
  arr:=h.arr.keep (hc.old g hg h.gj)
  sg:=h.sg.chg hw hc h.sj
  jag:=hj
  en:=h.en.chg hw hc h.je
  co:=h.co.chg hw hc h.jc
  fj:=fun y hy=>by
   rcases hin y hy with h1 | h1
   ·exact h.fj y h1
   ·have:=h.fg; omega
  gj:=fun hy=>by
   rcases hin g hy with h1 | h1
   ·exact h.gj h1
   ·omega
  sj:=fun y hy hy2=>by
   rcases hin y hy2 with h1 | h1
   ·exact h.sj y hy h1
   ·have:=h.sg.lt hw y hy; omega
  je:=fun y hy hy2=>by
   rcases hin y hy2 with h1 | h1
   ·exact h.je y hy h1
   ·have:=h.en.lt hw y hy; omega
  jc:=fun y hy hy2=>by
   rcases hin y hy2 with h1 | h1
   ·exact h.jc y hy h1
   ·have:=h.co.lt hw y hy; omega }
theorem grArc {H:AH} {base g:Nat} {sigma:List ByteArray} {rows:List (List (List Value))} {ends costs:List Int} {s:Nat} {r:List (List Value)} {x0 x1 x2 x3:Int}
  (h:Gr H base g sigma rows ends costs) (hr:rows[s]?=some r) (hl:r.length≤1073741823) (hw:Wf H):
  Sh.Call Tryz.prog (knows 10) 119 [.pointer (some ⟨g,0,some 0⟩),.int .i64 (s:Int),.int .i64 x0,.int .i64 x1,.int .i64 x2,.int .i64 x3] H (fun _ H'=>Chg (fun y=>base≤y) H H'∧Gr H' base g sigma (rows.set s (r++[[.int .i64 x0,.int .i64 x1,.int .i64 x2,.int .i64 x3]])) ends costs):=by
 obtain ⟨sv,av,ev,cv,os,ot,oe,oc,vals,obs,h⟩:=h
 refine (C3k h.arr h.jag h.gj hr hl hw).mono ?_
 rintro _ H' ⟨hc,vals',obs',hj,hin⟩
 exact GrB.arced h hw hc hj hin
theorem grEnd {H:AH} {base g:Nat} {sigma:List ByteArray} {rows:List (List (List Value))} {ends costs:List Int} {s:Nat} {x:Int}
  (h:Gr H base g sigma rows ends costs) (hs:s < ends.length) (hs':s < costs.length) (hw:Wf H) (h0:0≤ends[s]) (h1:ends[s]≤1048576):
  Sh.Call Tryz.prog (knows 10) 110 [.pointer (some ⟨g,0,some 0⟩),.int .i64 (s:Int),.int .i64 x] H (fun _ H'=>Chg (fun y=>base≤y) H H'∧Gr H' base g sigma rows (ends.set s (ends[s]+1)) (costs.set s (A3v ends[s] costs[s] x))):=by
 obtain ⟨sv,av,ev,cv,os,ot,oe,oc,vals,obs,h⟩:=h
 refine (C7m h.arr h.en h.co h.ge h.gc h.ec hs hs' hw h0 h1).mono ?_
 rintro _ H' ⟨hc,hn,he,hcc⟩
 refine ⟨hc.weak fun y hy=>?_,sv,av,ev,cv,os,ot,oe,oc,vals,obs,{ h with arr:=h.arr.keep (hc.old g (h.arr.lt hw) ?_),sg:=h.sg.chg hw hc ?_,jag:=h.jag.chg hw hc ?_,en:=he,co:=hcc }⟩
 ·rcases hy with hy | hy
  ·exact h.fe y hy
  ·exact h.fc y hy
 ·rintro (hy | hy)
  ·exact h.ge hy
  ·exact h.gc hy
 ·rintro y hy (hy2 | hy2)
  ·exact h.se y hy hy2
  ·exact h.sc y hy hy2
 ·rintro y hy (hy2 | hy2)
  ·exact h.je y hy2 hy
  ·exact h.jc y hy2 hy
end Go.Proofs.YtnoengaghabmjaaGreat
/- Whether a text of a list is too long for a symbol. -/
namespace Go.Proofs.YtnoengaghabmjaaGreat
open Go Go.Proofs Go.Proofs.Sh
theorem anyLong {H:AH} {v:Value} {l:List ByteArray} (hs:Sl H v 1 (l.map A1b)) (hl:l.length≤1048576) (hw:Wf H):
  Sh.Call Tryz.prog (knows 10) 79 [v] H (fun r H'=>Kept H H'∧r=.bool (l.any fun s=>decide (16 < s.size))):=by
 refine A4a rfl Tryz.func79 rfl (Nat.le_of_ble_eq_true rfl) ?_
 have hres:Tryz.f79.results.toList=[.tmp 2]:=rfl
 have hlen:=hs.len Tryz.underlying22 H
 simp only [↓Sh.dn,sx,Nat.reduceBEq,reduceCtorEq,Nat.reduceEqDiff,↓Sh.wp_cond]
 refine A9y l.length (fun i F H'=>H'=H∧F.get 0=some v∧F.get 3=some (.int .i64 (i:Int))∧(l.take i).any (fun s=>decide (16 < s.size))=false) (Nat.zero_le _) ⟨rfl,by simp only [↓Sh.dn,sx,Nat.reduceBEq,reduceCtorEq,Nat.reduceEqDiff,↓Sh.wp_cond],by simp only [↓Sh.dn,sx,Nat.reduceBEq,reduceCtorEq,Nat.reduceEqDiff,↓Sh.wp_cond]; rfl,rfl⟩ ?_
 rintro i F H' hi ⟨rfl,f0,f3,hall⟩ k
 by_cases hlt:i < l.length
 ·obtain ⟨g,o,kk,hia,hc,hcc⟩:=hs.at Tryz.underlying22 A2n (i:=i) (x:=A1b l[i]) (by simp [hlt]) .i64
  have hy:=hcc 0 _ rfl
  simp only [Nat.add_zero] at hy
  have hc16:decide ((16:Int) < ((l[i].size:Nat):Int))=decide (16 < l[i].size):=by
   by_cases h:16 < l[i].size
   ·simp [h]; omega
   ·simp [h]; omega
  simp only [↓Sh.dn,sx,Nat.reduceBEq,reduceCtorEq,Nat.reduceEqDiff,↓Sh.wp_cond,f0,f3,hlen,hia,hy,List.length_map,A5a,hlt,hc16,decide_true,forall_const,reduceCtorEq,false_implies,and_true,true_and,hres]
  refine ⟨fun h=>⟨Kept.refl hw,?_⟩,fun h=>k _ _ hlt ⟨rfl,by simp only [↓Sh.dn,sx,Nat.reduceBEq,reduceCtorEq,Nat.reduceEqDiff,↓Sh.wp_cond,f0],by simp only [↓Sh.dn,sx,Nat.reduceBEq,reduceCtorEq,Nat.reduceEqDiff,↓Sh.wp_cond,wrap_succ hlt hl],?_⟩⟩
  ·have:(l.any fun s=>decide (16 < s.size))=true:=List.any_eq_true.2 ⟨_,List.getElem_mem hlt,h⟩
   rw [this]
  ·rw [List.take_add_one,List.getElem?_eq_getElem hlt]
   simp only [Option.toList,List.any_append,hall,Bool.false_or,List.any_cons,List.any_nil,Bool.or_false]
   exact h
 ·have hin:i=l.length:=by omega
  subst hin
  rw [List.take_length] at hall
  simp only [↓Sh.dn,sx,Nat.reduceBEq,reduceCtorEq,Nat.reduceEqDiff,↓Sh.wp_cond,f0,f3,hlen,List.length_map,A5a,hlt,decide_false,forall_const,reduceCtorEq,false_implies,and_true,true_and,hres]
  exact ⟨Kept.refl hw,by rw [hall]⟩
end Go.Proofs.YtnoengaghabmjaaGreat
/- Whether a text is a symbol. -/
namespace Go.Proofs.YtnoengaghabmjaaGreat
open Go Go.Proofs Go.Proofs.Sh
def badByte (u:UInt8):Bool:=decide (u.toNat < 33) || decide (126 < u.toNat) || decide (u.toNat=60) || decide (u.toNat=62)
def A01 (s:ByteArray):Bool:=!s.data.toList.any badByte && decide (1≤s.size) && decide (s.size≤16)
theorem isSymbol {H:AH} {x:ByteArray} (hl:x.size≤1048576) (hw:Wf H):
  Sh.Call Tryz.prog (knows 10) 128 [.string x] H (fun r H'=>H'=H∧r=.bool (A01 x)):=by
 refine A4a rfl Tryz.func128 rfl (Nat.le_of_ble_eq_true rfl) ?_
 have hres:Tryz.f128.results.toList=[.tmp 2]:=rfl
 have hsz:x.data.toList.length=x.size:=by rw [Array.length_toList]; rfl
 simp only [↓Sh.dn,sx,Nat.reduceBEq,reduceCtorEq,Nat.reduceEqDiff]
 refine A9y x.size (fun i F H'=>H'=H∧F.get 0=some (.string x)∧F.get 3=some (.int .i64 (i:Int))∧(x.data.toList.take i).any badByte=false) (Nat.zero_le _) ⟨rfl,by simp only [↓Sh.dn,sx,Nat.reduceBEq,reduceCtorEq,Nat.reduceEqDiff],by simp only [↓Sh.dn,sx,Nat.reduceBEq,reduceCtorEq,Nat.reduceEqDiff]; rfl,rfl⟩ ?_
 rintro i F H' hi ⟨rfl,f0,f3,hall⟩ k
 by_cases hlt:i < x.size
 ·obtain ⟨u,hu⟩:∃ u,x.data.toList[i]?=some u:=⟨x.data.toList[i]'(by omega),List.getElem?_eq_getElem (by omega)⟩
  have hix:=B6h (P:=Tryz.prog) (j:=.i64) Tryz.underlying9 hu
  have e33:decide ((u.toNat:Int) < 33)=decide (u.toNat < 33):=by by_cases h:u.toNat < 33 <;> simp [h] <;> omega
  have e126:decide (126 < (u.toNat:Int))=decide (126 < u.toNat):=by by_cases h:126 < u.toNat <;> simp [h] <;> omega
  have e60:decide ((u.toNat:Int)=60)=decide (u.toNat=60):=by by_cases h:u.toNat=60 <;> simp [h]; omega
  have e62:decide ((u.toNat:Int)=62)=decide (u.toNat=62):=by by_cases h:u.toNat=62 <;> simp [h]; omega
  have hstep:badByte u=false→(x.data.toList.take (i+1)).any badByte=false:=by
   intro h
   rw [List.take_add_one,hu]
   simp only [Option.toList,List.any_append,hall,Bool.false_or,List.any_cons,List.any_nil,Bool.or_false]
   exact h
  have hbad:badByte u=true→A01 x=false:=by
   intro h
   have:x.data.toList.any badByte=true:=List.any_eq_true.2 ⟨_,List.mem_of_getElem? hu,h⟩
   simp [A01,this]
  have hgo:badByte u=(decide (u.toNat < 33) || decide (126 < u.toNat) || decide (u.toNat=60) || decide (u.toNat=62)):=rfl
  have five:∀ a b c d:Bool,a=true∨(a=false∧b=true)∨(a=false∧b=false∧c=true)∨(a=false∧b=false∧c=false∧d=true)∨(a=false∧b=false∧c=false∧d=false):=by decide
  rcases five (decide (u.toNat < 33)) (decide (126 < u.toNat)) (decide (u.toNat=60)) (decide (u.toNat=62)) with h1 | ⟨h1,h2⟩ | ⟨h1,h2,h3⟩ | ⟨h1,h2,h3,h4⟩ | ⟨h1,h2,h3,h4⟩ <;> simp only [h1, *,Bool.or_true,Bool.or_false,Bool.true_or,Bool.false_or] at hgo
  ·simp only [↓Sh.dn,sx,Nat.reduceBEq,reduceCtorEq,Nat.reduceEqDiff,f0,f3,hix,A5a,hlt,e33,h1,decide_true,hres,hbad hgo,true_and]
  ·simp only [↓Sh.dn,sx,Nat.reduceBEq,reduceCtorEq,Nat.reduceEqDiff,f0,f3,hix,A5a,hlt,e33,e126,h1,h2,decide_true,hres,hbad hgo,true_and]
  ·simp only [↓Sh.dn,sx,Nat.reduceBEq,reduceCtorEq,Nat.reduceEqDiff,f0,f3,hix,A5a,hlt,e33,e126,e60,h1,h2,h3,decide_true,hres,hbad hgo,true_and]
  ·simp only [↓Sh.dn,sx,Nat.reduceBEq,reduceCtorEq,Nat.reduceEqDiff,f0,f3,hix,A5a,hlt,e33,e126,e60,e62,h1,h2,h3,h4,decide_true,hres,hbad hgo,true_and]
  ·simp only [↓Sh.dn,sx,Nat.reduceBEq,reduceCtorEq,Nat.reduceEqDiff,f0,f3,hix,A5a,hlt,e33,e126,e60,e62,h1,h2,h3,h4,decide_true,hres]
   exact k _ _ hlt ⟨rfl,by simp only [↓Sh.dn,sx,Nat.reduceBEq,reduceCtorEq,Nat.reduceEqDiff,f0],by simp only [↓Sh.dn,sx,Nat.reduceBEq,reduceCtorEq,Nat.reduceEqDiff,wrap_succ hlt hl],hstep hgo⟩
 ·have hin:i=x.size:=by omega
  subst hin
  rw [← hsz,List.take_length] at hall
  have e1:decide ((1:Int)≤((x.size:Nat):Int))=decide (1≤x.size):=by by_cases h:1≤x.size <;> simp [h] <;> omega
  have e16:decide (((x.size:Nat):Int)≤16)=decide (x.size≤16):=by by_cases h:x.size≤16 <;> simp [h] <;> omega
  cases h1:decide (1≤x.size) <;>
   simp only [↓Sh.dn,sx,Nat.reduceBEq,reduceCtorEq,Nat.reduceEqDiff,f0,f3,A5a,hlt,e1,e16,h1,decide_false,Bool.not_true,forall_const,not_true_eq_false,reduceCtorEq,false_implies,and_true,true_and,hres] <;>
   simp [A01,hall,h1]
end Go.Proofs.YtnoengaghabmjaaGreat
/- Whether all texts of a list are symbols. -/
namespace Go.Proofs.YtnoengaghabmjaaGreat
open Go Go.Proofs Go.Proofs.Sh
theorem C4s {H:AH} {v:Value} {l:List ByteArray} (hs:Sl H v 1 (l.map A1b)) (hl:l.length≤1048576) (hlx:∀ x∈l,x.size≤1048576) (hw:Wf H):
  Sh.Call Tryz.prog (knows 10) 80 [v] H (fun r H'=>H'=H∧r=.bool (l.all A01)):=by
 refine A4a rfl Tryz.func80 rfl (Nat.le_of_ble_eq_true rfl) ?_
 have hres:Tryz.f80.results.toList=[.tmp 2]:=rfl
 have hlen:=hs.len Tryz.underlying22 H
 simp only [↓Sh.dn,sx,Nat.reduceBEq,reduceCtorEq,Nat.reduceEqDiff]
 refine A9y l.length (fun i F H'=>H'=H∧F.get 0=some v∧F.get 3=some (.int .i64 (i:Int))∧(l.take i).all A01=true) (Nat.zero_le _) ⟨rfl,by simp only [↓Sh.dn,sx,Nat.reduceBEq,reduceCtorEq,Nat.reduceEqDiff],by simp only [↓Sh.dn,sx,Nat.reduceBEq,reduceCtorEq,Nat.reduceEqDiff]; rfl,rfl⟩ ?_
 rintro i F H' hi ⟨rfl,f0,f3,hall⟩ k
 by_cases hlt:i < l.length
 ·obtain ⟨g,o,kk,hia,hc,hcc⟩:=hs.at Tryz.underlying22 A2n (i:=i) (x:=A1b l[i]) (by simp [hlt]) .i64
  have hy:=hcc 0 _ rfl
  simp only [Nat.add_zero] at hy
  obtain ⟨r,H1,hd,rfl,rfl⟩:=isSymbol (H:=H') (x:=l[i]) (hlx _ (List.getElem_mem hlt)) hw
  simp only [↓Sh.dn,sx,Nat.reduceBEq,reduceCtorEq,Nat.reduceEqDiff,f0,f3,hlen,hia,hy,List.length_map,A5a,hlt,decide_true,forall_const,reduceCtorEq,false_implies,and_true,true_and,hres]
  refine ⟨_,_,hd,?_⟩
  cases hsy:A01 l[i] with
  | false=>
   have:l.all A01=false:=by
    rw [List.all_eq_false]
    exact ⟨_,List.getElem_mem hlt,by simp [hsy]⟩
   simp only [↓Sh.dn,sx,Nat.reduceBEq,reduceCtorEq,Nat.reduceEqDiff,hres,this]
  | true=>
   simp only [↓Sh.dn,sx,Nat.reduceBEq,reduceCtorEq,Nat.reduceEqDiff,f0,f3]
   refine k _ _ hlt ⟨rfl,by simp only [↓Sh.dn,sx,Nat.reduceBEq,reduceCtorEq,Nat.reduceEqDiff,f0],by simp only [↓Sh.dn,sx,Nat.reduceBEq,reduceCtorEq,Nat.reduceEqDiff,wrap_succ hlt hl],?_⟩
   rw [List.take_add_one,List.getElem?_eq_getElem hlt]
   simp only [Option.toList,List.all_append,hall,Bool.true_and,List.all_cons,List.all_nil,Bool.and_true,hsy]
 ·have hin:i=l.length:=by omega
  subst hin
  rw [List.take_length] at hall
  simp only [↓Sh.dn,sx,Nat.reduceBEq,reduceCtorEq,Nat.reduceEqDiff,f0,f3,hlen,List.length_map,A5a,hlt,decide_false,forall_const,reduceCtorEq,false_implies,and_true,true_and,hres]
  rw [hall]
end Go.Proofs.YtnoengaghabmjaaGreat
/- Whether texts ascend. -/
namespace Go.Proofs.YtnoengaghabmjaaGreat
open Go Go.Proofs Go.Proofs.Sh
def ascB:List ByteArray→Bool
 | x :: y :: l=>A3o x y && ascB (y :: l)
 | _=>true
theorem A52:∀ {l:List ByteArray},ascB l=true↔∀ (i:Nat) x y,l[i]?=some x→l[i+1]?=some y→A3o x y=true
 | []=>by simp [ascB]
 | [a]=>by simp [ascB]
 | a :: b :: l=>by
  simp only [ascB,Bool.and_eq_true,A52 (l:=b :: l)]
  constructor
  ·rintro ⟨h1,h2⟩ i x y hx hy
   cases i with
   | zero=>simp only [List.getElem?_cons_zero,List.getElem?_cons_succ,Option.some.injEq] at hx hy; subst hx hy; exact h1
   | succ i=>exact h2 i x y (by simpa using hx) (by simpa using hy)
  ·intro h
   exact ⟨h 0 a b rfl rfl,fun i x y hx hy=>h (i+1) x y (by simpa using hx) (by simpa using hy)⟩
theorem asc_of {l:List ByteArray} (h:ascB l=true):Asc l:=by
 rw [A52] at h
 intro i j x y hij hx hy
 obtain ⟨d,rfl⟩:∃ d,j=i+1+d:=⟨j - i - 1,by omega⟩
 induction d generalizing y with
 | zero=>exact h i x y hx hy
 | succ d ih=>
  have hjl:=(List.getElem?_eq_some_iff.1 hy).1
  have hz:l[i+1+d]?=some (l[i+1+d]'(by omega)):=List.getElem?_eq_getElem (by omega)
  exact A2y (ih _ (by omega) hz) (h _ _ _ hz hy)
theorem isSet {H:AH} {v:Value} {l:List ByteArray} (hs:Sl H v 1 (l.map A1b)) (hl:l.length≤1048576) (hw:Wf H):
  Sh.Call Tryz.prog (knows 10) 135 [v] H (fun r H'=>H'=H∧r=.bool (ascB l)):=by
 refine A4a rfl Tryz.func135 rfl (Nat.le_of_ble_eq_true rfl) ?_
 have hres:Tryz.f135.results.toList=[.tmp 2]:=rfl
 have hlen:=hs.len Tryz.underlying22 H
 simp only [↓Sh.dn,sx,Nat.reduceBEq,reduceCtorEq,Nat.reduceEqDiff,↓Sh.wp_cond]
 refine A1f (fun m F H'=>H'=H∧∃ i:Nat,m=l.length - i∧1≤i∧F.get 0=some v∧F.get 3=some (.int .i64 (i:Int))∧(∀ (j:Nat) x y,j+1 < i→l[j]?=some x→l[j+1]?=some y→A3o x y=true)) (m:=l.length - 1) ⟨rfl,1,rfl,Nat.le_refl _,by simp only [↓Sh.dn,sx,Nat.reduceBEq,reduceCtorEq,Nat.reduceEqDiff,↓Sh.wp_cond],by simp only [↓Sh.dn,sx,Nat.reduceBEq,reduceCtorEq,Nat.reduceEqDiff,↓Sh.wp_cond]; rfl,fun j x y h=>by omega⟩ ?_
 rintro m F H' ⟨rfl,i,rfl,h1,f0,f3,hall⟩ k
 by_cases hlt:i < l.length
 ·obtain ⟨g,o,kk,hia,hc,hcc⟩:=hs.at Tryz.underlying22 A2n (i:=i) (x:=A1b l[i]) (by simp [hlt]) .i64
  have hy:=hcc 0 _ rfl
  obtain ⟨g',o',kk',hia',hc',hcc'⟩:=hs.at Tryz.underlying22 A2n (i:=i - 1) (x:=A1b (l[i - 1]'(by omega))) (by simp [List.getElem?_eq_getElem (show i - 1 < l.length by omega)]) .i64
  have hy':=hcc' 0 _ rfl
  have hw1:IntKind.wrap .i64 ((i:Int) - 1)=((i - 1:Nat):Int):=by rw [wrap64 (by omega) (by omega)]; omega
  simp only [Nat.add_zero] at hy hy'
  simp only [↓Sh.dn,sx,Nat.reduceBEq,reduceCtorEq,Nat.reduceEqDiff,↓Sh.wp_cond,f0,f3,hlen,hia,hia',hy,hy',hw1,List.length_map,A5a,hlt,decide_true,forall_const,reduceCtorEq,false_implies,and_true,true_and,hres,Bool.not_eq_true',Bool.not_eq_false']
  have hx1:l[i - 1]?=some (l[i - 1]'(by omega)):=List.getElem?_eq_getElem (by omega)
  have hx2:l[i - 1+1]?=some l[i]:=by rw [show i - 1+1=i by omega]; exact List.getElem?_eq_getElem hlt
  refine ⟨fun h=>?_,fun h=>k (l.length - (i+1)) _ _ (by omega) ⟨rfl,i+1,rfl,by omega,by simp only [↓Sh.dn,sx,Nat.reduceBEq,reduceCtorEq,Nat.reduceEqDiff,↓Sh.wp_cond,f0],by simp only [↓Sh.dn,sx,Nat.reduceBEq,reduceCtorEq,Nat.reduceEqDiff,↓Sh.wp_cond,wrap_succ hlt hl],fun j x y hj hx hy=>?_⟩⟩
  ·have : ascB l = false := by
     cases hb : ascB l with
     | false => rfl
     | true => rw [A52.1 hb _ _ _ hx1 hx2] at h; cases h
   rw [this]
  ·by_cases hji:j+1 < i
   ·exact hall j x y hji hx hy
   ·have:j=i - 1:=by omega
    subst this
    rw [hx1] at hx
    rw [hx2] at hy
    rw [← Option.some.inj hx,← Option.some.inj hy]
    exact h
 ·simp only [↓Sh.dn,sx,Nat.reduceBEq,reduceCtorEq,Nat.reduceEqDiff,↓Sh.wp_cond,f0,f3,hlen,List.length_map,A5a,hlt,decide_false,forall_const,reduceCtorEq,false_implies,and_true,true_and,hres]
  have:ascB l=true:=A52.2 fun j x y hx hy=>hall j x y (by have:=(List.getElem?_eq_some_iff.1 hy).1; omega) hx hy
  rw [this]
end Go.Proofs.YtnoengaghabmjaaGreat
/- What is wrong with an alphabet, by the reference. -/
namespace Go.Proofs.YtnoengaghabmjaaGreat
open Go Go.Proofs Go.Proofs.Sh
def A6u (l:List ByteArray):Bool:=l.any fun s=>decide (16 < s.size)
def A8j (l:List ByteArray):Int:=if (decide (40 < l.length) || A6u l)=true then 3 else if (l.all A01 && ascB l)=true then 0 else 1
theorem refSigma {H:AH} {v:Value} {l:List ByteArray} (hs:Sl H v 1 (l.map A1b)) (hl:l.length≤1048576) (hlx:∀ x∈l,x.size≤1048576) (hw:Wf H):
  Sh.Call Tryz.prog (knows 10) 98 [v] H (fun r H'=>Kept H H'∧r=.int .i64 (A8j l)):=by
 refine A4a rfl Tryz.func98 rfl (Nat.le_of_ble_eq_true rfl) ?_
 have hres:Tryz.f98.results.toList=[.tmp 2]:=rfl
 have hlen:=hs.len Tryz.underlying22 H
 have e40:decide ((40:Int) < ((l.length:Nat):Int))=decide (40 < l.length):=by by_cases h:40 < l.length <;> simp [h] <;> omega
 simp only [↓Sh.dn,sx,Nat.reduceBEq,reduceCtorEq,Nat.reduceEqDiff,hlen,List.length_map,e40]
 by_cases h40:40 < l.length
 ·simp only [↓Sh.dn,sx,Nat.reduceBEq,reduceCtorEq,Nat.reduceEqDiff,h40,decide_true,hres,A8j,Bool.true_or,forall_const,reduceCtorEq,false_implies,and_true,Kept.refl hw]
 ·simp only [↓Sh.dn,sx,Nat.reduceBEq,reduceCtorEq,Nat.reduceEqDiff,h40,decide_false]
  obtain ⟨r1,H1,hd1,hk1,rfl⟩:=anyLong hs hl hw
  refine ⟨_,_,hd1,?_⟩
  cases hL:(l.any fun s=>decide (16 < s.size)) with
  | true=>simp only [↓Sh.dn,sx,Nat.reduceBEq,reduceCtorEq,Nat.reduceEqDiff,hres,hL,A8j,A6u,h40,decide_false,Bool.false_or,forall_const,reduceCtorEq,false_implies,and_true,hk1]
  | false=>
   simp only [↓Sh.dn,sx,Nat.reduceBEq,reduceCtorEq,Nat.reduceEqDiff,forall_const,reduceCtorEq,false_implies,and_true,true_and]
   obtain ⟨r2,H2,hd2,rfl,rfl⟩:=C4s (hs.grow (hk1.grow hw)) hl hlx hk1.wf
   refine ⟨_,_,hd2,?_⟩
   cases hA:l.all A01 with
   | false=>simp only [↓Sh.dn,sx,Nat.reduceBEq,reduceCtorEq,Nat.reduceEqDiff,hres,hL,hA,A8j,A6u,h40,decide_false,Bool.false_or,Bool.false_and,Bool.not_false,forall_const,reduceCtorEq,false_implies,and_true,hk1]
   | true=>
    obtain ⟨r3,H3,hd3,rfl,rfl⟩:=isSet (hs.grow (hk1.grow hw)) hl hk1.wf
    simp only [↓Sh.dn,sx,Nat.reduceBEq,reduceCtorEq,Nat.reduceEqDiff,Bool.not_true,forall_const,reduceCtorEq,false_implies,and_true,true_and]
    refine ⟨_,_,hd3,?_⟩
    cases hS:ascB l with
    | true=>simp only [↓Sh.dn,sx,Nat.reduceBEq,reduceCtorEq,Nat.reduceEqDiff,hres,hL,hA,hS,A8j,A6u,h40,decide_false,Bool.false_or,Bool.true_and,Bool.not_true,forall_const,reduceCtorEq,false_implies,and_true,true_and,hk1]
    | false=>simp only [↓Sh.dn,sx,Nat.reduceBEq,reduceCtorEq,Nat.reduceEqDiff,hres,hL,hA,hS,A8j,A6u,h40,decide_false,Bool.false_or,Bool.true_and,Bool.not_false,forall_const,reduceCtorEq,false_implies,and_true,true_and,hk1]
end Go.Proofs.YtnoengaghabmjaaGreat
/- sort.Search: the first place at which a question that stays true is true. -/
namespace Go.Proofs.YtnoengaghabmjaaGreat
open Go Go.Proofs Go.Proofs.Sh
theorem half (a b:Nat) (h:a+b < 2097152):A8o false .u64 (IntKind.wrap .u64 (IntKind.wrap .i64 ((a:Int)+(b:Int)))) 1=some (.int .u64 (((a+b) / 2:Nat):Int)):=by
 rw [wrap64 (by omega) (by omega)]
 have e:IntKind.wrap .u64 ((a:Int)+(b:Int))=((a+b:Nat):Int):=by
  simp only [IntKind.wrap]
  simp [IntKind.bits,IntKind.signed]
  omega
 rw [e]
 simp only [A8o,A1n]
 simp [IntKind.bits,Int.fdiv_eq_ediv]
theorem search {H:AH} {n fid:Nat} {caps:List Value} (p:Nat→Bool) (hn:n≤1048576) (hp:∀ i,i < n→Sh.Call Tryz.prog (knows 10) fid (.int .i64 (i:Int) :: caps) H (fun r H'=>r=.bool (p i)∧H'=H)) (hm:∀ a b,a≤b→b < n→p a=true→p b=true) (hw:Wf H):
  Sh.Call Tryz.prog (knows 10) 159 [.int .i64 (n:Int),.func (.func fid) #[] caps.toArray] H (fun r H'=>H'=H∧∃ k:Nat,r=.int .i64 (k:Int)∧k≤n∧(∀ i,i < k→p i=false)∧(∀ i,k≤i→i < n→p i=true)):=by
 refine A4a rfl Tryz.func159 rfl (Nat.le_of_ble_eq_true rfl) ?_
 have hres:Tryz.f159.results.toList=[.tmp 4]:=rfl
 simp only [↓Sh.dn,sx,Nat.reduceBEq,reduceCtorEq,Nat.reduceEqDiff]
 refine A1f (fun m F H'=>H'=H∧∃ a b:Nat,m=b - a∧a≤b∧b≤n∧F.get 5=some (.int .i64 (a:Int))∧F.get 6=some (.int .i64 (b:Int))∧F.get 1=some (.func (.func fid) #[] caps.toArray)∧(∀ i,i < a→p i=false)∧(∀ i,b≤i→i < n→p i=true)) (m:=n) ⟨rfl,0,n,by omega,by omega,by omega,by simp only [↓Sh.dn,sx,Nat.reduceBEq,reduceCtorEq,Nat.reduceEqDiff]; rfl,by simp only [↓Sh.dn,sx,Nat.reduceBEq,reduceCtorEq,Nat.reduceEqDiff],by simp only [↓Sh.dn,sx,Nat.reduceBEq,reduceCtorEq,Nat.reduceEqDiff],fun i h=>by omega,fun i h1 h2=>by omega⟩ ?_
 rintro m F H' ⟨rfl,a,b,rfl,hab,hbn,f5,f6,f1,hlo,hhi⟩ k
 by_cases hlt:a < b
 ·obtain ⟨r,H1,hd,rfl,rfl⟩:=hp ((a+b) / 2) (by omega)
  have hw2:IntKind.wrap .i64 (((a+b) / 2:Nat):Int)=(((a+b) / 2:Nat):Int):=wrap64 (by omega) (by omega)
  simp only [↓Sh.dn,sx,Nat.reduceBEq,reduceCtorEq,Nat.reduceEqDiff,f5,f6,f1,A5a,hlt,decide_true,forall_const,reduceCtorEq,false_implies,and_true,true_and,C66,half a b (by omega),hw2,Value.func.injEq,Fn.func.injEq]
  refine ⟨_,_,hd,?_⟩
  cases hpv:p ((a+b) / 2) with
  | false=>
   have hw3:IntKind.wrap .i64 ((((a+b) / 2:Nat):Int)+1)=(((a+b) / 2+1:Nat):Int):=wrap_succ (n:=n) (by omega) hn
   simp only [↓Sh.dn,sx,Nat.reduceBEq,reduceCtorEq,Nat.reduceEqDiff,hpv,Bool.not_false,Bool.not_true,forall_const,reduceCtorEq,false_implies,and_true,true_and,hw3]
   refine k (b - ((a+b) / 2+1)) _ _ (by omega) ⟨rfl,(a+b) / 2+1,b,rfl,by omega,hbn,by simp only [↓Sh.dn,sx,Nat.reduceBEq,reduceCtorEq,Nat.reduceEqDiff],by simp only [↓Sh.dn,sx,Nat.reduceBEq,reduceCtorEq,Nat.reduceEqDiff,f6],by simp only [↓Sh.dn,sx,Nat.reduceBEq,reduceCtorEq,Nat.reduceEqDiff,f1],fun i hi=>?_,hhi⟩
   cases hpi:p i with
   | false=>rfl
   | true=>rw [hm i ((a+b) / 2) (by omega) (by omega) hpi] at hpv; cases hpv
  | true=>
   simp only [↓Sh.dn,sx,Nat.reduceBEq,reduceCtorEq,Nat.reduceEqDiff,hpv,Bool.not_false,Bool.not_true,forall_const,reduceCtorEq,false_implies,and_true,true_and]
   exact k ((a+b) / 2 - a) _ _ (by omega) ⟨rfl,a,(a+b) / 2,rfl,by omega,by omega,by simp only [↓Sh.dn,sx,Nat.reduceBEq,reduceCtorEq,Nat.reduceEqDiff,f5],by simp only [↓Sh.dn,sx,Nat.reduceBEq,reduceCtorEq,Nat.reduceEqDiff],by simp only [↓Sh.dn,sx,Nat.reduceBEq,reduceCtorEq,Nat.reduceEqDiff,f1],hlo,fun i h1 h2=>hm _ i h1 h2 hpv⟩
 ·have hab':a=b:=by omega
  subst hab'
  simp only [↓Sh.dn,sx,Nat.reduceBEq,reduceCtorEq,Nat.reduceEqDiff,f5,f6,f1,A5a,hlt,decide_false,forall_const,reduceCtorEq,false_implies,and_true,true_and,hres]
  exact ⟨a,rfl,hbn,hlo,hhi⟩
end Go.Proofs.YtnoengaghabmjaaGreat
/- What sort.SearchStrings asks of a place. -/
namespace Go.Proofs.YtnoengaghabmjaaGreat
open Go Go.Proofs Go.Proofs.Sh
theorem searchAt {H:AH} {g1 o1 k1 g2 o2 k2 i:Nat} {v:Value} {x y:ByteArray} {l:List ByteArray} (h1:H.cell ⟨g1,o1,some k1⟩=some v) (h2:H.cell ⟨g2,o2,some k2⟩=some (.string x)) (hs:Sl H v 1 (l.map A1b)) (hi:l[i]?=some y) (hw:Wf H):
  Sh.Call Tryz.prog (knows 10) 160 [.int .i64 (i:Int),.pointer (some ⟨g1,o1,some k1⟩),.pointer (some ⟨g2,o2,some k2⟩)] H (fun r H'=>r=.bool (!A3o y x)∧H'=H):=by
 refine A4a rfl Tryz.func160 rfl (Nat.le_of_ble_eq_true rfl) ?_
 have hres:Tryz.f160.results.toList=[.tmp 4]:=rfl
 obtain ⟨g,o,kk,hia,hc,hcc⟩:=hs.at Tryz.underlying22 A2n (i:=i) (x:=A1b y) (by simp [hi]) .i64
 have hy:=hcc 0 _ rfl
 simp only [Nat.add_zero] at hy
 simp only [↓Sh.dn,sx,Nat.reduceBEq,reduceCtorEq,Nat.reduceEqDiff,h1,h2,hia,hy,hres,true_and,and_true]
end Go.Proofs.YtnoengaghabmjaaGreat
/- sort.SearchStrings over an ascending list. -/
namespace Go.Proofs.YtnoengaghabmjaaGreat
open Go Go.Proofs Go.Proofs.Sh
theorem B5t {H:AH} {v:Value} {x:ByteArray} {l:List ByteArray} (hs:Sl H v 1 (l.map A1b)) (ha:Asc l) (hl:l.length≤1048576) (hw:Wf H):
  Sh.Call Tryz.prog (knows 10) 136 [v,.string x] H (fun r H'=>Kept H H'∧∃ k:Nat,r=.int .i64 (k:Int)∧k≤l.length∧(∀ (i:Nat) y,i < k→l[i]?=some y→A3o y x=true)∧(∀ (i:Nat) y,k≤i→l[i]?=some y→A3o y x=false)):=by
 refine A4a rfl Tryz.func136 rfl (Nat.le_of_ble_eq_true rfl) ?_
 have hres:Tryz.f136.results.toList=[.tmp 4]:=rfl
 have hn1:=B7d (P:=Tryz.prog) (H:=H) (t:=22) A99 hs.isCell
 have hk1:=Kept.new hw 1 [v]
 have hO1:=Obj.new (H:=H) 1 [v]
 have hn2:=B7d (P:=Tryz.prog) (H:=(H.new 1 [v]).2) (t:=9) (v:=.string x) A2n rfl
 have hk2:=hk1.trans (Kept.new hk1.wf 1 [.string x])
 have hO2:=Obj.new (H:=(H.new 1 [v]).2) 1 [.string x]
 have hO1':Sh.Obj ((H.new 1 [v]).2.new 1 [.string x]).2 H.next 1 [v] true:=by
  unfold Sh.Obj
  rw [C2t (by rw [new_nx]; omega)]
  exact hO1
 simp only [↓Sh.dn,sx,Nat.reduceBEq,reduceCtorEq,Nat.reduceEqDiff,hn1,hn2]
 have hx1:(H.new 1 [v]).2.next=H.next+1:=rfl
 rw [hx1] at hO2 ⊢
 generalize ((H.new 1 [v]).2.new 1 [.string x]).2=H2 at hO1' hO2 hk2 ⊢
 have c1:H2.cell ⟨H.next,0,some 0⟩=some v:=hO1'.cell
 have c2:H2.cell ⟨H.next+1,0,some 0⟩=some (.string x):=hO2.cell
 have hs2:=hs.grow (hk2.grow hw)
 have hlen:=hs2.len Tryz.underlying22 H2
 simp only [c1,hlen,List.length_map,↓Sh.dn,sx,Nat.reduceBEq,reduceCtorEq,Nat.reduceEqDiff]
 obtain ⟨r,H3,hd,rfl,k,rfl,hk,hlo,hhi⟩:=search (H:=H2) (n:=l.length) (caps:=[.pointer (some ⟨H.next,0,some 0⟩),.pointer (some ⟨H.next+1,0,some 0⟩)]) (fid:=160) (fun i=>match l[i]? with | some y=>!A3o y x | none=>true) hl
  (fun i hi=>by
   have hy:l[i]?=some (l[i]'hi):=List.getElem?_eq_getElem hi
   simp only [hy]
   exact searchAt c1 c2 hs2 hy hk2.wf)
  (fun a b hab hb=>by
   have hya:l[a]?=some (l[a]'(by omega)):=List.getElem?_eq_getElem (by omega)
   have hyb:l[b]?=some (l[b]'hb):=List.getElem?_eq_getElem hb
   simp only [hya,hyb,Bool.not_eq_true']
   intro h
   rcases Nat.lt_or_ge a b with hlt | hge
   ·cases h2:A3o l[b] x with
    | false=>rfl
    | true=>rw [A2y (ha a b _ _ hlt hya hyb) h2] at h; cases h
   ·have:a=b:=by omega
    subst this
    exact h) hk2.wf
 refine ⟨_,_,hd,?_⟩
 simp only [↓Sh.dn,sx,Nat.reduceBEq,reduceCtorEq,Nat.reduceEqDiff,hres]
 refine ⟨hk2,k,rfl,hk,fun i y hi hy=>?_,fun i y hi hy=>?_⟩
 ·have:=hlo i hi
  simpa [hy] using this
 ·have hil:=(List.getElem?_eq_some_iff.1 hy).1
  have:=hhi i hi hil
  simpa [hy] using this
end Go.Proofs.YtnoengaghabmjaaGreat
/- Whether a text is in an ascending list. -/
namespace Go.Proofs.YtnoengaghabmjaaGreat
open Go Go.Proofs Go.Proofs.Sh
theorem isIn {H:AH} {v:Value} {x:ByteArray} {l:List ByteArray} (hs:Sl H v 1 (l.map A1b)) (ha:Asc l) (hl:l.length≤1048576) (hw:Wf H):
  Sh.Call Tryz.prog (knows 10) 99 [v,.string x] H (fun r H'=>Kept H H'∧r=.bool (A1w l x)):=by
 refine A4a rfl Tryz.func99 rfl (Nat.le_of_ble_eq_true rfl) ?_
 have hres:Tryz.f99.results.toList=[.tmp 4]:=rfl
 obtain ⟨r,H1,hd,hk1,k,rfl,hk,hlo,hhi⟩:=B5t hs ha hl hw (x:=x)
 have hp:=B94 ha x hlo hhi
 simp only [↓Sh.dn,sx,Nat.reduceBEq,reduceCtorEq,Nat.reduceEqDiff]
 refine ⟨_,_,hd,?_⟩
 have hs1:=hs.grow (hk1.grow hw)
 have hlen:=hs1.len Tryz.underlying22 H1
 by_cases hlt:k < l.length
 ·have hy:l[k]?=some (l[k]'hlt):=List.getElem?_eq_getElem hlt
  obtain ⟨g,o,kk,hia,hc,hcc⟩:=hs1.at Tryz.underlying22 A2n (i:=k) (x:=A1b l[k]) (by simp [hlt]) .i64
  have hyc:=hcc 0 _ rfl
  simp only [Nat.add_zero] at hyc
  simp only [↓Sh.dn,sx,Nat.reduceBEq,reduceCtorEq,Nat.reduceEqDiff,hlen,List.length_map,A5a,hlt,decide_true,hia,hyc,hres,forall_const,not_true_eq_false,false_implies,and_true,true_and]
  refine ⟨hk1,?_⟩
  have:decide (l[k]=x)=A1w l x:=by
   rw [Bool.eq_iff_iff,decide_eq_true_eq,A5m,← hp,hy,Option.some.injEq]
  rw [this]
 ·simp only [↓Sh.dn,sx,Nat.reduceBEq,reduceCtorEq,Nat.reduceEqDiff,hlen,List.length_map,A5a,hlt,decide_false,Bool.not_true,hres,forall_const,not_true_eq_false,false_implies,and_true,true_and]
  refine ⟨hk1,?_⟩
  have:A1w l x=false:=by
   cases h:A1w l x with
   | false=>rfl
   | true=>
    have:=hp.2 (A5m.1 h)
    rw [List.getElem?_eq_none (by omega)] at this; cases this
  rw [this]
end Go.Proofs.YtnoengaghabmjaaGreat
/- What is wrong with a net of any kind, by the reference. -/
namespace Go.Proofs.YtnoengaghabmjaaGreat
open Go Go.Proofs Go.Proofs.Sh
def A5k (N:NetD) (s:ByteArray):Bool:=!decide (s=⟨#[]⟩) && !A1w N.sigma s
def A4j (N:NetD) (a:ArcD):Bool:=decide (a.fr < 0) || decide (N.states≤a.fr) || decide (a.to < 0) || decide (N.states≤a.to) || A5k N a.inn || A5k N a.out
def A6q (N:NetD) (e:EndD):Bool:=decide (e.state < 0) || decide (N.states≤e.state)
def A9n (N:NetD):Bool:=decide (3000 < N.states) || decide (60000 < N.arcs.length) || decide (60000 < N.ends.length)
def A3h (N:NetD):Int:=if A9n N=true then 3 else if A8j N.sigma≠0 then A8j N.sigma else if N.states < 1 then 1 else if N.arcs.any (A4j N)=true then 1 else if N.ends.any (A6q N)=true then 1 else 0
theorem A81 {l:List ByteArray} (h:A8j l=0):Asc l:=by
 unfold A8j at h
 split at h
 ·cases h
 ·split at h
  ·rename_i h1
   simp only [Bool.and_eq_true] at h1
   exact asc_of h1.2
  ·cases h
theorem B3h {H:AH} {v:Value} {N:NetD} (h:A4h H v N) (hsm:A3b N) (hw:Wf H):
  Sh.Call Tryz.prog (knows 10) 45 [v] H (fun r H'=>Kept H H'∧r=.int .i64 (A3h N)):=by
 refine A4a rfl Tryz.func45 rfl (Nat.le_of_ble_eq_true rfl) ?_
 have hres:Tryz.f45.results.toList=[.tmp 2]:=rfl
 obtain ⟨sg,ar,en,rfl,hsg,har,hen⟩:=h
 have hb1:=NetBox.of (N:=N) hw hsg har hen
 have hk1:Kept H (H.new 4 [sg,.int .i64 N.states,ar,en]).2:=Kept.new hw 4 _
 have eA:decide ((60000:Int) < (N.arcs.length:Int))=decide (60000 < N.arcs.length):=decide_eq_decide.2 (by omega)
 have eE:decide ((60000:Int) < (N.ends.length:Int))=decide (60000 < N.ends.length):=decide_eq_decide.2 (by omega)
 simp only [↓Sh.dn,sx,Nat.reduceBEq,reduceCtorEq,Nat.reduceEqDiff,A1g hsg.isCell har.isCell hen.isCell]
 generalize hg:H.next=gg at hb1 ⊢
 generalize (H.new 4 [sg,.int .i64 N.states,ar,en]).2=H1 at hb1 hk1 ⊢
 simp only [↓Sh.dn,sx,Nat.reduceBEq,reduceCtorEq,Nat.reduceEqDiff,hb1.c0,hb1.c1,hb1.c2,hb1.c3,hb1.ca,A2a hb1,A1a hb1,A3a hb1]
 by_cases hA:3000 < N.states
 ·simp only [↓Sh.dn,sx,Nat.reduceBEq,reduceCtorEq,Nat.reduceEqDiff,hA,decide_true,hres,A3h,A9n,Bool.true_or,hk1]
 by_cases hB:60000 < N.arcs.length
 ·simp only [↓Sh.dn,sx,Nat.reduceBEq,reduceCtorEq,Nat.reduceEqDiff,hb1.c0,hb1.c1,hb1.c2,hb1.c3,hb1.ca,A2a hb1,A1a hb1,A3a hb1,hA,eA,hB,decide_true,decide_false,hres,A3h,A9n,Bool.true_or,Bool.or_true,hk1]
 by_cases hC:60000 < N.ends.length
 ·simp only [↓Sh.dn,sx,Nat.reduceBEq,reduceCtorEq,Nat.reduceEqDiff,hb1.c0,hb1.c1,hb1.c2,hb1.c3,hb1.ca,A2a hb1,A1a hb1,A3a hb1,hA,eA,eE,hB,hC,decide_true,decide_false,hres,A3h,A9n,Bool.true_or,Bool.or_true,hk1]
 have hT:A9n N=false:=by simp [A9n,hA,hB,hC]
 simp only [↓Sh.dn,sx,Nat.reduceBEq,reduceCtorEq,Nat.reduceEqDiff,hb1.c0,hb1.c1,hb1.c2,hb1.c3,hb1.ca,A2a hb1,A1a hb1,A3a hb1,hA,eA,eE,hB,hC,decide_true,decide_false,hres]
 obtain ⟨r,H2,hd,hk2,rfl⟩:=refSigma hb1.hsg hsm.sg hsm.sx hk1.wf
 refine ⟨_,_,hd,?_⟩
 have hb2:=hb1.kept hk1.wf hk2
 have hk12:=hk1.trans hk2
 by_cases hS:A8j N.sigma=0
 case neg=>simp only [↓Sh.dn,sx,Nat.reduceBEq,reduceCtorEq,Nat.reduceEqDiff,hS,decide_false,hres,A3h,hT,Bool.false_eq_true,if_false,ne_eq,not_false_eq_true,if_true,hk12]
 have hasc:=A81 hS
 simp only [↓Sh.dn,sx,Nat.reduceBEq,reduceCtorEq,Nat.reduceEqDiff,hS,decide_true,hb2.c0,hb2.c1,hb2.c2,hb2.c3,hb2.ca,A2a hb2,A1a hb2,A3a hb2]
 by_cases hst:N.states < 1
 ·simp only [↓Sh.dn,sx,Nat.reduceBEq,reduceCtorEq,Nat.reduceEqDiff,hst,decide_true,hres,A3h,hT,hS,ne_eq,not_true_eq_false,if_false,if_true,hk12,Bool.false_eq_true]
 simp only [↓Sh.dn,sx,Nat.reduceBEq,reduceCtorEq,Nat.reduceEqDiff,hst,decide_false]
 have e1:N.arcs.any (A4j N)=true→A3h N=1:=by intro h; simp [A3h,hT,hS,hst,h]
 have e2:N.ends.any (A6q N)=true→A3h N=1:=by intro h; simp [A3h,hT,hS,hst,h]
 have e3:N.arcs.any (A4j N)=false→N.ends.any (A6q N)=false→A3h N=0:=by intro h h'; simp [A3h,hT,hS,hst,h,h']
 refine A0f N.arcs.length 4 (List.range' 4 87++[2]) (fun i F H'=>Kept H2 H'∧(N.arcs.take i).any (A4j N)=false) (by simp only [↓Sh.dn,sx,Nat.reduceBEq,reduceCtorEq,Nat.reduceEqDiff]) ⟨Kept.refl hk12.wf,rfl⟩ ?_ ?_
 ·rintro i F H' hlt hF f4 ⟨hk,hall⟩ k
  have f1:=hF 1 rfl
  simp only [↓Sh.dn,sx,Nat.reduceBEq,reduceCtorEq,Nat.reduceEqDiff] at f1
  have hb':=hb2.kept hk12.wf hk
  have hb3:=hb'.new hk.wf 5 (N.arcs[i].cells)
  have hk3:=hk.news 5 (N.arcs[i].cells)
  obtain ⟨g,o,kk,hia,hc,hcc⟩:=hb'.har.at Tryz.underlying23 A9l (i:=i) (x:=N.arcs[i].cells) (by simp [hlt]) .i64
  clear hcc
  have hin:N.arcs[i]∈N.arcs:=List.getElem_mem hlt
  have hnext:A4j N N.arcs[i]=false→(N.arcs.take (i+1)).any (A4j N)=false:=by
   intro h
   rw [List.take_add_one,List.getElem?_eq_getElem hlt]
   simp only [Option.toList,List.any_append,hall,List.any_cons,List.any_nil,h,Bool.or_false]
  have hbad:A4j N N.arcs[i]=true→A3h N=1:=fun h=>e1 (List.any_eq_true.2 ⟨_,hin,h⟩)
  generalize N.arcs[i]=a at hb3 hk3 hc hnext hbad
  have hi2:=isIn (x:=a.inn) hb3.hsg hasc hsm.sg hk3.wf
  simp only [↓Sh.dn,sx,Nat.reduceBEq,reduceCtorEq,Nat.reduceEqDiff,hb'.c0,hb'.c1,hb'.c2,hb'.c3,hb'.ca,A2a hb',A1a hb',A3a hb',A5b,A5e,A8e,A9g,A1h,A5c,A7c,A2e,A7e,A5d,arc0,arc1,arc2,arc3,arc4,end0,end1,f1,f4,Option.map_some,A5a,hlt,decide_true,hia,hc,hres]
  by_cases h1:a.fr < 0
  ·simp only [↓Sh.dn,sx,Nat.reduceBEq,reduceCtorEq,Nat.reduceEqDiff,hb3.c0,hb3.c1,hb3.c2,hb3.c3,hb3.ca,A2a hb3,A1a hb3,A3a hb3,A5b,A5e,A8e,A9g,A1h,A5c,A7c,A2e,A7e,A5d,arc0,arc1,arc2,arc3,arc4,end0,end1,h1,decide_true,hres,hbad (by simp [A4j,h1]),hk12.trans hk3]
  simp only [↓Sh.dn,sx,Nat.reduceBEq,reduceCtorEq,Nat.reduceEqDiff,hb3.c0,hb3.c1,hb3.c2,hb3.c3,hb3.ca,A2a hb3,A1a hb3,A3a hb3,A5b,A5e,A8e,A9g,A1h,A5c,A7c,A2e,A7e,A5d,arc0,arc1,arc2,arc3,arc4,end0,end1,f1,h1,decide_false]
  by_cases h2:N.states≤a.fr
  ·simp only [↓Sh.dn,sx,Nat.reduceBEq,reduceCtorEq,Nat.reduceEqDiff,hb3.c0,hb3.c1,hb3.c2,hb3.c3,hb3.ca,A2a hb3,A1a hb3,A3a hb3,A5b,A5e,A8e,A9g,A1h,A5c,A7c,A2e,A7e,A5d,arc0,arc1,arc2,arc3,arc4,end0,end1,h2,decide_true,hres,hbad (by simp [A4j,h2]),hk12.trans hk3]
  simp only [↓Sh.dn,sx,Nat.reduceBEq,reduceCtorEq,Nat.reduceEqDiff,hb3.c0,hb3.c1,hb3.c2,hb3.c3,hb3.ca,A2a hb3,A1a hb3,A3a hb3,A5b,A5e,A8e,A9g,A1h,A5c,A7c,A2e,A7e,A5d,arc0,arc1,arc2,arc3,arc4,end0,end1,f1,h2,decide_false]
  by_cases h3:a.to < 0
  ·simp only [↓Sh.dn,sx,Nat.reduceBEq,reduceCtorEq,Nat.reduceEqDiff,hb3.c0,hb3.c1,hb3.c2,hb3.c3,hb3.ca,A2a hb3,A1a hb3,A3a hb3,A5b,A5e,A8e,A9g,A1h,A5c,A7c,A2e,A7e,A5d,arc0,arc1,arc2,arc3,arc4,end0,end1,h3,decide_true,hres,hbad (by simp [A4j,h3]),hk12.trans hk3]
  simp only [↓Sh.dn,sx,Nat.reduceBEq,reduceCtorEq,Nat.reduceEqDiff,hb3.c0,hb3.c1,hb3.c2,hb3.c3,hb3.ca,A2a hb3,A1a hb3,A3a hb3,A5b,A5e,A8e,A9g,A1h,A5c,A7c,A2e,A7e,A5d,arc0,arc1,arc2,arc3,arc4,end0,end1,f1,h3,decide_false]
  by_cases h4:N.states≤a.to
  ·simp only [↓Sh.dn,sx,Nat.reduceBEq,reduceCtorEq,Nat.reduceEqDiff,hb3.c0,hb3.c1,hb3.c2,hb3.c3,hb3.ca,A2a hb3,A1a hb3,A3a hb3,A5b,A5e,A8e,A9g,A1h,A5c,A7c,A2e,A7e,A5d,arc0,arc1,arc2,arc3,arc4,end0,end1,h4,decide_true,hres,hbad (by simp [A4j,h4]),hk12.trans hk3]
  simp only [↓Sh.dn,sx,Nat.reduceBEq,reduceCtorEq,Nat.reduceEqDiff,hb3.c0,hb3.c1,hb3.c2,hb3.c3,hb3.ca,A2a hb3,A1a hb3,A3a hb3,A5b,A5e,A8e,A9g,A1h,A5c,A7c,A2e,A7e,A5d,arc0,arc1,arc2,arc3,arc4,end0,end1,f1,h4,decide_false]
  have hgo:A5k N a.inn=false→A5k N a.out=false→A4j N a=false:=by intro h h'; simp [A4j,h1,h2,h3,h4,h,h']
  have hout:∀ (H4:AH) (F4:Fr),Kept (H'.new 5 a.cells).2 H4→A5k N a.inn=false→True:=fun _ _ _ _=>trivial
  by_cases h5:a.inn=⟨#[]⟩
  ·have hI:A5k N a.inn=false:=by simp [A5k,h5]
   simp only [↓Sh.dn,sx,Nat.reduceBEq,reduceCtorEq,Nat.reduceEqDiff,hb3.c0,hb3.c1,hb3.c2,hb3.c3,hb3.ca,A2a hb3,A1a hb3,A3a hb3,A5b,A5e,A8e,A9g,A1h,A5c,A7c,A2e,A7e,A5d,arc0,arc1,arc2,arc3,arc4,end0,end1,f1,h5,decide_true]
   by_cases h6:a.out=⟨#[]⟩
   ·have hO:A5k N a.out=false:=by simp [A5k,h6]
    simp only [↓Sh.dn,sx,Nat.reduceBEq,reduceCtorEq,Nat.reduceEqDiff,hb3.c0,hb3.c1,hb3.c2,hb3.c3,hb3.ca,A2a hb3,A1a hb3,A3a hb3,A5b,A5e,A8e,A9g,A1h,A5c,A7c,A2e,A7e,A5d,arc0,arc1,arc2,arc3,arc4,end0,end1,f1,f4,h6,decide_true,wrap_succ hlt hsm.ar]
    exact k _ _ (by repeat (first | refine Same.put ?_ rfl | exact Same.rfl' _)) (by simp only [↓Sh.dn,sx,Nat.reduceBEq,reduceCtorEq,Nat.reduceEqDiff]) ⟨hk3,hnext (hgo hI hO)⟩
   ·obtain ⟨r,H4,hd4,hk4,rfl⟩:=isIn (x:=a.out) hb3.hsg hasc hsm.sg hk3.wf
    simp only [↓Sh.dn,sx,Nat.reduceBEq,reduceCtorEq,Nat.reduceEqDiff,hb3.c0,hb3.c1,hb3.c2,hb3.c3,hb3.ca,A2a hb3,A1a hb3,A3a hb3,A5b,A5e,A8e,A9g,A1h,A5c,A7c,A2e,A7e,A5d,arc0,arc1,arc2,arc3,arc4,end0,end1,f1,h6,decide_false]
    refine ⟨_,_,hd4,?_⟩
    cases h7:A1w N.sigma a.out with
    | true=>
     have hO:A5k N a.out=false:=by simp [A5k,h7]
     simp only [↓Sh.dn,sx,Nat.reduceBEq,reduceCtorEq,Nat.reduceEqDiff,f4,wrap_succ hlt hsm.ar]
     exact k _ _ (by repeat (first | refine Same.put ?_ rfl | exact Same.rfl' _)) (by simp only [↓Sh.dn,sx,Nat.reduceBEq,reduceCtorEq,Nat.reduceEqDiff]) ⟨hk3.trans hk4,hnext (hgo hI hO)⟩
    | false=>
     simp only [↓Sh.dn,sx,Nat.reduceBEq,reduceCtorEq,Nat.reduceEqDiff,hres,hbad (by simp [A4j,A5k,h6,h7]),(hk12.trans hk3).trans hk4]
  ·obtain ⟨r,H4,hd4,hk4,rfl⟩:=isIn (x:=a.inn) hb3.hsg hasc hsm.sg hk3.wf
   simp only [↓Sh.dn,sx,Nat.reduceBEq,reduceCtorEq,Nat.reduceEqDiff,hb3.c0,hb3.c1,hb3.c2,hb3.c3,hb3.ca,A2a hb3,A1a hb3,A3a hb3,A5b,A5e,A8e,A9g,A1h,A5c,A7c,A2e,A7e,A5d,arc0,arc1,arc2,arc3,arc4,end0,end1,f1,h5,decide_false]
   refine ⟨_,_,hd4,?_⟩
   have hb4:=hb3.kept hk3.wf hk4
   have q2:=A9d (hk4.grow hk3.wf) (arc2 (H:=H') (a:=a))
   cases h7:A1w N.sigma a.inn with
   | false=>
    simp only [↓Sh.dn,sx,Nat.reduceBEq,reduceCtorEq,Nat.reduceEqDiff,hres,hbad (by simp [A4j,A5k,h5,h7]),(hk12.trans hk3).trans hk4]
   | true=>
    have hI:A5k N a.inn=false:=by simp [A5k,h7]
    simp only [↓Sh.dn,sx,Nat.reduceBEq,reduceCtorEq,Nat.reduceEqDiff,hb4.c0,hb4.c1,hb4.c2,hb4.c3,hb4.ca,A2a hb4,A1a hb4,A3a hb4,q2,f1]
    by_cases h6:a.out=⟨#[]⟩
    ·have hO:A5k N a.out=false:=by simp [A5k,h6]
     simp only [↓Sh.dn,sx,Nat.reduceBEq,reduceCtorEq,Nat.reduceEqDiff,hb4.c0,hb4.c1,hb4.c2,hb4.c3,hb4.ca,A2a hb4,A1a hb4,A3a hb4,q2,f1,f4,h6,decide_true,wrap_succ hlt hsm.ar]
     exact k _ _ (by repeat (first | refine Same.put ?_ rfl | exact Same.rfl' _)) (by simp only [↓Sh.dn,sx,Nat.reduceBEq,reduceCtorEq,Nat.reduceEqDiff]) ⟨hk3.trans hk4,hnext (hgo hI hO)⟩
    ·obtain ⟨r,H5,hd5,hk5,rfl⟩:=isIn (x:=a.out) hb4.hsg hasc hsm.sg hk4.wf
     simp only [↓Sh.dn,sx,Nat.reduceBEq,reduceCtorEq,Nat.reduceEqDiff,hb4.c0,hb4.c1,hb4.c2,hb4.c3,hb4.ca,A2a hb4,A1a hb4,A3a hb4,q2,f1,h6,decide_false]
     refine ⟨_,_,hd5,?_⟩
     cases h8:A1w N.sigma a.out with
     | true=>
      have hO:A5k N a.out=false:=by simp [A5k,h8]
      simp only [↓Sh.dn,sx,Nat.reduceBEq,reduceCtorEq,Nat.reduceEqDiff,f4,wrap_succ hlt hsm.ar]
      exact k _ _ (by repeat (first | refine Same.put ?_ rfl | exact Same.rfl' _)) (by simp only [↓Sh.dn,sx,Nat.reduceBEq,reduceCtorEq,Nat.reduceEqDiff]) ⟨(hk3.trans hk4).trans hk5,hnext (hgo hI hO)⟩
     | false=>
      simp only [↓Sh.dn,sx,Nat.reduceBEq,reduceCtorEq,Nat.reduceEqDiff,hres,hbad (by simp [A4j,A5k,h6,h8]),((hk12.trans hk3).trans hk4).trans hk5]
 ·rintro F H' hF f4 ⟨hk,hall⟩
  have f1:=hF 1 rfl
  simp only [↓Sh.dn,sx,Nat.reduceBEq,reduceCtorEq,Nat.reduceEqDiff] at f1
  rw [List.take_length] at hall
  have hb':=hb2.kept hk12.wf hk
  have hkk:=hk12.trans hk
  simp only [↓Sh.dn,sx,Nat.reduceBEq,reduceCtorEq,Nat.reduceEqDiff,hb'.c0,hb'.c1,hb'.c2,hb'.c3,hb'.ca,A2a hb',A1a hb',A3a hb',f1,f4,A5a,Nat.lt_irrefl,decide_false]
  refine A0f N.ends.length 6 (List.range' 91 26++[2,6]) (fun i F H''=>H''=H'∧(N.ends.take i).any (A6q N)=false) (by simp only [↓Sh.dn,sx,Nat.reduceBEq,reduceCtorEq,Nat.reduceEqDiff]) ⟨rfl,rfl⟩ ?_ ?_
  ·rintro i F2 H'' hlt hF2 f6 ⟨rfl,hall2⟩ k
   have g1:=hF2 1 rfl
   simp only [↓Sh.dn,sx,Nat.reduceBEq,reduceCtorEq,Nat.reduceEqDiff,f1] at g1
   obtain ⟨g,o,kk,hia,hc,hcc⟩:=hb'.hen.at Tryz.underlying24 A1r (i:=i) (x:=N.ends[i].cells) (by simp [hlt]) .i64
   have q0:=hcc 0 _ rfl
   simp only [Nat.add_zero] at q0
   have hbad:A6q N N.ends[i]=true→A3h N=1:=fun h=>e2 (List.any_eq_true.2 ⟨_,List.getElem_mem hlt,h⟩)
   simp only [↓Sh.dn,sx,Nat.reduceBEq,reduceCtorEq,Nat.reduceEqDiff,hb'.c0,hb'.c1,hb'.c2,hb'.c3,hb'.ca,A2a hb',A1a hb',A3a hb',g1,f6,A5a,hlt,decide_true,hia,q0,Nat.add_zero]
   by_cases h1:N.ends[i].state < 0
   ·simp only [↓Sh.dn,sx,Nat.reduceBEq,reduceCtorEq,Nat.reduceEqDiff,h1,decide_true,hres,hbad (by simp [A6q,h1]),hkk]
   simp only [↓Sh.dn,sx,Nat.reduceBEq,reduceCtorEq,Nat.reduceEqDiff,hb'.c0,hb'.c1,hb'.c2,hb'.c3,hb'.ca,A2a hb',A1a hb',A3a hb',g1,f6,hia,q0,h1,decide_false]
   by_cases h2:N.states≤N.ends[i].state
   ·simp only [↓Sh.dn,sx,Nat.reduceBEq,reduceCtorEq,Nat.reduceEqDiff,h2,decide_true,hres,hbad (by simp [A6q,h2]),hkk]
   simp only [↓Sh.dn,sx,Nat.reduceBEq,reduceCtorEq,Nat.reduceEqDiff,f6,h2,decide_false,wrap_succ hlt hsm.en]
   refine k _ _ (by repeat (first | refine Same.put ?_ rfl | exact Same.rfl' _)) (by simp only [↓Sh.dn,sx,Nat.reduceBEq,reduceCtorEq,Nat.reduceEqDiff]) ⟨rfl,?_⟩
   rw [List.take_add_one,List.getElem?_eq_getElem hlt]
   simp only [Option.toList,List.any_append,hall2,List.any_cons,List.any_nil,Bool.or_false,A6q,h1,h2,decide_false]
  ·rintro F2 H'' hF2 f6 ⟨rfl,hall2⟩
   have g1:=hF2 1 rfl
   simp only [↓Sh.dn,sx,Nat.reduceBEq,reduceCtorEq,Nat.reduceEqDiff,f1] at g1
   rw [List.take_length] at hall2
   simp only [↓Sh.dn,sx,Nat.reduceBEq,reduceCtorEq,Nat.reduceEqDiff,hb'.c0,hb'.c1,hb'.c2,hb'.c3,hb'.ca,A2a hb',A1a hb',A3a hb',g1,f6,A5a,Nat.lt_irrefl,decide_false,hres,e3 hall hall2,hkk]
end Go.Proofs.YtnoengaghabmjaaGreat
/- Whether nothing of a net costs. -/
namespace Go.Proofs.YtnoengaghabmjaaGreat
open Go Go.Proofs Go.Proofs.Sh
def NetD.free (N:NetD):Bool:=N.arcs.all (fun a=>decide (a.cost=0)) && N.ends.all (fun a=>decide (a.cost=0))
theorem isFree {H:AH} {v:Value} {N:NetD} (h:A4h H v N) (hw:Wf H) (hl:N.arcs.length≤1048576) (hl2:N.ends.length≤1048576):Sh.Call Tryz.prog (knows 10) 46 [v] H (fun r H'=>r=.bool (NetD.free N)∧Kept H H'):=by
 obtain ⟨sg,ar,en,rfl,hsg,har,hen⟩:=h
 refine A4a rfl Tryz.func46 rfl (Nat.le_of_ble_eq_true rfl) ?_
 have hn:=A4o (P:=Tryz.prog) (H:=H) (t:=26) (vs:=[sg,.int .i64 N.states,ar,en]) A0w rfl (by simp [hsg.isCell,har.isCell,hen.isCell,show isCell (.int .i64 N.states)=true from rfl])
 have hO:=Obj.new (H:=H) 4 [sg,.int .i64 N.states,ar,en]
 have hk:Kept H (H.new 4 [sg,.int .i64 N.states,ar,en]).2:=Kept.new hw 4 _
 simp only [↓Sh.dn,sx,Nat.reduceBEq,reduceCtorEq,Nat.reduceEqDiff,↓Sh.wp_cond,hn]
 generalize (H.new 4 [sg,.int .i64 N.states,ar,en]).2=H1 at hO hk ⊢
 have c2:H1.cell ⟨H.next,2,some 0⟩=some ar:=hO.cell
 have c3:H1.cell ⟨H.next,3,some 0⟩=some en:=hO.cell
 have har1:=har.grow (hk.grow hw)
 have hen1:=hen.grow (hk.grow hw)
 have l2:=har1.len Tryz.underlying23 H1
 have l3:=hen1.len Tryz.underlying24 H1
 have hres:Tryz.f46.results.toList=[.tmp 2]:=rfl
 refine A9y N.arcs.length (fun i F H'=>H'=H1∧F.get 1=some (.pointer (some ⟨H.next,0,some 0⟩))∧F.get 3=some (.int .i64 (i:Int))∧(N.arcs.take i).all (fun a=>decide (a.cost=0))=true) (Nat.zero_le _) ⟨rfl,by simp only [↓Sh.dn,sx,Nat.reduceBEq,reduceCtorEq,Nat.reduceEqDiff,↓Sh.wp_cond],by simp only [↓Sh.dn,sx,Nat.reduceBEq,reduceCtorEq,Nat.reduceEqDiff,↓Sh.wp_cond]; rfl,rfl⟩ ?_
 rintro i F H' hi ⟨rfl,f1,f3,hall⟩ k
 by_cases hlt:i < N.arcs.length
 ·have hx:(N.arcs.map ArcD.cells)[i]?=some (N.arcs[i].cells):=by simp [hlt]
  obtain ⟨g,o,kk,hia,hc,hcc⟩:=har1.at Tryz.underlying23 A9l hx .i64
  have hcost:=hcc 4 _ rfl
  simp only [↓Sh.dn,sx,Nat.reduceBEq,reduceCtorEq,Nat.reduceEqDiff,↓Sh.wp_cond,f1,f3,c2,l2,hia,hcost,List.length_map,A5a,hlt,decide_true,forall_const,reduceCtorEq,false_implies,and_true,true_and,hres,resultsA,one]
  refine ⟨fun hne=>⟨?_,hk⟩,fun he=>k _ _ hlt ⟨rfl,by simp only [↓Sh.dn,sx,Nat.reduceBEq,reduceCtorEq,Nat.reduceEqDiff,↓Sh.wp_cond,f1],by simp only [↓Sh.dn,sx,Nat.reduceBEq,reduceCtorEq,Nat.reduceEqDiff,↓Sh.wp_cond,wrap_succ hlt hl],?_⟩⟩
  ·have : NetD.free N = false := by
     simp only [NetD.free, Bool.and_eq_false_iff, List.all_eq_false]
     exact .inl ⟨_, List.getElem_mem hlt, by simpa using hne⟩
   rw [this]
  ·rw [List.take_add_one,List.getElem?_eq_getElem hlt]
   simp only [Option.toList,List.all_append,hall,Bool.true_and,List.all_cons,List.all_nil,Bool.and_true]
   simpa using he
 ·have hin:i=N.arcs.length:=by omega
  subst hin
  rw [List.take_length] at hall
  simp only [↓Sh.dn,sx,Nat.reduceBEq,reduceCtorEq,Nat.reduceEqDiff,↓Sh.wp_cond,f1,f3,c2,l2,List.length_map,A5a,hlt,decide_false,forall_const,reduceCtorEq,false_implies,and_true,true_and]
  refine A9y N.ends.length (fun i F H''=>H''=H'∧F.get 1=some (.pointer (some ⟨H.next,0,some 0⟩))∧F.get 4=some (.int .i64 (i:Int))∧(N.ends.take i).all (fun a=>decide (a.cost=0))=true) (Nat.zero_le _) ⟨rfl,by simp only [↓Sh.dn,sx,Nat.reduceBEq,reduceCtorEq,Nat.reduceEqDiff,↓Sh.wp_cond,f1],by simp only [↓Sh.dn,sx,Nat.reduceBEq,reduceCtorEq,Nat.reduceEqDiff,↓Sh.wp_cond]; rfl,rfl⟩ ?_
  clear k
  rintro i F H'' hi ⟨rfl,f1,f4,hall2⟩ k
  by_cases hlt2:i < N.ends.length
  ·have hx:(N.ends.map EndD.cells)[i]?=some (N.ends[i].cells):=by simp [hlt2]
   obtain ⟨g,o,kk,hia,hc,hcc⟩:=hen1.at Tryz.underlying24 A1r hx .i64
   have hcost:=hcc 1 _ rfl
   simp only [↓Sh.dn,sx,Nat.reduceBEq,reduceCtorEq,Nat.reduceEqDiff,↓Sh.wp_cond,f1,f4,c3,l3,hia,hcost,List.length_map,A5a,hlt2,decide_true,forall_const,reduceCtorEq,false_implies,and_true,true_and,hres,resultsA,one]
   refine ⟨fun hne=>⟨?_,hk⟩,fun he=>k _ _ hlt2 ⟨rfl,by simp only [↓Sh.dn,sx,Nat.reduceBEq,reduceCtorEq,Nat.reduceEqDiff,↓Sh.wp_cond,f1],by simp only [↓Sh.dn,sx,Nat.reduceBEq,reduceCtorEq,Nat.reduceEqDiff,↓Sh.wp_cond,wrap_succ hlt2 hl2],?_⟩⟩
   ·have : NetD.free N = false := by
      simp only [NetD.free, Bool.and_eq_false_iff, List.all_eq_false]
      exact .inr ⟨_, List.getElem_mem hlt2, by simpa using hne⟩
    rw [this]
   ·rw [List.take_add_one,List.getElem?_eq_getElem hlt2]
    simp only [Option.toList,List.all_append,hall2,Bool.true_and,List.all_cons,List.all_nil,Bool.and_true]
    simpa using he
  ·have hin:i=N.ends.length:=by omega
   subst hin
   rw [List.take_length] at hall2
   simp only [↓Sh.dn,sx,Nat.reduceBEq,reduceCtorEq,Nat.reduceEqDiff,↓Sh.wp_cond,f1,f4,c3,l3,List.length_map,A5a,hlt2,decide_false,forall_const,reduceCtorEq,false_implies,and_true,true_and,hres,resultsA,one]
   refine ⟨?_,hk⟩
   rw [NetD.free,hall,hall2]
   rfl
end Go.Proofs.YtnoengaghabmjaaGreat
/- What is wrong with an acceptor, by the reference. -/
namespace Go.Proofs.YtnoengaghabmjaaGreat
open Go Go.Proofs Go.Proofs.Sh
def B1r (N:NetD):Bool:=N.arcs.any fun a=>!decide (a.inn=a.out)
def A45 (N:NetD):Int:=if A3h N≠0 then A3h N else if B1r N=true then 6 else if NetD.free N=true then 0 else 6
theorem C9c {H:AH} {v:Value} {N:NetD} (h:A4h H v N) (hsm:A3b N) (hw:Wf H):
  Sh.Call Tryz.prog (knows 10) 19 [v] H (fun r H'=>Kept H H'∧r=.int .i64 (A45 N)):=by
 refine A4a rfl Tryz.func19 rfl (Nat.le_of_ble_eq_true rfl) ?_
 have hres:Tryz.f19.results.toList=[.tmp 2]:=rfl
 obtain ⟨sg,ar,en,rfl,hsg,har,hen⟩:=h
 have hb1:=NetBox.of (N:=N) hw hsg har hen
 have hk1:Kept H (H.new 4 [sg,.int .i64 N.states,ar,en]).2:=Kept.new hw 4 _
 simp only [↓Sh.dn,sx,Nat.reduceBEq,reduceCtorEq,Nat.reduceEqDiff,A1g hsg.isCell har.isCell hen.isCell]
 generalize H.next=gg at hb1 ⊢
 generalize (H.new 4 [sg,.int .i64 N.states,ar,en]).2=H1 at hb1 hk1 ⊢
 simp only [↓Sh.dn,sx,Nat.reduceBEq,reduceCtorEq,Nat.reduceEqDiff,hb1.c0,hb1.c1,hb1.c2,hb1.c3,hb1.ca,A2a hb1,A1a hb1,A3a hb1,Option.map_some]
 obtain ⟨r,H2,hd,hk2,rfl⟩:=B3h hb1.netAt hsm hk1.wf
 refine ⟨_,_,hd,?_⟩
 have hb2:=hb1.kept hk1.wf hk2
 have hk12:=hk1.trans hk2
 by_cases hE:A3h N=0
 case neg=>simp only [↓Sh.dn,sx,Nat.reduceBEq,reduceCtorEq,Nat.reduceEqDiff,hE,decide_false,hres,A45,if_true,hk12]
 simp only [↓Sh.dn,sx,Nat.reduceBEq,reduceCtorEq,Nat.reduceEqDiff,hE,decide_true,hb2.c0,hb2.c1,hb2.c2,hb2.c3,hb2.ca,A2a hb2,A1a hb2,A3a hb2]
 have e1:B1r N=true→A45 N=6:=by intro h; simp [A45,hE,h]
 refine A0f N.arcs.length 4 (List.range' 4 26++[2]) (fun i F H'=>H'=H2∧(N.arcs.take i).any (fun a=>!decide (a.inn=a.out))=false) (by simp only [↓Sh.dn,sx,Nat.reduceBEq,reduceCtorEq,Nat.reduceEqDiff]) ⟨rfl,rfl⟩ ?_ ?_
 ·rintro i F H' hlt hF f4 ⟨rfl,hall⟩ k
  have f1:=hF 1 rfl
  simp only [↓Sh.dn,sx,Nat.reduceBEq,reduceCtorEq,Nat.reduceEqDiff] at f1
  obtain ⟨g,o,kk,hia,hc,hcc⟩:=hb2.har.at Tryz.underlying23 A9l (i:=i) (x:=N.arcs[i].cells) (by simp [hlt]) .i64
  have q1:=hcc 1 _ rfl
  have q2:=hcc 2 _ rfl
  simp only [↓Sh.dn,sx,Nat.reduceBEq,reduceCtorEq,Nat.reduceEqDiff,hb2.c0,hb2.c1,hb2.c2,hb2.c3,hb2.ca,A2a hb2,A1a hb2,A3a hb2,f1,f4,A5a,hlt,decide_true,hia,q1,q2]
  by_cases hx:N.arcs[i].inn=N.arcs[i].out
  ·simp only [↓Sh.dn,sx,Nat.reduceBEq,reduceCtorEq,Nat.reduceEqDiff,hx,decide_true,f4,wrap_succ hlt hsm.ar]
   refine k _ _ (by repeat (first | refine Same.put ?_ rfl | exact Same.rfl' _)) (by simp only [↓Sh.dn,sx,Nat.reduceBEq,reduceCtorEq,Nat.reduceEqDiff]) ⟨rfl,?_⟩
   rw [List.take_add_one,List.getElem?_eq_getElem hlt]
   simp only [Option.toList,List.any_append,hall,List.any_cons,List.any_nil,hx,decide_true,Bool.not_true,Bool.or_false]
  ·simp only [↓Sh.dn,sx,Nat.reduceBEq,reduceCtorEq,Nat.reduceEqDiff,hx,decide_false,hres,e1 (List.any_eq_true.2 ⟨_,List.getElem_mem hlt,by simp [hx]⟩),hk12]
 ·rintro F H' hF f4 ⟨rfl,hall⟩
  have f1:=hF 1 rfl
  simp only [↓Sh.dn,sx,Nat.reduceBEq,reduceCtorEq,Nat.reduceEqDiff] at f1
  rw [List.take_length] at hall
  simp only [↓Sh.dn,sx,Nat.reduceBEq,reduceCtorEq,Nat.reduceEqDiff,hb2.c0,hb2.c1,hb2.c2,hb2.c3,hb2.ca,A2a hb2,A1a hb2,A3a hb2,f1,f4,A5a,Nat.lt_irrefl,decide_false,Option.map_some]
  obtain ⟨r,H3,hd3,rfl,hk3⟩:=isFree hb2.netAt hk12.wf hsm.ar hsm.en
  refine ⟨_,_,hd3,?_⟩
  cases hf:NetD.free N with
  | true=>simp only [↓Sh.dn,sx,Nat.reduceBEq,reduceCtorEq,Nat.reduceEqDiff,hres,A45,hE,B1r,hall,hf,if_true,if_false,hk12.trans hk3,Bool.false_eq_true]
  | false=>simp only [↓Sh.dn,sx,Nat.reduceBEq,reduceCtorEq,Nat.reduceEqDiff,hres,A45,hE,B1r,hall,hf,if_true,if_false,hk12.trans hk3,Bool.false_eq_true]
end Go.Proofs.YtnoengaghabmjaaGreat
/- What a net is with which nothing is wrong. -/
namespace Go.Proofs.YtnoengaghabmjaaGreat
open Go Go.Proofs Go.Proofs.Sh
structure A1k (N:NetD):Prop where
 st1:1≤N.states
 st2:N.states≤3000
 ar:N.arcs.length≤60000
 en:N.ends.length≤60000
 sig:A8j N.sigma=0
 asc:Asc N.sigma
 sym:∀ x∈N.sigma,A01 x=true
 arc:∀ a∈N.arcs,0≤a.fr∧a.fr < N.states∧0≤a.to∧a.to < N.states∧(a.inn=⟨#[]⟩∨a.inn∈N.sigma)∧(a.out=⟨#[]⟩∨a.out∈N.sigma)
 fin:∀ e∈N.ends,0≤e.state∧e.state < N.states
theorem netOk {N:NetD} (h:A3h N=0):A1k N:=by
 unfold A3h at h
 split at h
 ·cases h
 rename_i h1
 split at h
 ·rename_i h2; exact absurd h h2
 rename_i h2
 split at h
 ·cases h
 rename_i h3
 split at h
 ·cases h
 rename_i h4
 split at h
 ·cases h
 rename_i h5
 simp only [ne_eq,Decidable.not_not] at h2
 simp only [A9n,Bool.or_eq_true,decide_eq_true_eq,not_or,Int.not_lt,Nat.not_lt] at h1 h3
 have sy:∀ x,A5k N x=false→x=⟨#[]⟩∨x∈N.sigma:=by
  intro x hx
  simp only [A5k,Bool.and_eq_false_iff,Bool.not_eq_false',decide_eq_true_eq] at hx
  rcases hx with h | h
  ·exact .inl h
  ·exact .inr (A5m.1 h)
 have hsym:∀ x∈N.sigma,A01 x=true:=by
  have:=h2
  unfold A8j at this
  split at this
  ·cases this
  split at this
  ·rename_i h6
   rw [Bool.and_eq_true] at h6
   exact List.all_eq_true.1 h6.1
  ·cases this
 refine ⟨h3,h1.1.1,h1.1.2,h1.2,h2,A81 h2,hsym,fun a ha=>?_,fun e he=>?_⟩
 ·have:¬(A4j N a=true):=fun hb=>h4 (List.any_eq_true.2 ⟨a,ha,hb⟩)
  simp only [A4j,Bool.or_eq_true,decide_eq_true_eq,not_or,Int.not_lt,Int.not_le,Bool.not_eq_true] at this
  obtain ⟨⟨⟨⟨⟨k1,k2⟩,k3⟩,k4⟩,k5⟩,k6⟩:=this
  exact ⟨k1,k2,k3,k4,sy _ k5,sy _ k6⟩
 ·have:¬(A6q N e=true):=fun hb=>h5 (List.any_eq_true.2 ⟨e,he,hb⟩)
  simp only [A6q,Bool.or_eq_true,decide_eq_true_eq,not_or,Int.not_lt,Int.not_le] at this
  exact this
end Go.Proofs.YtnoengaghabmjaaGreat
/- cmp.Less, where nothing is no number. -/
namespace Go.Proofs.YtnoengaghabmjaaGreat
open Go Go.Proofs Go.Proofs.Sh
theorem C4c {H:AH} {x:ByteArray}:Sh.Call Tryz.prog (knows 10) 161 [Value.string x] H (fun r H'=>H'=H∧r=.bool false):=by
 refine A4a rfl Tryz.func161 rfl (Nat.le_of_ble_eq_true rfl) ?_
 have hres:Tryz.f161.results.toList=[.tmp 2]:=rfl
 simp only [↓Sh.dn,sx,Nat.reduceBEq,reduceCtorEq,Nat.reduceEqDiff,hres,decide_true,Bool.not_true,and_self]
theorem C7s {H:AH} {x y:ByteArray}:Sh.Call Tryz.prog (knows 10) 139 [Value.string x,Value.string y] H (fun r H'=>H'=H∧r=.bool (A3o x y)):=by
 refine A4a rfl Tryz.func139 rfl (Nat.le_of_ble_eq_true rfl) ?_
 have hres:Tryz.f139.results.toList=[.tmp 4]:=rfl
 obtain ⟨r,H1,hd,rfl,rfl⟩:=C4c (H:=H) (x:=x)
 simp only [↓Sh.dn,sx,Nat.reduceBEq,reduceCtorEq,Nat.reduceEqDiff]
 refine ⟨_,_,hd,?_⟩
 simp only [↓Sh.dn,sx,Nat.reduceBEq,reduceCtorEq,Nat.reduceEqDiff,hres,and_self]
 try rfl
section
variable {H:AH} {g k n m cap i:Nat} {l:List ByteArray}
end
end Go.Proofs.YtnoengaghabmjaaGreat
/- slices.BinarySearch of an ascending list of texts. -/
namespace Go.Proofs.YtnoengaghabmjaaGreat
open Go Go.Proofs Go.Proofs.Sh
theorem isNaNStr {H:AH} {x:ByteArray}:Sh.Call Tryz.prog (knows 10) 140 [.string x] H (fun r H'=>H'=H∧r=.bool false):=by
 refine A4a rfl Tryz.func140 rfl (Nat.le_of_ble_eq_true rfl) ?_
 have hres:Tryz.f140.results.toList=[.tmp 2]:=rfl
 simp only [↓Sh.dn,sx,Nat.reduceBEq,reduceCtorEq,Nat.reduceEqDiff,hres,decide_true,Bool.not_true,and_self]
theorem B2c {H:AH} {v:Value} {x:ByteArray} {l:List ByteArray} (hs:Sl H v 1 (l.map A1b)) (ha:Asc l) (hl:l.length≤1048576):
  Sh.Call Tryz.prog (knows 10) 115 [v,.string x] H (fun r H'=>H'=H∧∃ k:Nat,r=.tuple #[.int .i64 (k:Int),.bool (A1w l x)]∧k≤l.length∧(l[k]?=some x↔x∈l)):=by
 refine A4a rfl Tryz.func115 rfl (Nat.le_of_ble_eq_true rfl) ?_
 have hres:Tryz.f115.results.toList=[.tmp 4,.tmp 5]:=rfl
 have hlen:=hs.len Tryz.underlying22 H
 simp only [↓Sh.dn,sx,Nat.reduceBEq,reduceCtorEq,Nat.reduceEqDiff,hlen,List.length_map]
 refine A1f (fun m F H'=>H'=H∧∃ a b:Nat,m=b - a∧a≤b∧b≤l.length∧F.get 7=some (.int .i64 (a:Int))∧F.get 8=some (.int .i64 (b:Int))∧F.get 0=some v∧F.get 1=some (.string x)∧F.get 6=some (.int .i64 (l.length:Int))∧
  (∀ (i:Nat) y,i < a→l[i]?=some y→A3o y x=true)∧(∀ (i:Nat) y,b≤i→l[i]?=some y→A3o y x=false)) (m:=l.length)
  ⟨rfl,0,l.length,by omega,by omega,by omega,by simp only [↓Sh.dn,sx,Nat.reduceBEq,reduceCtorEq,Nat.reduceEqDiff]; rfl,by simp only [↓Sh.dn,sx,Nat.reduceBEq,reduceCtorEq,Nat.reduceEqDiff],by simp only [↓Sh.dn,sx,Nat.reduceBEq,reduceCtorEq,Nat.reduceEqDiff],by simp only [↓Sh.dn,sx,Nat.reduceBEq,reduceCtorEq,Nat.reduceEqDiff],by simp only [↓Sh.dn,sx,Nat.reduceBEq,reduceCtorEq,Nat.reduceEqDiff],fun i y h=>by omega,fun i y h1 h2=>by have:=(List.getElem?_eq_some_iff.1 h2).1; omega⟩ ?_
 rintro m F H' ⟨rfl,a,b,rfl,hab,hbn,f7,f8,f0,f1,f6,hlo,hhi⟩ k
 by_cases hlt:a < b
 ·have hm:(a+b) / 2 < l.length:=by omega
  have hw2:IntKind.wrap .i64 (((a+b) / 2:Nat):Int)=(((a+b) / 2:Nat):Int):=wrap64 (by omega) (by omega)
  obtain ⟨g,o,kk,hia,hc,hcc⟩:=hs.at Tryz.underlying22 A2n (i:=(a+b) / 2) (x:=A1b l[(a+b) / 2]) (by simp [hm]) .i64
  have hy:=hcc 0 _ rfl
  simp only [Nat.add_zero] at hy
  obtain ⟨r,H1,hd,rfl,rfl⟩:=C7s (H:=H') (x:=l[(a+b) / 2]) (y:=x)
  have hget:l[(a+b) / 2]?=some l[(a+b) / 2]:=List.getElem?_eq_getElem hm
  simp only [↓Sh.dn,sx,Nat.reduceBEq,reduceCtorEq,Nat.reduceEqDiff,f0,f1,f6,f7,f8,A5a,hlt,decide_true,C66,half a b (by omega),hw2,hia,hy,forall_const,reduceCtorEq,false_implies,and_true,true_and]
  refine ⟨_,_,hd,?_⟩
  cases hpv:A3o l[(a+b) / 2] x with
  | true=>
   have hw3:IntKind.wrap .i64 ((((a+b) / 2:Nat):Int)+1)=(((a+b) / 2+1:Nat):Int):=wrap_succ (n:=l.length) (by omega) hl
   simp only [↓Sh.dn,sx,Nat.reduceBEq,reduceCtorEq,Nat.reduceEqDiff,forall_const,reduceCtorEq,false_implies,and_true,true_and,hw3]
   refine k (b - ((a+b) / 2+1)) _ _ (by omega) ⟨rfl,(a+b) / 2+1,b,rfl,by omega,hbn,by simp only [↓Sh.dn,sx,Nat.reduceBEq,reduceCtorEq,Nat.reduceEqDiff],by simp only [↓Sh.dn,sx,Nat.reduceBEq,reduceCtorEq,Nat.reduceEqDiff,f8],by simp only [↓Sh.dn,sx,Nat.reduceBEq,reduceCtorEq,Nat.reduceEqDiff,f0],by simp only [↓Sh.dn,sx,Nat.reduceBEq,reduceCtorEq,Nat.reduceEqDiff,f1],by simp only [↓Sh.dn,sx,Nat.reduceBEq,reduceCtorEq,Nat.reduceEqDiff,f6],fun i y hi hy=>?_,hhi⟩
   by_cases he:i=(a+b) / 2
   ·subst he; rw [hget] at hy; rw [← Option.some.inj hy]; exact hpv
   ·exact A2y (ha _ _ _ _ (by omega) hy hget) hpv
  | false=>
   simp only [↓Sh.dn,sx,Nat.reduceBEq,reduceCtorEq,Nat.reduceEqDiff,forall_const,reduceCtorEq,false_implies,and_true,true_and]
   refine k ((a+b) / 2 - a) _ _ (by omega) ⟨rfl,a,(a+b) / 2,rfl,by omega,by omega,by simp only [↓Sh.dn,sx,Nat.reduceBEq,reduceCtorEq,Nat.reduceEqDiff,f7],by simp only [↓Sh.dn,sx,Nat.reduceBEq,reduceCtorEq,Nat.reduceEqDiff],by simp only [↓Sh.dn,sx,Nat.reduceBEq,reduceCtorEq,Nat.reduceEqDiff,f0],by simp only [↓Sh.dn,sx,Nat.reduceBEq,reduceCtorEq,Nat.reduceEqDiff,f1],by simp only [↓Sh.dn,sx,Nat.reduceBEq,reduceCtorEq,Nat.reduceEqDiff,f6],hlo,fun i y h1 hy=>?_⟩
   by_cases he:i=(a+b) / 2
   ·subst he; rw [hget] at hy; rw [← Option.some.inj hy]; exact hpv
   ·cases hlt2:A3o y x with
    | false=>rfl
    | true=>rw [A2y (ha _ _ _ _ (by omega) hget hy) hlt2] at hpv; cases hpv
 ·have hab':a=b:=by omega
  subst hab'
  have hp:=B94 ha x hlo hhi
  by_cases hla:a < l.length
  ·obtain ⟨g,o,kk,hia,hc,hcc⟩:=hs.at Tryz.underlying22 A2n (i:=a) (x:=A1b l[a]) (by simp [hla]) .i64
   have hy:=hcc 0 _ rfl
   simp only [Nat.add_zero] at hy
   have hget:l[a]?=some l[a]:=List.getElem?_eq_getElem hla
   by_cases hex:l[a]=x
   ·have hin:A1w l x=true:=A5m.2 (hp.1 (by rw [hget,hex]))
    simp only [↓Sh.dn,sx,Nat.reduceBEq,reduceCtorEq,Nat.reduceEqDiff,f0,f1,f6,f7,f8,A5a,hlt,hla,hia,hy,hex,decide_true,decide_false,hres,hin,forall_const,reduceCtorEq,false_implies,and_true,true_and]
    exact ⟨a,rfl,hbn,hp⟩
   ·have hin : A1w l x = false := by
      cases h : A1w l x with
      | false => rfl
      | true => have := hp.2 (A5m.1 h); rw [hget] at this; exact absurd (Option.some.inj this) hex
    obtain ⟨r, H1, hd, rfl, rfl⟩ := isNaNStr (H := H') (x := l[a])
    simp only [↓Sh.dn, sx, Nat.reduceBEq, reduceCtorEq, Nat.reduceEqDiff, f0, f1, f6, f7, f8, A5a, hlt, hla, hia, hy, hex, decide_true, decide_false, hres, hin, forall_const, reduceCtorEq, false_implies, and_true, true_and]
    refine ⟨_, _, hd, ?_⟩
    simp only [↓Sh.dn, sx, Nat.reduceBEq, reduceCtorEq, Nat.reduceEqDiff, f7, forall_const, reduceCtorEq, false_implies, and_true, true_and, hres]
    exact ⟨a, rfl, hbn, hp⟩
  ·have hin : A1w l x = false := by
     cases h : A1w l x with
     | false => rfl
     | true => have := hp.2 (A5m.1 h); rw [List.getElem?_eq_none (by omega)] at this; cases this
   simp only [↓Sh.dn, sx, Nat.reduceBEq, reduceCtorEq, Nat.reduceEqDiff, f0, f1, f6, f7, f8, A5a, hlt, hla, decide_true, decide_false, hres, hin, forall_const, reduceCtorEq, false_implies, and_true, true_and]
   exact ⟨a, rfl, hbn, hp⟩
end Go.Proofs.YtnoengaghabmjaaGreat
/- The number of a symbol; a word as numbers. -/
namespace Go.Proofs.YtnoengaghabmjaaGreat
open Go Go.Proofs Go.Proofs.Sh
theorem place {H:AH} {v:Value} {x:ByteArray} {l:List ByteArray} (hs:Sl H v 1 (l.map A1b)) (ha:Asc l) (hl:l.length≤1048576):
  Sh.Call Tryz.prog (knows 10) 109 [v,.string x] H (fun r H'=>H'=H∧r=.int .i64 (A9s l x)):=by
 refine A4a rfl Tryz.func109 rfl (Nat.le_of_ble_eq_true rfl) ?_
 have hres:Tryz.f109.results.toList=[.tmp 4]:=rfl
 obtain ⟨r,H1,hd,rfl,k,rfl,_,hk⟩:=B2c (x:=x) hs ha hl
 simp only [↓Sh.dn,sx,Nat.reduceBEq,reduceCtorEq,Nat.reduceEqDiff]
 refine ⟨_,_,hd,?_⟩
 cases hin:A1w l x with
 | true=>
  have:=A51 ha (hk.2 (A5m.1 hin))
  simp only [↓Sh.dn,sx,Nat.reduceBEq,reduceCtorEq,Nat.reduceEqDiff,hres,this]
 | false=>
  have:=B8p (l:=l) (x:=x) (fun h=>by rw [A5m.2 h] at hin; cases hin)
  simp only [↓Sh.dn,sx,Nat.reduceBEq,reduceCtorEq,Nat.reduceEqDiff,hres,this]
theorem C3x {l:List ByteArray} {x:ByteArray} (ha:Asc l):decide (A9s l x < 0)=!A1w l x:=by
 cases hin:A1w l x with
 | true=>
  obtain ⟨k,hk⟩:=List.mem_iff_getElem?.1 (A5m.1 hin)
  rw [A51 ha hk]; simp
 | false=>
  rw [B8p (fun h=>by rw [A5m.2 h] at hin; cases hin)]; rfl
end Go.Proofs.YtnoengaghabmjaaGreat
/- graph.Of: the graph of a net. -/
namespace Go.Proofs.YtnoengaghabmjaaGreat
open Go Go.Proofs Go.Proofs.Sh
theorem A88 {H:AH} {v:Value} {N:NetD} (h:A4h H v N) (hok:A1k N) (hsm:A3b N) (hw:Wf H):
  Sh.Call Tryz.prog (knows 10) 64 [v] H (fun r H'=>Kept H H'∧∃ g,r=.pointer (some ⟨g,0,some 0⟩)∧∃ base,H.next≤base∧Gr H' base g N.sigma (B5i N N.arcs) (A2l N N.ends) (A0l N N.ends)):=by
 refine A4a rfl Tryz.func64 rfl (Nat.le_of_ble_eq_true rfl) ?_
 have hres:Tryz.f64.results.toList=[.tmp 2]:=rfl
 obtain ⟨sg,ar,en,rfl,hsg,har,hen⟩:=h
 have hb1:=NetBox.of (N:=N) hw hsg har hen
 have hk1:Kept H (H.new 4 [sg,.int .i64 N.states,ar,en]).2:=Kept.new hw 4 _
 have h1:=hok.st1
 have h2:=hok.st2
 obtain ⟨n,hn⟩:∃ n:Nat,N.states=(n:Int):=⟨N.states.toNat,by omega⟩
 have hnn:N.states.toNat=n:=by omega
 simp only [↓Sh.dn,sx,Nat.reduceBEq,reduceCtorEq,Nat.reduceEqDiff,A1g hsg.isCell har.isCell hen.isCell]
 have hnx:H.next < (H.new 4 [sg,.int .i64 N.states,ar,en]).2.next:=Nat.lt_succ_self _
 generalize H.next=gg at hb1 hnx ⊢
 generalize (H.new 4 [sg,.int .i64 N.states,ar,en]).2=H1 at hb1 hk1 hnx ⊢
 obtain ⟨r,H2,hd2,hk2,g,rfl,hgr⟩:=A67 (n:=n) hb1.hsg (by simpa using hsm.sg) (by omega) hk1.wf
 simp only [↓Sh.dn,sx,Nat.reduceBEq,reduceCtorEq,Nat.reduceEqDiff,hb1.c0,hb1.c1,hb1.c2,hb1.c3,hb1.ca,A2a hb1,A1a hb1,A3a hb1,Option.map_some,hn]
 refine ⟨_,_,hd2,?_⟩
 have hb2:=hb1.kept hk1.wf hk2
 simp only [↓Sh.dn,sx,Nat.reduceBEq,reduceCtorEq,Nat.reduceEqDiff,hb2.c0,hb2.c1,hb2.c2,hb2.c3,hb2.ca,A2a hb2,A1a hb2,A3a hb2,Option.map_some]
 have hz:∀ f:List Int→Int,f []=0→(rowsOf EndD.state EndD.cost N.states.toNat []).map f=List.replicate n 0:=by
  intro f hf
  rw [A3y,hnn,List.map_replicate,hf]
 refine A0f N.arcs.length 16 (List.range' 16 37++[5]) (fun i F H'=>Kept H1 H'∧Gr H' H1.next g N.sigma (B5i N (N.arcs.take i)) (A2l N []) (A0l N [])) (by simp only [↓Sh.dn,sx,Nat.reduceBEq,reduceCtorEq,Nat.reduceEqDiff]) ⟨hk2,by
  rw [List.take_zero]; unfold B5i A2l A0l; rw [A3y,hz _ rfl,hz _ rfl,hnn]; exact hgr⟩ ?_ ?_
 ·rintro i F H' hlt hF f16 ⟨hk,hg⟩ k
  have f1:=hF 1 rfl
  have f3:=hF 3 rfl
  have f14:=hF 14 rfl
  have f15:=hF 15 rfl
  simp only [↓Sh.dn,sx,Nat.reduceBEq,reduceCtorEq,Nat.reduceEqDiff] at f1 f3 f14 f15
  have hb':=hb1.kept hk1.wf hk
  obtain ⟨q,o,kk,hia,hc,hcc⟩:=hb'.har.at Tryz.underlying23 A9l (i:=i) (x:=N.arcs[i].cells) (by simp [hlt]) .i64
  clear hcc
  have htake:N.arcs.take (i+1)=N.arcs.take i++[N.arcs[i]]:=by rw [List.take_add_one,List.getElem?_eq_getElem hlt]; rfl
  obtain ⟨k0,k1,k2,k3,k4,k5⟩:=hok.arc _ (List.getElem_mem hlt)
  have hb3:=hb'.new hk.wf 5 (N.arcs[i].cells)
  have hk3:=hk.news 5 (N.arcs[i].cells)
  generalize N.arcs[i]=a at hb3 hk3 hc htake k0 k1 k2 k3 k4 k5
  obtain ⟨s,hs⟩:∃ s:Nat,a.fr=(s:Int):=⟨a.fr.toNat,by omega⟩
  have hsn:s < N.states.toNat:=by omega
  obtain ⟨r1,K1,hd1,rfl,rfl⟩:=place (x:=a.inn) hb3.hsg hok.asc hsm.sg
  obtain ⟨r2,K2,hd2,rfl,rfl⟩:=place (x:=a.out) hb3.hsg hok.asc hsm.sg
  have hrow:=A3i (key:=ArcD.fr) (f:=C6c N.sigma) (l:=N.arcs.take i) hsn
  have hrl:=A0x hrow
  have hsmA:=hsm.ar
  have htl:(N.arcs.take i).length≤1048576:=by rw [List.length_take]; omega
  obtain ⟨sv,av,ev,cv,os,ot,oe,oc,vals,obs,hG0⟩:=hg
  have hG:=hG0.chg hk.wf ((Kept.new hk.wf 5 a.cells).chg (X:=none')) fun _ _ h=>h
  have hnj:¬JIn ot obs H'.next:=fun h=>by have:=hG0.jag.lt hk.wf _ h; omega
  have hn:=hG.arr.cell 1
  obtain ⟨ba,cap,w',H4,H5,o',p,e1,e2,e3,e4,e5,e6,e7,e8,e9⟩:=hG.jag.pushAt Tryz.underlying123 A2t hk3.wf hrow (x:=C6c N.sigma a) rfl
  rw [← hs] at e2
  have bl:=C1x (v0:=.int .i64 a.to) (v1:=.int .i64 (A9s N.sigma a.inn)) (v2:=.int .i64 (A9s N.sigma a.out)) (v3:=.int .i64 a.cost) rfl rfl rfl rfl
  have hbs:=B8l (H:=(H'.new 5 a.cells).2) (x:=.agg (C6c N.sigma a).toArray) rfl rfl
  have ha:=C7d (H:=(H'.new 5 a.cells).2) (base:=ba) (len:=_) (cap:=cap) (x:=C6c N.sigma a) rfl (Nat.le_trans hrl (by omega))
  rw [e1] at ha
  have hn4:=(hG.arr.keep (e7.old g (hG.arr.lt hk3.wf) hG.gj)).cell 1
  have c4:=((Obj.new (H:=H') 5 a.cells).arr.keep (e7.old H'.next (Nat.lt_succ_self _) hnj)).cell 0
  have c4':(a.cells)[0]?=some (.int .i64 a.fr):=rfl
  rw [c4'] at c4
  have st:A4f Tryz.prog 126 H4 w' (.pointer (some p))=some H5:=by rw [A1d A2t e8,e4]
  have va:∀ xs:Array Value,A0b (.agg xs)=xs.toList:=fun _=>rfl
  have hav:=hG.jag.top.veq
  simp only [va] at hbs
  obtain ⟨z1,z2⟩:=GrB.arced hG hk3.wf e6 e5 e9
  simp only [↓Sh.dn,sx,Nat.reduceBEq,reduceCtorEq,Nat.reduceEqDiff,hb'.c0,hb'.c1,hb'.c2,hb'.c3,hb'.ca,A2a hb',A1a hb',A3a hb',A5b,A5e,A8e,A9g,A1h,A5c,A7c,A2e,A7e,A5d,arc0,arc1,arc2,arc3,arc4,end0,end1,f1,f3,f14,f15,f16,Option.map_some,A5a,hlt,decide_true,hia,hc]
  refine A9v (fl:=[(0,[]),(1,[]),(2,[]),(3,[]),(4,[]),(5,[]),(6,[]),(7,[]),(8,[]),(9,[]),(10,[]),(11,[]),(12,[]),(13,[]),(14,[]),(15,[]),(16,[]),(17,[]),(18,[]),(19,[]),(21,[]),(22,[]),(23,[]),(24,[]),(26,[]),(27,[]),(20,[27,24,22,15,13,11,9,5,3]),(25,[27,15,13,11,9,5,3]),(28,[]),(29,[]),(30,[5,3]),(31,[]),(32,[])]) (by kernel_rfl) (by kernel_rfl) (by kernel_rfl) ?_
  simp only [↓Sh.dn,sx,Nat.reduceBEq,reduceCtorEq,Nat.reduceEqDiff,wpr,again,A9b,A3e,A1c,A4e,A6c,A6b,A0g,forall_eq,forall_eq',hb3.c0,hb3.c1,hb3.c2,hb3.c3,hb3.ca,A2a hb3,A1a hb3,A3a hb3,A5b,A5e,A8e,A9g,A1h,A5c,A7c,A2e,A7e,A5d,arc0,arc1,arc2,arc3,arc4,end0,end1,f1,f3,hn,e2,e3,Option.map_some]
  refine ⟨_,_,hd1,?_⟩
  simp only [↓Sh.dn,sx,Nat.reduceBEq,reduceCtorEq,Nat.reduceEqDiff,wpr,again,A9b,A3e,A1c,A4e,A6c,A6b,A0g,forall_eq,forall_eq',hb3.c0,hb3.c1,hb3.c2,hb3.c3,hb3.ca,A2a hb3,A1a hb3,A3a hb3,A5b,A5e,A8e,A9g,A1h,A5c,A7c,A2e,A7e,A5d,arc0,arc1,arc2,arc3,arc4,end0,end1,f1,f3,hn,e2,e3,Option.map_some,hav,hsg.veq]
  refine ⟨_,_,hd2,?_⟩
  have bl':A2m Tryz.prog 100 [(0,.int .i64 a.to),(1,.int .i64 (A9s N.sigma a.inn)),(2,.int .i64 (A9s N.sigma a.out)),(3,.int .i64 a.cost)]=some (.agg (C6c N.sigma a).toArray):=bl
  simp only [↓Sh.dn,sx,Nat.reduceBEq,reduceCtorEq,Nat.reduceEqDiff,wpr,again,A9b,A3e,A1c,A4e,A6c,A6b,A0g,forall_eq,forall_eq',hb3.c0,hb3.c1,hb3.c2,hb3.c3,hb3.ca,A2a hb3,A1a hb3,A3a hb3,A5b,A5e,A8e,A9g,A1h,A5c,A7c,A2e,A7e,A5d,arc0,arc1,arc2,arc3,arc4,end0,end1,f1,f3,hn,e2,e3,Option.map_some,hav,hsg.veq,bl',hbs,ha,hn4,st,c4,f16,wrap_succ hlt hsm.ar]
  refine k _ _ (by repeat (first | refine Same.put ?_ rfl | exact Same.rfl' _)) (by simp only [↓Sh.dn,sx,Nat.reduceBEq,reduceCtorEq,Nat.reduceEqDiff]) ⟨hk3.then (Nat.le_refl _) z1,?_⟩
  rw [htake]
  unfold B5i
  rw [A2u hsn hs]
  exact z2
 ·rintro F H' hF f16 ⟨hk,hg⟩
  have f1:=hF 1 rfl
  have f3:=hF 3 rfl
  have f15:=hF 15 rfl
  simp only [↓Sh.dn,sx,Nat.reduceBEq,reduceCtorEq,Nat.reduceEqDiff] at f1 f3 f15
  rw [List.take_length] at hg
  have hb':=hb1.kept hk1.wf hk
  simp only [↓Sh.dn,sx,Nat.reduceBEq,reduceCtorEq,Nat.reduceEqDiff,hb'.c0,hb'.c1,hb'.c2,hb'.c3,hb'.ca,A2a hb',A1a hb',A3a hb',f1,f3,f15,f16,A5a,Nat.lt_irrefl,decide_false,Option.map_some]
  refine A0f N.ends.length 56 (List.range' 56 11++[7]) (fun i F H'=>Kept H1 H'∧Gr H' H1.next g N.sigma (B5i N N.arcs) (A2l N (N.ends.take i)) (A0l N (N.ends.take i))) (by simp only [↓Sh.dn,sx,Nat.reduceBEq,reduceCtorEq,Nat.reduceEqDiff]) ⟨hk,hg⟩ ?_ ?_
  ·rintro i F' H' hlt hF' f56 ⟨hk,hg⟩ k
   have g1:=hF' 1 rfl
   have g3:=hF' 3 rfl
   have f54:=hF' 54 rfl
   have f55:=hF' 55 rfl
   simp only [↓Sh.dn,sx,Nat.reduceBEq,reduceCtorEq,Nat.reduceEqDiff,f1,f3] at g1 g3 f54 f55
   have hb':=hb1.kept hk1.wf hk
   obtain ⟨q,o,kk,hia,hc,hcc⟩:=hb'.hen.at Tryz.underlying24 A1r (i:=i) (x:=N.ends[i].cells) (by simp [hlt]) .i64
   clear hcc
   have htake:N.ends.take (i+1)=N.ends.take i++[N.ends[i]]:=by rw [List.take_add_one,List.getElem?_eq_getElem hlt]; rfl
   obtain ⟨k0,k1⟩:=hok.fin _ (List.getElem_mem hlt)
   have hk3:=hk.news 2 (N.ends[i].cells)
   have hg3:=hg.kept hk.wf (Kept.new hk.wf 2 (N.ends[i].cells))
   generalize N.ends[i]=e at hk3 hg3 hc htake k0 k1
   obtain ⟨s,hs⟩:∃ s:Nat,e.state=(s:Int):=⟨e.state.toNat,by omega⟩
   have hsn:s < N.states.toNat:=by omega
   have hrow:=A3i (key:=EndD.state) (f:=EndD.cost) (l:=N.ends.take i) hsn
   have hrl:=A0x hrow
   have htl:(N.ends.take i).length≤60000:=by rw [List.length_take]; have:=hok.en; omega
   have l1:s < (A2l N (N.ends.take i)).length:=by unfold A2l; rw [List.length_map,A3g]; exact hsn
   have l2:s < (A0l N (N.ends.take i)).length:=by unfold A0l; rw [List.length_map,A3g]; exact hsn
   have v1:(A2l N (N.ends.take i))[s]=((((N.ends.take i).filter fun a=>decide (a.state=(s:Int))).map EndD.cost).length:Int):=by
    apply Option.some.inj
    rw [← List.getElem?_eq_getElem l1]
    unfold A2l
    rw [List.getElem?_map,hrow]; rfl
   have v2:(A0l N (N.ends.take i))[s]=leastOf (((N.ends.take i).filter fun a=>decide (a.state=(s:Int))).map EndD.cost):=by
    apply Option.some.inj
    rw [← List.getElem?_eq_getElem l2]
    unfold A0l
    rw [List.getElem?_map,hrow]; rfl
   obtain ⟨r,H5,hd5,hc5,hg5⟩:=grEnd (x:=e.cost) hg3 l1 l2 hk3.wf (by rw [v1]; omega) (by rw [v1]; omega)
   rw [v1,v2] at hg5
   rw [← hs] at hd5
   simp only [↓Sh.dn,sx,Nat.reduceBEq,reduceCtorEq,Nat.reduceEqDiff,hb'.c0,hb'.c1,hb'.c2,hb'.c3,hb'.ca,A2a hb',A1a hb',A3a hb',A5b,A5e,A8e,A9g,A1h,A5c,A7c,A2e,A7e,A5d,arc0,arc1,arc2,arc3,arc4,end0,end1,g1,g3,f54,f55,f56,Option.map_some,A5a,hlt,decide_true,hia,hc]
   refine ⟨_,_,hd5,?_⟩
   have hen:=hsm.en
   simp only [↓Sh.dn,sx,Nat.reduceBEq,reduceCtorEq,Nat.reduceEqDiff,f56,wrap_succ hlt hen]
   refine k _ _ (by repeat (first | refine Same.put ?_ rfl | exact Same.rfl' _)) (by simp only [↓Sh.dn,sx,Nat.reduceBEq,reduceCtorEq,Nat.reduceEqDiff]) ⟨hk3.then (Nat.le_refl _) hc5,?_⟩
   rw [htake]
   have e1:A2l N (N.ends.take i++[e])=(A2l N (N.ends.take i)).set s (((((N.ends.take i).filter fun a=>decide (a.state=(s:Int))).map EndD.cost).length:Int)+1):=by
    unfold A2l
    rw [A2u hsn hs,List.map_set]
    congr 1
    rw [List.length_append]; simp
   have e2:A0l N (N.ends.take i++[e])=(A0l N (N.ends.take i)).set s (A3v ((((N.ends.take i).filter fun a=>decide (a.state=(s:Int))).map EndD.cost).length:Int) (leastOf (((N.ends.take i).filter fun a=>decide (a.state=(s:Int))).map EndD.cost)) e.cost):=by
    unfold A0l
    rw [A2u hsn hs,List.map_set]
    congr 1
    rw [B45]
    unfold A3v
    have:((((N.ends.take i).filter fun a=>decide (a.state=(s:Int))).map EndD.cost).length:Int)=0↔((N.ends.take i).filter fun a=>decide (a.state=(s:Int))).map EndD.cost=[]:=by
     rw [← List.length_eq_zero_iff]; omega
    simp only [this]
   rw [e1,e2]
   exact hg5
  ·rintro F' H' hF' f56 ⟨hk,hg⟩
   have g3:=hF' 3 rfl
   have f55:=hF' 55 rfl
   simp only [↓Sh.dn,sx,Nat.reduceBEq,reduceCtorEq,Nat.reduceEqDiff,f3] at g3 f55
   rw [List.take_length] at hg
   simp only [↓Sh.dn,sx,Nat.reduceBEq,reduceCtorEq,Nat.reduceEqDiff,g3,f55,f56,A5a,Nat.lt_irrefl,decide_false,hres]
   exact ⟨hk1.trans hk,_,rfl,_,Nat.le_of_lt hnx,hg⟩
end Go.Proofs.YtnoengaghabmjaaGreat
/- The program's graph of a net: its edges by numbers. -/
namespace Go.Proofs.YtnoengaghabmjaaGreat
open Go Go.Proofs Go.Proofs.Sh
def A7m (N:NetD):List (List (Nat×Int×Int×Int)):=rowsOf ArcD.fr (fun a=>(a.to.toNat,A9s N.sigma a.inn,A9s N.sigma a.out,a.cost)) N.states.toNat N.arcs
theorem A9o {N:NetD} (hok:A1k N):A0d (A7m N)=B5i N N.arcs:=by
 unfold A0d A7m B5i rowsOf
 rw [List.map_map]
 refine List.map_congr_left fun s _=>?_
 simp only [Function.comp,List.map_map]
 refine List.map_congr_left fun a ha=>?_
 have:=hok.arc a (List.mem_filter.1 ha).1
 simp only [Function.comp,A9e,C6c]
 rw [show ((a.to.toNat:Nat):Int)=a.to by omega]
theorem C4h {l:List ByteArray} {x:ByteArray} (ha:Asc l):A9s l x < 0↔x∉l:=by
 have:=C3x (x:=x) ha
 rw [← A5m]
 cases h:A1w l x with
 | true=>rw [h] at this; simpa using this
 | false=>rw [h] at this; simpa using this
theorem C1q {N:NetD} (hok:A1k N):A7f∉N.sigma:=by
 intro h
 have:=hok.sym _ h
 have h0:A01 A7f=false:=rfl
 rw [h0] at this; cases this
theorem B0w {N:NetD} (hok:A1k N) (t:Nat):0 < (A2l N N.ends).getD t 0↔N.isEnd t:=by
 unfold NetD.isEnd A2l
 rw [List.getD_eq_getElem?_getD,List.getElem?_map]
 by_cases ht:t < N.states.toNat
 ·rw [A3i ht]
  simp only [Option.map_some,Option.getD_some,List.length_map]
  rw [show (0:Int) < ((N.ends.filter fun a=>decide (a.state=(t:Int))).length:Int)↔0 < (N.ends.filter fun a=>decide (a.state=(t:Int))).length by omega,List.length_pos_iff_exists_mem]
  simp only [List.mem_filter,decide_eq_true_eq]
 ·rw [List.getElem?_eq_none (by rw [A3g]; omega)]
  simp only [Option.map_none,Option.getD_none,Int.lt_irrefl,false_iff,not_exists,not_and]
  intro e he h
  have:=hok.fin e he
  omega
def ixN (sigma:List ByteArray) (x:ByteArray):Nat:=(A9s sigma x).toNat
theorem C6m {sigma:List ByteArray} (ha:Asc sigma) {x:ByteArray} (hx:x∈sigma):∃ k:Nat,sigma[k]?=some x∧A9s sigma x=(k:Int)∧ixN sigma x=k:=by
 obtain ⟨k,hk⟩:=List.mem_iff_getElem?.1 hx
 have:=A51 ha hk
 exact ⟨k,hk,this,by unfold ixN; rw [this]; rfl⟩
theorem B6a {sigma:List ByteArray} (ha:Asc sigma) (x y:ByteArray) (hx:x∈sigma) (hy:y∈sigma) (h:ixN sigma x=ixN sigma y):x=y:=by
 obtain ⟨k,h1,_,h2⟩:=C6m ha hx
 obtain ⟨j,h3,_,h4⟩:=C6m ha hy
 rw [h2,h4] at h
 rw [h,h3] at h1
 exact (Option.some.inj h1).symm
theorem C1t {sigma:List ByteArray} (h:A8j sigma=0):A7f∉sigma:=by
 intro hx
 unfold A8j at h
 split at h
 ·cases h
 ·split at h
  ·rename_i h1
   rw [Bool.and_eq_true,List.all_eq_true] at h1
   have:=h1.1 _ hx
   revert this
   decide
  ·cases h
end Go.Proofs.YtnoengaghabmjaaGreat
