/- A part of the proof: GraphWalk, GraphWalk2, GraphFirst, GraphBeyond, Same, GraphTexts, GraphWords, GraphX, GraphAdd, GraphTrim, GraphTrim2, AnyLong, IsSymbol, AllSymbols, IsSet, RefSigma, Search, SearchAt, SearchStrings, IsIn, ValidateNet, IsFree, RefValidate, NetOk, CmpLessStr, BinarySearch, PlaceWord, GraphOf, RefGraph, SortIntsInt, SortInts, RefClose, RefRun, RefRev, RefSpread, RefAlive, SymsSmall, IndexFuncStr, SymsValidate, WordVal, RefAcc, GraphCheck, IndexFuncArc, Priced, AutoValidate, AutoAcc, AutoWords. -/
import Derived.Test.YtcgbiedfbacgpaaGreatMCloseAutoFinds8
import Derived.Test.YtcgbiedfbacgpaaGreatMCloseAutoFinds9
import Derived.Test.YtcgbiedfbacgpaaGreatMCloseAutoFinds2
import Derived.Test.YtcgbiedfbacgpaaGreatMCloseAutoFinds5
import Derived.Test.YtcgbiedfbacgpaaGreatMCloseAutoFinds3
import Derived.Test.YtcgbiedfbacgpaaGreatMCloseAutoFinds7
import Derived.Test.YtcgbiedfbacgpaaGreatMCloseAutoFinds6
import Derived.Test.YtcgbiedfbacgpaaGreatMCloseAutoFinds1
import Derived.Test.YtcgbiedfbacgpaaGreatMCloseAutoFinds4
set_option linter.unusedVariables false
set_option linter.unusedSimpArgs false
/- The search of (*graph.Graph).First: the words that go on from a set. -/
set_option maxHeartbeats 4000000
set_option maxRecDepth 20000
set_option linter.unusedSimpArgs false
set_option linter.unusedVariables false
namespace Go.Proofs.YtcgbiedfbacgpaaGreat
open Go Go.Proofs Go.Proofs.Sh
noncomputable def A8j (sg:Nat) (E:List (List (Nat×Int×Int×Int))) (ends:List Int) (Q:Nat→Prop) (m:Nat):List (List Nat):=lexW (List.range sg) (accS (A2c E fun k=>k < 0) (fun (k:Nat)=>A2c E fun x=>x=(k:Int)) (fun s=>0 < ends.getD s 0) Q) m
theorem B84 (sg:Nat) (E:List (List (Nat×Int×Int×Int))) (ends:List Int) (Q:Nat→Prop) (m:Nat):A8j sg E ends Q (m+1)=(List.range sg).flatMap fun k=>(A8j sg E ends (A9z E Q k) m).map (k :: ·):=B40 _ _ _
theorem C9p {E:List (List (Nat×Int×Int×Int))} (k:Nat) (s t:Nat) (h:A2c E (fun x=>x=(k:Int)) s t):A2c E (fun x=>0≤x) s t:=by
 obtain ⟨r,h1,e,h2,h3,h4⟩:=h
 exact ⟨r,h1,e,h2,h3,by rw [h4]; omega⟩
theorem B8h {sg:Nat} {E:List (List (Nat×Int×Int×Int))} {ends:List Int} {Q:Nat→Prop} {m:Nat} (h:∀ s,Q s→¬exP E ends m s):A8j sg E ends Q m=[]:=B01 fun u hu ha=>by
 obtain ⟨s,h1,h2⟩:=A7n (any:=A2c E fun x=>0≤x) C9p ha
 rw [hu] at h2
 exact h s h1 h2
theorem C4a {sg:Nat} {E:List (List (Nat×Int×Int×Int))} {ends:List Int} {Q:Nat→Prop} (hQ:∀ a b,Q a→A2c E (fun k=>k < 0) a b→Q b) (h:∃ s,Q s∧exP E ends 0 s):A8j sg E ends Q 0=[[]]:=by
 unfold A8j
 rw [B3w,if_pos]
 rw [A0s]
 obtain ⟨s,h1,h2⟩:=h
 obtain ⟨t,h3,h4⟩:=A5r.1 h2
 exact ⟨t,(A40 hQ).1 (A6n.2 ⟨s,h1,h3⟩),h4⟩
theorem B90 {E:List (List (Nat×Int×Int×Int))} {Q:Nat→Prop} {k:Nat}:∀ a b,A9z E Q k a→A2c E (fun k=>k < 0) a b→A9z E Q k b:=fun _ _ h1 h2=>.step h1 h2
theorem C1z {H:AH} {base bO:Nat} {zo:Value} {oo wb:Option Nat} {out:List (List Nat)} (h:OutAt H base bO zo oo wb out) (H':AH):A4a Tryz.prog .len [65] [zo] H'=some (.int .i64 (out.length:Int),H'):=by
 obtain ⟨vals,h1,h2,h3⟩:=h.ex
 rw [h1.toSl.len Tryz.underlying65,List.length_map,h2]
theorem outPush {H:AH} {base bO:Nat} {zo v:Value} {oo wb o:Option Nat} {out:List (List Nat)} {u:List Nat} (h:OutAt H base bO zo oo wb out) (hw:Wf H) (hb:base≤H.next) (hv:Buf H 1 v (u.map natC) o) (ho:∀ y,o=some y→base≤y∧oo≠some y∧wb≠some y) (hwb:∀ y,wb=some y→y < H.next) (hol:out.length≤1073741823):
  ∃ a cap w' H3 H4 oo',zo=.slice a out.length cap∧A5a Tryz.prog 65 1 [(0,v)] H=some (.slice (some ⟨H.next,0,some 0⟩) 1 1,(H.new 1 [v]).2)∧A4a Tryz.prog .append [65,65] [.slice a out.length cap,.slice (some ⟨H.next,0,some 0⟩) 1 1] (H.new 1 [v]).2=some (w',H3)∧
   A6e Tryz.prog 65 H3 w' (.pointer (some ⟨bO,0,some 0⟩))=some H4∧OutAt H4 base bO w' oo' wb (out++[u])∧Chg (fun y=>y=bO∨oo=some y) H H4∧∀ y,oo'=some y→oo=some y∨H.next≤y:=by
 obtain ⟨vals,h1,h2,h3⟩:=h.ex
 have hlt:=h.lt
 obtain ⟨a,cap,w',H3,oo',e1,e2,e3,e4,e5⟩:=h1.push hw (x:=[v]) rfl
 have hvc:=hv.isCell
 have hbs:=C9x (H:=H) (x:=v) (by rw [A7b hvc]; rfl) (by rw [A7b hvc]; simp [hvc])
 rw [A7b hvc] at hbs
 rw [List.length_map,h2] at e1 e2
 have ha:=app1_65 (H:=H) (base:=a) (len:=out.length) (cap:=cap) (x:=[v]) rfl hol
 rw [e2] at ha
 have hbO:oo≠some bO:=fun hy=>by have:=(h.ob bO hy).1; omega
 have a3:=h.cell.keep (e4.old bO (h.cell.lt hw) hbO)
 obtain ⟨H4,w1,w2,w3,w4⟩:=a3.write e4.wf (i:=0) (vs:=[w']) (by simp)
 have hw':=e3.isCell
 have st:A6e Tryz.prog 65 H3 w' (.pointer (some ⟨bO,0,some 0⟩))=some H4:=by rw [A1c C4q hw']; exact w1
 have c34:Chg (fun y=>y=bO∨oo=some y) H H4:=(e4.weak fun y hy=>.inr hy).trans (w4.weak fun y hy=>.inl hy)
 have hoo:∀ y,oo'=some y→base≤y∧wb≠some y:=fun y hy=>by
  rcases e5 y hy with h4 | h4
  ·exact h.ob y h4
  ·exact ⟨by omega,fun hy2=>by have:=hwb y hy2; omega⟩
 refine ⟨a,cap,w',H3,H4,oo',e1,hbs,ha,st,⟨w2,⟨vals++[v],?_,by simp [h2],fun j x q hj hq=>?_⟩,hoo,hlt⟩,c34,e5⟩
 ·rw [List.map_append]
  exact e3.chg e4.wf w4 fun y hy hyb=>by have:=(hoo y hy).1; omega
 ·have far : ∀ {z : Value} {m : List (List Value)} {o : Option Nat}, Buf H 1 z m o → (∀ y, o = some y → base ≤ y ∧ oo ≠ some y ∧ wb ≠ some y) → Buf H4 1 z m o ∧ ∀ y, o = some y → base ≤ y ∧ oo' ≠ some y ∧ wb ≠ some y := fun {z m o} hb hx =>
    ⟨hb.chg hw c34 fun y hy hX => by
      obtain ⟨x1, x2, x3⟩ := hx y hy
      rcases hX with hX | hX
      · omega
      · exact x2 hX, fun y hy => ⟨(hx y hy).1, fun hy2 => by
      rcases e5 y hy2 with h4 | h4
      · exact (hx y hy).2.1 h4
      · have := hb.lt hw y hy; omega, (hx y hy).2.2⟩⟩
  rcases Nat.lt_or_ge j vals.length with hj1 | hj1
  · rw [List.getElem?_append_left hj1] at hj
    rw [List.getElem?_append_left (by rw [← h2]; exact hj1)] at hq
    obtain ⟨o', k1, k2⟩ := h3 j x q hj hq
    exact ⟨o', far k1 k2⟩
  · rw [List.getElem?_append_right hj1] at hj
    rw [List.getElem?_append_right (by rw [← h2]; exact hj1), ← h2] at hq
    have hj0 : j - vals.length = 0 := by
      have := (List.getElem?_eq_some_iff.1 hj).1
      simp at this; omega
    rw [hj0] at hj hq
    have hvx : v = x := by simpa using hj
    have huq : u = q := by simpa using hq
    subst hvx huq
    exact ⟨o, far hv ho⟩
end Go.Proofs.YtcgbiedfbacgpaaGreat
/- The search of (*graph.Graph).First. -/
namespace Go.Proofs.YtcgbiedfbacgpaaGreat
open Go Go.Proofs Go.Proofs.Sh
theorem C6z {H0:AH} {base bA bO bM bG bW g n mx long:Nat} {E:List (List (Nat×Int×Int×Int))} {ends:List Int} {sv av ev cv za:Value} {vals:List Value} {sigma:List ByteArray} {costs:List Int}
  (hpg:∀ H,Chg (fun y=>y=bO∨base≤y) H0 H→PG H g n 60000 E ends sv av ev cv vals sigma costs)
  (hcA:∀ H,Chg (fun y=>y=bO∨base≤y) H0 H→H.cell ⟨bA,0,some 0⟩=some za)
  (hA:∀ H,Chg (fun y=>y=bO∨base≤y) H0 H→∀ j,j≤long→∃ p v,A9a Tryz.prog 103 za (.int .i64 (j:Int))=some (.pointer (some p))∧H.cell p=some v∧∃ B:List Bool,Sl H v 1 (B.map A3l)∧B.length=n∧∀ t:Nat,B[t]?=some true↔exP E ends j t)
  (hcM:∀ H,Chg (fun y=>y=bO∨base≤y) H0 H→H.cell ⟨bM,0,some 0⟩=some (.int .i64 (mx:Int)))
  (hcG:∀ H,Chg (fun y=>y=bO∨base≤y) H0 H→H.cell ⟨bG,0,some 0⟩=some (.pointer (some ⟨g,0,some 0⟩)))
  (hcW:∀ H,Chg (fun y=>y=bO∨base≤y) H0 H→H.cell ⟨bW,0,some 0⟩=some (.func (.func 70) #[] #[.pointer (some ⟨bA,0,some 0⟩),.pointer (some ⟨bO,0,some 0⟩),.pointer (some ⟨bM,0,some 0⟩),.pointer (some ⟨bG,0,some 0⟩),.pointer (some ⟨bW,0,some 0⟩)]))
  (hsy:∀ (s:Nat) r,E[s]?=some r→∀ e∈r,e.2.1 < (sigma.length:Int)) (hsl:sigma.length≤1000) (hmx:mx≤1000) (hlong:long≤1000):
  ∀ (m:Nat) (H:AH) (Q:Nat→Prop) (s wv:Value) (w:List Nat) (wb:Option Nat) (out:List (List Nat)) (zo:Value) (oo:Option Nat),Chg (fun y=>y=bO∨base≤y) H0 H→base≤H.next→SetAt H s n Q→(∀ a b,Q a→A2c E (fun k=>k < 0) a b→Q b)→Stk H wv w wb→(∀ y,wb=some y→base≤y)→OutAt H base bO zo oo wb out→out.length≤mx→w.length+m≤long→
   Sh.Call Tryz.prog (knows 7) 70 [s,wv,.int .i64 (m:Int),.pointer (some ⟨bA,0,some 0⟩),.pointer (some ⟨bO,0,some 0⟩),.pointer (some ⟨bM,0,some 0⟩),.pointer (some ⟨bG,0,some 0⟩),.pointer (some ⟨bW,0,some 0⟩)] H
    (fun _ H'=>Chg (fun y=>y=bO∨oo=some y∨wb=some y) H H'∧∃ zo' oo',OutAt H' base bO zo' oo' wb ((out++(A8j sigma.length E ends Q m).map (w++·)).take mx)∧(∀ y,oo'=some y→oo=some y∨H.next≤y)∧∀ y,wb=some y→StkKept H H' y w.length):=by
 intro m
 induction m using Nat.strongRecOn with
 | ind m ih=>
 intro H Q s wv w wb out zo oo hc0 hbn hS hQ hst hwb hO hol hwl
 have hw:=hc0.wf
 have hbO:=hO.lt
 refine A2a rfl Tryz.func70 rfl (Nat.le_of_ble_eq_true rfl) ?_
 have hres:Tryz.f70.results.toList=[]:=rfl
 obtain ⟨L,hL,hnd,hlt,hLQ⟩:=hS
 have hn2:=(hpg H hc0).n2
 have hLl:=A3n hnd hlt
 have nw:anew Tryz.prog 3 H (.int .i64 (m:Int))=some (.pointer (some ⟨H.next,0,some 0⟩),(H.new 1 [.int .i64 (m:Int)]).2):=A1s A3c rfl
 have k1:=Kept.new hw 1 [.int .i64 (m:Int)]
 have o1:=(Sh.Obj.new (H:=H) 1 [.int .i64 (m:Int)]).arr
 have hx1:H.next < (H.new 1 [.int .i64 (m:Int)]).2.next:=Nat.lt_succ_self _
 simp only [↓Sh.dn,sx,reduceCtorEq,Nat.reduceEqDiff,nw]
 generalize hbl:H.next=bl at o1 hx1 ⊢
 generalize (H.new 1 [.int .i64 (m:Int)]).2=H1 at k1 o1 hx1 ⊢
 have hcx:∀ {H'},Kept H H'→Chg (fun y=>y=bO∨base≤y) H0 H':=fun hk=>hc0.trans hk.chg
 obtain ⟨r2,H2,hd2,hk2,rfl⟩:=B0g (caps:=[.pointer (some ⟨bA,0,some 0⟩),.pointer (some ⟨bl,0,some 0⟩)]) (fid:=72) (fun t=>tB (exP E ends m t)) (hL.grow (k1.grow hw)) (by omega) k1.wf (fun H' hk t ht=>by
  refine A2a rfl Tryz.func72 rfl (Nat.le_of_ble_eq_true rfl) ?_
  have hres:Tryz.f72.results.toList=[.tmp 4]:=rfl
  have c1:=hcA H' (hcx (k1.trans hk))
  have c2:H'.cell ⟨bl,0,some 0⟩=some (.int .i64 (m:Int)):=(o1.keep (hk.old bl hx1)).cell 0
  obtain ⟨p,v,i1,i2,B,hB,hBl,hBi⟩:=hA H' (hcx (k1.trans hk)) m (by omega)
  have htl:t < B.length:=by rw [hBl]; exact hlt t ht
  obtain ⟨p2,i3,i4⟩:=Sl.elem (s:=1) Tryz.underlying58 A8h hB (i:=t) (u:=.bool B[t]) (by rw [List.getElem?_map,List.getElem?_eq_getElem htl]; rfl)
  have hg:B[t]=tB (exP E ends m t):=by
   rw [Bool.eq_iff_iff,A0s,← hBi,List.getElem?_eq_getElem htl]
   simp
  simp only [↓Sh.dn,sx,reduceCtorEq,Nat.reduceEqDiff,c1,c2,i1,i2,i3,i4,hres,hg]
  exact Kept.refl hk.wf)
 have k02:=k1.trans hk2
 have c02:=hcx k02
 have hO2:=hO.kept hw k02
 have hst2:=hst.chg hw (k02.chg (X:=none')) fun _ _ h=>h
 have cO:=hO2.cell.cell 0
 have cM:=hcM H2 c02
 have cG:=hcG H2 c02
 have cL:H2.cell ⟨bl,0,some 0⟩=some (.int .i64 (m:Int)):=(o1.keep (hk2.old bl hx1)).cell 0
 have hlO:=C1z hO2
 refine ⟨_,_,hd2,?_⟩
 have skip:(A8j sigma.length E ends Q m=[]∨mx≤out.length)→Chg (fun y=>y=bO∨oo=some y∨wb=some y) H H2∧∃ zo' oo',OutAt H2 base bO zo' oo' wb ((out++(A8j sigma.length E ends Q m).map (w++·)).take mx)∧(∀ y,oo'=some y→oo=some y∨bl≤y)∧∀ y,wb=some y→StkKept H H2 y w.length:=fun hh=>by
  have ho:(out++(A8j sigma.length E ends Q m).map (w++·)).take mx=out:=by
   rcases hh with h1 | h1
   ·rw [h1,List.map_nil,List.append_nil]; exact List.take_of_length_le hol
   ·rw [List.take_append_of_le_length (by omega),List.take_of_length_le hol]
  rw [ho]
  exact ⟨k02.chg,zo,oo,hO2,fun y hy=>.inl hy,fun y hy=>StkKept.same (k02.old y (hst.lt hw y hy))⟩
 cases hany:L.any fun t=>tB (exP E ends m t) with
 | false=>
  have hno:A8j sigma.length E ends Q m=[]:=B8h fun s hs he=>by
   have:=(List.any_eq_true (p:=fun t=>tB (exP E ends m t))).2 ⟨s,(hLQ s).2 hs,A0s.2 he⟩
   rw [hany] at this; cases this
  simp only [↓Sh.dn,sx,Nat.reduceEqDiff,hres]
  exact skip (.inl hno)
 | true=>
 have hsome:∃ s,Q s∧exP E ends m s:=by
  obtain ⟨s,h1,h2⟩:=List.any_eq_true.1 hany
  exact ⟨s,(hLQ s).1 h1,A0s.1 h2⟩
 simp only [↓Sh.dn,sx,Nat.reduceEqDiff,cO,cM,hlO,A5j]
 by_cases hfull:mx≤out.length
 ·simp only [↓Sh.dn,sx,hfull,decide_true,hres]
  exact skip (.inr hfull)
 simp only [↓Sh.dn,sx,Nat.reduceEqDiff,hfull,decide_false,cL]
 cases m with
 | zero=>
  have h00:decide (((0:Nat):Int)=0)=true:=rfl
  simp only [↓Sh.dn,sx,h00]
  obtain ⟨r3,H3,hd3,hk3,o3,hb3,hf3⟩:=C6i (hst2.sl) (by rw [List.length_map]; omega) hk2.wf
  have hO3:=hO2.kept hk2.wf hk3
  have k03:=k02.trans hk3
  obtain ⟨vz,hz1,hz2,hz3⟩:=hO2.ex
  obtain ⟨a,cap,w',H4,H5,oo',rfl,e1,e2,e3,hO5,hc5,hf5⟩:=outPush hO3 hk3.wf (by have:=k03.next; omega) hb3 (fun y hy=>⟨by have:=hf3 y hy; have:=k02.next; omega,fun hy2=>by have:=hz1.lt hk2.wf y hy2; have:=hf3 y hy; omega,fun hy2=>by have:=hst2.lt hk2.wf y hy2; have:=hf3 y hy; omega⟩) (fun y hy=>by have:=hst.lt hw y hy; have:=k03.next; omega) (by omega)
  have cO3:=hO3.cell.cell 0
  have hvz:=hz1.veq
  refine A9w (fl:=[(0,[]),(1,[]),(2,[0]),(3,[]),(4,[]),(5,[])]) (by kernel_rfl) (by kernel_rfl) (by kernel_rfl) ?_
  simp only [↓Sh.dn,sx,Nat.reduceEqDiff,wpr,again,A4e,A6s,forall_eq',cO]
  refine ⟨_,_,hd3,?_⟩
  simp only [sx,cO3,e1,e2,e3,hres]
  have hW:A8j sigma.length E ends Q 0=[[]]:=C4a hQ hsome
  have ho:(out++(A8j sigma.length E ends Q 0).map (w++·)).take mx=out++[w]:=by
   rw [hW]
   simp only [List.map_cons,List.map_nil,List.append_nil]
   exact List.take_of_length_le (by rw [List.length_append,List.length_singleton]; omega)
  rw [ho]
  refine ⟨(k03.chg).trans (hc5.weak fun y hy=>hy.imp id .inl),w',oo',hO5,fun y hy=>?_,fun y hy=>StkKept.same ?_⟩
  ·rcases hf5 y hy with h1 | h1
   ·exact .inl h1
   ·have:=k03.next; exact .inr (by omega)
  ·have hyl:=hst.lt hw y hy
   rw [hc5.old y (Nat.lt_of_lt_of_le hyl k03.next) ?_,k03.old y hyl]
   rintro (h1 | h1)
   ·have:=hwb y hy; omega
   ·exact (hO.ob y h1).2 hy
 | succ m=>
  have h00:decide (((m+1:Nat):Int)=0)=false:=by simp; omega
  have hLQ':(fun s=>s∈L)=Q:=funext fun s=>propext (hLQ s)
  obtain ⟨r3,H3,hd3,hk3,vs,hvl,hvs⟩:=C3m (hpg H2 c02) hsy hsl (hL.grow (k02.grow hw)) hlt (by omega) hk2.wf
  rw [hLQ'] at hvs
  have k03:=k02.trans hk3
  have hlv:∀ H',A4a Tryz.prog .len [117] [r3] H'=some (.int .i64 (sigma.length:Int),H'):=fun H'=>by
   rw [(hvs H3 fun _ _ _=>rfl).1.len Tryz.underlying117,List.length_map,hvl]
  simp only [↓Sh.dn,sx,reduceCtorEq,Nat.reduceEqDiff,h00,cG]
  refine ⟨_,_,hd3,?_⟩
  simp only [sx,hlv]
  have hZ:∀ y,(y=bO∨oo=some y∨wb=some y)→y < bl:=fun y hy=>by
   rcases hy with hy | hy | hy
   ·omega
   ·obtain ⟨vz,hz1,_⟩:=hO.ex
    rw [← hbl]; exact hz1.lt hw y hy
   ·rw [← hbl]; exact hst.lt hw y hy
  have hZX:∀ y,(y=bO∨oo=some y∨wb=some y)→(y=bO∨base≤y):=fun y hy=>by
   rcases hy with hy | hy | hy
   ·exact .inl hy
   ·exact .inr (hO.ob y hy).1
   ·exact .inr (hwb y hy)
  have hn3:=hk3.next
  have hn2':=hk2.next
  have hst3:=hst.chg hw (k03.chg (X:=none')) fun _ _ h=>h
  have ho0:out.take mx=out:=List.take_of_length_le hol
  refine A9c sigma.length 34 (List.range' 34 24++[11,12]) (fun k F H'=>Chg (fun y=>y=bO∨oo=some y∨wb=some y) H3 H'∧∃ zo' oo',OutAt H' base bO zo' oo' wb ((out++((List.range k).flatMap fun k=>(A8j sigma.length E ends (A9z E Q k) m).map (fun u=>w++k :: u))).take mx)∧(∀ y,oo'=some y→oo=some y∨H3.next≤y)∧∀ y,wb=some y→StkKept H3 H' y w.length) (by simp only [sx])
   ⟨Chg.refl hk3.wf,zo,oo,by simpa [ho0] using hO2.kept hk2.wf hk3,fun y hy=>.inl hy,fun y hy=>StkKept.same rfl⟩ ?_ ?_
  ·rintro k F H' hi hF f34 ⟨hc,zo',oo',hO',hof,hsk⟩ kk
   have f1:=hF 1 rfl
   have f4:=hF 4 rfl
   have f5:=hF 5 rfl
   have f7:=hF 7 rfl
   have f10:=hF 10 rfl
   have f32:=hF 32 rfl
   have f33:=hF 33 rfl
   simp only [sx,Nat.reduceEqDiff] at f1 f4 f5 f7 f10 f32 f33
   have ch:Chg (fun y=>y=bO∨base≤y) H0 H':=(hcx k03).then hc fun y hy _=>hZX y hy
   have cO':=hO'.cell.cell 0
   have cM':=hcM H' ch
   have cW':=hcW H' ch
   have hlO':=C1z hO'
   have hblZ:¬(bl=bO∨oo=some bl∨wb=some bl):=fun h=>Nat.lt_irrefl _ (hZ bl h)
   have ob':Arr H' bl 0 1 [.int .i64 ((m+1:Nat):Int)]:=((o1.keep (hk2.old bl hx1)).keep (hk3.old bl (by omega))).keep (hc.old bl (by omega) hblZ)
   have cL':=ob'.cell 0
   have hagree:∀ {H'':AH},Chg (fun y=>wb=some y) H' H''→∀ y,H2.next≤y→y < H3.next→H''.objs.get y=H3.objs.get y:=fun {H''} hc' y h1 h2=>by
    have hny:¬(y=bO∨oo=some y∨wb=some y):=fun h=>by have:=hZ y h; omega
    rw [hc'.old y (by have:=hc.next; omega) fun h=>hny (.inr (.inr h)),hc.old y h2 hny]
   obtain ⟨hsl1,hset1⟩:=hvs H' (hagree (Chg.refl hc.wf))
   obtain ⟨v,hv⟩:∃ v,vs[k]?=some v:=⟨vs[k]'(by rw [hvl]; exact hi),List.getElem?_eq_getElem _⟩
   obtain ⟨pk,ik,ck⟩:=Sl.elem (s:=1) Tryz.underlying117 B0c hsl1 (i:=k) (u:=v) (by rw [List.getElem?_map,hv]; rfl)
   obtain ⟨L',hL',hnd',hlt',hLQ2⟩:=hset1 k v hv
   have hlL':=fun H''=>hL'.len Tryz.underlying114 H''
   simp only [List.length_map] at hlL'
   have hst':Stk H' wv w wb:=hst3.keep hsk
   have hrange:((List.range (k+1)).flatMap fun k=>(A8j sigma.length E ends (A9z E Q k) m).map (fun u=>w++k :: u))=((List.range k).flatMap fun k=>(A8j sigma.length E ends (A9z E Q k) m).map (fun u=>w++k :: u))++(A8j sigma.length E ends (A9z E Q k) m).map (fun u=>w++k :: u):=by
    rw [List.range_succ,List.flatMap_append]; simp
   rw [hrange] at kk
   generalize hfm:((List.range k).flatMap fun k=>(A8j sigma.length E ends (A9z E Q k) m).map (fun u=>w++k :: u))=FM at hO' hlO' kk
   have hltk:(out++FM).take mx=((out++FM).take mx).take mx:=by rw [List.take_take,Nat.min_self]
   have wi:IntKind.wrap .i64 ((k:Int)+1)=((k+1:Nat):Int):=A3a hi (by omega)
   have hol':((out++FM).take mx).length≤mx:=by rw [List.length_take]; omega
   have same:((A8j sigma.length E ends (A9z E Q k) m)=[]∨mx≤((out++FM).take mx).length)→(out++(FM++(A8j sigma.length E ends (A9z E Q k) m).map (fun u=>w++k :: u))).take mx=(out++FM).take mx:=fun hh=>by
    rw [← List.append_assoc,← B8b]
    rcases hh with h1 | h1
    ·rw [h1,List.map_nil,List.append_nil,List.take_take,Nat.min_self]
    ·rw [List.take_append_of_le_length h1,List.take_take,Nat.min_self]
   simp only [↓Sh.dn,sx,Nat.reduceEqDiff,f34,f32,f33,A1a,hi,decide_true,ik,ck,hlL']
   by_cases hle:L'=[]
   ·have hz:decide ((0:Int) < ((L'.length:Nat):Int))=false:=by rw [hle]; rfl
    simp only [↓Sh.dn,sx,Nat.reduceEqDiff,hz,f34,wi]
    refine kk _ _ (by repeat (first | refine Same.put ?_ rfl | exact Same.rfl' _)) (by simp only [sx]) ⟨hc,zo',oo',?_,hof,hsk⟩
    rw [same (.inl (B8h fun s hs _=>by have:=(hLQ2 s).2 hs; rw [hle] at this; cases this))]
    exact hO'
   ·have hz : decide ((0 : Int) < ((L'.length : Nat) : Int)) = true := by
      have := List.length_pos_iff.2 hle
      simp; omega
    simp only [↓Sh.dn, sx, Nat.reduceEqDiff, hz, f4, f5, cO', cM', hlO', A1a]
    by_cases hful : ((out ++ FM).take mx).length < mx
    · obtain ⟨a, cap, wv', H4, wb', hwe, p1, p2, p3, p4, p5⟩ := hst'.push hc.wf k
      subst hwe
      have hbs := A8o (H := H') (x := .int .i64 (k : Int)) rfl rfl
      have ha := A48 (H := H') (base := a) (len := w.length) (cap := cap) (x := [.int .i64 (k : Int)]) rfl (by omega)
      rw [p1] at ha
      have hwb2 : ∀ y, wb = some y → wb' = some y := fun y hy => by
        rcases p4 with h1 | ⟨h1, _⟩
        · rw [h1]; exact hy
        · rw [h1] at hy; cases hy
      have hwb3 : ∀ y, wb' = some y → wb = some y ∨ H'.next ≤ y := fun y hy => by
        rcases p4 with h1 | ⟨_, h1⟩
        · rw [h1] at hy; exact .inl hy
        · exact .inr (h1 y hy)
      have hcn := hc.next
      have hkn := k03.next
      have hwb' : ∀ y, wb' = some y → base ≤ y := fun y hy => by
        rcases hwb3 y hy with h1 | h1
        · exact hwb y h1
        · omega
      have ch4 : Chg (fun y => y = bO ∨ base ≤ y) H0 H4 := ch.trans (p3.weak fun y hy => .inr (hwb y hy))
      have hO4 := (hO'.hand hc.wf hwb3).chg hc.wf p3 hwb2 hwb'
      have hpn := p3.next
      obtain ⟨r5, H5, hd5, hc5, zo5, oo5, hO5, hof5, hsk5⟩ := ih m (Nat.lt_succ_self m) H4 (A9z E Q k) v wv' (w ++ [k]) wb' ((out ++ FM).take mx) zo' oo' ch4 (by omega) ((hvs H4 (hagree p3)).2 k v hv) B90 p2 hwb' hO4 hol' (by rw [List.length_append, List.length_singleton]; omega)
      have cW4 := hcW H4 ch4
      have cL4 : H4.cell ⟨bl, 0, some 0⟩ = some (.int .i64 ((m + 1 : Nat) : Int)) := (ob'.keep (p3.old bl (by omega) fun h => hblZ (.inr (.inr h)))).cell 0
      have cLn : (H'.new 1 [.int .i64 (k : Int)]).2.cell ⟨bl, 0, some 0⟩ = some (.int .i64 ((m + 1 : Nat) : Int)) := (ob'.keep (C7a (by omega))).cell 0
      have cWn := hcW _ (ch.trans (Kept.new hc.wf 1 [.int .i64 (k : Int)]).chg)
      have wl : IntKind.wrap .i64 (((m + 1 : Nat) : Int) - 1) = (m : Int) := by rw [wrap64 (by omega) (by omega)]; omega
      have hvf : veq (.func (.func 70) #[] #[.pointer (some ⟨bA, 0, some 0⟩), .pointer (some ⟨bO, 0, some 0⟩), .pointer (some ⟨bM, 0, some 0⟩), .pointer (some ⟨bG, 0, some 0⟩), .pointer (some ⟨bW, 0, some 0⟩)]) (.func (.func 70) #[] #[.pointer (some ⟨bA, 0, some 0⟩), .pointer (some ⟨bO, 0, some 0⟩), .pointer (some ⟨bM, 0, some 0⟩), .pointer (some ⟨bG, 0, some 0⟩), .pointer (some ⟨bW, 0, some 0⟩)]) = true := by
        simp [veq, veqs, B7h]
      simp only [↓Sh.dn, sx, hful, decide_true]
      refine A9w (fl := [(0, []), (1, []), (2, []), (3, []), (4, []), (6, []), (7, []), (5, [6, 0]), (8, [])]) (by kernel_rfl) (by kernel_rfl) (by kernel_rfl) ?_
      simp only [↓Sh.dn, sx, Nat.reduceEqDiff, wpr, again, A4e, A7u, forall_eq', f1, f7, f10, cW', hbs, A6a, cLn, ha, cW4, cL4, hvf, A7u, wl]
      refine ⟨_, _, by first | exact hd5 | simpa using hd5, ?_⟩
      simp only [sx, f34, wi]
      refine kk _ _ (by repeat (first | refine Same.put ?_ rfl | exact Same.rfl' _)) (by simp only [sx]) ⟨(hc.trans (p3.weak fun y hy => .inr (.inr hy))).then hc5 fun y hy hlt3 => ?_, zo5, oo5, ?_, fun y hy => ?_, fun y hy => ?_⟩
      · rcases hy with h1 | h1 | h1
        · exact .inl h1
        · rcases hof y h1 with h2 | h2
          · exact .inr (.inl h2)
          · omega
        · rcases hwb3 y h1 with h2 | h2
          · exact .inr (.inr h2)
          · omega
      · have he : (out ++ (FM ++ (A8j sigma.length E ends (A9z E Q k) m).map (fun u => w ++ k :: u))).take mx = ((out ++ FM).take mx ++ (A8j sigma.length E ends (A9z E Q k) m).map (w ++ [k] ++ ·)).take mx := by
          rw [← List.append_assoc, ← B8b]
          congr 3
          funext u
          simp
        rw [he]
        exact hO5.hand hc5.wf fun y hy => .inl (hwb2 y hy)
      · rcases hof5 y hy with h1 | h1
        · exact hof y h1
        · exact .inr (by omega)
      · exact ((hsk y hy).trans (p5 y hy) (Nat.le_refl _)).trans (hsk5 y (hwb2 y hy)) (by rw [List.length_append]; exact Nat.le_add_right _ _)
    · simp only [↓Sh.dn, sx, Nat.reduceEqDiff, hful, decide_false, f34, wi]
      refine kk _ _ (by repeat (first | refine Same.put ?_ rfl | exact Same.rfl' _)) (by simp only [sx]) ⟨hc, zo', oo', ?_, hof, hsk⟩
      rw [same (.inr (by omega))]
      exact hO'
  ·rintro F H' hF f34 ⟨hc,zo',oo',hO',hof,hsk⟩
   have f33:=hF 33 rfl
   simp only [sx,Nat.reduceEqDiff] at f33
   simp only [↓Sh.dn,sx,f33,f34,A1a,Nat.lt_irrefl,decide_false,hres]
   have he:(A8j sigma.length E ends Q (m+1)).map (w++·)=(List.range sigma.length).flatMap fun k=>(A8j sigma.length E ends (A9z E Q k) m).map (fun u=>w++k :: u):=by
    rw [B84,List.map_flatMap]
    congr 1
    funext k
    rw [List.map_map]
    rfl
   rw [he]
   refine ⟨k03.chg.trans hc,zo',oo',hO',fun y hy=>?_,fun y hy=>?_⟩
   ·rcases hof y hy with h1 | h1
    ·exact .inl h1
    ·exact .inr (by omega)
   ·exact (StkKept.same (L:=w.length) (k03.old y (hst.lt hw y hy))).trans (hsk y hy) (Nat.le_refl _)
end Go.Proofs.YtcgbiedfbacgpaaGreat
/- (*graph.Graph).First. -/
namespace Go.Proofs.YtcgbiedfbacgpaaGreat
open Go Go.Proofs Go.Proofs.Sh
def WordsN (H:AH) (v:Value) (l:List (List Nat)):Prop:=∃ (oo:Option Nat) (vals:List Value),Buf H 1 v (vals.map fun x=>[x]) oo∧vals.length=l.length∧∀ (j:Nat) x u,vals[j]?=some x→l[j]?=some u→Sl H x 1 (u.map natC)
noncomputable def A8m (sg:Nat) (E:List (List (Nat×Int×Int×Int))) (ends:List Int) (k:Nat):List (List Nat):=(List.range k).flatMap fun m=>A8j sg E ends (Clo (A2c E fun k=>k < 0) fun s=>s=0) m
theorem B55 (sg:Nat) (E:List (List (Nat×Int×Int×Int))) (ends:List Int) {i n:Nat} (h:i≤n):∃ t,A8m sg E ends n=A8m sg E ends i++t:=by
 induction n with
 | zero=>exact ⟨[],by rw [show i=0 by omega]; simp⟩
 | succ n ih=>
  by_cases hin:i=n+1
  ·exact ⟨[],by rw [hin]; simp⟩
  obtain ⟨t,ht⟩:=ih (by omega)
  refine ⟨t++A8j sg E ends (Clo (A2c E fun k=>k < 0) fun s=>s=0) n,?_⟩
  unfold A8m at ht ⊢
  rw [List.range_succ,List.flatMap_append,ht]
  simp
theorem C2r {t:Nat} {H:AH} {z x:Value} (hs:A9b Tryz.prog t=some 1) (hz:isCell z=true) (hx:isCell x=true):
  anew Tryz.prog t H z=some (.pointer (some ⟨H.next,0,some 0⟩),(H.new 1 [z]).2)∧A6e Tryz.prog t (H.new 1 [z]).2 x (.pointer (some ⟨H.next,0,some 0⟩))=some (H.new 1 [x]).2:=
 ⟨A1s hs hz,by rw [A1c hs hx]; exact A5o rfl⟩
theorem C6l {H:AH} {g n mx long:Nat} {E:List (List (Nat×Int×Int×Int))} {ends:List Int} {sv av ev cv:Value} {vals:List Value} {sigma:List ByteArray} {costs:List Int} (h:PG H g n 60000 E ends sv av ev cv vals sigma costs) (hsy:∀ (s:Nat) r,E[s]?=some r→∀ e∈r,e.2.1 < (sigma.length:Int)) (hsl:sigma.length≤1000) (hmx:mx≤1000) (hlong:long≤900) (hw:Wf H):
  Sh.Call Tryz.prog (knows 7) 34 [.pointer (some ⟨g,0,some 0⟩),.int .i64 (mx:Int),.int .i64 (long:Int)] H (fun r H'=>Kept H H'∧WordsN H' r ((A8m sigma.length E ends (long+1)).take mx)):=by
 refine A2a rfl Tryz.func34 rfl (Nat.le_of_ble_eq_true rfl) ?_
 have hres:Tryz.f34.results.toList=[.tmp 6]:=rfl
 obtain ⟨n1,_⟩:=C2r (H:=H) (x:=.pointer none) B16 (z:=.pointer (some ⟨g,0,some 0⟩)) rfl rfl
 have k1:=Kept.new hw 1 [.pointer (some ⟨g,0,some 0⟩)]
 have oG:=(Sh.Obj.new (H:=H) 1 [.pointer (some ⟨g,0,some 0⟩)]).arr
 have x1:H.next < (H.new 1 [.pointer (some ⟨g,0,some 0⟩)]).2.next:=Nat.lt_succ_self _
 simp only [↓Sh.dn,sx,Nat.reduceEqDiff,n1]
 generalize hbG:H.next=bG at oG x1 ⊢
 generalize (H.new 1 [.pointer (some ⟨g,0,some 0⟩)]).2=H1 at k1 oG x1 ⊢
 obtain ⟨n2,_⟩:=C2r (H:=H1) (x:=.int .i64 0) A3c (z:=.int .i64 (mx:Int)) rfl rfl
 have k2:=Kept.new k1.wf 1 [.int .i64 (mx:Int)]
 have oM:=(Sh.Obj.new (H:=H1) 1 [.int .i64 (mx:Int)]).arr
 have x2:H1.next < (H1.new 1 [.int .i64 (mx:Int)]).2.next:=Nat.lt_succ_self _
 simp only [sx,n2]
 generalize hbM:H1.next=bM at oM x2 x1 ⊢
 generalize (H1.new 1 [.int .i64 (mx:Int)]).2=H2 at k2 oM x2 ⊢
 obtain ⟨n3,_⟩:=C2r (H:=H2) (x:=.slice none 0 0) C4q (z:=.slice none 0 0) rfl rfl
 have k3:=Kept.new k2.wf 1 [.slice none 0 0]
 have oO:=(Sh.Obj.new (H:=H2) 1 [.slice none 0 0]).arr
 have x3:H2.next < (H2.new 1 [.slice none 0 0]).2.next:=Nat.lt_succ_self _
 have cG3:(H2.new 1 [.slice none 0 0]).2.cell ⟨bG,0,some 0⟩=some (.pointer (some ⟨g,0,some 0⟩)):=((oG.keep (k2.old bG (by omega))).keep (k3.old bG (by omega))).cell 0
 simp only [sx,n3,cG3]
 generalize hbO:H2.next=bO at oO x3 x2 ⊢
 generalize (H2.new 1 [.slice none 0 0]).2=H3 at k3 oO x3 cG3 ⊢
 have hk3:=(k1.trans k2).trans k3
 obtain ⟨r4,H4,hd4,hk4,ob,hA⟩:=C8k (h.kept hw hk3) (by omega) (most:=long) (by omega) hk3.wf
 refine ⟨_,_,hd4,?_⟩
 have hAc:isCell r4=true:=by
  obtain ⟨_,_,hb,_⟩:=hA
  exact hb.isCell
 obtain ⟨n5,s5⟩:=C2r (H:=H4) (x:=r4) (z:=.slice none 0 0) B4s rfl hAc
 have k5:=Kept.new hk4.wf 1 [r4]
 have oA:=(Sh.Obj.new (H:=H4) 1 [r4]).arr
 have x5:H4.next < (H4.new 1 [r4]).2.next:=Nat.lt_succ_self _
 simp only [sx,n5,s5]
 have x4:=hk4.next
 generalize hbA:H4.next=bA at oA x5 x4 ⊢
 generalize (H4.new 1 [r4]).2=H5 at k5 oA x5 ⊢
 obtain ⟨n6,s6⟩:=C2r (H:=H5) (x:=.func (.func 70) #[] #[.pointer (some ⟨bA,0,some 0⟩),.pointer (some ⟨bO,0,some 0⟩),.pointer (some ⟨bM,0,some 0⟩),.pointer (some ⟨bG,0,some 0⟩),.pointer (some ⟨H5.next,0,some 0⟩)]) (z:=.nilFunc) size_113 rfl rfl
 have k6:=Kept.new k5.wf 1 [.func (.func 70) #[] #[.pointer (some ⟨bA,0,some 0⟩),.pointer (some ⟨bO,0,some 0⟩),.pointer (some ⟨bM,0,some 0⟩),.pointer (some ⟨bG,0,some 0⟩),.pointer (some ⟨H5.next,0,some 0⟩)]]
 have oW:=(Sh.Obj.new (H:=H5) 1 [.func (.func 70) #[] #[.pointer (some ⟨bA,0,some 0⟩),.pointer (some ⟨bO,0,some 0⟩),.pointer (some ⟨bM,0,some 0⟩),.pointer (some ⟨bG,0,some 0⟩),.pointer (some ⟨H5.next,0,some 0⟩)]]).arr
 have x6:H5.next < (H5.new 1 [.func (.func 70) #[] #[.pointer (some ⟨bA,0,some 0⟩),.pointer (some ⟨bO,0,some 0⟩),.pointer (some ⟨bM,0,some 0⟩),.pointer (some ⟨bG,0,some 0⟩),.pointer (some ⟨H5.next,0,some 0⟩)]]).2.next:=Nat.lt_succ_self _
 have hk36:=(hk4.trans k5).trans k6
 have cG6:=((oG.keep (k2.old bG (by omega))).keep (k3.old bG (by omega))).keep (hk36.old bG (by omega))
 have cG6':=cG6.cell 0
 simp only [List.getElem?_cons_zero] at cG6'
 simp only [sx,n6,s6,cG6']
 generalize hbW:H5.next=bW at k6 oW x6 x5 hk36 cG6 ⊢
 generalize (H5.new 1 [.func (.func 70) #[] #[.pointer (some ⟨bA,0,some 0⟩),.pointer (some ⟨bO,0,some 0⟩),.pointer (some ⟨bM,0,some 0⟩),.pointer (some ⟨bG,0,some 0⟩),.pointer (some ⟨bW,0,some 0⟩)]]).2=H6 at k6 oW x6 hk36 cG6 ⊢
 have hk6:=hk3.trans hk36
 obtain ⟨r7,H0,hd7,hk7,out0,b0,hb0,hf0,hnd0,hlt0,hi0⟩:=C7m (h.kept hw hk6) hk6.wf
 have hk0:=hk6.trans hk7
 have x7:=hk7.next
 refine ⟨_,_,hd7,?_⟩
 have hk37:=hk36.trans hk7
 have hold:∀ {H':AH} {y:Nat},Chg (fun y=>y=bO∨H0.next≤y) H0 H'→y < H0.next→y≠bO→H'.objs.get y=H0.objs.get y:=fun hc hy hne=>hc.old _ hy (by rintro (h1 | h1) <;> omega)
 have hO0:OutAt H0 H0.next bO (.slice none 0 0) none none []:=⟨oO.keep (hk37.old bO (by omega)),⟨[],.void none,rfl,fun j v u hj=>by simp at hj⟩,(fun y hy=>by cases hy),by omega⟩
 have oG0:=cG6.keep (hk7.old bG (by omega))
 have oM0:=((oM.keep (k3.old bM (by omega))).keep (hk36.old bM (by omega))).keep (hk7.old bM (by omega))
 have oA0:=(oA.keep (k6.old bA (by omega))).keep (hk7.old bA (by omega))
 have oW0:=oW.keep (hk7.old bW (by omega))
 have hA0:=hA.kept hk4.wf ((k5.trans k6).trans hk7)
 have hwalk:=C6z (H0:=H0) (base:=H0.next) (bA:=bA) (bO:=bO) (bM:=bM) (bG:=bG) (bW:=bW) (mx:=mx) (long:=long) (za:=r4)
  (fun H' hc=>h.kept hw (hk0.then (Nat.le_refl _) (hc.weak fun y hy=>by rcases hy with h1 | h1 <;> omega)))
  (fun H' hc=>(oA0.keep (hold hc (by omega) (by omega))).cell 0)
  (fun H' hc j hj=>(hA0.keepR hk0.wf fun y h1 h2=>hold hc h2 (by omega)).at (by omega))
  (fun H' hc=>(oM0.keep (hold hc (by omega) (by omega))).cell 0)
  (fun H' hc=>(oG0.keep (hold hc (by omega) (by omega))).cell 0)
  (fun H' hc=>(oW0.keep (hold hc (by omega) (by omega))).cell 0)
  hsy hsl hmx (by omega)
 have hQ0:(fun t=>t∈out0)=Clo (A2c E fun k=>k < 0) fun s=>s=0:=funext fun t=>propext (hi0 t)
 have hS0:∀ {H':AH},Chg (fun y=>y=bO∨H0.next≤y) H0 H'→SetAt H' r7 n (Clo (A2c E fun k=>k < 0) fun s=>s=0):=fun {H'} hc=>
  ⟨out0,(hb0.keep fun y hy=>hold hc (hb0.lt hk7.wf y hy) (by have:=hf0 y hy; omega)).toSl,hnd0,hlt0,hi0⟩
 have fin:∀ {H':AH} {zo:Value} {oo:Option Nat} {i:Nat},i≤long+1→OutAt H' H0.next bO zo oo none ((A8m sigma.length E ends i).take mx)→(i=long+1∨mx≤((A8m sigma.length E ends i).take mx).length)→WordsN H' zo ((A8m sigma.length E ends (long+1)).take mx):=fun {H' zo oo i} hi hO hh=>by
  have he:(A8m sigma.length E ends (long+1)).take mx=(A8m sigma.length E ends i).take mx:=by
   rcases hh with h1 | h1
   ·rw [h1]
   ·obtain ⟨t,ht⟩:=B55 sigma.length E ends hi
    rw [ht,List.take_append_of_le_length]
    rw [List.length_take] at h1; omega
  rw [he]
  obtain ⟨vs,h1,h2,h3⟩:=hO.ex
  exact ⟨oo,vs,h1,h2,fun j v u hv hu=>by
   obtain ⟨o,h4,_⟩:=h3 j v u hv hu
   exact h4.toSl⟩
 have fz:A8m sigma.length E ends 0=[]:=rfl
 refine A9c (long+1) 11 (List.range' 11 22) (fun i F H'=>Chg (fun y=>y=bO∨H0.next≤y) H0 H'∧∃ zo oo,OutAt H' H0.next bO zo oo none ((A8m sigma.length E ends i).take mx)) (by simp only [sx]) ⟨Chg.refl hk0.wf,_,none,by rw [fz]; simpa using hO0⟩ ?_ ?_
 ·rintro i F H' hi hF f11 ⟨hc,zo,oo,hO⟩ k
  have f2:=hF 2 rfl
  have f4:=hF 4 rfl
  have f7:=hF 7 rfl
  have f9:=hF 9 rfl
  have f10:=hF 10 rfl
  simp only [sx,Nat.reduceEqDiff] at f2 f4 f7 f9 f10
  have cO:=hO.cell.cell 0
  simp only [List.getElem?_cons_zero] at cO
  have cM:=(oM0.keep (hold hc (by omega) (by omega))).cell 0
  have cW:=(oW0.keep (hold hc (by omega) (by omega))).cell 0
  simp only [List.getElem?_cons_zero] at cM cW
  have hlO:=C1z hO
  have hil:i≤long:=by omega
  simp only [↓Sh.dn,sx,Nat.reduceEqDiff,f2,f11,A5j,hil,decide_true,f4,f7,cO,cM,hlO,A1a]
  by_cases hfull:((A8m sigma.length E ends i).take mx).length < mx
  ·obtain ⟨r8,H8,hd8,hc8,zo8,oo8,hO8,hof8,_⟩:=hwalk i H' (Clo (A2c E fun k=>k < 0) fun s=>s=0) r7 (.slice none 0 0) [] none _ zo oo hc hc.next (hS0 hc) (fun a b h1 h2=>.step h1 h2) (.void none) (fun y hy=>by cases hy) hO (by rw [List.length_take]; omega) (by simp; omega)
   simp only [↓Sh.dn,sx,Nat.reduceEqDiff,hfull,decide_true,f9,f10,f11,cW]
   refine ⟨_,_,by first | exact hd8 | simpa using hd8,?_⟩
   simp only [A3a hi (by omega)]
   refine k _ _ (by repeat (first | refine Same.put ?_ rfl | exact Same.rfl' _)) (by simp only [sx]) ⟨hc.trans (hc8.weak fun y hy=>?_),zo8,oo8,?_⟩
   ·rcases hy with h1 | h1 | h1
    ·exact .inl h1
    ·exact .inr (hO.ob y h1).1
    ·cases h1
   ·have he : (A8m sigma.length E ends (i + 1)).take mx = ((A8m sigma.length E ends i).take mx ++ (A8j sigma.length E ends (Clo (A2c E fun k => k < 0) fun s => s = 0) i).map ([] ++ ·)).take mx := by
      rw [B8b]
      unfold A8m
      rw [List.range_succ, List.flatMap_append]
      simp
    rw [he]
    exact hO8
  ·simp only [↓Sh.dn,sx,Nat.reduceEqDiff,hfull,decide_false,f7,cO,hres]
   exact ⟨hk0.then (Nat.le_refl _) (hc.weak fun y hy=>by rcases hy with h1 | h1 <;> omega),fin (by omega) hO (.inr (by omega))⟩
 ·rintro F H' hF f11 ⟨hc,zo,oo,hO⟩
  have f2:=hF 2 rfl
  have f7:=hF 7 rfl
  simp only [sx,Nat.reduceEqDiff] at f2 f7
  have cO:=hO.cell.cell 0
  simp only [List.getElem?_cons_zero] at cO
  have hno:¬(long+1≤long):=by omega
  simp only [↓Sh.dn,sx,Nat.reduceEqDiff,f2,f7,f11,A5j,hno,decide_false,cO,hres]
  exact ⟨hk0.then (Nat.le_refl _) (hc.weak fun y hy=>by rcases hy with h1 | h1 <;> omega),fin (Nat.le_refl _) hO (.inl rfl)⟩
end Go.Proofs.YtcgbiedfbacgpaaGreat
/- (*graph.Graph).Beyond. -/
namespace Go.Proofs.YtcgbiedfbacgpaaGreat
open Go Go.Proofs Go.Proofs.Sh
end Go.Proofs.YtcgbiedfbacgpaaGreat
/- Whether lists of texts are equal; a text is put into a list; ascending lists. -/
namespace Go.Proofs.YtcgbiedfbacgpaaGreat
open Go Go.Proofs Go.Proofs.Sh
def ordW:List ByteArray→List ByteArray→Int
 | [],[]=>0
 | [],_ :: _=>-1
 | _ :: _,[]=>1
 | a :: x,b :: y=>if A3b a b=true then -1 else if a=b then ordW x y else 1
theorem B7x:∀ l,ordW l l=0
 | []=>rfl
 | a :: x=>by simp [ordW,A0k,B7x x]
theorem C6s:∀ {l m:List ByteArray},ordW l m=0↔l=m
 | [],[]=>by simp [ordW]
 | [],_ :: _=>by simp [ordW]
 | _ :: _,[]=>by simp [ordW]
 | a :: x,b :: y=>by
  unfold ordW
  by_cases h:A3b a b=true
  ·rw [if_pos h]
   constructor
   ·intro h1; cases h1
   ·intro h1; injection h1 with h1 _; rw [h1,A0k] at h; cases h
  ·rw [if_neg h]
   by_cases h2:a=b
   ·rw [if_pos h2,C6s,h2]; simp
   ·rw [if_neg h2]; simp [h2]
theorem A45:∀ {i:Nat} {l m:List ByteArray},l.take i=m.take i→ordW l m=ordW (l.drop i) (m.drop i)
 | 0,l,m,_=>rfl
 | i+1,[],[],_=>rfl
 | i+1,[],_ :: _,h=>by simp at h
 | i+1,_ :: _,[],h=>by simp at h
 | i+1,a :: x,b :: y,h=>by
  simp only [List.take_succ_cons,List.cons.injEq] at h
  obtain ⟨h1,h2⟩:=h
  subst h1
  simp only [List.drop_succ_cons]
  rw [← A45 h2]
  unfold ordW
  rw [A0k]
  cases x <;> cases y <;> simp [ordW]
theorem refOrdW {H:AH} {v u:Value} {l m:List ByteArray} (hl:Sl H v 1 (l.map A5b)) (hm:Sl H u 1 (m.map A5b)) (hll:l.length≤1048576) (hml:m.length≤1048576) (hw:Wf H):
  Sh.Call Tryz.prog (knows 7) 36 [v,u] H (fun r H'=>H'=H∧r=.int .i64 (ordW l m)):=by
 refine A2a rfl Tryz.func36 rfl (Nat.le_of_ble_eq_true rfl) ?_
 have hres:Tryz.f36.results.toList=[.tmp 4]:=rfl
 have hlen:=fun H'=>hl.len Tryz.underlying22 H'
 have mlen:=fun H'=>hm.len Tryz.underlying22 H'
 simp only [List.length_map] at hlen mlen
 simp only [↓Sh.dn,sx]
 have hmin:min l.length m.length≤1048576:=by omega
 refine A9c (min l.length m.length) 5 (List.range' 5 31) (fun i F H'=>H'=H∧l.take i=m.take i) (by simp only [sx]) ⟨rfl,rfl⟩ ?_ ?_
 ·rintro i F H' hi hF f5 ⟨rfl,htk⟩ k
  have f0:=hF 0 rfl
  have f1:=hF 1 rfl
  simp only [sx,reduceCtorEq,Nat.reduceEqDiff] at f0 f1
  have hi1:i < l.length:=by omega
  have hi2:i < m.length:=by omega
  obtain ⟨p1,hia1,hc1⟩:=Sl.elem (s:=1) Tryz.underlying22 A6j hl (i:=i) (u:=.string l[i]) (by rw [List.getElem?_map,List.getElem?_eq_getElem hi1]; rfl)
  obtain ⟨p2,hia2,hc2⟩:=Sl.elem (s:=1) Tryz.underlying22 A6j hm (i:=i) (u:=.string m[i]) (by rw [List.getElem?_map,List.getElem?_eq_getElem hi2]; rfl)
  have ho:∀ k:Int,ordW (l[i] :: l.drop (i+1)) (m[i] :: m.drop (i+1))=k→ordW l m=k:=fun k hk=>by
   rw [A45 htk,List.drop_eq_getElem_cons hi1,List.drop_eq_getElem_cons hi2]; exact hk
  have ht1:l.take (i+1)=l.take i++[l[i]]:=by rw [List.take_add_one,List.getElem?_eq_getElem hi1]; rfl
  have ht2:m.take (i+1)=m.take i++[m[i]]:=by rw [List.take_add_one,List.getElem?_eq_getElem hi2]; rfl
  generalize l[i]=x at hc1 ho ht1
  generalize m[i]=y at hc2 ho ht2
  simp only [↓Sh.dn,sx,reduceCtorEq,Nat.reduceEqDiff,f0,f1,f5,hlen,mlen,A1a,hi1,hi2,decide_true,hia1,hc1,hia2,hc2]
  cases hlt:A3b x y with
  | true=>
   have:=ho (-1) (by simp [ordW,hlt])
   simp only [↓Sh.dn,sx,hres,this]
  | false=>
   by_cases hxy:x=y
   ·simp only [↓Sh.dn,sx,reduceCtorEq,Nat.reduceEqDiff,f0,f1,f5,hia1,hc1,hia2,hc2,hxy,decide_true,A0k,wrap_succ hi hmin]
    exact k _ _ (by repeat (first | refine Same.put ?_ rfl | exact Same.rfl' _)) (by simp only [sx]) ⟨rfl,by rw [ht1,ht2,htk,hxy]⟩
   ·have:=ho 1 (by simp [ordW,hlt,hxy])
    simp only [↓Sh.dn,sx,reduceCtorEq,Nat.reduceEqDiff,f0,f1,f5,hia1,hc1,hia2,hc2,hlt,hxy,decide_false,hres,this]
 ·rintro F H' hF f5 ⟨rfl,htk⟩
  have f0:=hF 0 rfl
  have f1:=hF 1 rfl
  simp only [sx,reduceCtorEq,Nat.reduceEqDiff] at f0 f1
  by_cases h1:l.length < m.length
  ·have e:min l.length m.length=l.length:=by omega
   rw [e] at f5 htk
   have:ordW l m=-1:=by
    rw [A45 htk,List.drop_length,List.drop_eq_getElem_cons h1]; rfl
   simp only [↓Sh.dn,sx,reduceCtorEq,Nat.reduceEqDiff,f0,f1,f5,hlen,mlen,A1a,Nat.lt_irrefl,h1,decide_true,decide_false,hres,this]
  ·have e:min l.length m.length=m.length:=by omega
   rw [e] at f5 htk
   by_cases h2:m.length < l.length
   ·have : ordW l m = 1 := by
      rw [A45 htk, List.drop_length, List.drop_eq_getElem_cons h2]; rfl
    simp only [↓Sh.dn, sx, reduceCtorEq, Nat.reduceEqDiff, f0, f1, f5, hlen, mlen, A1a, Nat.lt_irrefl, h1, h2, decide_true, decide_false, hres, this]
   ·have heq : l = m := by
      rw [List.take_length, List.take_of_length_le (by omega)] at htk
      exact htk
    have : ordW l m = 0 := by rw [heq, B7x]
    simp only [↓Sh.dn, sx, reduceCtorEq, Nat.reduceEqDiff, f0, f1, f5, hlen, mlen, A1a, h1, h2, decide_false, hres, this]
theorem refOrder {H:AH} {v u:Value} {l m:List ByteArray} (hl:Sl H v 1 (l.map A5b)) (hm:Sl H u 1 (m.map A5b)) (hll:l.length≤1048576) (hml:m.length≤1048576) (hw:Wf H):
  Sh.Call Tryz.prog (knows 7) 36 [v,u] H (fun r H'=>H'=H∧∃ k:Int,r=.int .i64 k∧(k=0↔l=m)):=by
 refine (refOrdW hl hm hll hml hw).mono ?_
 rintro r H' ⟨rfl,rfl⟩
 exact ⟨rfl,_,rfl,C6s⟩
theorem refSame {H:AH} {v u:Value} {l m:List ByteArray} (hl:Sl H v 1 (l.map A5b)) (hm:Sl H u 1 (m.map A5b)) (hll:l.length≤1048576) (hml:m.length≤1048576) (hw:Wf H):
  Sh.Call Tryz.prog (knows 7) 17 [v,u] H (fun r H'=>H'=H∧r=.bool (decide (l=m))):=by
 refine A2a rfl Tryz.func17 rfl (Nat.le_of_ble_eq_true rfl) ?_
 have hres:Tryz.f17.results.toList=[.tmp 4]:=rfl
 obtain ⟨r,H1,hd,rfl,k,rfl,hk⟩:=refOrder hl hm hll hml hw
 simp only [↓Sh.dn,sx,reduceCtorEq,Nat.reduceEqDiff]
 refine ⟨_,_,hd,?_⟩
 have:decide (k=0)=decide (l=m):=decide_eq_decide.2 hk
 simp only [sx,hres,this]
structure LS (H:AH) (base:Nat) (z:Value) (l:List ByteArray) (ob:Option Nat):Prop where
 bf:Buf H 1 z (l.map A5b) ob
 fr:∀ y,ob=some y→base≤y
theorem LS.void (H:AH) (base:Nat):LS H base (.slice none 0 0) [] none:=⟨.void none,fun y hy=>by cases hy⟩
theorem LS.kept {H H':AH} {base:Nat} {z:Value} {l:List ByteArray} {ob:Option Nat} (h:LS H base z l ob) (hw:Wf H) (hk:Kept H H'):LS H' base z l ob:=⟨h.bf.kept hw hk,h.fr⟩
theorem B59 {base:Nat} {H':AH} {z:Value} {ob:Option Nat} {l:List ByteArray} (x:ByteArray) (hb:base≤H'.next) (hw:Wf H') (hl:LS H' base z l ob) (hn:l.length≤1073741823):
  ∃ a cap w' H4 ob', z = .slice a l.length cap ∧ A5a Tryz.prog 22 1 [(0, .string x)] H' = some (.slice (some ⟨H'.next, 0, some 0⟩) 1 1, (H'.new 1 [.string x]).2) ∧
      A4a Tryz.prog .append [22, 22] [.slice a l.length cap, .slice (some ⟨H'.next, 0, some 0⟩) 1 1] (H'.new 1 [.string x]).2 = some (w', H4) ∧
      LS H4 base w' (l ++ [x]) ob' ∧ Chg (fun y => ob = some y) H' H4 := by
 obtain ⟨a,cap,w',H4,ob',e1,e2,e3,e4,e5⟩:=hl.bf.push hw (x:=A5b x) rfl
 rw [List.length_map] at e1 e2
 have ha:=app1_22 (H:=H') (base:=a) (len:=l.length) (cap:=cap) (x:=A5b x) rfl hn
 rw [e2] at ha
 refine ⟨a,cap,w',H4,ob',e1,B12 (H:=H') (x:=.string x) rfl rfl,ha,⟨by rw [List.map_append]; exact e3,fun y hy=>?_⟩,e4⟩
 rcases e5 y hy with h1 | h1
 ·exact hl.fr y h1
 ·omega
theorem C9q {x:ByteArray} {l:List ByteArray} (h:Asc (x :: l)):Asc l:=fun i j a b hij ha hb=>h (i+1) (j+1) a b (by omega) (by simpa using ha) (by simpa using hb)
theorem B4r {x:ByteArray} {l:List ByteArray} (h:Asc (x :: l)) {y:ByteArray} (hy:y∈l):A3b x y=true:=by
 obtain ⟨i,hi⟩:=List.mem_iff_getElem?.1 hy
 exact h 0 (i+1) x y (by omega) rfl (by simpa using hi)
theorem C51:∀ {l m:List ByteArray},Asc l→Asc m→(∀ x,x∈l↔x∈m)→l=m
 | [],[],_,_,_=>rfl
 | [],y :: m,_,_,h=>by have:=(h y).2 List.mem_cons_self; cases this
 | x :: l,[],_,_,h=>by have:=(h x).1 List.mem_cons_self; cases this
 | x :: l,y :: m,hl,hm,h=>by
  have irr:∀ a,A3b a a=false:=A0k
  have asym:∀ a b,A3b a b=true→A3b b a=true→False:=fun a b h1 h2=>by
   have:=A8n h1 h2
   rw [irr] at this; cases this
  have hxy:x=y:=by
   rcases List.mem_cons.1 ((h x).1 List.mem_cons_self) with h1 | h1
   ·exact h1
   ·rcases List.mem_cons.1 ((h y).2 List.mem_cons_self) with h2 | h2
    ·exact h2.symm
    ·exact (asym _ _ (B4r hm h1) (B4r hl h2)).elim
  subst hxy
  congr 1
  refine C51 (C9q hl) (C9q hm) fun z=>?_
  constructor
  ·intro hz
   rcases List.mem_cons.1 ((h z).1 (List.mem_cons_of_mem _ hz)) with h1 | h1
   ·subst h1; have:=B4r hl hz; rw [irr] at this; cases this
   ·exact h1
  ·intro hz
   rcases List.mem_cons.1 ((h z).2 (List.mem_cons_of_mem _ hz)) with h1 | h1
   ·subst h1; have:=B4r hm hz; rw [irr] at this; cases this
   ·exact h1
end Go.Proofs.YtcgbiedfbacgpaaGreat
/- graph.Texts. -/
namespace Go.Proofs.YtcgbiedfbacgpaaGreat
open Go Go.Proofs Go.Proofs.Sh
theorem C8m {H:AH} {v u:Value} {sigma:List ByteArray} {w:List Nat} (hs:Sl H v 1 (sigma.map A5b)) (hu:Sl H u 1 (w.map natC)) (hwl:w.length≤1000) (hin:∀ k∈w,k < sigma.length) (hw:Wf H):
  Sh.Call Tryz.prog (knows 7) 35 [v,u] H (fun r H'=>Kept H H'∧∃ o,LS H' H.next r (w.map fun k=>sigma.getD k A8a) o):=by
 refine A2a rfl Tryz.func35 rfl (Nat.le_of_ble_eq_true rfl) ?_
 have hres:Tryz.f35.results.toList=[.tmp 4]:=rfl
 have hlen:=fun H'=>hu.len Tryz.underlying69 H'
 simp only [List.length_map] at hlen
 have hmk:A5f Tryz.prog 22 (.int .i64 0) (.int .i64 (w.length:Int)) H=some (.slice (some ⟨H.next,0,some 0⟩) 0 w.length,(H.new 1 (List.replicate w.length (.string ⟨#[]⟩))).2):=mk_22 (H:=H) (l:=0) (c:=w.length) (Nat.zero_le _) (by omega)
 have k1:=Kept.new hw 1 (List.replicate w.length (.string ⟨#[]⟩))
 have f1:=Buf.room hw (.string ⟨#[]⟩) (c:=w.length) (by omega)
 simp only [↓Sh.dn,sx,Nat.reduceEqDiff,hlen,hmk]
 have l1:LS (H.new 1 (List.replicate w.length (.string ⟨#[]⟩))).2 H.next (.slice (some ⟨H.next,0,some 0⟩) 0 w.length) [] (if w.length=0 then none else some H.next):=⟨f1,fun y hy=>by
  split at hy
  ·cases hy
  ·exact Nat.le_of_eq (Option.some.inj hy)⟩
 refine A9c w.length 13 (List.range' 13 12++[5,7]) (fun i F H'=>Kept H H'∧∃ z,F.get 5=some z∧∃ o,LS H' H.next z ((w.take i).map fun k=>sigma.getD k A8a) o) (by simp only [sx]) ⟨k1,_,by simp only [sx,Nat.reduceEqDiff],_,l1⟩ ?_ ?_
 ·rintro i F H' hi hF f13 ⟨hk,z,f5,o,hl⟩ k
  have f0:=hF 0 rfl
  have f11:=hF 11 rfl
  have f12:=hF 12 rfl
  simp only [sx,reduceCtorEq,Nat.reduceEqDiff] at f0 f11 f12
  obtain ⟨p,hia,hc⟩:=A9x Tryz.underlying69 A3c (hu.grow (hk.grow hw)) hi
  have hks:=hin _ (List.getElem_mem hi)
  have htake:w.take (i+1)=w.take i++[w[i]]:=by rw [List.take_add_one,List.getElem?_eq_getElem hi]; rfl
  generalize w[i]=x at hc htake hks
  obtain ⟨q,e1,e2⟩:=Sl.elem (s:=1) Tryz.underlying22 A6j (hs.grow (hk.grow hw)) (i:=x) (u:=.string (sigma.getD x A8a)) (by rw [List.getElem?_map,List.getElem?_eq_getElem hks]; simp [A5b,List.getD,List.getElem?_eq_getElem hks])
  obtain ⟨a,cap,w',H4,o2,rfl,e3,e4,e5,e6⟩:=B59 (sigma.getD x A8a) hk.next hk.wf hl (by rw [List.length_map,List.length_take]; omega)
  simp only [↓Sh.dn,sx,reduceCtorEq,Nat.reduceEqDiff,f0,f5,f11,f12,f13,A1a,hi,decide_true,hia,hc,e1,e2,e3,e4,A3a hi (by omega)]
  refine k _ _ (by repeat (first | refine Same.put ?_ rfl | exact Same.rfl' _)) (by simp only [sx]) ⟨hk.then (Nat.le_refl _) (e6.weak fun y hy=>hl.fr y hy),w',by simp only [sx,Nat.reduceEqDiff],o2,by rw [htake,List.map_append]; exact e5⟩
 ·rintro F H' hF f13 ⟨hk,z,f5,o,hl⟩
  have f12:=hF 12 rfl
  simp only [sx,Nat.reduceEqDiff] at f12
  rw [List.take_length] at hl
  simp only [↓Sh.dn,sx,Nat.reduceEqDiff,f5,f12,f13,A1a,Nat.lt_irrefl,decide_false,hres]
  exact ⟨hk,o,hl⟩
end Go.Proofs.YtcgbiedfbacgpaaGreat
/- (*graph.Graph).Words. -/
namespace Go.Proofs.YtcgbiedfbacgpaaGreat
open Go Go.Proofs Go.Proofs.Sh
def textOf (sigma:List ByteArray) (u:List Nat):List ByteArray:=u.map fun k=>sigma.getD k A8a
def strRow (u:List ByteArray):List (List Value):=u.map A5b
theorem B96 {H:AH} {G:Nat→Prop} {z v:Value} {oo o:Option Nat} {out:List (List ByteArray)} {u:List ByteArray} (h:RowsB strRow H G z oo out) (hw:Wf H) (hb:∀ y,H.next≤y→G y) (hv:Buf H 1 v (strRow u) o) (ho:∀ y,o=some y→G y∧oo≠some y) (hol:out.length≤1073741823):
  ∃ a cap w' H3 oo',z=.slice a out.length cap∧A5a Tryz.prog 29 1 [(0,v)] H=some (.slice (some ⟨H.next,0,some 0⟩) 1 1,(H.new 1 [v]).2)∧A4a Tryz.prog .append [29,29] [.slice a out.length cap,.slice (some ⟨H.next,0,some 0⟩) 1 1] (H.new 1 [v]).2=some (w',H3)∧RowsB strRow H3 G w' oo' (out++[u])∧Chg (fun y=>oo=some y) H H3∧∀ y,oo'=some y→oo=some y∨H.next≤y:=by
 obtain ⟨a,cap,w',H3,oo',e1,e2,e3,e4,e5⟩:=h.push hw hb hv ho
 have hvc:=hv.isCell
 have hbs:=C5w (H:=H) (x:=v) (by rw [A7b hvc]; rfl) (by rw [A7b hvc]; simp [hvc])
 rw [A7b hvc] at hbs
 have ha:=app1_29 (H:=H) (base:=a) (len:=out.length) (cap:=cap) (x:=[v]) rfl hol
 rw [e2] at ha
 exact ⟨a,cap,w',H3,oo',e1,hbs,ha,e3,e4,e5⟩
end Go.Proofs.YtcgbiedfbacgpaaGreat
/- (*graph.Graph).Arc, End, State, of a graph that keeps to its own places. -/
namespace Go.Proofs.YtcgbiedfbacgpaaGreat
open Go Go.Proofs Go.Proofs.Sh
theorem grArcX {H:AH} {X:Nat→Prop} {g:Nat} {sigma:List ByteArray} {rows:List (List (List Value))} {ends costs:List Int} {s:Nat} {r:List (List Value)} {x0 x1 x2 x3:Int}
  (h:GrX H X g sigma rows ends costs) (hr:rows[s]?=some r) (hl:r.length≤1073741823) (hw:Wf H):
  Sh.Call Tryz.prog (knows 7) 42 [.pointer (some ⟨g,0,some 0⟩),.int .i64 (s:Int),.int .i64 x0,.int .i64 x1,.int .i64 x2,.int .i64 x3] H (fun _ H'=>Chg X H H'∧GrX H' (fun y=>X y∨H.next≤y) g sigma (rows.set s (r++[[.int .i64 x0,.int .i64 x1,.int .i64 x2,.int .i64 x3]])) ends costs):=by
 obtain ⟨sv,av,ev,cv,os,ot,oe,oc,vals,obs,h,ho⟩:=h
 refine (C7j h.arr h.jag h.gj hr hl hw).mono ?_
 rintro _ H' ⟨hc,vals',obs',hj,hin⟩
 have hg:=h.arr.lt hw
 refine ⟨hc.weak fun y hy=>ho y (.inr (.inr (.inl hy))),sv,av,ev,cv,os,ot,oe,oc,vals',obs',?_,?_⟩
 ·exact { h with
  arr:=h.arr.keep (hc.old g hg h.gj)
  sg:=h.sg.chg hw hc h.sj
  jag:=hj
  en:=h.en.chg hw hc h.je
  co:=h.co.chg hw hc h.jc
  fj:=fun _ _=>Nat.zero_le _
  gj:=fun hy=>by
   rcases hin g hy with h1 | h1
   ·exact h.gj h1
   ·omega
  sj:=fun y hy hy2=>by
   rcases hin y hy2 with h1 | h1
   ·exact h.sj y hy h1
   ·have:=h.sg.lt hw y hy; omega
  je:=fun y hy hy2=>by
   rcases hin y hy2 with h1 | h1
   ·exact h.je y hy h1
   ·have:=h.en.lt hw y hy; omega
  jc:=fun y hy hy2=>by
   rcases hin y hy2 with h1 | h1
   ·exact h.jc y hy h1
   ·have:=h.co.lt hw y hy; omega }
 ·rintro y (hy | hy | hy | hy | hy)
  ·exact .inl (ho y (.inl hy))
  ·exact .inl (ho y (.inr (.inl hy)))
  ·rcases hin y hy with h1 | h1
   ·exact .inl (ho y (.inr (.inr (.inl h1))))
   ·exact .inr h1
  ·exact .inl (ho y (.inr (.inr (.inr (.inl hy)))))
  ·exact .inl (ho y (.inr (.inr (.inr (.inr hy)))))
theorem made_new {H H2:AH} {s:Nat} {vals:List Value} (hv:veqs vals vals=true) (he:H2.objs.get H.next=(H.new s vals).2.objs.get H.next):MadeQ H.next (H.new s vals).2 H2:=by
 intro x hx
 have:=Sh.Obj.new (H:=H) s vals
 unfold Sh.Obj at this
 rw [he]
 refine ⟨hx,?_⟩
 rw [this] at hx
 injection hx with hx
 subst hx
 simp [B5e,rowEq,hv]
end Go.Proofs.YtcgbiedfbacgpaaGreat
/- (*graph.Graph).Add: another graph is put into one. -/
namespace Go.Proofs.YtcgbiedfbacgpaaGreat
open Go Go.Proofs Go.Proofs.Sh
theorem GrX.setEC {H:AH} {X:Nat→Prop} {g:Nat} {sigma:List ByteArray} {rows:List (List (List Value))} {ends costs:List Int} {s:Nat} (h:GrX H X g sigma rows ends costs) (hw:Wf H) (hs:s < ends.length) (hs':s < costs.length) (x y:Int):
  ∃ ev cv p1 p2 H1 H2,H.cell ⟨g,2,some 0⟩=some ev∧H.cell ⟨g,3,some 0⟩=some cv∧H1.cell ⟨g,3,some 0⟩=some cv∧veq cv cv=true∧A9a Tryz.prog 69 ev (.int .i64 (s:Int))=some (.pointer (some p1))∧A9a Tryz.prog 69 cv (.int .i64 (s:Int))=some (.pointer (some p2))∧
   A6e Tryz.prog 3 H (.int .i64 x) (.pointer (some p1))=some H1∧A6e Tryz.prog 3 H1 (.int .i64 y) (.pointer (some p2))=some H2∧Chg X H H1∧Chg X H H2∧GrX H2 X g sigma rows (ends.set s x) (costs.set s y):=by
 obtain ⟨sv,av,ev,cv,os,ot,oe,oc,vals,obs,h,ho⟩:=h
 obtain ⟨p1,H1,i1,e1,b1,c1,n1⟩:=Buf.set (P:=Tryz.prog) h.en hw (i:=s) (x:=intC x) (by simpa using hs) rfl
 have hco1:=h.co.chg hw c1 fun y hy hye=>h.ec y hye hy
 obtain ⟨p2,H2,i2,e2,b2,c2,n2⟩:=Buf.set (P:=Tryz.prog) hco1 c1.wf (i:=s) (x:=intC y) (by simpa using hs') rfl
 have a1:=h.arr.keep (c1.old g (h.arr.lt hw) h.ge)
 have hX1:Chg X H H1:=c1.weak fun y hy=>ho y (.inr (.inr (.inr (.inl hy))))
 have hX2:Chg X H1 H2:=c2.weak fun y hy=>ho y (.inr (.inr (.inr (.inr hy))))
 have c12:Chg (fun y=>oe=some y∨oc=some y) H H2:=(c1.weak fun y hy=>.inl hy).trans (c2.weak fun y hy=>.inr hy)
 refine ⟨ev,cv,p1,p2,H1,H2,h.arr.cell 2,h.arr.cell 3,a1.cell 3,h.co.toSl.veq,i1 Tryz.underlying69 A3c,i2 Tryz.underlying69 A3c,by rw [A1c A3c rfl]; exact e1,by rw [A1c A3c rfl]; exact e2,hX1,hX1.trans hX2,sv,av,ev,cv,os,ot,oe,oc,vals,obs,{ h with arr:=h.arr.keep (c12.old g (h.arr.lt hw) ?_),sg:=h.sg.chg hw c12 ?_,jag:=h.jag.chg hw c12 ?_,en:=?_,co:=?_ },ho⟩
 ·rintro (hy | hy)
  ·exact h.ge hy
  ·exact h.gc hy
 ·rintro y hy (hy2 | hy2)
  ·exact h.se y hy hy2
  ·exact h.sc y hy hy2
 ·rintro y hy (hy2 | hy2)
  ·exact h.je y hy2 hy
  ·exact h.jc y hy2 hy
 ·rw [List.map_set]; exact b1.chg c1.wf c2 fun y hy hyc=>h.ec y hy hyc
 ·rw [List.map_set]; exact b2
end Go.Proofs.YtcgbiedfbacgpaaGreat
/- (*graph.Graph).Useful, Trim. -/
namespace Go.Proofs.YtcgbiedfbacgpaaGreat
open Go Go.Proofs Go.Proofs.Sh
def B6r (E:List (List (Nat×Int×Int×Int))) (ends:List Int) (t:Nat):Prop:=Clo (A2c E fun _=>True) (fun s=>s=0) t∧Clo (fun s t=>A2c E (fun _=>True) t s) (fun s=>0 < ends.getD s 0) t
theorem B87 {H:AH} {g n:Nat} {E:List (List (Nat×Int×Int×Int))} {ends:List Int} {sv av ev cv:Value} {vals:List Value} {sigma:List ByteArray} {costs:List Int} (h:PG H g n 60000 E ends sv av ev cv vals sigma costs) (hsg:sigma.length≤1048576) (hw:Wf H):
  Sh.Call Tryz.prog (knows 7) 57 [.pointer (some ⟨g,0,some 0⟩)] H (fun r H'=>Kept H H'∧∃ U:List Bool,∃ o,Buf H' 1 r (U.map A3l) o∧(∀ y,o=some y→H.next≤y)∧U.length=n∧∀ t:Nat,U[t]?=some true↔B6r E ends t):=by
 refine A2a rfl Tryz.func57 rfl (Nat.le_of_ble_eq_true rfl) ?_
 have hres:Tryz.f57.results.toList=[.tmp 2]:=rfl
 have hn1:=h.n1
 have hn2:=h.n2
 have hbs:=A8o (H:=H) (x:=.int .i64 0) rfl rfl
 have k1:=Kept.new hw 1 [.int .i64 0]
 have hS:Sl (H.new 1 [.int .i64 0]).2 (.slice (some ⟨H.next,0,some 0⟩) 1 1) 1 (([0]:List Nat).map natC):=
  (Buf.fresh (H:=H) (s:=1) (xs:=[natC 0]) hw (by intro x hx; rw [List.mem_singleton.1 hx]; rfl) (by simp) 1 rfl).toSl
 obtain ⟨r1,H2,hd2,hk2,B1,o1,hb1,ho1,hl1,hi1⟩:=A68 (caps:=[]) (fid:=67) (fun _=>true) (h.kept hw k1) (by decide) hS (fun t ht=>by rw [List.mem_singleton.1 ht]; exact hn1) (by decide) k1.wf (fun H' hk e=>A29 hk.wf)
 have hk12:=k1.trans hk2
 obtain ⟨r2,H3,hd3,hk3,B2,o2,hb2,ho2,hl2,hi2⟩:=A65 (h.kept hw hk12) hsg hk2.wf
 have hb13:=hb1.kept hk2.wf hk3
 have hsep:∀ y,o1=some y→o2≠some y:=fun y h1 h2=>by have:=hb1.lt hk2.wf y h1; have:=ho2 y h2; omega
 simp only [↓Sh.dn,sx,reduceCtorEq,Nat.reduceEqDiff,hbs,A6a]
 refine ⟨_,_,hd2,?_⟩
 refine ⟨_,_,hd3,?_⟩
 have hlen:=hb13.toSl.len Tryz.underlying58 H3
 rw [List.length_map,hl1] at hlen
 have k0:=hk12.trans hk3
 simp only [sx,hlen]
 refine A9c n 13 (List.range' 13 17++[5]) (fun i F H'=>Chg (fun y=>o1=some y) H3 H'∧∃ C:List Bool,Buf H' 1 r1 (C.map A3l) o1∧C.length=n∧∀ t:Nat,C[t]?=some true↔B1[t]?=some true∧(t < i→B2[t]?=some true)) (by simp only [sx]) ⟨Chg.refl hk3.wf,B1,hb13,hl1,fun t=>by simp⟩ ?_ ?_
 ·rintro i F H' hi hF f13 ⟨hc,C,hC,hCl,hCi⟩ k
  have f3:=hF 3 rfl
  have f4:=hF 4 rfl
  have f12:=hF 12 rfl
  simp only [sx,Nat.reduceEqDiff] at f3 f4 f12
  obtain ⟨c,hcx⟩:∃ c,C[i]?=some c:=⟨C[i]'(by rw [hCl]; exact hi),List.getElem?_eq_getElem _⟩
  obtain ⟨b,hbx⟩:∃ b,B2[i]?=some b:=⟨B2[i]'(by rw [hl2]; exact hi),List.getElem?_eq_getElem _⟩
  obtain ⟨p,e1,e2,e3⟩:=hC.spot Tryz.underlying58 A8h hc.wf (i:=i) (u:=.bool c) (by rw [List.getElem?_map,hcx]; rfl)
  obtain ⟨q,e4,e5⟩:=Sl.elem (s:=1) Tryz.underlying58 A8h (hb2.chg hk3.wf hc fun y hy h1=>hsep y h1 hy).toSl (i:=i) (u:=.bool b) (by rw [List.getElem?_map,hbx]; rfl)
  obtain ⟨H4,w1,w2,w3,w4⟩:=e3 (.bool (c && b))
  have st:A6e Tryz.prog 4 H' (.bool (c && b)) (.pointer (some p))=some H4:=by rw [A1c A8h rfl]; exact w1
  have hnew:∀ t:Nat,(C.set i (c && b))[t]?=some true↔B1[t]?=some true∧(t < i+1→B2[t]?=some true):=by
   intro t
   rw [List.getElem?_set,hCl,if_pos hi]
   by_cases ht:i=t
   ·subst ht
    rw [if_pos rfl]
    have:=hCi i
    rw [hcx] at this
    simp only [Option.some.injEq,Nat.lt_irrefl,false_implies,and_true] at this
    rw [hbx,← this]
    simp
   ·rw [if_neg ht,hCi t]
    constructor
    ·rintro ⟨h1,h2⟩; exact ⟨h1,fun h3=>h2 (by omega)⟩
    ·rintro ⟨h1,h2⟩; exact ⟨h1,fun h3=>h2 (by omega)⟩
  cases c with
  | true=>
   simp only [Bool.true_and] at st hnew w2
   simp only [↓Sh.dn,sx,Nat.reduceEqDiff,f3,f4,f12,f13,A1a,hi,decide_true,e1,e2,e4,e5,st,A3a hi (Nat.le_trans hn2 (by decide))]
   exact k _ _ (by repeat (first | refine Same.put ?_ rfl | exact Same.rfl' _)) (by simp only [sx]) ⟨hc.trans w3,C.set i b,by rw [List.map_set]; exact w2,by simp [hCl],hnew⟩
  | false=>
   simp only [Bool.false_and] at st hnew w2
   simp only [↓Sh.dn,sx,Nat.reduceEqDiff,f3,f12,f13,A1a,hi,decide_true,e1,e2,st,A3a hi (Nat.le_trans hn2 (by decide))]
   exact k _ _ (by repeat (first | refine Same.put ?_ rfl | exact Same.rfl' _)) (by simp only [sx]) ⟨hc.trans w3,C.set i false,by rw [List.map_set]; exact w2,by simp [hCl],hnew⟩
 ·rintro F H' hF f13 ⟨hc,C,hC,hCl,hCi⟩
  have f3:=hF 3 rfl
  have f12:=hF 12 rfl
  simp only [sx,Nat.reduceEqDiff] at f3 f12
  simp only [↓Sh.dn,sx,Nat.reduceEqDiff,f3,f12,f13,A1a,Nat.lt_irrefl,decide_false,hres]
  have hfr:∀ y,o1=some y→H.next≤y:=fun y hy=>Nat.le_trans k1.next (ho1 y hy)
  refine ⟨k0.then (Nat.le_refl _) (hc.weak hfr),C,o1,hC,hfr,hCl,fun t=>?_⟩
  rw [hCi]
  unfold B6r
  have e1:fitP E (fun _=>true)=A2c E fun _=>True:=by
   funext s t
   apply propext
   unfold fitP A2c
   simp
  have e2:(fun s=>s∈[0])=fun s=>s=0:=by funext s; simp
  rw [hi1,e1,e2,← hi2]
  constructor
  ·rintro ⟨h1,h2⟩
   refine ⟨h1,h2 ?_⟩
   have:=(hi1 t).2 (by rw [e1,e2]; exact h1)
   rw [← hl1]
   exact (List.getElem?_eq_some_iff.1 this).1
  ·rintro ⟨h1,h2⟩; exact ⟨h1,fun _=>h2⟩
end Go.Proofs.YtcgbiedfbacgpaaGreat
/- (*graph.Graph).Trim. -/
namespace Go.Proofs.YtcgbiedfbacgpaaGreat
open Go Go.Proofs Go.Proofs.Sh
def A0l (U:List Bool) (r:List (Nat×Int×Int×Int)):List (Nat×Int×Int×Int):=(r.filter fun e=>decide (U[e.1]?=some true)).map fun e=>(numU U e.1,e.2)
structure TrimI (E:List (List (Nat×Int×Int×Int))) (ends:List Int) (U:List Bool) (m i:Nat) (R:List (List (Nat×Int×Int×Int))) (es:List Int):Prop where
 lr:R.length=m
 le:es.length=m
 row:∀ s r,s < i→U[s]?=some true→E[s]?=some r→R[numU U s]?=some (A0l U r)
 non:∀ a,a < m→(∀ s,s < i→U[s]?=some true→numU U s≠a)→R[a]?=some []
 fin:∀ s,s < i→U[s]?=some true→es.getD (numU U s) 0=ends.getD s 0
 nof:∀ a,(∀ s,s < i→U[s]?=some true→numU U s≠a)→es.getD a 0=0
theorem TrimI.none (E:List (List (Nat×Int×Int×Int))) (ends:List Int) (U:List Bool) (m:Nat):TrimI E ends U m 0 (List.replicate m []) (List.replicate m 0):=
 ⟨by simp,by simp,fun s r hs=>absurd hs (Nat.not_lt_zero s),fun a ha _=>by rw [List.getElem?_replicate,if_pos ha],fun s hs=>absurd hs (Nat.not_lt_zero s),fun a _=>by
  rw [List.getD_eq_getElem?_getD,List.getElem?_replicate]; split <;> rfl⟩
section
variable {E:List (List (Nat×Int×Int×Int))} {ends:List Int} {U:List Bool} {m i:Nat} {R:List (List (Nat×Int×Int×Int))} {es:List Int}
theorem TrimI.skip (h:TrimI E ends U m i R es) (hi:U[i]?≠some true):TrimI E ends U m (i+1) R es:=by
 have key:∀ s,s < i+1→U[s]?=some true→s < i:=fun s hs hu=>by
  rcases Nat.lt_or_ge s i with h1 | h1
  ·exact h1
  ·have:s=i:=by omega
   subst this; exact absurd hu hi
 exact ⟨h.lr,h.le,fun s r hs hu=>h.row s r (key s hs hu) hu,fun a ha hn=>h.non a ha fun s hs=>hn s (by omega),fun s hs hu=>h.fin s (key s hs hu) hu,fun a hn=>h.nof a fun s hs=>hn s (by omega)⟩
theorem TrimI.add (h:TrimI E ends U m i R es) (hi:U[i]?=some true) (hm:numU U i < m) {r:List (Nat×Int×Int×Int)} (hr:E[i]?=some r) {x:Int} (hx:ends.getD i 0=x):TrimI E ends U m (i+1) (R.set (numU U i) (A0l U r)) (es.set (numU U i) x):=by
 have hne:∀ s,s < i→U[s]?=some true→numU U i≠numU U s:=fun s hs hu he=>by have:=B1t (.inl hi) (.inl hu) he; omega
 refine ⟨by simp [h.lr],by simp [h.le],fun s r' hs hu hr'=>?_,fun a ha hn=>?_,fun s hs hu=>?_,fun a hn=>?_⟩
 ·rw [List.getElem?_set,h.lr]
  by_cases hsi:s=i
  ·subst hsi
   rw [hr] at hr'
   rw [if_pos rfl,if_pos hm,Option.some.inj hr']
  ·rw [if_neg (hne s (by omega) hu)]
   exact h.row s r' (by omega) hu hr'
 ·rw [List.getElem?_set,if_neg (hn i (by omega) hi)]
  exact h.non a ha fun s hs=>hn s (by omega)
 ·rw [List.getD_eq_getElem?_getD,List.getElem?_set,h.le]
  by_cases hsi:s=i
  ·subst hsi
   rw [if_pos rfl,if_pos hm,hx]; rfl
  ·rw [if_neg (hne s (by omega) hu),← List.getD_eq_getElem?_getD]
   exact h.fin s (by omega) hu
 ·rw [List.getD_eq_getElem?_getD,List.getElem?_set,if_neg (hn i (by omega) hi),← List.getD_eq_getElem?_getD]
  exact h.nof a fun s hs=>hn s (by omega)
theorem TrimI.of {n:Nat} (h:TrimI E ends U (1+A3p U n) n R es) (hE:E.length=n) (hU:U.length=n) (hto:∀ (s:Nat) r,E[s]?=some r→∀ e∈r,e.1 < n) (hu:∀ t:Nat,U[t]?=some true↔B6r E ends t):
  TrimOf (fun x s t=>A2c E (fun k=>k=x) s t) (fun x s t=>A2c R (fun k=>k=x) s t) (fun s=>U[s]?=some true) (numU U) (fun s=>0 < ends.getD s 0) (fun s=>0 < es.getD s 0):=by
 have hlt:∀ s,U[s]?=some true→s < n:=fun s hs=>by rw [← hU]; exact (List.getElem?_eq_some_iff.1 hs).1
 refine ⟨fun x a b=>?_,fun a=>?_,B44 U,fun s t hs ht he=>B1t hs ht he,fun s=>?_⟩
 ·constructor
  ·rintro ⟨r',h1,e',h2,h3,h4⟩
   by_cases hex:∃ s,U[s]?=some true∧numU U s=a
   ·obtain ⟨s,hs,rfl⟩:=hex
    have hsn:=hlt s hs
    have hr:E[s]?=some (E[s]'(by rw [hE]; exact hsn)):=List.getElem?_eq_getElem _
    generalize E[s]'(by rw [hE]; exact hsn)=r at hr
    rw [h.row s r hsn hs hr] at h1
    rw [← Option.some.inj h1] at h2
    obtain ⟨e,h5,h6⟩:=List.mem_map.1 h2
    obtain ⟨h7,h8⟩:=List.mem_filter.1 h5
    subst h6
    exact ⟨s,e.1,hs,of_decide_eq_true h8,rfl,h3.symm,r,hr,e,h7,rfl,h4⟩
   ·have ha:a < 1+A3p U n:=by rw [← h.lr]; exact (List.getElem?_eq_some_iff.1 h1).1
    rw [h.non a ha fun s _ hs he=>hex ⟨s,hs,he⟩] at h1
    rw [← Option.some.inj h1] at h2
    cases h2
  ·rintro ⟨s,t,hs,ht,rfl,rfl,r,h1,e,h2,h3,h4⟩
   refine ⟨_,h.row s r (hlt s hs) hs h1,(numU U e.1,e.2),List.mem_map.2 ⟨e,List.mem_filter.2 ⟨h2,decide_eq_true (by rw [h3]; exact ht)⟩,rfl⟩,by rw [h3],h4⟩
 ·constructor
  ·intro ha
   by_cases hex:∃ s,U[s]?=some true∧numU U s=a
   ·obtain ⟨s,hs,rfl⟩:=hex
    exact ⟨s,hs,rfl,by rw [← h.fin s (hlt s hs) hs]; exact ha⟩
   ·rw [h.nof a fun s _ hs he=>hex ⟨s,hs,he⟩] at ha
    exact absurd ha (Int.lt_irrefl 0)
  ·rintro ⟨s,hs,rfl,h1⟩
   rw [h.fin s (hlt s hs) hs]; exact h1
 ·rw [hu]
  unfold B6r
  have e1:(A2c E fun _=>True)=fun s t=>∃ x,A2c E (fun k=>k=x) s t:=by
   funext s t
   apply propext
   unfold A2c
   constructor
   ·rintro ⟨r,h1,e,h2,h3,_⟩; exact ⟨_,r,h1,e,h2,h3,rfl⟩
   ·rintro ⟨x,r,h1,e,h2,h3,_⟩; exact ⟨r,h1,e,h2,h3,trivial⟩
  rw [e1]
end
theorem C30 {H:AH} {g n:Nat} {E:List (List (Nat×Int×Int×Int))} {ends:List Int} {sv av ev cv:Value} {vals:List Value} {sigma:List ByteArray} {costs:List Int} (h:PG H g n 60000 E ends sv av ev cv vals sigma costs) (hsg:sigma.length≤1048576) (hcl:costs.length=n) (hw:Wf H):
  Sh.Call Tryz.prog (knows 7) 26 [.pointer (some ⟨g,0,some 0⟩)] H (fun r H'=>Kept H H'∧∃ g',r=.pointer (some ⟨g',0,some 0⟩)∧∃ m R es,(∃ sv av ev cv vals cs,PG H' g' m 60000 R es sv av ev cv vals sigma cs)∧m≤n∧∃ U,
   TrimOf (fun x s t=>A2c E (fun k=>k=x) s t) (fun x s t=>A2c R (fun k=>k=x) s t) (fun s=>U[s]?=some true) (numU U) (fun s=>0 < ends.getD s 0) (fun s=>0 < es.getD s 0)):=by
 refine A2a rfl Tryz.func26 rfl (Nat.le_of_ble_eq_true rfl) ?_
 have hres:Tryz.f26.results.toList=[.tmp 2]:=rfl
 have hn1:=h.n1
 have hn2:=h.n2
 have hc0:=h.gr.arr.cell 0
 have hc1:=h.gr.arr.cell 1
 have hc2:=h.gr.arr.cell 2
 have hc3:=h.gr.arr.cell 3
 have hlenA:∀ H',A4a Tryz.prog .len [68] [av] H'=some (.int .i64 (n:Int),H'):=fun H'=>by
  rw [h.gr.jag.sl.len Tryz.underlying68,List.length_map,h.gr.jag.len]; unfold A9i; rw [List.length_map,h.le]
 obtain ⟨r1,H2,hd2,hk2,U,o1,hU,ho1,hUl,hUi⟩:=B87 h hsg hw
 have hc1a:=A2b (hk2.grow hw) hc1
 have hmk:=mk_69 (H:=H2) (l:=n) (c:=n) (Nat.le_refl _) (by omega)
 have k3:=Kept.new hk2.wf 1 (List.replicate n (.int .i64 0))
 have f3:=Buf.fill hk2.wf (.int .i64 0) (c:=n) (by omega)
 rw [if_neg (by omega)] at f3
 have hU3:=hU.kept hk2.wf k3
 have hrep:List.replicate n [Value.int .i64 0]=(numL U n 1).map natC:=by rw [numL_one,List.map_replicate]; rfl
 rw [hrep] at f3
 simp only [↓Sh.dn,sx,reduceCtorEq]
 refine ⟨_,_,hd2,?_⟩
 simp only [sx,hc1a,hlenA,hmk]
 obtain ⟨on,hon⟩:∃ on,some H2.next=on:=⟨_,rfl⟩
 have hon1:∀ y,on=some y→y=H2.next:=fun y hy=>by rw [← hon] at hy; exact (Option.some.inj hy).symm
 have hx3:H2.next < (H2.new 1 (List.replicate n (.int .i64 0))).2.next:=Nat.lt_succ_self _
 rw [hon] at f3
 have hk3:=hk2.trans k3
 have hlenN:=f3.toSl.len Tryz.underlying69 (H2.new 1 (List.replicate n (.int .i64 0))).2
 generalize (Value.slice (some ⟨H2.next,0,some 0⟩) n n)=nv at f3 hlenN ⊢
 generalize (H2.new 1 (List.replicate n (.int .i64 0))).2=H3 at f3 hU3 hk3 k3 hx3 ⊢
 have hUs:∀ y,on=some y→o1≠some y:=fun y h1 h2=>by have:=hU.lt hk2.wf y h2; have:=hon1 y h1; omega
 have hlenN:∀ {H'} i,Buf H' 1 nv ((numL U n i).map natC) on→∀ H'',A4a Tryz.prog .len [69] [nv] H''=some (.int .i64 (n:Int),H''):=fun i hb H''=>by
  rw [hb.toSl.len Tryz.underlying69]; simp [numL]
 have ik:∀ {H':AH},Chg (fun y=>on=some y) H3 H'→Kept H H':=fun hc=>hk3.then (Nat.le_refl _) (hc.weak fun y hy=>by have:=hon1 y hy; have:=hk2.next; omega)
 refine wp_from n 6 1 (List.range' 20 16++[5,6]) (fun i F H'=>Chg (fun y=>on=some y) H3 H'∧F.get 5=some (.int .i64 ((1+A3p U i:Nat):Int))∧Buf H' 1 nv ((numL U n i).map natC) on) hn1 (by simp only [sx]; rfl) ⟨Chg.refl hk3.wf,by simp only [sx,Nat.reduceEqDiff]; rfl,f3⟩ ?_ ?_
 ·rintro i F H' hi1 hi hF f6 ⟨hc,f5,hN⟩ k
  have f3':=hF 3 rfl
  have f4:=hF 4 rfl
  simp only [sx,Nat.reduceEqDiff] at f3' f4
  have hl:=hlenN i hN
  obtain ⟨b,hbx⟩:∃ b,U[i]?=some b:=⟨U[i]'(by rw [hUl]; exact hi),List.getElem?_eq_getElem _⟩
  obtain ⟨q,e4,e5⟩:=Sl.elem (s:=1) Tryz.underlying58 A8h (hU3.chg hk3.wf hc fun y hy h1=>hUs y h1 hy).toSl (i:=i) (u:=.bool b) (by rw [List.getElem?_map,hbx]; rfl)
  have hrl:=C4j U i
  simp only [↓Sh.dn,sx,Nat.reduceEqDiff,f3',f4,f6,hl,A1a,hi,decide_true,e4,e5]
  cases b with
  | true=>
   have hnu:numU U i=1+A3p U i:=by unfold numU; rw [if_pos ⟨hi1,hbx⟩]
   have hrk:A3p U (i+1)=A3p U i+1:=by rw [A3p,if_pos ⟨hi1,hbx⟩]
   obtain ⟨p,e1,e2,e3⟩:=hN.spot Tryz.underlying69 A3c hc.wf (i:=i) (u:=.int .i64 ((0:Nat):Int)) (by rw [List.getElem?_map,A26 hi,if_neg (Nat.lt_irrefl i)]; rfl)
   obtain ⟨H4,w1,w2,w3,w4⟩:=e3 (.int .i64 ((1+A3p U i:Nat):Int))
   have st:A6e Tryz.prog 3 H' (.int .i64 ((1+A3p U i:Nat):Int)) (.pointer (some p))=some H4:=by rw [A1c A3c rfl]; exact w1
   have wr:IntKind.wrap .i64 (((1+A3p U i:Nat):Int)+1)=((1+A3p U (i+1):Nat):Int):=by rw [wrap64 (by omega) (by omega)]; omega
   simp only [↓Sh.dn,sx,Nat.reduceEqDiff,f4,f5,f6,e1,st,wr,A3a hi (Nat.le_trans hn2 (by decide))]
   refine k _ _ (by repeat (first | refine Same.put ?_ rfl | exact Same.rfl' _)) (by simp only [sx]) ⟨hc.trans w3,by simp only [sx,Nat.reduceEqDiff],?_⟩
   have:(numL U n (i+1)).map natC=((numL U n i).map natC).set i [.int .i64 ((1+A3p U i:Nat):Int)]:=by rw [numL_set,List.map_set,hnu]; rfl
   rw [this]; exact w2
  | false=>
   have hnu:numU U i=0:=by unfold numU; rw [if_neg (by rw [hbx]; simp)]
   have hrk:A3p U (i+1)=A3p U i:=by rw [A3p,if_neg (by rw [hbx]; simp)]; omega
   simp only [↓Sh.dn,sx,Nat.reduceEqDiff,f6,A3a hi (Nat.le_trans hn2 (by decide))]
   exact k _ _ (by repeat (first | refine Same.put ?_ rfl | exact Same.rfl' _)) (by simp only [sx]) ⟨hc,by simp only [sx,Nat.reduceEqDiff,f5,hrk],by rw [C4t hnu]; exact hN⟩
 ·rintro F H4 hF f6 ⟨hc4,f5,hN⟩
  have f0:=hF 0 rfl
  have f3':=hF 3 rfl
  have f4:=hF 4 rfl
  simp only [sx,reduceCtorEq,Nat.reduceEqDiff] at f0 f3' f4
  have hl:=hlenN n hN
  have hk4:=ik hc4
  have hU4:=hU3.chg hk3.wf hc4 fun y hy h1=>hUs y h1 hy
  have hrl:=C4j U n
  have hm:1+A3p U n≤n:=by
   have:∀ m,1+A3p U (m+1)≤m+1:=fun m=>by
    induction m with
    | zero=>simp [A3p]
    | succ m ih=>rw [A3p]; split <;> omega
   have h1:=this (n - 1)
   rw [show n - 1+1=n by omega] at h1
   exact h1
  obtain ⟨M,hM⟩:∃ M,1+A3p U n=M:=⟨_,rfl⟩
  rw [hM] at f5 hm
  obtain ⟨r5,H5,hd5,hk5,g1,rfl,hG1⟩:=B9q (n:=M) ((h.kept hw hk4).gr.sg) hsg (by omega) hk4.wf
  have q0:=A2b (hk4.grow hw) hc0
  have hk05:=hk4.trans hk5
  have q1:=A2b (hk05.grow hw) hc1
  have hGX:GrX H5 (fun y=>H4.next≤y) g1 sigma (A9i (List.replicate M [])) (List.replicate M 0) (List.replicate M 0):=by
   have:=(hG1.own hk5.wf).mono (Z:=fun y=>H4.next≤y) fun y hy=>hy.1
   simpa [A9i] using this
  have hU5:=hU4.kept hc4.wf hk5
  have hN5:=hN.kept hc4.wf hk5
  have hUb:=hU4.lt hc4.wf
  have hNb:=hN.lt hc4.wf
  have hb4:=hk4.next
  simp only [↓Sh.dn,sx,reduceCtorEq,Nat.reduceEqDiff,f0,f4,f5,f6,hl,A1a,Nat.lt_irrefl,decide_false,q0]
  refine ⟨_,_,hd5,?_⟩
  simp only [sx,q1,hlenA]
  refine A9c n 47 (List.range' 47 72++[8,9,11]) (fun i F H'=>Chg (fun y=>H4.next≤y) H5 H'∧∃ R es cs,GrX H' (fun y=>H4.next≤y) g1 sigma (A9i R) es cs∧cs.length=M∧TrimI E ends U M i R es) (by simp only [sx]) ⟨Chg.refl hk5.wf,_,_,_,hGX,by simp,TrimI.none E ends U M⟩ ?_ ?_
  ·rintro i F' H' hi hF' f47 ⟨hc,R,es,cs,hG,hcs,hT⟩ k
   have g0:=hF' 0 rfl
   have g3:=hF' 3 rfl
   have g4:=hF' 4 rfl
   have g7:=hF' 7 rfl
   have g45:=hF' 45 rfl
   have g46:=hF' 46 rfl
   simp only [sx,reduceCtorEq,Nat.reduceEqDiff,f0,f3',f4] at g0 g3 g4 g7 g45 g46
   have hkH:Kept H H':=hk05.then hb4 hc
   obtain ⟨r,hr⟩:∃ r,E[i]?=some r:=⟨E[i]'(by rw [h.le]; exact hi),List.getElem?_eq_getElem _⟩
   obtain ⟨hrl',hrt⟩:=h.to i r hr
   obtain ⟨pr,wr,hiar,hcr,hsr,hlr⟩:=PG.row h hr
   have q2:=A2b (hkH.grow hw) hcr
   obtain ⟨b,hbx⟩:∃ b,U[i]?=some b:=⟨U[i]'(by rw [hUl]; exact hi),List.getElem?_eq_getElem _⟩
   obtain ⟨qb,e4,e5⟩:=Sl.elem (s:=1) Tryz.underlying58 A8h (hU5.chg hk5.wf hc fun y hy h1=>by have:=hUb y hy; omega).toSl (i:=i) (u:=.bool b) (by rw [List.getElem?_map,hbx]; rfl)
   simp only [↓Sh.dn,sx,Nat.reduceEqDiff,g3,g45,g46,f47,A1a,hi,decide_true,hiar,q2,e4,e5]
   cases b with
   | false=>
    simp only [↓Sh.dn,sx,Nat.reduceBEq,Nat.reduceEqDiff,f47,A3a hi (Nat.le_trans hn2 (by decide))]
    exact k _ _ (by repeat (first | refine Same.put ?_ rfl | exact Same.rfl' _)) (by simp only [sx]) ⟨hc,R,es,cs,hG,hcs,hT.skip (by rw [hbx]; simp)⟩
   | true=>
   have hnm:numU U i < M:=by rw [← hM]; exact C8y hi
   have hnil:R[numU U i]?=some []:=hT.non _ hnm fun s hs hu he=>by have:=B1t (.inl hu) (.inl hbx) he; omega
   have hR0:R.set (numU U i) (A0l U (r.take 0))=R:=by
    refine List.ext_getElem? fun a=>?_
    rw [List.getElem?_set]
    split
    ·rename_i ha; subst ha
     rw [hT.lr,if_pos hnm,hnil]; rfl
    ·rfl
   have hnum:∀ {H'':AH} {t:Nat},Chg (fun y=>H4.next≤y) H5 H''→t < n→∃ p,A9a Tryz.prog 69 nv (.int .i64 (t:Int))=some (.pointer (some p))∧H''.cell p=some (.int .i64 ((numU U t:Nat):Int)):=fun {H'' t} hc ht=>
    Sl.elem (s:=1) Tryz.underlying69 A3c (hN5.chg hk5.wf hc fun y hy h1=>by have:=hNb y hy; omega).toSl (by rw [List.getElem?_map,A26 ht,if_pos ht]; rfl)
   simp only [↓Sh.dn,sx,Nat.reduceEqDiff,hlr]
   refine A9c r.length 59 (List.range' 59 27++[11]) (fun q F'' H''=>Chg (fun y=>H4.next≤y) H5 H''∧GrX H'' (fun y=>H4.next≤y) g1 sigma (A9i (R.set (numU U i) (A0l U (r.take q)))) es cs) (by simp only [sx]) ⟨hc,by rw [hR0]; exact hG⟩ ?_ ?_
   ·rintro q F'' H'' hq hF'' f59 ⟨hc',hG'⟩ k2
    have v3:=hF'' 3 rfl
    have v4:=hF'' 4 rfl
    have v7:=hF'' 7 rfl
    have v8:=hF'' 8 rfl
    have v57:=hF'' 57 rfl
    have v58:=hF'' 58 rfl
    simp only [sx,Nat.reduceEqDiff,g3,g4,g7] at v3 v4 v7 v8 v57 v58
    have hkH2:Kept H H'':=hk05.then hb4 hc'
    obtain ⟨pe,hiae,hce⟩:=PG.edge (hsr.grow (hkH2.grow hw)) hq
    have hrq:r[q]∈r:=List.getElem_mem hq
    have htk:r.take (q+1)=r.take q++[r[q]]:=by rw [List.take_add_one,List.getElem?_eq_getElem hq]; rfl
    generalize r[q]=e at hce hrq htk
    have kn:=Kept.new hc'.wf 4 (A2f e)
    have hc3:Chg (fun y=>H4.next≤y) H5 (H''.new 4 (A2f e)).2:=hc'.trans kn.chg
    have hG3:=hG'.kept hc'.wf kn
    obtain ⟨be,hbe⟩:∃ b,U[e.1]?=some b:=⟨U[e.1]'(by rw [hUl]; exact hrt e hrq),List.getElem?_eq_getElem _⟩
    obtain ⟨qe,e6,e7⟩:=Sl.elem (s:=1) Tryz.underlying58 A8h (hU5.chg hk5.wf hc3 fun y hy h1=>by have:=hUb y hy; omega).toSl (i:=e.1) (u:=.bool be) (by rw [List.getElem?_map,hbe]; rfl)
    simp only [↓Sh.dn,sx,Nat.reduceEqDiff,f59,v3,v57,v58,hiae,hce,A1a,hq,decide_true,B5a,A6y,B2a,ge0,e6,e7]
    cases be with
    | false=>
     simp only [↓Sh.dn,sx,Nat.reduceEqDiff,f59,A3a hq (Nat.le_trans hrl' (by decide))]
     refine k2 _ _ (by repeat (first | refine Same.put ?_ rfl | exact Same.rfl' _)) (by simp only [sx]) ⟨hc3,?_⟩
     have:A0l U (r.take (q+1))=A0l U (r.take q):=by rw [htk]; unfold A0l; rw [List.filter_append]; simp [hbe]
     rw [this]; exact hG3
    | true=>
     obtain ⟨p1,i1,c1⟩:=hnum hc3 hi
     obtain ⟨p2,i2,c2⟩:=hnum hc3 (hrt e hrq)
     have hrow:(A9i (R.set (numU U i) (A0l U (r.take q))))[numU U i]?=some ((A0l U (r.take q)).map A2f):=by
      unfold A9i; rw [List.getElem?_map,List.getElem?_set,if_pos rfl,hT.lr,if_pos hnm]; rfl
     have hrll:((A0l U (r.take q)).map A2f).length≤1073741823:=by
      rw [List.length_map]; unfold A0l; rw [List.length_map]
      refine Nat.le_trans (List.length_filter_le _ _) ?_
      rw [List.length_take]; omega
     obtain ⟨rr,H6,hd6,hc6,hG6⟩:=grArcX (x0:=((numU U e.1:Nat):Int)) (x1:=e.2.1) (x2:=e.2.2.1) (x3:=e.2.2.2) hG3 hrow hrll hc3.wf
     simp only [↓Sh.dn,sx]
     refine (A7a (by kernel_rfl)).2 ?_
     simp only [↓Sh.dn,sx,Nat.reduceEqDiff,f59,v4,v7,v8,ge0,ge1,ge2,ge3,i1,c1,i2,c2]
     refine ⟨_,_,hd6,?_⟩
     simp only [A3a hq (Nat.le_trans hrl' (by decide))]
     refine k2 _ _ (by repeat (first | refine Same.put ?_ rfl | exact Same.rfl' _)) (by simp only [sx]) ⟨hc3.trans hc6,?_⟩
     have h5:=hc3.next
     have h6:=hk5.next
     have hrs:A9i (R.set (numU U i) (A0l U (r.take (q+1))))=(A9i (R.set (numU U i) (A0l U (r.take q)))).set (numU U i) ((A0l U (r.take q)).map A2f++[[.int .i64 ((numU U e.1:Nat):Int),.int .i64 e.2.1,.int .i64 e.2.2.1,.int .i64 e.2.2.2]]):=by
      have:A0l U (r.take (q+1))=A0l U (r.take q)++[(numU U e.1,e.2)]:=by rw [htk]; unfold A0l; rw [List.filter_append]; simp [hbe]
      rw [this]; unfold A9i; rw [List.map_set,List.map_set,List.set_set]; simp [A2f]
     rw [hrs]
     exact hG6.mono fun y hy=>by rcases hy with hy | hy <;> omega
   ·rintro F'' H'' hF'' f59 ⟨hc',hG'⟩
    have g0':=hF'' 0 rfl
    have g4':=hF'' 4 rfl
    have g7':=hF'' 7 rfl
    have g8':=hF'' 8 rfl
    have g47:=hF'' 47 rfl
    have g58:=hF'' 58 rfl
    simp only [sx,reduceCtorEq,Nat.reduceEqDiff,g0,g4,g7,f47] at g0' g4' g7' g8' g47 g58
    rw [List.take_length] at hG'
    have hkH2:Kept H H'':=hk05.then hb4 hc'
    have hPG:=h.kept hw hkH2
    have hie:i < ends.length:=by rw [h.ln]; exact hi
    have hic:i < costs.length:=by rw [hcl]; exact hi
    have z2:=hPG.gr.arr.cell 2
    have z3:=hPG.gr.arr.cell 3
    obtain ⟨pa,ia,ca⟩:=Sl.elem (s:=1) Tryz.underlying69 A3c hPG.gr.en (i:=i) (u:=.int .i64 ends[i]) (by rw [List.getElem?_map,List.getElem?_eq_getElem hie]; rfl)
    obtain ⟨pb,ib,cb⟩:=Sl.elem (s:=1) Tryz.underlying69 A3c hPG.gr.co (i:=i) (u:=.int .i64 costs[i]) (by rw [List.getElem?_map,List.getElem?_eq_getElem hic]; rfl)
    obtain ⟨p1,i1,c1⟩:=hnum hc' hi
    obtain ⟨ev',cv',pe,pc,K1,K2,x1,x2,x3,x4,x5,x6,x7,x8,x9,x10,x11⟩:=GrX.setEC (s:=numU U i) hG' hc'.wf (by rw [hT.le]; exact hnm) (by rw [hcs]; exact hnm) ends[i] costs[i]
    simp only [↓Sh.dn,sx,Nat.reduceBEq,f59,g58,A1a,Nat.lt_irrefl,decide_false]
    refine (A7a (by kernel_rfl)).2 ?_
    simp only [↓Sh.dn,sx,reduceCtorEq,Nat.reduceEqDiff,g0',g4',g7',g8',g47,z2,z3,ia,ca,ib,cb,i1,c1,x1,x2,x5,x6,x7,x8,A3a hi (Nat.le_trans hn2 (by decide))]
    refine k _ _ ?_ (by simp only [sx]) ⟨hc'.trans x10,_,_,_,x11,by rw [List.length_set]; exact hcs,hT.add hbx hnm hr (by simp [List.getD,List.getElem?_eq_getElem hie])⟩
    ·repeat refine Same.put ?_ rfl
     exact Same.trans (by repeat (first | refine Same.put ?_ rfl | exact Same.rfl' _)) (hF''.sub rfl)
  ·rintro F' H' hF' f47 ⟨hc,R,es,cs,hG,hcs,hT⟩
   have g7:=hF' 7 rfl
   have g46:=hF' 46 rfl
   simp only [sx,Nat.reduceEqDiff] at g7 g46
   simp only [↓Sh.dn,sx,Nat.reduceEqDiff,g7,g46,f47,A1a,Nat.lt_irrefl,decide_false,hres]
   obtain ⟨sv',av',ev',cv',vals',hR⟩:=hG.read
   rw [← hM] at hT
   have hof:=hT.of h.le hUl (fun s r hr=>(h.to s r hr).2) hUi
   refine ⟨hk05.then hb4 hc,g1,rfl,M,R,es,⟨sv',av',ev',cv',vals',cs,hR,by rw [← hM]; exact hT.lr,by rw [← hM]; exact hT.le,by omega,by omega,fun s r hr=>?_⟩,hm,U,hof⟩
   by_cases hex:∃ t,U[t]?=some true∧numU U t=s
   ·obtain ⟨t,ht,rfl⟩:=hex
    have htn:t < n:=by rw [← hUl]; exact (List.getElem?_eq_some_iff.1 ht).1
    have hr0:E[t]?=some (E[t]'(by rw [h.le]; exact htn)):=List.getElem?_eq_getElem _
    generalize E[t]'(by rw [h.le]; exact htn)=r0 at hr0
    rw [hT.row t r0 htn ht hr0] at hr
    rw [← Option.some.inj hr]
    obtain ⟨b1,b2⟩:=h.to t r0 hr0
    refine ⟨by unfold A0l; rw [List.length_map]; exact Nat.le_trans (List.length_filter_le _ _) b1,fun e he=>?_⟩
    obtain ⟨e0,he0,rfl⟩:=List.mem_map.1 he
    have:=b2 e0 (List.mem_filter.1 he0).1
    rw [← hM]
    exact C8y this
   ·have hs:=(List.getElem?_eq_some_iff.1 hr).1
    rw [hT.lr] at hs
    rw [hT.non s hs fun t _ ht he=>hex ⟨t,ht,he⟩] at hr
    rw [← Option.some.inj hr]
    exact ⟨Nat.zero_le _,fun e he=>by cases he⟩
end Go.Proofs.YtcgbiedfbacgpaaGreat
/- Whether a text of a list is too long for a symbol. -/
namespace Go.Proofs.YtcgbiedfbacgpaaGreat
open Go Go.Proofs Go.Proofs.Sh
theorem anyLong {H:AH} {v:Value} {l:List ByteArray} (hs:Sl H v 1 (l.map A5b)) (hl:l.length≤1048576) (hw:Wf H):
  Sh.Call Tryz.prog (knows 7) 82 [v] H (fun r H'=>Kept H H'∧r=.bool (l.any fun s=>decide (16 < s.size))):=by
 refine A2a rfl Tryz.func82 rfl (Nat.le_of_ble_eq_true rfl) ?_
 have hres:Tryz.f82.results.toList=[.tmp 2]:=rfl
 have hlen:=hs.len Tryz.underlying22 H
 simp only [↓Sh.dn,sx]
 refine A3w l.length (fun i F H'=>H'=H∧F.get 0=some v∧F.get 3=some (.int .i64 (i:Int))∧(l.take i).any (fun s=>decide (16 < s.size))=false) (Nat.zero_le _) ⟨rfl,by simp only [sx,reduceCtorEq],by simp only [sx]; rfl,rfl⟩ ?_
 rintro i F H' hi ⟨rfl,f0,f3,hall⟩ k
 by_cases hlt:i < l.length
 ·obtain ⟨g,o,kk,hia,hc,hcc⟩:=hs.at Tryz.underlying22 A6j (i:=i) (x:=A5b l[i]) (by simp [hlt]) .i64
  have hy:=hcc 0 _ rfl
  simp only [Nat.add_zero] at hy
  have hc16:decide ((16:Int) < ((l[i].size:Nat):Int))=decide (16 < l[i].size):=by
   by_cases h:16 < l[i].size
   ·simp [h]; omega
   ·simp [h]; omega
  simp only [↓Sh.dn,sx,reduceCtorEq,Nat.reduceEqDiff,↓Sh.wp_cond,f0,f3,hlen,hia,hy,List.length_map,A1a,hlt,hc16,decide_true,reduceCtorEq,hres]
  refine ⟨fun h=>⟨Kept.refl hw,?_⟩,fun h=>k _ _ hlt ⟨rfl,by simp only [sx,reduceCtorEq,f0],by simp only [sx,wrap_succ hlt hl],?_⟩⟩
  ·have:(l.any fun s=>decide (16 < s.size))=true:=List.any_eq_true.2 ⟨_,List.getElem_mem hlt,h⟩
   rw [this]
  ·rw [List.take_add_one,List.getElem?_eq_getElem hlt]
   simp only [Option.toList,List.any_append,hall,Bool.false_or,List.any_cons,List.any_nil,Bool.or_false]
   exact h
 ·have hin:i=l.length:=by omega
  subst hin
  rw [List.take_length] at hall
  simp only [↓Sh.dn,sx,reduceCtorEq,Nat.reduceEqDiff,↓Sh.wp_cond,f0,f3,hlen,List.length_map,A1a,hlt,decide_false,reduceCtorEq,hres]
  exact ⟨Kept.refl hw,by rw [hall]⟩
end Go.Proofs.YtcgbiedfbacgpaaGreat
/- Whether a text is a symbol. -/
namespace Go.Proofs.YtcgbiedfbacgpaaGreat
open Go Go.Proofs Go.Proofs.Sh
def badByte (u:UInt8):Bool:=decide (u.toNat < 33) || decide (126 < u.toNat) || decide (u.toNat=60) || decide (u.toNat=62)
def A5y (s:ByteArray):Bool:=!s.data.toList.any badByte && decide (1≤s.size) && decide (s.size≤16)
theorem isSymbol {H:AH} {x:ByteArray} (hl:x.size≤1048576) (hw:Wf H):
  Sh.Call Tryz.prog (knows 7) 103 [.string x] H (fun r H'=>H'=H∧r=.bool (A5y x)):=by
 refine A2a rfl Tryz.func103 rfl (Nat.le_of_ble_eq_true rfl) ?_
 have hres:Tryz.f103.results.toList=[.tmp 2]:=rfl
 have hsz:x.data.toList.length=x.size:=by rw [Array.length_toList]; rfl
 simp only [↓Sh.dn,sx]
 refine A3w x.size (fun i F H'=>H'=H∧F.get 0=some (.string x)∧F.get 3=some (.int .i64 (i:Int))∧(x.data.toList.take i).any badByte=false) (Nat.zero_le _) ⟨rfl,by simp only [sx,reduceCtorEq],by simp only [sx]; rfl,rfl⟩ ?_
 rintro i F H' hi ⟨rfl,f0,f3,hall⟩ k
 by_cases hlt:i < x.size
 ·obtain ⟨u,hu⟩:∃ u,x.data.toList[i]?=some u:=⟨x.data.toList[i]'(by omega),List.getElem?_eq_getElem (by omega)⟩
  have hix:=B3k (P:=Tryz.prog) (j:=.i64) Tryz.underlying9 hu
  have e33:decide ((u.toNat:Int) < 33)=decide (u.toNat < 33):=by by_cases h:u.toNat < 33 <;> simp [h] <;> omega
  have e126:decide (126 < (u.toNat:Int))=decide (126 < u.toNat):=by by_cases h:126 < u.toNat <;> simp [h] <;> omega
  have e60:decide ((u.toNat:Int)=60)=decide (u.toNat=60):=by by_cases h:u.toNat=60 <;> simp [h]; omega
  have e62:decide ((u.toNat:Int)=62)=decide (u.toNat=62):=by by_cases h:u.toNat=62 <;> simp [h]; omega
  have hstep:badByte u=false→(x.data.toList.take (i+1)).any badByte=false:=by
   intro h
   rw [List.take_add_one,hu]
   simp only [Option.toList,List.any_append,hall,Bool.false_or,List.any_cons,List.any_nil,Bool.or_false]
   exact h
  have hbad:badByte u=true→A5y x=false:=by
   intro h
   have:x.data.toList.any badByte=true:=List.any_eq_true.2 ⟨_,List.mem_of_getElem? hu,h⟩
   simp [A5y,this]
  have hgo:badByte u=(decide (u.toNat < 33) || decide (126 < u.toNat) || decide (u.toNat=60) || decide (u.toNat=62)):=rfl
  have five:∀ a b c d:Bool,a=true∨(a=false∧b=true)∨(a=false∧b=false∧c=true)∨(a=false∧b=false∧c=false∧d=true)∨(a=false∧b=false∧c=false∧d=false):=by decide
  rcases five (decide (u.toNat < 33)) (decide (126 < u.toNat)) (decide (u.toNat=60)) (decide (u.toNat=62)) with h1 | ⟨h1,h2⟩ | ⟨h1,h2,h3⟩ | ⟨h1,h2,h3,h4⟩ | ⟨h1,h2,h3,h4⟩ <;> simp only [*,Bool.or_true,Bool.or_false,Bool.true_or] at hgo
  ·simp only [↓Sh.dn,sx,reduceCtorEq,Nat.reduceEqDiff,f0,f3,hix,A1a,hlt,e33,h1,decide_true,hres,hbad hgo]
  ·simp only [↓Sh.dn,sx,reduceCtorEq,Nat.reduceEqDiff,f0,f3,hix,A1a,hlt,e33,e126,h1,h2,decide_true,hres,hbad hgo]
  ·simp only [↓Sh.dn,sx,reduceCtorEq,Nat.reduceEqDiff,f0,f3,hix,A1a,hlt,e33,e126,e60,h1,h2,h3,decide_true,hres,hbad hgo]
  ·simp only [↓Sh.dn,sx,reduceCtorEq,Nat.reduceEqDiff,f0,f3,hix,A1a,hlt,e33,e126,e60,e62,h1,h2,h3,h4,decide_true,hres,hbad hgo]
  ·simp only [↓Sh.dn,sx,reduceCtorEq,Nat.reduceEqDiff,f0,f3,hix,A1a,hlt,e33,e126,e60,e62,h1,h2,h3,h4,decide_true,hres]
   exact k _ _ hlt ⟨rfl,by simp only [sx,reduceCtorEq,f0],by simp only [sx,wrap_succ hlt hl],hstep hgo⟩
 ·have hin:i=x.size:=by omega
  subst hin
  rw [← hsz,List.take_length] at hall
  have e1:decide ((1:Int)≤((x.size:Nat):Int))=decide (1≤x.size):=by by_cases h:1≤x.size <;> simp [h] <;> omega
  have e16:decide (((x.size:Nat):Int)≤16)=decide (x.size≤16):=by by_cases h:x.size≤16 <;> simp [h] <;> omega
  cases h1:decide (1≤x.size) <;>
   simp only [↓Sh.dn,sx,reduceCtorEq,Nat.reduceEqDiff,f0,f3,A1a,hlt,e1,e16,h1,decide_false,reduceCtorEq,hres] <;>
   simp [A5y,hall,h1]
end Go.Proofs.YtcgbiedfbacgpaaGreat
/- Whether all texts of a list are symbols. -/
namespace Go.Proofs.YtcgbiedfbacgpaaGreat
open Go Go.Proofs Go.Proofs.Sh
theorem C9n {H:AH} {v:Value} {l:List ByteArray} (hs:Sl H v 1 (l.map A5b)) (hl:l.length≤1048576) (hlx:∀ x∈l,x.size≤1048576) (hw:Wf H):
  Sh.Call Tryz.prog (knows 7) 83 [v] H (fun r H'=>H'=H∧r=.bool (l.all A5y)):=by
 refine A2a rfl Tryz.func83 rfl (Nat.le_of_ble_eq_true rfl) ?_
 have hres:Tryz.f83.results.toList=[.tmp 2]:=rfl
 have hlen:=hs.len Tryz.underlying22 H
 simp only [↓Sh.dn,sx]
 refine A3w l.length (fun i F H'=>H'=H∧F.get 0=some v∧F.get 3=some (.int .i64 (i:Int))∧(l.take i).all A5y=true) (Nat.zero_le _) ⟨rfl,by simp only [sx,reduceCtorEq],by simp only [sx]; rfl,rfl⟩ ?_
 rintro i F H' hi ⟨rfl,f0,f3,hall⟩ k
 by_cases hlt:i < l.length
 ·obtain ⟨g,o,kk,hia,hc,hcc⟩:=hs.at Tryz.underlying22 A6j (i:=i) (x:=A5b l[i]) (by simp [hlt]) .i64
  have hy:=hcc 0 _ rfl
  simp only [Nat.add_zero] at hy
  obtain ⟨r,H1,hd,rfl,rfl⟩:=isSymbol (H:=H') (x:=l[i]) (hlx _ (List.getElem_mem hlt)) hw
  simp only [↓Sh.dn,sx,reduceCtorEq,Nat.reduceEqDiff,f0,f3,hlen,hia,hy,List.length_map,A1a,hlt,decide_true,reduceCtorEq,hres]
  refine ⟨_,_,hd,?_⟩
  cases hsy:A5y l[i] with
  | false=>
   have:l.all A5y=false:=by
    rw [List.all_eq_false]
    exact ⟨_,List.getElem_mem hlt,by simp [hsy]⟩
   simp only [↓Sh.dn,sx,this]
  | true=>
   simp only [↓Sh.dn,sx,Nat.reduceEqDiff,f3]
   refine k _ _ hlt ⟨rfl,by simp only [sx,reduceCtorEq,f0],by simp only [sx,wrap_succ hlt hl],?_⟩
   rw [List.take_add_one,List.getElem?_eq_getElem hlt]
   simp only [Option.toList,List.all_append,hall,List.all_cons,List.all_nil,Bool.and_true,hsy]
 ·have hin:i=l.length:=by omega
  subst hin
  rw [List.take_length] at hall
  simp only [↓Sh.dn,sx,reduceCtorEq,Nat.reduceEqDiff,f0,f3,hlen,List.length_map,A1a,hlt,decide_false,reduceCtorEq,hres]
  rw [hall]
end Go.Proofs.YtcgbiedfbacgpaaGreat
/- Whether texts ascend. -/
namespace Go.Proofs.YtcgbiedfbacgpaaGreat
open Go Go.Proofs Go.Proofs.Sh
def ascB:List ByteArray→Bool
 | x :: y :: l=>A3b x y && ascB (y :: l)
 | _=>true
theorem A51:∀ {l:List ByteArray},ascB l=true↔∀ (i:Nat) x y,l[i]?=some x→l[i+1]?=some y→A3b x y=true
 | []=>by simp [ascB]
 | [a]=>by simp [ascB]
 | a :: b :: l=>by
  simp only [ascB,Bool.and_eq_true,A51 (l:=b :: l)]
  constructor
  ·rintro ⟨h1,h2⟩ i x y hx hy
   cases i with
   | zero=>simp only [List.getElem?_cons_zero,List.getElem?_cons_succ,Option.some.injEq] at hx hy; subst hx hy; exact h1
   | succ i=>exact h2 i x y (by simpa using hx) (by simpa using hy)
  ·intro h
   exact ⟨h 0 a b rfl rfl,fun i x y hx hy=>h (i+1) x y (by simpa using hx) (by simpa using hy)⟩
theorem asc_of {l:List ByteArray} (h:ascB l=true):Asc l:=by
 rw [A51] at h
 intro i j x y hij hx hy
 obtain ⟨d,rfl⟩:∃ d,j=i+1+d:=⟨j - i - 1,by omega⟩
 induction d generalizing y with
 | zero=>exact h i x y hx hy
 | succ d ih=>
  have hjl:=(List.getElem?_eq_some_iff.1 hy).1
  have hz:l[i+1+d]?=some (l[i+1+d]'(by omega)):=List.getElem?_eq_getElem (by omega)
  exact A8n (ih _ (by omega) hz) (h _ _ _ hz hy)
theorem isSet {H:AH} {v:Value} {l:List ByteArray} (hs:Sl H v 1 (l.map A5b)) (hl:l.length≤1048576) (hw:Wf H):
  Sh.Call Tryz.prog (knows 7) 84 [v] H (fun r H'=>H'=H∧r=.bool (ascB l)):=by
 refine A2a rfl Tryz.func84 rfl (Nat.le_of_ble_eq_true rfl) ?_
 have hres:Tryz.f84.results.toList=[.tmp 2]:=rfl
 have hlen:=hs.len Tryz.underlying22 H
 simp only [↓Sh.dn,sx]
 refine A1b (fun m F H'=>H'=H∧∃ i:Nat,m=l.length - i∧1≤i∧F.get 0=some v∧F.get 3=some (.int .i64 (i:Int))∧(∀ (j:Nat) x y,j+1 < i→l[j]?=some x→l[j+1]?=some y→A3b x y=true)) (m:=l.length - 1) ⟨rfl,1,rfl,Nat.le_refl _,by simp only [sx,reduceCtorEq],by simp only [sx]; rfl,fun j x y h=>by omega⟩ ?_
 rintro m F H' ⟨rfl,i,rfl,h1,f0,f3,hall⟩ k
 by_cases hlt:i < l.length
 ·obtain ⟨g,o,kk,hia,hc,hcc⟩:=hs.at Tryz.underlying22 A6j (i:=i) (x:=A5b l[i]) (by simp [hlt]) .i64
  have hy:=hcc 0 _ rfl
  obtain ⟨g',o',kk',hia',hc',hcc'⟩:=hs.at Tryz.underlying22 A6j (i:=i - 1) (x:=A5b (l[i - 1]'(by omega))) (by simp [List.getElem?_eq_getElem (show i - 1 < l.length by omega)]) .i64
  have hy':=hcc' 0 _ rfl
  have hw1:IntKind.wrap .i64 ((i:Int) - 1)=((i - 1:Nat):Int):=by rw [wrap64 (by omega) (by omega)]; omega
  simp only [Nat.add_zero] at hy hy'
  simp only [↓Sh.dn,sx,reduceCtorEq,Nat.reduceEqDiff,↓Sh.wp_cond,f0,f3,hlen,hia,hia',hy,hy',hw1,List.length_map,A1a,hlt,decide_true,reduceCtorEq,hres,Bool.not_eq_true',Bool.not_eq_false']
  have hx1:l[i - 1]?=some (l[i - 1]'(by omega)):=List.getElem?_eq_getElem (by omega)
  have hx2:l[i - 1+1]?=some l[i]:=by rw [show i - 1+1=i by omega]; exact List.getElem?_eq_getElem hlt
  refine ⟨fun h=>?_,fun h=>k (l.length - (i+1)) _ _ (by omega) ⟨rfl,i+1,rfl,by omega,by simp only [sx,reduceCtorEq,f0],by simp only [sx,wrap_succ hlt hl],fun j x y hj hx hy=>?_⟩⟩
  ·have : ascB l = false := by
     cases hb : ascB l with
     | false => rfl
     | true => rw [A51.1 hb _ _ _ hx1 hx2] at h; cases h
   rw [this]
  ·by_cases hji:j+1 < i
   ·exact hall j x y hji hx hy
   ·have:j=i - 1:=by omega
    subst this
    rw [hx1] at hx
    rw [hx2] at hy
    rw [← Option.some.inj hx,← Option.some.inj hy]
    exact h
 ·simp only [↓Sh.dn,sx,reduceCtorEq,Nat.reduceEqDiff,↓Sh.wp_cond,f0,f3,hlen,List.length_map,A1a,hlt,decide_false,reduceCtorEq,hres]
  have:ascB l=true:=A51.2 fun j x y hx hy=>hall j x y (by have:=(List.getElem?_eq_some_iff.1 hy).1; omega) hx hy
  rw [this]
end Go.Proofs.YtcgbiedfbacgpaaGreat
/- What is wrong with an alphabet, by the reference. -/
namespace Go.Proofs.YtcgbiedfbacgpaaGreat
open Go Go.Proofs Go.Proofs.Sh
def A0u (l:List ByteArray):Bool:=l.any fun s=>decide (16 < s.size)
def A4k (l:List ByteArray):Int:=if (decide (40 < l.length) || A0u l)=true then 3 else if (l.all A5y && ascB l)=true then 0 else 1
theorem refSigma {H:AH} {v:Value} {l:List ByteArray} (hs:Sl H v 1 (l.map A5b)) (hl:l.length≤1048576) (hlx:∀ x∈l,x.size≤1048576) (hw:Wf H):
  Sh.Call Tryz.prog (knows 7) 45 [v] H (fun r H'=>Kept H H'∧r=.int .i64 (A4k l)):=by
 refine A2a rfl Tryz.func45 rfl (Nat.le_of_ble_eq_true rfl) ?_
 have hres:Tryz.f45.results.toList=[.tmp 2]:=rfl
 have hlen:=hs.len Tryz.underlying22 H
 have e40:decide ((40:Int) < ((l.length:Nat):Int))=decide (40 < l.length):=by by_cases h:40 < l.length <;> simp [h] <;> omega
 simp only [↓Sh.dn,sx,reduceCtorEq,hlen,List.length_map,e40]
 by_cases h40:40 < l.length
 ·simp only [↓Sh.dn,sx,Nat.reduceEqDiff,h40,decide_true,hres,A4k,Kept.refl hw]
 ·simp only [↓Sh.dn,sx,reduceCtorEq,Nat.reduceEqDiff,h40,decide_false]
  obtain ⟨r1,H1,hd1,hk1,rfl⟩:=anyLong hs hl hw
  refine ⟨_,_,hd1,?_⟩
  cases hL:(l.any fun s=>decide (16 < s.size)) with
  | true=>simp only [↓Sh.dn,sx,hres,hL,A4k,A0u,h40,decide_false,hk1]
  | false=>
   simp only [↓Sh.dn,sx,reduceCtorEq,reduceCtorEq]
   obtain ⟨r2,H2,hd2,rfl,rfl⟩:=C9n (hs.grow (hk1.grow hw)) hl hlx hk1.wf
   refine ⟨_,_,hd2,?_⟩
   cases hA:l.all A5y with
   | false=>simp only [↓Sh.dn,sx,Nat.reduceEqDiff,hres,hL,hA,A4k,A0u,h40,decide_false,hk1]
   | true=>
    obtain ⟨r3,H3,hd3,rfl,rfl⟩:=isSet (hs.grow (hk1.grow hw)) hl hk1.wf
    simp only [↓Sh.dn,sx,reduceCtorEq,Nat.reduceEqDiff,reduceCtorEq]
    refine ⟨_,_,hd3,?_⟩
    cases hS:ascB l with
    | true=>simp only [↓Sh.dn,sx,hres,hL,hA,hS,A4k,A0u,h40,decide_false,hk1]
    | false=>simp only [↓Sh.dn,sx,hres,hL,hA,hS,A4k,A0u,h40,decide_false,hk1]
end Go.Proofs.YtcgbiedfbacgpaaGreat
/- sort.Search: the first place at which a question that stays true is true. -/
namespace Go.Proofs.YtcgbiedfbacgpaaGreat
open Go Go.Proofs Go.Proofs.Sh
theorem half (a b:Nat) (h:a+b < 2097152):A4l false .u64 (IntKind.wrap .u64 (IntKind.wrap .i64 ((a:Int)+(b:Int)))) 1=some (.int .u64 (((a+b) / 2:Nat):Int)):=by
 rw [wrap64 (by omega) (by omega)]
 have e:IntKind.wrap .u64 ((a:Int)+(b:Int))=((a+b:Nat):Int):=by
  simp only [IntKind.wrap]
  simp [IntKind.bits,IntKind.signed]
  omega
 rw [e]
 simp only [A4l,A2l]
 simp [IntKind.bits,Int.fdiv_eq_ediv]
theorem search {H:AH} {n fid:Nat} {caps:List Value} (p:Nat→Bool) (hn:n≤1048576) (hp:∀ i,i < n→Sh.Call Tryz.prog (knows 7) fid (.int .i64 (i:Int) :: caps) H (fun r H'=>r=.bool (p i)∧H'=H)) (hm:∀ a b,a≤b→b < n→p a=true→p b=true) (hw:Wf H):
  Sh.Call Tryz.prog (knows 7) 104 [.int .i64 (n:Int),.func (.func fid) #[] caps.toArray] H (fun r H'=>H'=H∧∃ k:Nat,r=.int .i64 (k:Int)∧k≤n∧(∀ i,i < k→p i=false)∧(∀ i,k≤i→i < n→p i=true)):=by
 refine A2a rfl Tryz.func104 rfl (Nat.le_of_ble_eq_true rfl) ?_
 have hres:Tryz.f104.results.toList=[.tmp 4]:=rfl
 simp only [↓Sh.dn,sx,reduceCtorEq,Nat.reduceEqDiff]
 refine A1b (fun m F H'=>H'=H∧∃ a b:Nat,m=b - a∧a≤b∧b≤n∧F.get 5=some (.int .i64 (a:Int))∧F.get 6=some (.int .i64 (b:Int))∧F.get 1=some (.func (.func fid) #[] caps.toArray)∧(∀ i,i < a→p i=false)∧(∀ i,b≤i→i < n→p i=true)) (m:=n) ⟨rfl,0,n,by omega,by omega,by omega,by simp only [sx,Nat.reduceEqDiff]; rfl,by simp only [sx],by simp only [sx,Nat.reduceEqDiff],fun i h=>by omega,fun i h1 h2=>by omega⟩ ?_
 rintro m F H' ⟨rfl,a,b,rfl,hab,hbn,f5,f6,f1,hlo,hhi⟩ k
 by_cases hlt:a < b
 ·obtain ⟨r,H1,hd,rfl,rfl⟩:=hp ((a+b) / 2) (by omega)
  have hw2:IntKind.wrap .i64 (((a+b) / 2:Nat):Int)=(((a+b) / 2:Nat):Int):=wrap64 (by omega) (by omega)
  simp only [↓Sh.dn,sx,Nat.reduceEqDiff,f5,f6,f1,A1a,hlt,decide_true,C4l,half a b (by omega),hw2]
  refine ⟨_,_,hd,?_⟩
  cases hpv:p ((a+b) / 2) with
  | false=>
   have hw3:IntKind.wrap .i64 ((((a+b) / 2:Nat):Int)+1)=(((a+b) / 2+1:Nat):Int):=wrap_succ (n:=n) (by omega) hn
   simp only [↓Sh.dn,sx,Nat.reduceEqDiff,hw3]
   refine k (b - ((a+b) / 2+1)) _ _ (by omega) ⟨rfl,(a+b) / 2+1,b,rfl,by omega,hbn,by simp only [sx],by simp only [sx,Nat.reduceEqDiff,f6],by simp only [sx,Nat.reduceEqDiff,f1],fun i hi=>?_,hhi⟩
   cases hpi:p i with
   | false=>rfl
   | true=>rw [hm i ((a+b) / 2) (by omega) (by omega) hpi] at hpv; cases hpv
  | true=>
   simp only [↓Sh.dn,sx,Nat.reduceEqDiff]
   exact k ((a+b) / 2 - a) _ _ (by omega) ⟨rfl,a,(a+b) / 2,rfl,by omega,by omega,by simp only [sx,Nat.reduceEqDiff,f5],by simp only [sx],by simp only [sx,Nat.reduceEqDiff,f1],hlo,fun i h1 h2=>hm _ i h1 h2 hpv⟩
 ·have hab':a=b:=by omega
  subst hab'
  simp only [↓Sh.dn,sx,Nat.reduceEqDiff,f5,f6,A1a,hlt,decide_false,hres]
  exact ⟨a,rfl,hbn,hlo,hhi⟩
end Go.Proofs.YtcgbiedfbacgpaaGreat
/- What sort.SearchStrings asks of a place. -/
namespace Go.Proofs.YtcgbiedfbacgpaaGreat
open Go Go.Proofs Go.Proofs.Sh
theorem searchAt {H:AH} {g1 o1 k1 g2 o2 k2 i:Nat} {v:Value} {x y:ByteArray} {l:List ByteArray} (h1:H.cell ⟨g1,o1,some k1⟩=some v) (h2:H.cell ⟨g2,o2,some k2⟩=some (.string x)) (hs:Sl H v 1 (l.map A5b)) (hi:l[i]?=some y) (hw:Wf H):
  Sh.Call Tryz.prog (knows 7) 105 [.int .i64 (i:Int),.pointer (some ⟨g1,o1,some k1⟩),.pointer (some ⟨g2,o2,some k2⟩)] H (fun r H'=>r=.bool (!A3b y x)∧H'=H):=by
 refine A2a rfl Tryz.func105 rfl (Nat.le_of_ble_eq_true rfl) ?_
 have hres:Tryz.f105.results.toList=[.tmp 4]:=rfl
 obtain ⟨g,o,kk,hia,hc,hcc⟩:=hs.at Tryz.underlying22 A6j (i:=i) (x:=A5b y) (by simp [hi]) .i64
 have hy:=hcc 0 _ rfl
 simp only [Nat.add_zero] at hy
 simp only [↓Sh.dn,sx,reduceCtorEq,Nat.reduceEqDiff,h1,h2,hia,hy,hres]
end Go.Proofs.YtcgbiedfbacgpaaGreat
/- sort.SearchStrings over an ascending list. -/
namespace Go.Proofs.YtcgbiedfbacgpaaGreat
open Go Go.Proofs Go.Proofs.Sh
theorem B3u {H:AH} {v:Value} {x:ByteArray} {l:List ByteArray} (hs:Sl H v 1 (l.map A5b)) (ha:Asc l) (hl:l.length≤1048576) (hw:Wf H):
  Sh.Call Tryz.prog (knows 7) 85 [v,.string x] H (fun r H'=>Kept H H'∧∃ k:Nat,r=.int .i64 (k:Int)∧k≤l.length∧(∀ (i:Nat) y,i < k→l[i]?=some y→A3b y x=true)∧(∀ (i:Nat) y,k≤i→l[i]?=some y→A3b y x=false)):=by
 refine A2a rfl Tryz.func85 rfl (Nat.le_of_ble_eq_true rfl) ?_
 have hres:Tryz.f85.results.toList=[.tmp 4]:=rfl
 have hn1:=A1s (P:=Tryz.prog) (H:=H) (t:=22) A00 hs.isCell
 have hk1:=Kept.new hw 1 [v]
 have hO1:=Obj.new (H:=H) 1 [v]
 have hn2:=A1s (P:=Tryz.prog) (H:=(H.new 1 [v]).2) (t:=9) (v:=.string x) A6j rfl
 have hk2:=hk1.trans (Kept.new hk1.wf 1 [.string x])
 have hO2:=Obj.new (H:=(H.new 1 [v]).2) 1 [.string x]
 have hO1':Sh.Obj ((H.new 1 [v]).2.new 1 [.string x]).2 H.next 1 [v] true:=by
  unfold Sh.Obj
  rw [C7a (by rw [new_nx]; omega)]
  exact hO1
 simp only [↓Sh.dn,sx,Nat.reduceEqDiff,hn1,hn2]
 have hx1:(H.new 1 [v]).2.next=H.next+1:=rfl
 rw [hx1] at hO2 ⊢
 generalize ((H.new 1 [v]).2.new 1 [.string x]).2=H2 at hO1' hO2 hk2 ⊢
 have c1:H2.cell ⟨H.next,0,some 0⟩=some v:=hO1'.cell
 have c2:H2.cell ⟨H.next+1,0,some 0⟩=some (.string x):=hO2.cell
 have hs2:=hs.grow (hk2.grow hw)
 have hlen:=hs2.len Tryz.underlying22 H2
 simp only [c1,hlen,List.length_map,sx]
 obtain ⟨r,H3,hd,rfl,k,rfl,hk,hlo,hhi⟩:=search (H:=H2) (n:=l.length) (caps:=[.pointer (some ⟨H.next,0,some 0⟩),.pointer (some ⟨H.next+1,0,some 0⟩)]) (fid:=105) (fun i=>match l[i]? with | some y=>!A3b y x | none=>true) hl
  (fun i hi=>by
   have hy:l[i]?=some (l[i]'hi):=List.getElem?_eq_getElem hi
   simp only [hy]
   exact searchAt c1 c2 hs2 hy hk2.wf)
  (fun a b hab hb=>by
   have hya:l[a]?=some (l[a]'(by omega)):=List.getElem?_eq_getElem (by omega)
   have hyb:l[b]?=some (l[b]'hb):=List.getElem?_eq_getElem hb
   simp only [hya,hyb,Bool.not_eq_true']
   intro h
   rcases Nat.lt_or_ge a b with hlt | hge
   ·cases h2:A3b l[b] x with
    | false=>rfl
    | true=>rw [A8n (ha a b _ _ hlt hya hyb) h2] at h; cases h
   ·have:a=b:=by omega
    subst this
    exact h) hk2.wf
 refine ⟨_,_,hd,?_⟩
 simp only [sx,hres]
 refine ⟨hk2,k,rfl,hk,fun i y hi hy=>?_,fun i y hi hy=>?_⟩
 ·have:=hlo i hi
  simpa [hy] using this
 ·have hil:=(List.getElem?_eq_some_iff.1 hy).1
  have:=hhi i hi hil
  simpa [hy] using this
end Go.Proofs.YtcgbiedfbacgpaaGreat
/- Whether a text is in an ascending list. -/
namespace Go.Proofs.YtcgbiedfbacgpaaGreat
open Go Go.Proofs Go.Proofs.Sh
theorem isIn {H:AH} {v:Value} {x:ByteArray} {l:List ByteArray} (hs:Sl H v 1 (l.map A5b)) (ha:Asc l) (hl:l.length≤1048576) (hw:Wf H):
  Sh.Call Tryz.prog (knows 7) 47 [v,.string x] H (fun r H'=>Kept H H'∧r=.bool (A3t l x)):=by
 refine A2a rfl Tryz.func47 rfl (Nat.le_of_ble_eq_true rfl) ?_
 have hres:Tryz.f47.results.toList=[.tmp 4]:=rfl
 obtain ⟨r,H1,hd,hk1,k,rfl,hk,hlo,hhi⟩:=B3u hs ha hl hw (x:=x)
 have hp:=B8u ha x hlo hhi
 simp only [↓Sh.dn,sx,reduceCtorEq,Nat.reduceEqDiff]
 refine ⟨_,_,hd,?_⟩
 have hs1:=hs.grow (hk1.grow hw)
 have hlen:=hs1.len Tryz.underlying22 H1
 by_cases hlt:k < l.length
 ·have hy:l[k]?=some (l[k]'hlt):=List.getElem?_eq_getElem hlt
  obtain ⟨g,o,kk,hia,hc,hcc⟩:=hs1.at Tryz.underlying22 A6j (i:=k) (x:=A5b l[k]) (by simp [hlt]) .i64
  have hyc:=hcc 0 _ rfl
  simp only [Nat.add_zero] at hyc
  simp only [↓Sh.dn,sx,reduceCtorEq,Nat.reduceEqDiff,hlen,List.length_map,A1a,hlt,decide_true,hia,hyc,hres]
  refine ⟨hk1,?_⟩
  have:decide (l[k]=x)=A3t l x:=by
   rw [Bool.eq_iff_iff,decide_eq_true_eq,A9j,← hp,hy,Option.some.injEq]
  rw [this]
 ·simp only [↓Sh.dn,sx,Nat.reduceEqDiff,hlen,List.length_map,A1a,hlt,decide_false,hres]
  refine ⟨hk1,?_⟩
  have:A3t l x=false:=by
   cases h:A3t l x with
   | false=>rfl
   | true=>
    have:=hp.2 (A9j.1 h)
    rw [List.getElem?_eq_none (by omega)] at this; cases this
  rw [this]
end Go.Proofs.YtcgbiedfbacgpaaGreat
/- What is wrong with a net of any kind, by the reference. -/
namespace Go.Proofs.YtcgbiedfbacgpaaGreat
open Go Go.Proofs Go.Proofs.Sh
def A4j (N:NetD) (s:ByteArray):Bool:=!decide (s=⟨#[]⟩) && !A3t N.sigma s
def A0i (N:NetD) (a:ArcD):Bool:=decide (a.fr < 0) || decide (N.states≤a.fr) || decide (a.to < 0) || decide (N.states≤a.to) || A4j N a.inn || A4j N a.out
def A9q (N:NetD) (e:EndD):Bool:=decide (e.state < 0) || decide (N.states≤e.state)
def A5n (N:NetD):Bool:=decide (3000 < N.states) || decide (60000 < N.arcs.length) || decide (60000 < N.ends.length)
def A5g (N:NetD):Int:=if A5n N=true then 3 else if A4k N.sigma≠0 then A4k N.sigma else if N.states < 1 then 1 else if N.arcs.any (A0i N)=true then 1 else if N.ends.any (A9q N)=true then 1 else 0
theorem A66 {l:List ByteArray} (h:A4k l=0):Asc l:=by
 unfold A4k at h
 split at h
 ·cases h
 ·split at h
  ·rename_i h1
   simp only [Bool.and_eq_true] at h1
   exact asc_of h1.2
  ·cases h
theorem B86 {H:AH} {v:Value} {N:NetD} (h:A0y H v N) (hsm:A3j N) (hw:Wf H):
  Sh.Call Tryz.prog (knows 7) 50 [v] H (fun r H'=>Kept H H'∧r=.int .i64 (A5g N)):=by
 refine A2a rfl Tryz.func50 rfl (Nat.le_of_ble_eq_true rfl) ?_
 have hres:Tryz.f50.results.toList=[.tmp 2]:=rfl
 obtain ⟨sg,ar,en,rfl,hsg,har,hen⟩:=h
 have hb1:=NetBox.of (N:=N) hw hsg har hen
 have hk1:Kept H (H.new 4 [sg,.int .i64 N.states,ar,en]).2:=Kept.new hw 4 _
 have eA:decide ((60000:Int) < (N.arcs.length:Int))=decide (60000 < N.arcs.length):=decide_eq_decide.2 (by omega)
 have eE:decide ((60000:Int) < (N.ends.length:Int))=decide (60000 < N.ends.length):=decide_eq_decide.2 (by omega)
 simp only [↓Sh.dn,sx,Nat.reduceEqDiff,A9s hsg.isCell har.isCell hen.isCell]
 generalize hg:H.next=gg at hb1 ⊢
 generalize (H.new 4 [sg,.int .i64 N.states,ar,en]).2=H1 at hb1 hk1 ⊢
 simp only [sx,hb1.c1]
 by_cases hA:3000 < N.states
 ·simp only [↓Sh.dn,sx,Nat.reduceEqDiff,hA,decide_true,hres,A5g,A5n,hk1]
 by_cases hB:60000 < N.arcs.length
 ·simp only [↓Sh.dn,sx,Nat.reduceEqDiff,hb1.c2,A4m hb1,hA,eA,hB,decide_true,decide_false,hres,A5g,A5n,hk1]
 by_cases hC:60000 < N.ends.length
 ·simp only [↓Sh.dn,sx,Nat.reduceEqDiff,hb1.c2,hb1.c3,A4m hb1,A7r hb1,hA,eA,eE,hB,hC,decide_true,decide_false,hres,A5g,A5n,hk1]
 have hT:A5n N=false:=by simp [A5n,hA,hB,hC]
 simp only [↓Sh.dn,sx,Nat.reduceEqDiff,hb1.c0,hb1.c2,hb1.c3,A4m hb1,A7r hb1,hA,eA,eE,hB,hC,decide_false,hres]
 obtain ⟨r,H2,hd,hk2,rfl⟩:=refSigma hb1.hsg hsm.sg hsm.sx hk1.wf
 refine ⟨_,_,hd,?_⟩
 have hb2:=hb1.kept hk1.wf hk2
 have hk12:=hk1.trans hk2
 by_cases hS:A4k N.sigma=0
 case neg=>simp only [↓Sh.dn,sx,Nat.reduceEqDiff,hS,decide_false,A5g,hT,hk12]
 have hasc:=A66 hS
 simp only [↓Sh.dn,sx,Nat.reduceEqDiff,hS,decide_true,hb2.c1]
 by_cases hst:N.states < 1
 ·simp only [↓Sh.dn,sx,hst,decide_true,A5g,hT,hS,hk12]
 simp only [↓Sh.dn,sx,hst,decide_false]
 have e1:N.arcs.any (A0i N)=true→A5g N=1:=by intro h; simp [A5g,hT,hS,hst,h]
 have e2:N.ends.any (A9q N)=true→A5g N=1:=by intro h; simp [A5g,hT,hS,hst,h]
 have e3:N.arcs.any (A0i N)=false→N.ends.any (A9q N)=false→A5g N=0:=by intro h h'; simp [A5g,hT,hS,hst,h,h']
 refine A9c N.arcs.length 4 (List.range' 4 87++[2]) (fun i F H'=>Kept H2 H'∧(N.arcs.take i).any (A0i N)=false) (by simp only [sx]) ⟨Kept.refl hk12.wf,rfl⟩ ?_ ?_
 ·rintro i F H' hlt hF f4 ⟨hk,hall⟩ k
  have f1:=hF 1 rfl
  simp only [sx,Nat.reduceEqDiff] at f1
  have hb':=hb2.kept hk12.wf hk
  have hb3:=hb'.new hk.wf 5 (N.arcs[i].cells)
  have hk3:=hk.news 5 (N.arcs[i].cells)
  obtain ⟨g,o,kk,hia,hc,hcc⟩:=hb'.har.at Tryz.underlying23 A1q (i:=i) (x:=N.arcs[i].cells) (by simp [hlt]) .i64
  clear hcc
  have hin:N.arcs[i]∈N.arcs:=List.getElem_mem hlt
  have hnext:A0i N N.arcs[i]=false→(N.arcs.take (i+1)).any (A0i N)=false:=by
   intro h
   rw [List.take_add_one,List.getElem?_eq_getElem hlt]
   simp only [Option.toList,List.any_append,hall,List.any_cons,List.any_nil,h,Bool.or_false]
  have hbad:A0i N N.arcs[i]=true→A5g N=1:=fun h=>e1 (List.any_eq_true.2 ⟨_,hin,h⟩)
  generalize N.arcs[i]=a at hb3 hk3 hc hnext hbad
  have hi2:=isIn (x:=a.inn) hb3.hsg hasc hsm.sg hk3.wf
  simp only [↓Sh.dn,sx,Nat.reduceEqDiff,hb'.c2,A4m hb',B2e,A24,B7k,arc0,f1,f4,A1a,hlt,decide_true,hia,hc]
  by_cases h1:a.fr < 0
  ·simp only [↓Sh.dn,sx,Nat.reduceEqDiff,h1,decide_true,hbad (by simp [A0i,h1]),hk12.trans hk3]
  simp only [↓Sh.dn,sx,Nat.reduceEqDiff,hb3.c1,arc0,f1,h1,decide_false]
  by_cases h2:N.states≤a.fr
  ·simp only [↓Sh.dn,sx,Nat.reduceEqDiff,h2,decide_true,hbad (by simp [A0i,h2]),hk12.trans hk3]
  simp only [↓Sh.dn,sx,Nat.reduceEqDiff,arc3,h2,decide_false]
  by_cases h3:a.to < 0
  ·simp only [↓Sh.dn,sx,Nat.reduceEqDiff,h3,decide_true,hbad (by simp [A0i,h3]),hk12.trans hk3]
  simp only [↓Sh.dn,sx,Nat.reduceEqDiff,hb3.c1,arc3,f1,h3,decide_false]
  by_cases h4:N.states≤a.to
  ·simp only [↓Sh.dn,sx,Nat.reduceEqDiff,h4,decide_true,hbad (by simp [A0i,h4]),hk12.trans hk3]
  simp only [↓Sh.dn,sx,Nat.reduceEqDiff,arc1,h4,decide_false]
  have hgo:A4j N a.inn=false→A4j N a.out=false→A0i N a=false:=by intro h h'; simp [A0i,h1,h2,h3,h4,h,h']
  have hout:∀ (H4:AH) (F4:Fr),Kept (H'.new 5 a.cells).2 H4→A4j N a.inn=false→True:=fun _ _ _ _=>trivial
  by_cases h5:a.inn=⟨#[]⟩
  ·have hI:A4j N a.inn=false:=by simp [A4j,h5]
   simp only [↓Sh.dn,sx,Nat.reduceEqDiff,arc2,h5,decide_true]
   by_cases h6:a.out=⟨#[]⟩
   ·have hO:A4j N a.out=false:=by simp [A4j,h6]
    simp only [↓Sh.dn,sx,Nat.reduceEqDiff,f4,h6,decide_true,wrap_succ hlt hsm.ar]
    exact k _ _ (by repeat (first | refine Same.put ?_ rfl | exact Same.rfl' _)) (by simp only [sx]) ⟨hk3,hnext (hgo hI hO)⟩
   ·obtain ⟨r,H4,hd4,hk4,rfl⟩:=isIn (x:=a.out) hb3.hsg hasc hsm.sg hk3.wf
    simp only [↓Sh.dn,sx,Nat.reduceEqDiff,hb3.c0,arc2,f1,h6,decide_false]
    refine ⟨_,_,hd4,?_⟩
    cases h7:A3t N.sigma a.out with
    | true=>
     have hO:A4j N a.out=false:=by simp [A4j,h7]
     simp only [↓Sh.dn,sx,Nat.reduceEqDiff,f4,wrap_succ hlt hsm.ar]
     exact k _ _ (by repeat (first | refine Same.put ?_ rfl | exact Same.rfl' _)) (by simp only [sx]) ⟨hk3.trans hk4,hnext (hgo hI hO)⟩
    | false=>
     simp only [↓Sh.dn,sx,hbad (by simp [A0i,A4j,h6,h7]),(hk12.trans hk3).trans hk4]
  ·obtain ⟨r,H4,hd4,hk4,rfl⟩:=isIn (x:=a.inn) hb3.hsg hasc hsm.sg hk3.wf
   simp only [↓Sh.dn,sx,Nat.reduceEqDiff,hb3.c0,arc1,f1,h5,decide_false]
   refine ⟨_,_,hd4,?_⟩
   have hb4:=hb3.kept hk3.wf hk4
   have q2:=A2b (hk4.grow hk3.wf) (arc2 (H:=H') (a:=a))
   cases h7:A3t N.sigma a.inn with
   | false=>
    simp only [↓Sh.dn,sx,Nat.reduceEqDiff,hbad (by simp [A0i,A4j,h5,h7]),(hk12.trans hk3).trans hk4]
   | true=>
    have hI:A4j N a.inn=false:=by simp [A4j,h7]
    simp only [↓Sh.dn,sx,Nat.reduceEqDiff,q2]
    by_cases h6:a.out=⟨#[]⟩
    ·have hO:A4j N a.out=false:=by simp [A4j,h6]
     simp only [↓Sh.dn,sx,Nat.reduceEqDiff,f4,h6,decide_true,wrap_succ hlt hsm.ar]
     exact k _ _ (by repeat (first | refine Same.put ?_ rfl | exact Same.rfl' _)) (by simp only [sx]) ⟨hk3.trans hk4,hnext (hgo hI hO)⟩
    ·obtain ⟨r,H5,hd5,hk5,rfl⟩:=isIn (x:=a.out) hb4.hsg hasc hsm.sg hk4.wf
     simp only [↓Sh.dn,sx,Nat.reduceEqDiff,hb4.c0,q2,f1,h6,decide_false]
     refine ⟨_,_,hd5,?_⟩
     cases h8:A3t N.sigma a.out with
     | true=>
      have hO:A4j N a.out=false:=by simp [A4j,h8]
      simp only [↓Sh.dn,sx,Nat.reduceEqDiff,f4,wrap_succ hlt hsm.ar]
      exact k _ _ (by repeat (first | refine Same.put ?_ rfl | exact Same.rfl' _)) (by simp only [sx]) ⟨(hk3.trans hk4).trans hk5,hnext (hgo hI hO)⟩
     | false=>
      simp only [↓Sh.dn,sx,hbad (by simp [A0i,A4j,h6,h8]),((hk12.trans hk3).trans hk4).trans hk5]
 ·rintro F H' hF f4 ⟨hk,hall⟩
  have f1:=hF 1 rfl
  simp only [sx,Nat.reduceEqDiff] at f1
  rw [List.take_length] at hall
  have hb':=hb2.kept hk12.wf hk
  have hkk:=hk12.trans hk
  simp only [↓Sh.dn,sx,Nat.reduceEqDiff,hb'.c2,A4m hb',f1,f4,A1a,Nat.lt_irrefl,decide_false]
  refine A9c N.ends.length 6 (List.range' 91 26++[2,6]) (fun i F H''=>H''=H'∧(N.ends.take i).any (A9q N)=false) (by simp only [sx]) ⟨rfl,rfl⟩ ?_ ?_
  ·rintro i F2 H'' hlt hF2 f6 ⟨rfl,hall2⟩ k
   have g1:=hF2 1 rfl
   simp only [sx,Nat.reduceEqDiff,f1] at g1
   obtain ⟨g,o,kk,hia,hc,hcc⟩:=hb'.hen.at Tryz.underlying24 A3u (i:=i) (x:=N.ends[i].cells) (by simp [hlt]) .i64
   have q0:=hcc 0 _ rfl
   simp only [Nat.add_zero] at q0
   have hbad:A9q N N.ends[i]=true→A5g N=1:=fun h=>e2 (List.any_eq_true.2 ⟨_,List.getElem_mem hlt,h⟩)
   simp only [↓Sh.dn,sx,Nat.reduceEqDiff,hb'.c3,A7r hb',g1,f6,A1a,hlt,decide_true,hia,q0]
   by_cases h1:N.ends[i].state < 0
   ·simp only [↓Sh.dn,sx,Nat.reduceEqDiff,h1,decide_true,hbad (by simp [A9q,h1]),hkk]
   simp only [↓Sh.dn,sx,Nat.reduceEqDiff,hb'.c1,hb'.c3,g1,f6,hia,q0,h1,decide_false]
   by_cases h2:N.states≤N.ends[i].state
   ·simp only [↓Sh.dn,sx,h2,decide_true,hbad (by simp [A9q,h2]),hkk]
   simp only [↓Sh.dn,sx,Nat.reduceEqDiff,f6,h2,decide_false,wrap_succ hlt hsm.en]
   refine k _ _ (by repeat (first | refine Same.put ?_ rfl | exact Same.rfl' _)) (by simp only [sx]) ⟨rfl,?_⟩
   rw [List.take_add_one,List.getElem?_eq_getElem hlt]
   simp only [Option.toList,List.any_append,hall2,List.any_cons,List.any_nil,Bool.or_false,A9q,h1,h2,decide_false]
  ·rintro F2 H'' hF2 f6 ⟨rfl,hall2⟩
   have g1:=hF2 1 rfl
   simp only [sx,Nat.reduceEqDiff,f1] at g1
   rw [List.take_length] at hall2
   simp only [↓Sh.dn,sx,Nat.reduceEqDiff,hb'.c3,A7r hb',g1,f6,A1a,Nat.lt_irrefl,decide_false,e3 hall hall2,hkk]
end Go.Proofs.YtcgbiedfbacgpaaGreat
/- Whether nothing of a net costs. -/
namespace Go.Proofs.YtcgbiedfbacgpaaGreat
open Go Go.Proofs Go.Proofs.Sh
def NetD.free (N:NetD):Bool:=N.arcs.all (fun a=>decide (a.cost=0)) && N.ends.all (fun a=>decide (a.cost=0))
theorem isFree {H:AH} {v:Value} {N:NetD} (h:A0y H v N) (hw:Wf H) (hl:N.arcs.length≤1048576) (hl2:N.ends.length≤1048576):Sh.Call Tryz.prog (knows 7) 51 [v] H (fun r H'=>r=.bool (NetD.free N)∧Kept H H'):=by
 obtain ⟨sg,ar,en,rfl,hsg,har,hen⟩:=h
 refine A2a rfl Tryz.func51 rfl (Nat.le_of_ble_eq_true rfl) ?_
 have hn:=A6r (P:=Tryz.prog) (H:=H) (t:=26) (vs:=[sg,.int .i64 N.states,ar,en]) B56 rfl (by simp [hsg.isCell,har.isCell,hen.isCell,show isCell (.int .i64 N.states)=true from rfl])
 have hO:=Obj.new (H:=H) 4 [sg,.int .i64 N.states,ar,en]
 have hk:Kept H (H.new 4 [sg,.int .i64 N.states,ar,en]).2:=Kept.new hw 4 _
 simp only [↓Sh.dn,sx,hn]
 generalize (H.new 4 [sg,.int .i64 N.states,ar,en]).2=H1 at hO hk ⊢
 have c2:H1.cell ⟨H.next,2,some 0⟩=some ar:=hO.cell
 have c3:H1.cell ⟨H.next,3,some 0⟩=some en:=hO.cell
 have har1:=har.grow (hk.grow hw)
 have hen1:=hen.grow (hk.grow hw)
 have l2:=har1.len Tryz.underlying23 H1
 have l3:=hen1.len Tryz.underlying24 H1
 have hres:Tryz.f51.results.toList=[.tmp 2]:=rfl
 refine A3w N.arcs.length (fun i F H'=>H'=H1∧F.get 1=some (.pointer (some ⟨H.next,0,some 0⟩))∧F.get 3=some (.int .i64 (i:Int))∧(N.arcs.take i).all (fun a=>decide (a.cost=0))=true) (Nat.zero_le _) ⟨rfl,by simp only [sx,Nat.reduceEqDiff],by simp only [sx]; rfl,rfl⟩ ?_
 rintro i F H' hi ⟨rfl,f1,f3,hall⟩ k
 by_cases hlt:i < N.arcs.length
 ·have hx:(N.arcs.map ArcD.cells)[i]?=some (N.arcs[i].cells):=by simp [hlt]
  obtain ⟨g,o,kk,hia,hc,hcc⟩:=har1.at Tryz.underlying23 A1q hx .i64
  have hcost:=hcc 4 _ rfl
  simp only [↓Sh.dn,sx,reduceCtorEq,Nat.reduceEqDiff,↓Sh.wp_cond,f1,f3,c2,l2,hia,hcost,List.length_map,A1a,hlt,decide_true,reduceCtorEq,hres,resultsA,one]
  refine ⟨fun hne=>⟨?_,hk⟩,fun he=>k _ _ hlt ⟨rfl,by simp only [sx,Nat.reduceEqDiff,f1],by simp only [sx,wrap_succ hlt hl],?_⟩⟩
  ·have : NetD.free N = false := by
     simp only [NetD.free, Bool.and_eq_false_iff, List.all_eq_false]
     exact .inl ⟨_, List.getElem_mem hlt, by simpa using hne⟩
   rw [this]
  ·rw [List.take_add_one,List.getElem?_eq_getElem hlt]
   simp only [Option.toList,List.all_append,hall,Bool.true_and,List.all_cons,List.all_nil,Bool.and_true]
   simpa using he
 ·have hin:i=N.arcs.length:=by omega
  subst hin
  rw [List.take_length] at hall
  simp only [↓Sh.dn,sx,Nat.reduceEqDiff,↓Sh.wp_cond,f1,f3,c2,l2,List.length_map,A1a,hlt,decide_false]
  refine A3w N.ends.length (fun i F H''=>H''=H'∧F.get 1=some (.pointer (some ⟨H.next,0,some 0⟩))∧F.get 4=some (.int .i64 (i:Int))∧(N.ends.take i).all (fun a=>decide (a.cost=0))=true) (Nat.zero_le _) ⟨rfl,by simp only [sx,Nat.reduceEqDiff,f1],by simp only [sx]; rfl,rfl⟩ ?_
  clear k
  rintro i F H'' hi ⟨rfl,f1,f4,hall2⟩ k
  by_cases hlt2:i < N.ends.length
  ·have hx:(N.ends.map EndD.cells)[i]?=some (N.ends[i].cells):=by simp [hlt2]
   obtain ⟨g,o,kk,hia,hc,hcc⟩:=hen1.at Tryz.underlying24 A3u hx .i64
   have hcost:=hcc 1 _ rfl
   simp only [↓Sh.dn,sx,reduceCtorEq,Nat.reduceEqDiff,↓Sh.wp_cond,f1,f4,c3,l3,hia,hcost,List.length_map,A1a,hlt2,decide_true,reduceCtorEq,hres,resultsA,one]
   refine ⟨fun hne=>⟨?_,hk⟩,fun he=>k _ _ hlt2 ⟨rfl,by simp only [sx,Nat.reduceEqDiff,f1],by simp only [sx,wrap_succ hlt2 hl2],?_⟩⟩
   ·have : NetD.free N = false := by
      simp only [NetD.free, Bool.and_eq_false_iff, List.all_eq_false]
      exact .inr ⟨_, List.getElem_mem hlt2, by simpa using hne⟩
    rw [this]
   ·rw [List.take_add_one,List.getElem?_eq_getElem hlt2]
    simp only [Option.toList,List.all_append,hall2,Bool.true_and,List.all_cons,List.all_nil,Bool.and_true]
    simpa using he
  ·have hin:i=N.ends.length:=by omega
   subst hin
   rw [List.take_length] at hall2
   simp only [↓Sh.dn,sx,Nat.reduceEqDiff,↓Sh.wp_cond,f1,f4,c3,l3,List.length_map,A1a,hlt2,decide_false,hres,resultsA,one]
   refine ⟨?_,hk⟩
   rw [NetD.free,hall,hall2]
   rfl
end Go.Proofs.YtcgbiedfbacgpaaGreat
/- What is wrong with an acceptor, by the reference. -/
namespace Go.Proofs.YtcgbiedfbacgpaaGreat
open Go Go.Proofs Go.Proofs.Sh
def B2k (N:NetD):Bool:=N.arcs.any fun a=>!decide (a.inn=a.out)
def A1h (N:NetD):Int:=if A5g N≠0 then A5g N else if B2k N=true then 6 else if NetD.free N=true then 0 else 6
theorem A12 {H:AH} {v:Value} {N:NetD} (h:A0y H v N) (hsm:A3j N) (hw:Wf H):
  Sh.Call Tryz.prog (knows 7) 23 [v] H (fun r H'=>Kept H H'∧r=.int .i64 (A1h N)):=by
 refine A2a rfl Tryz.func23 rfl (Nat.le_of_ble_eq_true rfl) ?_
 have hres:Tryz.f23.results.toList=[.tmp 2]:=rfl
 obtain ⟨sg,ar,en,rfl,hsg,har,hen⟩:=h
 have hb1:=NetBox.of (N:=N) hw hsg har hen
 have hk1:Kept H (H.new 4 [sg,.int .i64 N.states,ar,en]).2:=Kept.new hw 4 _
 simp only [↓Sh.dn,sx,Nat.reduceEqDiff,A9s hsg.isCell har.isCell hen.isCell]
 generalize H.next=gg at hb1 ⊢
 generalize (H.new 4 [sg,.int .i64 N.states,ar,en]).2=H1 at hb1 hk1 ⊢
 simp only [sx,hb1.ca]
 obtain ⟨r,H2,hd,hk2,rfl⟩:=B86 hb1.netAt hsm hk1.wf
 refine ⟨_,_,hd,?_⟩
 have hb2:=hb1.kept hk1.wf hk2
 have hk12:=hk1.trans hk2
 by_cases hE:A5g N=0
 case neg=>simp only [↓Sh.dn,sx,Nat.reduceEqDiff,hE,decide_false,hres,A1h,hk12]
 simp only [↓Sh.dn,sx,hE,decide_true]
 have e1:B2k N=true→A1h N=6:=by intro h; simp [A1h,hE,h]
 refine A9c N.arcs.length 4 (List.range' 4 26++[2]) (fun i F H'=>H'=H2∧(N.arcs.take i).any (fun a=>!decide (a.inn=a.out))=false) (by simp only [sx]) ⟨rfl,rfl⟩ ?_ ?_
 ·rintro i F H' hlt hF f4 ⟨rfl,hall⟩ k
  have f1:=hF 1 rfl
  simp only [sx,Nat.reduceEqDiff] at f1
  obtain ⟨g,o,kk,hia,hc,hcc⟩:=hb2.har.at Tryz.underlying23 A1q (i:=i) (x:=N.arcs[i].cells) (by simp [hlt]) .i64
  have q1:=hcc 1 _ rfl
  have q2:=hcc 2 _ rfl
  simp only [↓Sh.dn,sx,Nat.reduceEqDiff,hb2.c2,A4m hb2,f1,f4,A1a,hlt,decide_true,hia,q1,q2]
  by_cases hx:N.arcs[i].inn=N.arcs[i].out
  ·simp only [↓Sh.dn,sx,Nat.reduceEqDiff,hx,decide_true,f4,wrap_succ hlt hsm.ar]
   refine k _ _ (by repeat (first | refine Same.put ?_ rfl | exact Same.rfl' _)) (by simp only [sx]) ⟨rfl,?_⟩
   rw [List.take_add_one,List.getElem?_eq_getElem hlt]
   simp only [Option.toList,List.any_append,hall,List.any_cons,List.any_nil,hx,decide_true,Bool.not_true,Bool.or_false]
  ·simp only [↓Sh.dn,sx,hx,decide_false,hres,e1 (List.any_eq_true.2 ⟨_,List.getElem_mem hlt,by simp [hx]⟩),hk12]
 ·rintro F H' hF f4 ⟨rfl,hall⟩
  have f1:=hF 1 rfl
  simp only [sx,Nat.reduceEqDiff] at f1
  rw [List.take_length] at hall
  simp only [↓Sh.dn,sx,Nat.reduceEqDiff,hb2.c2,hb2.ca,A4m hb2,f1,f4,A1a,Nat.lt_irrefl,decide_false]
  obtain ⟨r,H3,hd3,rfl,hk3⟩:=isFree hb2.netAt hk12.wf hsm.ar hsm.en
  refine ⟨_,_,hd3,?_⟩
  cases hf:NetD.free N with
  | true=>simp only [↓Sh.dn,sx,hres,A1h,hE,B2k,hall,hf,hk12.trans hk3]
  | false=>simp only [↓Sh.dn,sx,hres,A1h,hE,B2k,hall,hf,hk12.trans hk3]
end Go.Proofs.YtcgbiedfbacgpaaGreat
/- What a net is with which nothing is wrong. -/
namespace Go.Proofs.YtcgbiedfbacgpaaGreat
open Go Go.Proofs Go.Proofs.Sh
structure A3r (N:NetD):Prop where
 st1:1≤N.states
 st2:N.states≤3000
 ar:N.arcs.length≤60000
 en:N.ends.length≤60000
 sig:A4k N.sigma=0
 asc:Asc N.sigma
 sym:∀ x∈N.sigma,A5y x=true
 arc:∀ a∈N.arcs,0≤a.fr∧a.fr < N.states∧0≤a.to∧a.to < N.states∧(a.inn=⟨#[]⟩∨a.inn∈N.sigma)∧(a.out=⟨#[]⟩∨a.out∈N.sigma)
 fin:∀ e∈N.ends,0≤e.state∧e.state < N.states
theorem netOk {N:NetD} (h:A5g N=0):A3r N:=by
 unfold A5g at h
 split at h
 ·cases h
 rename_i h1
 split at h
 ·rename_i h2; exact absurd h h2
 rename_i h2
 split at h
 ·cases h
 rename_i h3
 split at h
 ·cases h
 rename_i h4
 split at h
 ·cases h
 rename_i h5
 simp only [ne_eq,Decidable.not_not] at h2
 simp only [A5n,Bool.or_eq_true,decide_eq_true_eq,not_or,Int.not_lt,Nat.not_lt] at h1 h3
 have sy:∀ x,A4j N x=false→x=⟨#[]⟩∨x∈N.sigma:=by
  intro x hx
  simp only [A4j,Bool.and_eq_false_iff,Bool.not_eq_false',decide_eq_true_eq] at hx
  rcases hx with h | h
  ·exact .inl h
  ·exact .inr (A9j.1 h)
 have hsym:∀ x∈N.sigma,A5y x=true:=by
  have:=h2
  unfold A4k at this
  split at this
  ·cases this
  split at this
  ·rename_i h6
   rw [Bool.and_eq_true] at h6
   exact List.all_eq_true.1 h6.1
  ·cases this
 refine ⟨h3,h1.1.1,h1.1.2,h1.2,h2,A66 h2,hsym,fun a ha=>?_,fun e he=>?_⟩
 ·have:¬(A0i N a=true):=fun hb=>h4 (List.any_eq_true.2 ⟨a,ha,hb⟩)
  simp only [A0i,Bool.or_eq_true,decide_eq_true_eq,not_or,Int.not_lt,Int.not_le,Bool.not_eq_true] at this
  obtain ⟨⟨⟨⟨⟨k1,k2⟩,k3⟩,k4⟩,k5⟩,k6⟩:=this
  exact ⟨k1,k2,k3,k4,sy _ k5,sy _ k6⟩
 ·have:¬(A9q N e=true):=fun hb=>h5 (List.any_eq_true.2 ⟨e,he,hb⟩)
  simp only [A9q,Bool.or_eq_true,decide_eq_true_eq,not_or,Int.not_lt,Int.not_le] at this
  exact this
end Go.Proofs.YtcgbiedfbacgpaaGreat
/- cmp.Less, where nothing is no number. -/
namespace Go.Proofs.YtcgbiedfbacgpaaGreat
open Go Go.Proofs Go.Proofs.Sh
theorem B57 {H:AH} {x:ByteArray}:Sh.Call Tryz.prog (knows 7) 112 [Value.string x] H (fun r H'=>H'=H∧r=.bool false):=by
 refine A2a rfl Tryz.func112 rfl (Nat.le_of_ble_eq_true rfl) ?_
 have hres:Tryz.f112.results.toList=[.tmp 2]:=rfl
 simp only [↓Sh.dn,sx,reduceCtorEq,Nat.reduceEqDiff,hres,decide_true]
theorem B2o {H:AH} {x y:ByteArray}:Sh.Call Tryz.prog (knows 7) 107 [Value.string x,Value.string y] H (fun r H'=>H'=H∧r=.bool (A3b x y)):=by
 refine A2a rfl Tryz.func107 rfl (Nat.le_of_ble_eq_true rfl) ?_
 have hres:Tryz.f107.results.toList=[.tmp 4]:=rfl
 obtain ⟨r,H1,hd,rfl,rfl⟩:=B57 (H:=H) (x:=x)
 simp only [↓Sh.dn,sx,reduceCtorEq]
 refine ⟨_,_,hd,?_⟩
 simp only [↓Sh.dn,sx,reduceCtorEq,Nat.reduceEqDiff,hres]
 try rfl
theorem A6d {H:AH} {x y:ByteArray}:Does Tryz.prog (knows 7) 107 [Value.string x,Value.string y] H (.bool (A3b x y)) H:=by
 obtain ⟨r,H1,hd,rfl,rfl⟩:=B2o (H:=H) (x:=x) (y:=y)
 exact hd
abbrev A3e (H:AH) (g k n:Nat) (l:List ByteArray):Prop:=Cells H g k n (l.map (Value.string))
section
variable {H:AH} {g k n m cap i:Nat} {l:List ByteArray}
theorem A2d {j:IntKind} (h:i < m):A9a Tryz.prog 22 (.slice (some ⟨g,0,some k⟩) m cap) (.int j (i:Int))=some (.pointer (some ⟨g,i,some k⟩)):=by
 rw [ia_22 h,Nat.mul_one,Nat.zero_add]
theorem A7c (h:A3e H g k n l) (hi:i < l.length):H.cell ⟨g,i,some k⟩=some (Value.string l[i]):=h.cell (by simp [hi])
theorem A5m {x:ByteArray} {p:Addr}:A6e Tryz.prog 9 H (Value.string x) (.pointer (some p))=H.write p [Value.string x]:=A1c A6j rfl
theorem A1j (h:A3e H g k n l) (hw:Wf H) {i j:Nat} (hi:i < l.length) (hj:j < l.length):
  ∃ H1 H2,H.write ⟨g,i,some k⟩ [Value.string l[j]]=some H1∧H1.write ⟨g,j,some k⟩ [Value.string l[i]]=some H2∧A3e H2 g k n (swp l i j)∧Chg (fun y=>y=g) H H2∧H2.next=H.next:=by
 obtain ⟨H1,H2,h1,h2,h3,h4,h5⟩:=Cells.swap h hw (i:=i) (j:=j) (x:=Value.string l[i]) (y:=Value.string l[j]) (by simp [hi]) (by simp [hj])
 exact ⟨H1,H2,h1,h2,by rw [C5r] at h3; exact h3,h4,h5⟩
end
end Go.Proofs.YtcgbiedfbacgpaaGreat
/- slices.BinarySearch of an ascending list of texts. -/
namespace Go.Proofs.YtcgbiedfbacgpaaGreat
open Go Go.Proofs Go.Proofs.Sh
theorem isNaNStr {H:AH} {x:ByteArray}:Sh.Call Tryz.prog (knows 7) 108 [.string x] H (fun r H'=>H'=H∧r=.bool false):=by
 refine A2a rfl Tryz.func108 rfl (Nat.le_of_ble_eq_true rfl) ?_
 have hres:Tryz.f108.results.toList=[.tmp 2]:=rfl
 simp only [↓Sh.dn,sx,reduceCtorEq,Nat.reduceEqDiff,hres,decide_true]
theorem B4a {H:AH} {v:Value} {x:ByteArray} {l:List ByteArray} (hs:Sl H v 1 (l.map A5b)) (ha:Asc l) (hl:l.length≤1048576):
  Sh.Call Tryz.prog (knows 7) 88 [v,.string x] H (fun r H'=>H'=H∧∃ k:Nat,r=.tuple #[.int .i64 (k:Int),.bool (A3t l x)]∧k≤l.length∧(l[k]?=some x↔x∈l)):=by
 refine A2a rfl Tryz.func88 rfl (Nat.le_of_ble_eq_true rfl) ?_
 have hres:Tryz.f88.results.toList=[.tmp 4,.tmp 5]:=rfl
 have hlen:=hs.len Tryz.underlying22 H
 simp only [↓Sh.dn,sx,reduceCtorEq,Nat.reduceEqDiff,hlen,List.length_map]
 refine A1b (fun m F H'=>H'=H∧∃ a b:Nat,m=b - a∧a≤b∧b≤l.length∧F.get 7=some (.int .i64 (a:Int))∧F.get 8=some (.int .i64 (b:Int))∧F.get 0=some v∧F.get 1=some (.string x)∧F.get 6=some (.int .i64 (l.length:Int))∧
  (∀ (i:Nat) y,i < a→l[i]?=some y→A3b y x=true)∧(∀ (i:Nat) y,b≤i→l[i]?=some y→A3b y x=false)) (m:=l.length)
  ⟨rfl,0,l.length,by omega,by omega,by omega,by simp only [sx,Nat.reduceEqDiff]; rfl,by simp only [sx],by simp only [sx,reduceCtorEq],by simp only [sx,Nat.reduceEqDiff],by simp only [sx,Nat.reduceEqDiff],fun i y h=>by omega,fun i y h1 h2=>by have:=(List.getElem?_eq_some_iff.1 h2).1; omega⟩ ?_
 rintro m F H' ⟨rfl,a,b,rfl,hab,hbn,f7,f8,f0,f1,f6,hlo,hhi⟩ k
 by_cases hlt:a < b
 ·have hm:(a+b) / 2 < l.length:=by omega
  have hw2:IntKind.wrap .i64 (((a+b) / 2:Nat):Int)=(((a+b) / 2:Nat):Int):=wrap64 (by omega) (by omega)
  obtain ⟨g,o,kk,hia,hc,hcc⟩:=hs.at Tryz.underlying22 A6j (i:=(a+b) / 2) (x:=A5b l[(a+b) / 2]) (by simp [hm]) .i64
  have hy:=hcc 0 _ rfl
  simp only [Nat.add_zero] at hy
  obtain ⟨r,H1,hd,rfl,rfl⟩:=B2o (H:=H') (x:=l[(a+b) / 2]) (y:=x)
  have hget:l[(a+b) / 2]?=some l[(a+b) / 2]:=List.getElem?_eq_getElem hm
  simp only [↓Sh.dn,sx,reduceCtorEq,Nat.reduceEqDiff,f0,f1,f7,f8,A1a,hlt,decide_true,C4l,half a b (by omega),hw2,hia,hy,reduceCtorEq]
  refine ⟨_,_,hd,?_⟩
  cases hpv:A3b l[(a+b) / 2] x with
  | true=>
   have hw3:IntKind.wrap .i64 ((((a+b) / 2:Nat):Int)+1)=(((a+b) / 2+1:Nat):Int):=wrap_succ (n:=l.length) (by omega) hl
   simp only [↓Sh.dn,sx,Nat.reduceEqDiff,hw3]
   refine k (b - ((a+b) / 2+1)) _ _ (by omega) ⟨rfl,(a+b) / 2+1,b,rfl,by omega,hbn,by simp only [sx],by simp only [sx,Nat.reduceEqDiff,f8],by simp only [sx,reduceCtorEq,f0],by simp only [sx,Nat.reduceEqDiff,f1],by simp only [sx,Nat.reduceEqDiff,f6],fun i y hi hy=>?_,hhi⟩
   by_cases he:i=(a+b) / 2
   ·subst he; rw [hget] at hy; rw [← Option.some.inj hy]; exact hpv
   ·exact A8n (ha _ _ _ _ (by omega) hy hget) hpv
  | false=>
   simp only [↓Sh.dn,sx,Nat.reduceEqDiff]
   refine k ((a+b) / 2 - a) _ _ (by omega) ⟨rfl,a,(a+b) / 2,rfl,by omega,by omega,by simp only [sx,Nat.reduceEqDiff,f7],by simp only [sx],by simp only [sx,reduceCtorEq,f0],by simp only [sx,Nat.reduceEqDiff,f1],by simp only [sx,Nat.reduceEqDiff,f6],hlo,fun i y h1 hy=>?_⟩
   by_cases he:i=(a+b) / 2
   ·subst he; rw [hget] at hy; rw [← Option.some.inj hy]; exact hpv
   ·cases hlt2:A3b y x with
    | false=>rfl
    | true=>rw [A8n (ha _ _ _ _ (by omega) hget hy) hlt2] at hpv; cases hpv
 ·have hab':a=b:=by omega
  subst hab'
  have hp:=B8u ha x hlo hhi
  by_cases hla:a < l.length
  ·obtain ⟨g,o,kk,hia,hc,hcc⟩:=hs.at Tryz.underlying22 A6j (i:=a) (x:=A5b l[a]) (by simp [hla]) .i64
   have hy:=hcc 0 _ rfl
   simp only [Nat.add_zero] at hy
   have hget:l[a]?=some l[a]:=List.getElem?_eq_getElem hla
   by_cases hex:l[a]=x
   ·have hin:A3t l x=true:=A9j.2 (hp.1 (by rw [hget,hex]))
    simp only [↓Sh.dn,sx,reduceCtorEq,Nat.reduceEqDiff,f0,f1,f6,f7,f8,A1a,hlt,hla,hia,hy,hex,decide_true,decide_false,hres,hin,reduceCtorEq]
    exact ⟨a,rfl,hbn,hp⟩
   ·have hin : A3t l x = false := by
      cases h : A3t l x with
      | false => rfl
      | true => have := hp.2 (A9j.1 h); rw [hget] at this; exact absurd (Option.some.inj this) hex
    obtain ⟨r, H1, hd, rfl, rfl⟩ := isNaNStr (H := H') (x := l[a])
    simp only [↓Sh.dn, sx, reduceCtorEq, Nat.reduceEqDiff, f0, f1, f6, f7, f8, A1a, hlt, hla, hia, hy, hex, decide_true, decide_false, hres, hin, reduceCtorEq]
    refine ⟨_, _, hd, ?_⟩
    simp only [↓Sh.dn, sx, Nat.reduceEqDiff]
    exact ⟨a, rfl, hbn, hp⟩
  ·have hin : A3t l x = false := by
     cases h : A3t l x with
     | false => rfl
     | true => have := hp.2 (A9j.1 h); rw [List.getElem?_eq_none (by omega)] at this; cases this
   simp only [↓Sh.dn, sx, Nat.reduceEqDiff, f6, f7, f8, A1a, hlt, hla, decide_false, hres, hin]
   exact ⟨a, rfl, hbn, hp⟩
end Go.Proofs.YtcgbiedfbacgpaaGreat
/- The number of a symbol; a word as numbers. -/
namespace Go.Proofs.YtcgbiedfbacgpaaGreat
open Go Go.Proofs Go.Proofs.Sh
theorem place {H:AH} {v:Value} {x:ByteArray} {l:List ByteArray} (hs:Sl H v 1 (l.map A5b)) (ha:Asc l) (hl:l.length≤1048576):
  Sh.Call Tryz.prog (knows 7) 56 [v,.string x] H (fun r H'=>H'=H∧r=.int .i64 (A5p l x)):=by
 refine A2a rfl Tryz.func56 rfl (Nat.le_of_ble_eq_true rfl) ?_
 have hres:Tryz.f56.results.toList=[.tmp 4]:=rfl
 obtain ⟨r,H1,hd,rfl,k,rfl,_,hk⟩:=B4a (x:=x) hs ha hl
 simp only [↓Sh.dn,sx,reduceCtorEq,Nat.reduceEqDiff]
 refine ⟨_,_,hd,?_⟩
 cases hin:A3t l x with
 | true=>
  have:=A3v ha (hk.2 (A9j.1 hin))
  simp only [↓Sh.dn,sx,Nat.reduceEqDiff,hres,this]
 | false=>
  have:=A77 (l:=l) (x:=x) (fun h=>by rw [A9j.2 h] at hin; cases hin)
  simp only [↓Sh.dn,sx,hres,this]
theorem C5y {l:List ByteArray} {x:ByteArray} (ha:Asc l):decide (A5p l x < 0)=!A3t l x:=by
 cases hin:A3t l x with
 | true=>
  obtain ⟨k,hk⟩:=List.mem_iff_getElem?.1 (A9j.1 hin)
  rw [A3v ha hk]; simp
 | false=>
  rw [A77 (fun h=>by rw [A9j.2 h] at hin; cases hin)]; rfl
end Go.Proofs.YtcgbiedfbacgpaaGreat
/- graph.Of: the graph of a net. -/
namespace Go.Proofs.YtcgbiedfbacgpaaGreat
open Go Go.Proofs Go.Proofs.Sh
theorem B08 {H:AH} {v:Value} {N:NetD} (h:A0y H v N) (hok:A3r N) (hsm:A3j N) (hw:Wf H):
  Sh.Call Tryz.prog (knows 7) 25 [v] H (fun r H'=>Kept H H'∧∃ g,r=.pointer (some ⟨g,0,some 0⟩)∧∃ base,H.next≤base∧Gr H' base g N.sigma (B9a N N.arcs) (A7j N N.ends) (A4o N N.ends)):=by
 refine A2a rfl Tryz.func25 rfl (Nat.le_of_ble_eq_true rfl) ?_
 have hres:Tryz.f25.results.toList=[.tmp 2]:=rfl
 obtain ⟨sg,ar,en,rfl,hsg,har,hen⟩:=h
 have hb1:=NetBox.of (N:=N) hw hsg har hen
 have hk1:Kept H (H.new 4 [sg,.int .i64 N.states,ar,en]).2:=Kept.new hw 4 _
 have h1:=hok.st1
 have h2:=hok.st2
 obtain ⟨n,hn⟩:∃ n:Nat,N.states=(n:Int):=⟨N.states.toNat,by omega⟩
 have hnn:N.states.toNat=n:=by omega
 simp only [↓Sh.dn,sx,Nat.reduceEqDiff,A9s hsg.isCell har.isCell hen.isCell]
 have hnx:H.next < (H.new 4 [sg,.int .i64 N.states,ar,en]).2.next:=Nat.lt_succ_self _
 generalize H.next=gg at hb1 hnx ⊢
 generalize (H.new 4 [sg,.int .i64 N.states,ar,en]).2=H1 at hb1 hk1 hnx ⊢
 obtain ⟨r,H2,hd2,hk2,g,rfl,hgr⟩:=B9q (n:=n) hb1.hsg (by simpa using hsm.sg) (by omega) hk1.wf
 simp only [sx,hb1.c0,hb1.c1,hn]
 refine ⟨_,_,hd2,?_⟩
 have hb2:=hb1.kept hk1.wf hk2
 simp only [sx,hb2.c2,A4m hb2]
 have hz:∀ f:List Int→Int,f []=0→(rowsOf EndD.state EndD.cost N.states.toNat []).map f=List.replicate n 0:=by
  intro f hf
  rw [A63,hnn,List.map_replicate,hf]
 refine A9c N.arcs.length 16 (List.range' 16 37++[5]) (fun i F H'=>Kept H1 H'∧Gr H' H1.next g N.sigma (B9a N (N.arcs.take i)) (A7j N []) (A4o N [])) (by simp only [sx]) ⟨hk2,by
  rw [List.take_zero]; unfold B9a A7j A4o; rw [A63,hz _ rfl,hz _ rfl,hnn]; exact hgr⟩ ?_ ?_
 ·rintro i F H' hlt hF f16 ⟨hk,hg⟩ k
  have f1:=hF 1 rfl
  have f3:=hF 3 rfl
  have f14:=hF 14 rfl
  have f15:=hF 15 rfl
  simp only [sx,Nat.reduceEqDiff] at f1 f3 f14 f15
  have hb':=hb1.kept hk1.wf hk
  obtain ⟨q,o,kk,hia,hc,hcc⟩:=hb'.har.at Tryz.underlying23 A1q (i:=i) (x:=N.arcs[i].cells) (by simp [hlt]) .i64
  clear hcc
  have htake:N.arcs.take (i+1)=N.arcs.take i++[N.arcs[i]]:=by rw [List.take_add_one,List.getElem?_eq_getElem hlt]; rfl
  obtain ⟨k0,k1,k2,k3,k4,k5⟩:=hok.arc _ (List.getElem_mem hlt)
  have hb3:=hb'.new hk.wf 5 (N.arcs[i].cells)
  have hk3:=hk.news 5 (N.arcs[i].cells)
  generalize N.arcs[i]=a at hb3 hk3 hc htake k0 k1 k2 k3 k4 k5
  obtain ⟨s,hs⟩:∃ s:Nat,a.fr=(s:Int):=⟨a.fr.toNat,by omega⟩
  have hsn:s < N.states.toNat:=by omega
  obtain ⟨r1,K1,hd1,rfl,rfl⟩:=place (x:=a.inn) hb3.hsg hok.asc hsm.sg
  obtain ⟨r2,K2,hd2,rfl,rfl⟩:=place (x:=a.out) hb3.hsg hok.asc hsm.sg
  have hrow:=A0h (key:=ArcD.fr) (f:=B89 N.sigma) (l:=N.arcs.take i) hsn
  have hrl:=A8y hrow
  have hsmA:=hsm.ar
  have htl:(N.arcs.take i).length≤1048576:=by rw [List.length_take]; omega
  obtain ⟨sv,av,ev,cv,os,ot,oe,oc,vals,obs,hG0⟩:=hg
  have hG:=hG0.chg hk.wf ((Kept.new hk.wf 5 a.cells).chg (X:=none')) fun _ _ h=>h
  have hnj:¬JIn ot obs H'.next:=fun h=>by have:=hG0.jag.lt hk.wf _ h; omega
  have hn:=hG.arr.cell 1
  obtain ⟨ba,cap,w',H4,H5,o',p,e1,e2,e3,e4,e5,e6,e7,e8,e9⟩:=hG.jag.pushAt Tryz.underlying68 A39 hk3.wf hrow (x:=B89 N.sigma a) rfl
  rw [← hs] at e2
  have bl:=bld_95 (v0:=.int .i64 a.to) (v1:=.int .i64 (A5p N.sigma a.inn)) (v2:=.int .i64 (A5p N.sigma a.out)) (v3:=.int .i64 a.cost) rfl rfl rfl rfl
  have hbs:=B70 (H:=(H'.new 5 a.cells).2) (x:=.agg (B89 N.sigma a).toArray) rfl rfl
  have ha:=C1r (H:=(H'.new 5 a.cells).2) (base:=ba) (len:=_) (cap:=cap) (x:=B89 N.sigma a) rfl (Nat.le_trans hrl (by omega))
  rw [e1] at ha
  have hn4:=(hG.arr.keep (e7.old g (hG.arr.lt hk3.wf) hG.gj)).cell 1
  have c4:=((Obj.new (H:=H') 5 a.cells).arr.keep (e7.old H'.next (Nat.lt_succ_self _) hnj)).cell 0
  have c4':(a.cells)[0]?=some (.int .i64 a.fr):=rfl
  rw [c4'] at c4
  have st:A6e Tryz.prog 92 H4 w' (.pointer (some p))=some H5:=by rw [A1c A39 e8,e4]
  have va:∀ xs:Array Value,A6a (.agg xs)=xs.toList:=fun _=>rfl
  have hav:=hG.jag.top.veq
  simp only [va] at hbs
  obtain ⟨z1,z2⟩:=GrB.arced hG hk3.wf e6 e5 e9
  simp only [↓Sh.dn,sx,Nat.reduceEqDiff,B2e,A24,B7k,f14,f15,f16,A1a,hlt,decide_true,hia,hc]
  refine A9w (fl:=[(0,[]),(1,[]),(2,[]),(3,[]),(4,[]),(5,[]),(6,[]),(7,[]),(8,[]),(9,[]),(10,[]),(11,[]),(12,[]),(13,[]),(14,[]),(15,[]),(16,[]),(17,[]),(18,[]),(19,[]),(21,[]),(22,[]),(23,[]),(24,[]),(26,[]),(27,[]),(20,[27,24,22,15,13,11,9,5,3]),(25,[27,15,13,11,9,5,3]),(28,[]),(29,[]),(30,[5,3]),(31,[]),(32,[])]) (by kernel_rfl) (by kernel_rfl) (by kernel_rfl) ?_
  simp only [↓Sh.dn,sx,Nat.reduceEqDiff,wpr,again,A4e,A7u,B47,A6s,forall_eq',hb3.c0,arc0,arc1,arc2,arc3,arc4,f1,f3,hn,e2,e3]
  refine ⟨_,_,hd1,?_⟩
  simp only [sx,hb3.c0,arc0,arc2,arc3,arc4,hn,e3,hav,hsg.veq]
  refine ⟨_,_,hd2,?_⟩
  have bl':A9r Tryz.prog 95 [(0,.int .i64 a.to),(1,.int .i64 (A5p N.sigma a.inn)),(2,.int .i64 (A5p N.sigma a.out)),(3,.int .i64 a.cost)]=some (.agg (B89 N.sigma a).toArray):=bl
  simp only [sx,arc0,arc3,arc4,hn,e3,bl',hbs,ha,hn4,st,c4,f16,wrap_succ hlt hsm.ar]
  refine k _ _ (by repeat (first | refine Same.put ?_ rfl | exact Same.rfl' _)) (by simp only [sx]) ⟨hk3.then (Nat.le_refl _) z1,?_⟩
  rw [htake]
  unfold B9a
  rw [A0x hsn hs]
  exact z2
 ·rintro F H' hF f16 ⟨hk,hg⟩
  have f1:=hF 1 rfl
  have f3:=hF 3 rfl
  have f15:=hF 15 rfl
  simp only [sx,Nat.reduceEqDiff] at f1 f3 f15
  rw [List.take_length] at hg
  have hb':=hb1.kept hk1.wf hk
  simp only [↓Sh.dn,sx,Nat.reduceEqDiff,hb'.c3,A7r hb',f1,f15,f16,A1a,Nat.lt_irrefl,decide_false]
  refine A9c N.ends.length 56 (List.range' 56 11++[7]) (fun i F H'=>Kept H1 H'∧Gr H' H1.next g N.sigma (B9a N N.arcs) (A7j N (N.ends.take i)) (A4o N (N.ends.take i))) (by simp only [sx]) ⟨hk,hg⟩ ?_ ?_
  ·rintro i F' H' hlt hF' f56 ⟨hk,hg⟩ k
   have g1:=hF' 1 rfl
   have g3:=hF' 3 rfl
   have f54:=hF' 54 rfl
   have f55:=hF' 55 rfl
   simp only [sx,Nat.reduceEqDiff,f1,f3] at g1 g3 f54 f55
   have hb':=hb1.kept hk1.wf hk
   obtain ⟨q,o,kk,hia,hc,hcc⟩:=hb'.hen.at Tryz.underlying24 A3u (i:=i) (x:=N.ends[i].cells) (by simp [hlt]) .i64
   clear hcc
   have htake:N.ends.take (i+1)=N.ends.take i++[N.ends[i]]:=by rw [List.take_add_one,List.getElem?_eq_getElem hlt]; rfl
   obtain ⟨k0,k1⟩:=hok.fin _ (List.getElem_mem hlt)
   have hk3:=hk.news 2 (N.ends[i].cells)
   have hg3:=hg.kept hk.wf (Kept.new hk.wf 2 (N.ends[i].cells))
   generalize N.ends[i]=e at hk3 hg3 hc htake k0 k1
   obtain ⟨s,hs⟩:∃ s:Nat,e.state=(s:Int):=⟨e.state.toNat,by omega⟩
   have hsn:s < N.states.toNat:=by omega
   have hrow:=A0h (key:=EndD.state) (f:=EndD.cost) (l:=N.ends.take i) hsn
   have hrl:=A8y hrow
   have htl:(N.ends.take i).length≤60000:=by rw [List.length_take]; have:=hok.en; omega
   have l1:s < (A7j N (N.ends.take i)).length:=by unfold A7j; rw [List.length_map,A9e]; exact hsn
   have l2:s < (A4o N (N.ends.take i)).length:=by unfold A4o; rw [List.length_map,A9e]; exact hsn
   have v1:(A7j N (N.ends.take i))[s]=((((N.ends.take i).filter fun a=>decide (a.state=(s:Int))).map EndD.cost).length:Int):=by
    apply Option.some.inj
    rw [← List.getElem?_eq_getElem l1]
    unfold A7j
    rw [List.getElem?_map,hrow]; rfl
   have v2:(A4o N (N.ends.take i))[s]=leastOf (((N.ends.take i).filter fun a=>decide (a.state=(s:Int))).map EndD.cost):=by
    apply Option.some.inj
    rw [← List.getElem?_eq_getElem l2]
    unfold A4o
    rw [List.getElem?_map,hrow]; rfl
   obtain ⟨r,H5,hd5,hc5,hg5⟩:=grEnd (x:=e.cost) hg3 l1 l2 hk3.wf (by rw [v1]; omega) (by rw [v1]; omega)
   rw [v1,v2] at hg5
   rw [← hs] at hd5
   simp only [↓Sh.dn,sx,Nat.reduceEqDiff,B69,B0u,B15,end0,end1,g3,f54,f55,f56,A1a,hlt,decide_true,hia,hc]
   refine ⟨_,_,hd5,?_⟩
   have hen:=hsm.en
   simp only [wrap_succ hlt hen]
   refine k _ _ (by repeat (first | refine Same.put ?_ rfl | exact Same.rfl' _)) (by simp only [sx]) ⟨hk3.then (Nat.le_refl _) hc5,?_⟩
   rw [htake]
   have e1:A7j N (N.ends.take i++[e])=(A7j N (N.ends.take i)).set s (((((N.ends.take i).filter fun a=>decide (a.state=(s:Int))).map EndD.cost).length:Int)+1):=by
    unfold A7j
    rw [A0x hsn hs,List.map_set]
    congr 1
    rw [List.length_append]; simp
   have e2:A4o N (N.ends.take i++[e])=(A4o N (N.ends.take i)).set s (A9y ((((N.ends.take i).filter fun a=>decide (a.state=(s:Int))).map EndD.cost).length:Int) (leastOf (((N.ends.take i).filter fun a=>decide (a.state=(s:Int))).map EndD.cost)) e.cost):=by
    unfold A4o
    rw [A0x hsn hs,List.map_set]
    congr 1
    rw [B1z]
    unfold A9y
    have:((((N.ends.take i).filter fun a=>decide (a.state=(s:Int))).map EndD.cost).length:Int)=0↔((N.ends.take i).filter fun a=>decide (a.state=(s:Int))).map EndD.cost=[]:=by
     rw [← List.length_eq_zero_iff]; omega
    simp only [this]
   rw [e1,e2]
   exact hg5
  ·rintro F' H' hF' f56 ⟨hk,hg⟩
   have g3:=hF' 3 rfl
   have f55:=hF' 55 rfl
   simp only [sx,Nat.reduceEqDiff,f3] at g3 f55
   rw [List.take_length] at hg
   simp only [↓Sh.dn,sx,Nat.reduceEqDiff,g3,f55,f56,A1a,Nat.lt_irrefl,decide_false,hres]
   exact ⟨hk1.trans hk,_,rfl,_,Nat.le_of_lt hnx,hg⟩
end Go.Proofs.YtcgbiedfbacgpaaGreat
/- The reference's graph: made of a net. -/
namespace Go.Proofs.YtcgbiedfbacgpaaGreat
open Go Go.Proofs Go.Proofs.Sh
theorem rgZero {H:AH}:anew Tryz.prog 60 H (.agg #[.int .i64 0,.slice none 0 0,.slice none 0 0])=some (.pointer (some ⟨H.next,0,some 0⟩),(H.new 3 [.int .i64 0,.slice none 0 0,.slice none 0 0]).2):=A6r (vs:=[.int .i64 0,.slice none 0 0,.slice none 0 0]) B1e rfl rfl
theorem B4z {H:AH} {ev bv:Value} (he:isCell ev=true) (hb:isCell bv=true):anew Tryz.prog 60 H (.agg #[.int .i64 0,ev,bv])=some (.pointer (some ⟨H.next,0,some 0⟩),(H.new 3 [.int .i64 0,ev,bv]).2):=
 A6r (vs:=[.int .i64 0,ev,bv]) B1e rfl (by simp [he,hb,show isCell (.int .i64 0)=true from rfl])
theorem C7s {H:AH} {ev bv:Value} {p:Addr} (he:isCell ev=true) (hb:isCell bv=true):A6e Tryz.prog 60 H (.agg #[.int .i64 0,ev,bv]) (.pointer (some p))=H.write p [.int .i64 0,ev,bv]:=
 A0z (vs:=[.int .i64 0,ev,bv]) B1e rfl (by simp [he,hb,show isCell (.int .i64 0)=true from rfl])
theorem rgOver {H:AH} {a b c x y z:Value}:(H.new 3 [a,b,c]).2.write ⟨H.next,0,some 0⟩ [x,y,z]=some (H.new 3 [x,y,z]).2:=A5o rfl
theorem C7e {H:AH}:anew Tryz.prog 99 H (.agg #[.string ⟨#[]⟩,.int .i64 0])=some (.pointer (some ⟨H.next,0,some 0⟩),(H.new 2 [.string ⟨#[]⟩,.int .i64 0]).2):=A6r (vs:=[.string ⟨#[]⟩,.int .i64 0]) A1t rfl rfl
theorem B5r {H:AH} {e:ByteArray×Nat} {p:Addr}:A6e Tryz.prog 99 H (.agg (A2h e).toArray) (.pointer (some p))=H.write p (A2h e):=A0z A1t rfl rfl
theorem C5j {H:AH} {e:ByteArray×Nat} {x0 x1:Value}:(H.new 2 [x0,x1]).2.write ⟨H.next,0,some 0⟩ (A2h e)=some (H.new 2 (A2h e)).2:=A5o rfl
theorem re0 {H:AH} {e:ByteArray×Nat}:(H.new 2 (A2h e)).2.cell ⟨H.next,0,some 0⟩=some (.string e.1):=A1m _ _ _
theorem re1 {H:AH} {e:ByteArray×Nat}:(H.new 2 (A2h e)).2.cell ⟨H.next,1,some 0⟩=some (.int .i64 (e.2:Int)):=A1m _ _ _
theorem rgOut {H:AH} (hw:Wf H) {ev bv:Value} {g:Nat} (x y z:Value) (h:Sh.Obj H g 3 [x,y,z] true) (he:isCell ev=true) (hb:isCell bv=true):∃ H',A6e Tryz.prog 60 H (.agg #[.int .i64 0,ev,bv]) (.pointer (some ⟨g,0,some 0⟩))=some H'∧Sh.Obj H' g 3 [.int .i64 0,ev,bv] true∧Chg (fun y=>y=g) H H':=by
 obtain ⟨H',h1,h2,h3,h4⟩:=h.arr.write hw (i:=0) (vs:=[.int .i64 0,ev,bv]) (by simp)
 have ho:Sh.Obj H' g 3 [.int .i64 0,ev,bv] true:=by
  obtain ⟨H2,k1,k2,_⟩:=Sh.Obj.write h (i:=0) (vs:=[.int .i64 0,ev,bv]) (by simp)
  rw [h1] at k1
  injection k1 with k1
  subst k1
  exact k2
 exact ⟨H',by rw [C7s he hb]; exact h1,ho,h4.weak fun _ h=>h⟩
theorem newGraph {H:AH} {n:Nat} (hn:n≤1048576) (hw:Wf H):
  Sh.Call Tryz.prog (knows 7) 59 [.int .i64 (n:Int)] H (fun r H'=>Kept H H'∧∃ ev bv,r=.agg #[.int .i64 0,ev,bv]∧∃ g1,H.next≤g1∧∃ g2,g1 < g2∧Jag H' ev (if n=0 then none else some g1) 2 (List.replicate n (.slice none 0 0)) (List.replicate n []) (List.replicate n none)∧Buf H' 1 bv (List.replicate n [.bool false]) (if n=0 then none else some g2)):=by
 refine A2a rfl Tryz.func59 rfl (Nat.le_of_ble_eq_true rfl) ?_
 have hres:Tryz.f59.results.toList=[.cell 2 60]:=rfl
 simp only [↓Sh.dn,sx,rgZero]
 have k0:=Kept.new hw 3 [.int .i64 0,.slice none 0 0,.slice none 0 0]
 have o0:=Sh.Obj.new (H:=H) 3 [.int .i64 0,.slice none 0 0,.slice none 0 0]
 have x0:H.next < (H.new 3 [.int .i64 0,.slice none 0 0,.slice none 0 0]).2.next:=Nat.lt_succ_self _
 generalize (H.new 3 [.int .i64 0,.slice none 0 0,.slice none 0 0]).2=H0 at k0 o0 x0 ⊢
 have m1:=mk_57 (H:=H0) (l:=n) (c:=n) (Nat.le_refl _) (by omega)
 have k1:=Kept.new k0.wf 1 (List.replicate n (.slice none 0 0))
 have jg:=Jag.make k0.wf 2 (n:=n) (by omega)
 have o1:=B11 (H:=H0) (n:=n) (z:=.slice none 0 0) rfl
 have x1:H0.next < (H0.new 1 (List.replicate n (.slice none 0 0))).2.next:=Nat.lt_succ_self _
 generalize (H0.new 1 (List.replicate n (.slice none 0 0))).2=K1 at m1 k1 jg o1 x1 ⊢
 have m2:=B74 (H:=K1) (l:=n) (c:=n) (Nat.le_refl _) (by omega)
 have k2:=Kept.new k1.wf 1 (List.replicate n (.bool false))
 have f2:=Buf.fill k1.wf (.bool false) (c:=n) (by omega)
 have o2:=B11 (H:=K1) (n:=n) (z:=.bool false) rfl
 generalize (K1.new 1 (List.replicate n (.bool false))).2=K2 at m2 k2 f2 o2 ⊢
 have bq:A9r Tryz.prog 60 [(1,.slice (some ⟨H0.next,0,some 0⟩) n n),(2,.slice (some ⟨K1.next,0,some 0⟩) n n)]=some (.agg #[.int .i64 0,.slice (some ⟨H0.next,0,some 0⟩) n n,.slice (some ⟨K1.next,0,some 0⟩) n n]):=by
  have va:∀ xs:Array Value,A6a (.agg xs)=xs.toList:=fun _=>rfl
  refine A3o (pl:=[(0,1),(1,1),(2,1)]) Tryz.underlying60 B67 (by kernel_rfl) ?_
  simp [A82,A6a,isCell,setCells,A5c]
 have o0':Sh.Obj K2 H.next 3 [.int .i64 0,.slice none 0 0,.slice none 0 0] true:=by
  unfold Sh.Obj at o0 ⊢
  rw [(k1.trans k2).old H.next x0]; exact o0
 obtain ⟨K3,st,o3,c3⟩:=rgOut (ev:=.slice (some ⟨H0.next,0,some 0⟩) n n) (bv:=.slice (some ⟨K1.next,0,some 0⟩) n n) k2.wf _ _ _ o0' rfl rfl
 have k012:=(k0.trans k1).trans k2
 have c3':=o3.cells (i:=0) (n:=3) (by simp)
 refine B0t (fl:=[(0,true),(1,false),(2,true),(3,false),(4,true),(5,true)]) (by kernel_rfl) (by kernel_rfl) k0.wf ?_
 simp only [↓Sh.dn,sx,reduceCtorEq,Nat.reduceEqDiff,wpg,C8r,isEff,A4e,isRead,forall_eq',m1,m2,bq,st,hres,c3',List.drop_zero,List.take_succ_cons,List.take_zero]
 have j1:=(jg.kept k1.wf k2).chg k2.wf c3 (fun y hy e=>by
  subst e
  have:∀ y,JIn (if n=0 then none else some H0.next) (List.replicate n none) y→y=H0.next:=by
   rintro y (h | ⟨i,h⟩)
   ·by_cases h0:n=0
    ·rw [if_pos h0] at h; cases h
    ·rw [if_neg h0] at h; exact (Option.some.inj h).symm
   ·rw [List.getElem?_replicate] at h
    split at h <;> cases h
  have:=this _ hy
  omega)
 have b1:=f2.chg k2.wf c3 (fun y hy e=>by
  subst e
  by_cases h0:n=0
  ·rw [if_pos h0] at hy; cases hy
  ·rw [if_neg h0] at hy; have:=Option.some.inj hy; omega)
 exact ⟨o1,o2,c3.wf,k012.then (Nat.le_refl _) (c3.weak fun y hy=>by omega),_,_,rfl,H0.next,Nat.le_of_lt x0,K1.next,x1,j1,b1⟩
def B6o (N:NetD) (l:List ArcD):List (List (List Value)):=rowsOf ArcD.fr (fun a=>A2h (a.inn,a.to.toNat)) N.states.toNat l
theorem A09 {H:AH} {v:Value} {N:NetD} (h:A0y H v N) (hok:A3r N) (hsm:A3j N) (hw:Wf H):
  Sh.Call Tryz.prog (knows 7) 28 [v] H (fun r H'=>Kept H H'∧∃ ev bv vals,RG H' r N.states.toNat (A0g N) (marksOf EndD.state N.states.toNat N.ends) ev bv vals):=by
 refine A2a rfl Tryz.func28 rfl (Nat.le_of_ble_eq_true rfl) ?_
 have hres:Tryz.f28.results.toList=[.cell 2 60]:=rfl
 obtain ⟨sg,ar,en,rfl,hsg,har,hen⟩:=h
 have hb1:=NetBox.of (N:=N) hw hsg har hen
 have hk1:Kept H (H.new 4 [sg,.int .i64 N.states,ar,en]).2:=Kept.new hw 4 _
 have h1:=hok.st1
 have h2:=hok.st2
 obtain ⟨n,hn⟩:∃ n:Nat,N.states=(n:Int):=⟨N.states.toNat,by omega⟩
 have hnn:N.states.toNat=n:=by omega
 simp only [↓Sh.dn,sx,Nat.reduceEqDiff,A9s hsg.isCell har.isCell hen.isCell,rgZero]
 have hnx:H.next < (H.new 4 [sg,.int .i64 N.states,ar,en]).2.next:=Nat.lt_succ_self _
 have e0:∀ y,(H.new 4 [sg,.int .i64 N.states,ar,en]).2.next≤y→H.next≤y:=fun y hy=>Nat.le_trans (Nat.le_succ _) hy
 generalize H.next=gg at hb1 hnx ⊢
 generalize (H.new 4 [sg,.int .i64 N.states,ar,en]).2=H1 at hb1 hk1 hnx e0 ⊢
 have hb2:=hb1.new hk1.wf 3 [.int .i64 0,.slice none 0 0,.slice none 0 0]
 have hk2:=hk1.news 3 [.int .i64 0,.slice none 0 0,.slice none 0 0]
 have o0:=Sh.Obj.new (H:=H1) 3 [.int .i64 0,.slice none 0 0,.slice none 0 0]
 have x2:H1.next < (H1.new 3 [.int .i64 0,.slice none 0 0,.slice none 0 0]).2.next:=Nat.lt_succ_self _
 generalize H1.next=go at o0 x2 e0 ⊢
 generalize (H1.new 3 [.int .i64 0,.slice none 0 0,.slice none 0 0]).2=H2 at hb2 hk2 o0 x2 ⊢
 obtain ⟨r,H3,hd3,hk3,ev,bv,rfl,g1,hg1,g2,hg2,hj,hbf⟩:=newGraph (n:=n) (by omega) hk2.wf
 simp only [sx,hb2.c1,hn]
 refine ⟨_,_,hd3,?_⟩
 have hb3:=hb2.kept hk2.wf hk3
 have ic1:=hj.top.isCell
 have ic2:=hbf.isCell
 simp only [sx,C7s ic1 ic2,rgOver]
 have og:=(Sh.Obj.new (H:=H3) 3 [.int .i64 0,ev,bv]).arr
 have kn:=Kept.new hk3.wf 3 [.int .i64 0,ev,bv]
 have xg:H3.next < (H3.new 3 [.int .i64 0,ev,bv]).2.next:=Nat.lt_succ_self _
 have hj4:=hj.kept hk3.wf kn
 have hbf4:=hbf.kept hk3.wf kn
 have hk4:=hk3.trans kn
 have hx3:=hk3.next
 obtain ⟨ot,hot⟩:∃ ot,(if n=0 then none else some g1)=ot:=⟨_,rfl⟩
 obtain ⟨ob,hob⟩:∃ ob,(if n=0 then none else some g2)=ob:=⟨_,rfl⟩
 have lob:∀ y,ob=some y→y=g2:=by
  intro y h
  rw [← hob] at h
  by_cases h0:n=0
  ·rw [if_pos h0] at h; cases h
  ·rw [if_neg h0] at h; exact (Option.some.inj h).symm
 have lot:∀ y,JIn ot (List.replicate n none) y→y=g1:=by
  rintro y (h | ⟨i,h⟩)
  ·rw [← hot] at h
   by_cases h0:n=0
   ·rw [if_pos h0] at h; cases h
   ·rw [if_neg h0] at h; exact (Option.some.inj h).symm
  ·rw [List.getElem?_replicate] at h
   split at h <;> cases h
 rw [hot] at hj4
 rw [hob] at hbf4
 have lb:=fun y h=>hbf.lt hk3.wf y (by rw [hob]; exact h)
 have lj:=fun y h=>hj.lt hk3.wf y (by rw [hot]; exact h)
 generalize H3.next=gb at og xg hx3 lb lj ⊢
 generalize (H3.new 3 [.int .i64 0,ev,bv]).2=H4 at og xg hj4 hbf4 hk4 ⊢
 refine A9c N.arcs.length 4 (List.range' 4 36++[4,5]) (fun i F H'=>Kept H2 H'∧Arr H' gb 0 3 [.int .i64 0,ev,bv]∧Buf H' 1 bv (List.replicate n [.bool false]) ob∧∃ vals obs,Jag H' ev ot 2 vals (B6o N (N.arcs.take i)) obs∧∀ y,JIn ot obs y→H2.next≤y∧y≠gb∧ob≠some y) (by simp only [sx]) ⟨hk4,og,hbf4,_,_,by
  rw [List.take_zero]; unfold B6o; rw [A63,hnn]; exact hj4,fun y hy=>by
   have e1:=lot y hy
   have e2:=lj y hy
   exact ⟨by omega,by omega,fun h=>by have:=lob y h; omega⟩⟩ ?_ ?_
 ·rintro i F H' hlt hF f4 ⟨hk,hog,hbb,vals,obs,hJ,hin⟩ k
  have f1:=hF 1 rfl
  have f3:=hF 3 rfl
  simp only [sx,Nat.reduceEqDiff] at f1 f3
  have hb':=hb2.kept hk2.wf hk
  obtain ⟨q,o,kk,hia,hc,hcc⟩:=hb'.har.at Tryz.underlying23 A1q (i:=i) (x:=N.arcs[i].cells) (by simp [hlt]) .i64
  clear hcc
  have htake:N.arcs.take (i+1)=N.arcs.take i++[N.arcs[i]]:=by rw [List.take_add_one,List.getElem?_eq_getElem hlt]; rfl
  obtain ⟨k0,k1,k2,k3,k4,k5⟩:=hok.arc _ (List.getElem_mem hlt)
  have kn:=Kept.new hk.wf 5 (N.arcs[i].cells)
  have hk3:=hk.news 5 (N.arcs[i].cells)
  generalize N.arcs[i]=a at hk3 kn hc htake k0 k1 k2 k3 k4 k5
  obtain ⟨s,hs⟩:∃ s:Nat,a.fr=(s:Int):=⟨a.fr.toNat,by omega⟩
  have hto:(a.to.toNat:Int)=a.to:=by omega
  have hsn:s < N.states.toNat:=by omega
  have hrow:=A0h (key:=ArcD.fr) (f:=fun a=>A2h (a.inn,a.to.toNat)) (l:=N.arcs.take i) hsn
  have hrl:=A8y hrow
  have hsmA:=hsm.ar
  have htl:(N.arcs.take i).length≤1048576:=by rw [List.length_take]; omega
  have hJ3:=hJ.kept hk.wf kn
  have hog3:=hog.keep (kn.old gb (hog.lt hk.wf))
  have hbb3:=hbb.kept hk.wf kn
  have hnj:¬JIn ot obs H'.next:=fun h=>by have:=hJ.lt hk.wf _ h; omega
  have hn:=hog3.cell 1
  obtain ⟨ba,cap,w',H5,H6,o',p,e1,e2,e3,e4,e5,e6,e7,e8,e9⟩:=hJ3.pushAt Tryz.underlying57 A3q hk3.wf hrow (x:=A2h (a.inn,a.to.toNat)) rfl
  rw [← hs] at e2
  have bl:A9r Tryz.prog 99 [(0,.string a.inn),(1,.int .i64 a.to)]=some (.agg (A2h (a.inn,a.to.toNat)).toArray):=by
   have:=bld_99 (v0:=.string a.inn) (v1:=.int .i64 a.to) rfl rfl
   rw [this]; simp [A2h,hto]
  have hbs:=B93 (H:=(H'.new 5 a.cells).2) (x:=.agg (A2h (a.inn,a.to.toNat)).toArray) rfl rfl
  have ha:=C40 (H:=(H'.new 5 a.cells).2) (base:=ba) (len:=_) (cap:=cap) (x:=A2h (a.inn,a.to.toNat)) rfl (Nat.le_trans hrl (by omega))
  rw [e1] at ha
  have hgj:¬JIn ot obs gb:=fun h=>(hin gb h).2.1 rfl
  have hn5:=(hog3.keep (e7.old gb (hog3.lt hk3.wf) hgj)).cell 1
  have c4:=((Sh.Obj.new (H:=H') 5 a.cells).arr.keep (e7.old H'.next (Nat.lt_succ_self _) hnj)).cell 0
  have c4':(a.cells)[0]?=some (.int .i64 a.fr):=rfl
  rw [c4'] at c4
  have st:A6e Tryz.prog 97 H5 w' (.pointer (some p))=some H6:=by rw [A1c A3q e8,e4]
  have va:∀ xs:Array Value,A6a (.agg xs)=xs.toList:=fun _=>rfl
  have hav:=hJ3.top.veq
  simp only [va] at hbs
  simp only [↓Sh.dn,sx,Nat.reduceEqDiff,hb'.c2,A4m hb',B2e,A24,B7k,f1,f4,A1a,hlt,decide_true,hia,hc]
  refine A9w (fl:=[(0,[]),(1,[]),(2,[]),(3,[]),(4,[]),(5,[]),(6,[]),(7,[]),(8,[]),(9,[]),(10,[]),(11,[]),(12,[]),(13,[]),(14,[]),(15,[]),(16,[3,1]),(17,[]),(18,[])]) (by kernel_rfl) (by kernel_rfl) (by kernel_rfl) ?_
  simp only [↓Sh.dn,sx,Nat.reduceEqDiff,wpr,again,A4e,A7u,forall_eq',arc0,arc1,arc3,f3,f4,hn,e2,e3,hav,bl,hbs,ha,hn5,st,c4,wrap_succ hlt hsm.ar]
  refine k _ _ (by repeat (first | refine Same.put ?_ rfl | exact Same.rfl' _)) (by simp only [sx]) ⟨hk3.then (Nat.le_refl _) (e6.weak fun y hy=>(hin y hy).1),hog3.keep (e6.old gb (hog3.lt hk3.wf) hgj),hbb3.chg hk3.wf e6 (fun y hy h=>(hin y h).2.2 hy),vals.set s w',obs.set s o',?_,?_⟩
  ·rw [htake]
   unfold B6o
   rw [A0x hsn hs]
   exact e5
  ·intro y hy
   rcases e9 y hy with h | h
   ·exact hin y h
   ·have:=hk3.next
    have:=hog3.lt hk3.wf
    exact ⟨by omega,by omega,fun h2=>by have:=hbb3.lt hk3.wf y h2; omega⟩
 ·rintro F H' hF f4 ⟨hk,hog,hbb,vals,obs,hJ,hin⟩
  have f1:=hF 1 rfl
  have f2:=hF 2 rfl
  have f3:=hF 3 rfl
  simp only [sx,Nat.reduceEqDiff] at f1 f2 f3
  rw [List.take_length] at hJ
  have hb':=hb2.kept hk2.wf hk
  simp only [↓Sh.dn,sx,Nat.reduceEqDiff,hb'.c2,A4m hb',f1,f4,A1a,Nat.lt_irrefl,decide_false]
  have hmk:∀ b:Bool,∀ m:Nat,(List.replicate m b).map A3l=List.replicate m [.bool b]:=fun b m=>by simp [A3l]
  refine A9c N.ends.length 6 (List.range' 40 16++[6]) (fun i F H'=>Kept H2 H'∧Arr H' gb 0 3 [.int .i64 0,ev,bv]∧Buf H' 1 bv ((marksOf EndD.state N.states.toNat (N.ends.take i)).map A3l) ob∧Jag H' ev ot 2 vals (B6o N N.arcs) obs) (by simp only [sx]) ⟨hk,hog,by rw [List.take_zero,B5x,hnn,hmk]; exact hbb,hJ⟩ ?_ ?_
  ·rintro i F' H' hlt hF' f6 ⟨hk,hog,hbb,hJ⟩ k
   have g1:=hF' 1 rfl
   have g3:=hF' 3 rfl
   simp only [sx,Nat.reduceEqDiff,f1,f3] at g1 g3
   have hb':=hb2.kept hk2.wf hk
   obtain ⟨q,o,kk,hia,hc,hcc⟩:=hb'.hen.at Tryz.underlying24 A3u (i:=i) (x:=N.ends[i].cells) (by simp [hlt]) .i64
   have hcs:=hcc 0 _ rfl
   simp only [Nat.add_zero] at hcs
   clear hcc
   have htake:N.ends.take (i+1)=N.ends.take i++[N.ends[i]]:=by rw [List.take_add_one,List.getElem?_eq_getElem hlt]; rfl
   obtain ⟨k0,k1⟩:=hok.fin _ (List.getElem_mem hlt)
   generalize N.ends[i]=e at hc hcs htake k0 k1
   obtain ⟨s,hs⟩:∃ s:Nat,e.state=(s:Int):=⟨e.state.toNat,by omega⟩
   have hsn:s < N.states.toNat:=by omega
   have hn1:=hog.cell 1
   have hn2:=hog.cell 2
   obtain ⟨p,H6,ia,e1,e2,e3,e4⟩:=Buf.set (P:=Tryz.prog) hbb hk.wf (i:=s) (x:=A3l true) (by simp [A7i,hsn]) rfl
   have ia2:=ia Tryz.underlying58 A8h (j:=.i64)
   rw [← hs] at ia2
   have st:A6e Tryz.prog 4 H' (.bool true) (.pointer (some p))=some H6:=by rw [A1c A8h rfl]; exact e1
   simp only [↓Sh.dn,sx,Nat.reduceEqDiff,hb'.c3,A7r hb',g1,f6,A1a,hlt,decide_true]
   first | refine (A7a (by kernel_rfl)).2 ?_ | skip
   simp only [↓Sh.dn,sx,Nat.reduceEqDiff,hb'.c3,g1,g3,f6,hn2,hia,hcs,ia2,st,wrap_succ hlt hsm.en]
   refine k _ _ (by repeat (first | refine Same.put ?_ rfl | exact Same.rfl' _)) (by simp only [sx]) ⟨hk.then (Nat.le_refl _) (e3.weak fun y hy=>by have:=lob y hy; omega),hog.keep (e3.old gb (hog.lt hk.wf) (fun hy=>by have:=lb gb hy; omega)),?_,hJ.chg hk.wf e3 fun y hy h=>(hin y hy).2.2 h⟩
   rw [htake,B5w hsn hs,List.map_set]
   exact e2
  ·rintro F' H' hF' f6 ⟨hk,hog,hbb,hJ⟩
   have g1:=hF' 1 rfl
   have g2':=hF' 2 rfl
   have g3:=hF' 3 rfl
   simp only [sx,Nat.reduceEqDiff,f1,f2,f3] at g1 g2' g3
   rw [List.take_length] at hbb
   have hb':=hb2.kept hk2.wf hk
   have o0':Sh.Obj H' go 3 [.int .i64 0,.slice none 0 0,.slice none 0 0] true:=by
    unfold Sh.Obj at o0 ⊢
    rw [hk.old go x2]; exact o0
   obtain ⟨H6,st,o3,c3⟩:=rgOut (ev:=ev) (bv:=bv) hk.wf _ _ _ o0' ic1 ic2
   have hca:=hog.cells (i:=0) (n:=3) (by simp)
   have hcr:=o3.cells (i:=0) (n:=3) (by simp)
   simp only [↓Sh.dn,sx,Nat.reduceEqDiff,hb'.c3,A7r hb',g1,g2',g3,f6,A1a,Nat.lt_irrefl,decide_false,hca,List.drop_zero,List.take_succ_cons,List.take_zero,st,hres,hcr]
   have hJ6:=(hJ.chg hk.wf c3 fun y hy e=>by have:=(hin y hy).1; omega).read
   have hb6:=(hbb.chg hk.wf c3 fun y hy e=>by have:=lob y hy; omega).toSl
   have er:A4h (A0g N)=B6o N N.arcs:=by unfold A4h A0g B6o rowsOf; simp [Function.comp_def]
   rw [← hn]
   refine ⟨(hk2.trans hk).then (e0 go (Nat.le_refl _)) (c3.weak fun y hy=>by omega),ev,bv,vals,rfl,by rw [er]; exact hJ6,hb6,by unfold A0g; rw [A9e],A7i,by omega,by omega,fun s r hr=>⟨Nat.le_trans (A8y hr) hok.ar,fun e he=>?_⟩⟩
   obtain ⟨a,ha,_,rfl⟩:=(A9p hr e).1 he
   have:=hok.arc a ha
   show a.to.toNat < _
   omega
end Go.Proofs.YtcgbiedfbacgpaaGreat
/- slices.Sort. -/
namespace Go.Proofs.YtcgbiedfbacgpaaGreat
open Go Go.Proofs Go.Proofs.Sh
theorem B0m {H:AH} {v:Value}:Sh.Call Tryz.prog (knows 7) 118 [v,.int .i64 0,.int .i64 0] H (fun r H'=>H'=H):=by
 refine A2a rfl Tryz.func118 rfl (Nat.le_of_ble_eq_true rfl) ?_
 have hres:Tryz.f118.results.toList=[]:=rfl
 have w1:IntKind.wrap .i64 ((0:Int)+1)=1:=rfl
 simp only [↓Sh.dn,sx,w1]
 refine A1b (fun m F H'=>H'=H∧F.get 2=some (.int .i64 0)∧F.get 6=some (.int .i64 1)) (m:=0) ⟨rfl,by simp only [sx,Nat.reduceEqDiff],by simp only [sx]⟩ ?_
 rintro m F H' ⟨rfl,f2,f6⟩ kk
 have d:decide ((1:Int) < 0)=false:=rfl
 simp only [↓Sh.dn,sx,Nat.reduceEqDiff,f2,f6,d,hres]
theorem B4m {H:AH} {v:Value} {lim:Int}:Sh.Call Tryz.prog (knows 7) 115 [v,.int .i64 0,.int .i64 0,.int .i64 lim] H (fun r H'=>H'=H):=by
 refine A2a rfl Tryz.func115 rfl (Nat.le_of_ble_eq_true rfl) ?_
 have hres:Tryz.f115.results.toList=[]:=rfl
 obtain ⟨r,H1,hd,rfl⟩:=B0m (H:=H) (v:=v)
 have w1:IntKind.wrap .i64 ((0:Int) - 0)=0:=rfl
 have d:decide ((0:Int)≤12)=true:=rfl
 simp only [↓Sh.dn,sx]
 refine A1b (fun m F H'=>H'=H1∧F.get 0=some v∧F.get 1=some (.int .i64 0)∧F.get 2=some (.int .i64 0)) (m:=0) ⟨rfl,by simp only [sx,reduceCtorEq],by simp only [sx,Nat.reduceEqDiff],by simp only [sx,Nat.reduceEqDiff]⟩ ?_
 rintro m F H' ⟨rfl,f0,f1,f2⟩ kk
 simp only [↓Sh.dn,sx,reduceCtorEq,Nat.reduceEqDiff,f0,f1,f2,w1,d]
 refine ⟨_,_,hd,?_⟩
 simp only [sx,hres]
theorem B25 {H:AH} {v:Value} {l:List Int} {ob:Option Nat} (hb:Buf H 1 v (l.map fun x=>[Value.int .i64 x]) ob) (hl:l.length≤1048576) (hw:Wf H):
  Sh.Call Tryz.prog (knows 7) 113 [v] H (fun r H'=>∃ l':List Int,l'.Perm l∧Srt A4c 0 l'.length l'∧Buf H' 1 v (l'.map fun x=>[Value.int .i64 x]) ob∧Chg (fun y=>ob=some y) H H'):=by
 refine A2a rfl Tryz.func113 rfl (Nat.le_of_ble_eq_true rfl) ?_
 have hres:Tryz.f113.results.toList=[]:=rfl
 have hlen:=hb.toSl.len Tryz.underlying69 H
 rw [List.length_map] at hlen
 have wu:IntKind.wrap .u64 (l.length:Int)=(l.length:Int):=A8u (by omega) (by omega)
 obtain ⟨r,H1,hd,rfl,c,rfl,_⟩:=bitsLen (H:=H) (x:=l.length) (by omega)
 simp only [↓Sh.dn,sx,reduceCtorEq,Nat.reduceEqDiff,hlen,wu]
 refine ⟨_,_,hd,?_⟩
 cases ob with
 | none=>
  have hl0:l=[]:=by
   generalize hL:(l.map fun x=>[Value.int .i64 x])=L at hb
   cases hb
   simpa using hL
  subst hl0
  obtain ⟨r,H2,hd2,rfl⟩:=B4m (H:=H1) (v:=v) (lim:=(c:Int))
  simp only [reduceCtorEq,List.length_nil,Int.ofNat_zero]
  refine ⟨_,_,hd2,?_⟩
  simp only [sx,hres]
  exact ⟨[],List.Perm.refl _,fun i j x y h1 h2 h3=>by simp at h3,hb,Chg.refl hw⟩
 | some g=>
  obtain ⟨k,cap,n,rfl,hc,hback⟩:=hb.cells
  obtain ⟨r,H2,hd2,l',q1,q2,q3,q4⟩:=pdqInt (cap:=cap) l.length (a:=0) (b:=l.length) (lim:=(c:Int)) (by omega) hc hw hl (Nat.zero_le _) (Nat.le_refl _) (fun q x y h=>absurd h (Nat.lt_irrefl 0))
  simp only [sx]
  refine ⟨_,_,hd2,?_⟩
  simp only [sx,hres]
  exact ⟨l',q1.perm,by rw [q1.length]; exact q2,hback H2 l' q1.length q3,q4.weak fun x hx=>by rw [hx]⟩
end Go.Proofs.YtcgbiedfbacgpaaGreat
/- sort.Ints. -/
namespace Go.Proofs.YtcgbiedfbacgpaaGreat
open Go Go.Proofs Go.Proofs.Sh
theorem sortInts {H:AH} {v:Value} {l:List Int} {ob:Option Nat} (hb:Buf H 1 v (l.map fun x=>[.int .i64 x]) ob) (hl:l.length≤1048576) (hw:Wf H):
  Sh.Call Tryz.prog (knows 7) 109 [v] H (fun r H'=>∃ l':List Int,l'.Perm l∧Srt A4c 0 l'.length l'∧Buf H' 1 v (l'.map fun x=>[.int .i64 x]) ob∧Chg (fun y=>ob=some y) H H'):=by
 refine A2a rfl Tryz.func109 rfl (Nat.le_of_ble_eq_true rfl) ?_
 have hres:Tryz.f109.results.toList=[]:=rfl
 obtain ⟨r,H1,hd,hq⟩:=B25 hb hl hw
 simp only [↓Sh.dn,sx]
 refine ⟨_,_,hd,?_⟩
 simp only [sx,hres]
 exact hq
end Go.Proofs.YtcgbiedfbacgpaaGreat
/- The reference's Close: a set of states with all that empty edges lead to. -/
namespace Go.Proofs.YtcgbiedfbacgpaaGreat
open Go Go.Proofs Go.Proofs.Sh
theorem C0i {H:AH} {v u ev bv:Value} {vals:List Value} {n:Nat} {E:List (List (ByteArray×Nat))} {ends:List Bool} {L:List Nat} (h:RG H v n E ends ev bv vals) (hL:Sl H u 1 (L.map natC)) (hlt:∀ t∈L,t < n) (hll:L.length≤1073741823) (hw:Wf H):
  Sh.Call Tryz.prog (knows 7) 93 [v,u] H (fun r H'=>SetOut H H' r n (Clo (A8d E A8a) fun s=>s∈L)):=by
 refine A2a rfl Tryz.func93 rfl (Nat.le_of_ble_eq_true rfl) ?_
 have hres:Tryz.f93.results.toList=[.tmp 4]:=rfl
 have hrb:=RBox.of h hw
 have hk1:Kept H (H.new 3 [.int .i64 0,ev,bv]).2:=Kept.new hw 3 _
 have hE:=h.ed.sl.isCell
 have hB:=h.en.isCell
 rw [h.eq]
 simp only [↓Sh.dn,sx,Nat.reduceEqDiff,B4z hE hB]
 have e0:H.next≤(H.new 3 [.int .i64 0,ev,bv]).2.next:=Nat.le_succ _
 generalize (H.new 3 [.int .i64 0,ev,bv]).2=H1 at hrb hk1 e0 ⊢
 generalize H.next=gb at hrb e0 ⊢
 have hn1:=h.n1
 have hn2:=h.n2
 have hlenE:∀ H',A4a Tryz.prog .len [57] [ev] H'=some (.int .i64 (n:Int),H'):=fun H'=>by
  rw [h.ed.sl.len Tryz.underlying57,List.length_map,h.ed.len]; unfold A4h; rw [List.length_map,h.le]
 have hmk:=B74 (H:=H1) (l:=n) (c:=n) (Nat.le_refl _) (by omega)
 have k2:=Kept.new hk1.wf 1 (List.replicate n (.bool false))
 have f2:=Buf.fill hk1.wf (.bool false) (c:=n) (by omega)
 simp only [sx,hrb.c1,hlenE,hmk]
 obtain ⟨os,hos⟩:∃ os,(if n=0 then none else some H1.next)=os:=⟨_,rfl⟩
 rw [hos] at f2
 have hM0:MB (H1.new 1 (List.replicate n (.bool false))).2 H1.next n (.slice (some ⟨H1.next,0,some 0⟩) n n) os (List.replicate n false) []:=by
  refine ⟨Marks.empty n,by rw [List.map_replicate]; exact f2,fun y hy=>?_⟩
  rw [← hos,if_neg (by omega)] at hy
  rw [← Option.some.inj hy]; exact Nat.le_refl _
 generalize (Value.slice (some ⟨H1.next,0,some 0⟩) n n)=sv at hM0 ⊢
 generalize (H1.new 1 (List.replicate n (.bool false))).2=H2 at k2 hM0 ⊢
 refine A9c L.length 7 (List.range' 15 27++[6,7]) (fun i F H'=>Kept H1 H'∧∃ z,F.get 6=some z∧∃ seen out ob,MB H' H1.next n sv os seen out∧LB H' H1.next os z out ob∧(∀ t∈out,t∈L)∧∀ (j t:Nat),j < i→L[j]?=some t→t∈out) (by simp only [sx]) ⟨k2,_,by simp only [sx,Nat.reduceEqDiff],_,_,none,hM0,⟨.void none,fun y hy=>by cases hy⟩,fun t ht=>(by cases ht),fun j t hj=>by omega⟩ ?_ ?_
 ·rintro i F H' hi hF f7 ⟨hk,z,f6,seen,out,ob,hM,hl,hsub,hdone⟩ k
  have f1:=hF 1 rfl
  have f5:=hF 5 rfl
  simp only [sx,Nat.reduceEqDiff] at f1 f5
  have hL':=hL.grow ((hk1.trans hk).grow hw)
  have hlen:=hL'.len Tryz.underlying69 H'
  rw [List.length_map] at hlen
  obtain ⟨p,hia,hc⟩:=A9x Tryz.underlying69 A3c hL' hi
  have htn:L[i] < n:=hlt _ (List.getElem_mem hi)
  have hget:L[i]?=some L[i]:=List.getElem?_eq_getElem hi
  have hmem:L[i]∈L:=List.getElem_mem hi
  generalize L[i]=t at hc htn hget hmem
  obtain ⟨p2,hia2,hc2⟩:=hM.see Tryz.underlying58 A8h htn
  simp only [↓Sh.dn,sx,Nat.reduceEqDiff,f1,f5,f7,A1a,hi,decide_true,hlen,hia,hc,hia2,hc2]
  by_cases hin:t∈out
  ·simp only [↓Sh.dn,sx,Nat.reduceEqDiff,hin,decide_true,f7,A3a hi (Nat.le_trans hll (by decide))]
   refine k _ _ (by repeat (first | refine Same.put ?_ rfl | exact Same.rfl' _)) (by simp only [sx]) ⟨hk,z,by simp only [sx,Nat.reduceEqDiff,f6],seen,out,ob,hM,hl,hsub,fun j t' hj ht'=>?_⟩
   by_cases hji:j=i
   ·subst hji; rw [hget] at ht'; rw [← Option.some.inj ht']; exact hin
   ·exact hdone j t' (by omega) ht'
  ·obtain ⟨p3,H3,a,cap,w',H4,ob',e1,e2,e3,rfl,e5,e6,e7,e8,e9,e10,e11⟩:=B6c hk hM hl htn hin (by have:=hM.ms.le; omega)
   obtain ⟨p4,hia4,hc4⟩:=A9x Tryz.underlying69 A3c (hL.grow ((hk1.trans e5).grow hw)) hi
   rw [hia] at hia4
   injection hia4 with hq; injection hq with hq; injection hq with hq
   rw [← hq] at hc4
   have:L[i]=t:=Option.some.inj ((List.getElem?_eq_getElem hi).symm.trans hget)
   rw [this] at hc4
   simp only [↓Sh.dn,sx,Nat.reduceEqDiff,hin,decide_false,f1,f5,f6,f7,hia,hc,e1,e3,hc4,e6,e7,A3a hi (Nat.le_trans hll (by decide))]
   refine k _ _ (by repeat (first | refine Same.put ?_ rfl | exact Same.rfl' _)) (by simp only [sx]) ⟨e8,_,by simp only [sx,Nat.reduceEqDiff],_,_,ob',e9,e10,fun x hx=>?_,fun j t' hj ht'=>?_⟩
   ·rcases List.mem_append.1 hx with h | h
    ·exact hsub x h
    ·rw [List.mem_singleton.1 h]; exact hmem
   ·by_cases hji:j=i
    ·subst hji; rw [hget] at ht'; rw [← Option.some.inj ht']; exact List.mem_append_right _ List.mem_cons_self
    ·exact List.mem_append_left _ (hdone j t' (by omega) ht')
 ·rintro F H' hF f7 ⟨hk,z,f6,seen,out,ob,hM,hl,hsub,hdone⟩
  have f2:=hF 2 rfl
  have f5:=hF 5 rfl
  have f1:=hF 1 rfl
  simp only [sx,Nat.reduceEqDiff] at f1 f2 f5
  have hL':=hL.grow ((hk1.trans hk).grow hw)
  have hlen:=hL'.len Tryz.underlying69 H'
  rw [List.length_map] at hlen
  have hLout:∀ t∈L,t∈out:=fun t ht=>by
   obtain ⟨j,hj⟩:=List.mem_iff_getElem?.1 ht
   exact hdone j t (List.getElem?_eq_some_iff.1 hj).1 hj
  simp only [↓Sh.dn,sx,Nat.reduceEqDiff,f1,f7,A1a,Nat.lt_irrefl,decide_false,hlen]
  refine A1b (m:=n+1) (fun m F H'=>∃ i,m+i=n+1∧F.get 8=some (.int .i64 (i:Int))∧F.get 2=some (.pointer (some ⟨gb,0,some 0⟩))∧F.get 5=some sv∧Kept H1 H'∧∃ z,F.get 6=some z∧∃ seen out ob,MB H' H1.next n sv os seen out∧LB H' H1.next os z out ob∧i≤out.length∧(∀ t∈L,t∈out)∧(∀ t∈out,Clo (A8d E A8a) (fun s=>s∈L) t)∧∀ s∈out.take i,∀ t,A8d E A8a s t→t∈out) ⟨0,by omega,by simp only [sx]; rfl,by simp only [sx,Nat.reduceEqDiff,f2],by simp only [sx,Nat.reduceEqDiff,f5],hk,z,by simp only [sx,Nat.reduceEqDiff,f6],seen,out,ob,hM,hl,Nat.zero_le _,hLout,fun t ht=>.base (hsub t ht),fun s hs=>by simp at hs⟩ ?_
  clear hk hM hl hsub hdone hLout f1 f2 f5 f6 f7 hL' hlen hF
  clear z seen out ob
  clear F H'
  rintro m F H' ⟨i,hmi,f8,f2,f5,hk,z,f6,seen,out,ob,hM,hl,hio,hLout,hclo,hcl⟩ k
  have hlen:=hl.bf.toSl.len Tryz.underlying69 H'
  rw [List.length_map] at hlen
  have hout:=hM.ms.le
  by_cases hi:i < out.length
  ·simp only [↓Sh.dn,sx,Nat.reduceEqDiff,f6,f8,A1a,hi,decide_true,hlen]
   have hsn:out[i] < n:=hM.ms.lt (List.getElem_mem hi)
   have hget:out[i]?=some out[i]:=List.getElem?_eq_getElem hi
   have hcs:Clo (A8d E A8a) (fun s=>s∈L) out[i]:=hclo _ (List.getElem_mem hi)
   generalize out[i]=s at hsn hget hcs
   obtain ⟨r,hr⟩:∃ r,E[s]?=some r:=⟨E[s]'(by rw [h.le]; exact hsn),List.getElem?_eq_getElem _⟩
   have hr':(A4h E)[s]?=some (r.map A2h):=by unfold A4h; rw [List.getElem?_map,hr]; rfl
   obtain ⟨hrl,hrt⟩:=h.to s r hr
   obtain ⟨ga,oa,ka,wr,hia,hca,hsr⟩:=(h.ed.grow (hk1.grow hw)).at Tryz.underlying57 A3q hr'
   have hro:∀ {H'},Kept H1 H'→H'.cell ⟨ga,oa,some ka⟩=some wr∧Sl H' wr 2 (r.map A2h)∧A4a Tryz.prog .len [97] [wr] H'=some (.int .i64 (r.length:Int),H'):=fun hk=>by
    have h2:=hsr.grow (hk.grow hk1.wf)
    refine ⟨A2b (hk.grow hk1.wf) hca,h2,?_⟩
    rw [h2.len Tryz.underlying97,List.length_map]
   refine A9c r.length 9 (List.range' 48 44++[6,9,10]) (fun q F'' H''=>Kept H1 H''∧∃ z',F''.get 6=some z'∧∃ seen' out' ob',MB H'' H1.next n sv os seen' out'∧LB H'' H1.next os z' out' ob'∧out'[i]?=some s∧out'.take i=out.take i∧(∀ x∈out,x∈out')∧(∀ t∈out',Clo (A8d E A8a) (fun s=>s∈L) t)∧∀ e∈r.take q,e.1=A8a→e.2∈out') (by simp only [sx]) ⟨hk,z,by simp only [sx,Nat.reduceEqDiff,f6],seen,out,ob,hM,hl,hget,rfl,fun x hx=>hx,hclo,fun e he=>by simp at he⟩ ?_ ?_
   ·rintro q F'' H'' hq hF'' f9 ⟨hk'',z',f6',seen',out',ob',hM',hl',hget',htk,hsub,hclo',hed⟩ k2
    have g2:=hF'' 2 rfl
    have g5:=hF'' 5 rfl
    have g8:=hF'' 8 rfl
    simp only [sx,Nat.reduceEqDiff,f2,f5,f8] at g2 g5 g8
    obtain ⟨hc1,hs1,hl1⟩:=hro hk''
    have hb1:=hrb.kept hk1.wf hk''
    have hil:i < out'.length:=(List.getElem?_eq_some_iff.1 hget').1
    have hgs:out'[i]=s:=Option.some.inj ((List.getElem?_eq_getElem hil).symm.trans hget')
    obtain ⟨p1,hia1,hcc1⟩:=A9x Tryz.underlying69 A3c hl'.bf.toSl hil
    rw [hgs] at hcc1
    obtain ⟨g',o',k',hia2,hcs2,_⟩:=hs1.at Tryz.underlying97 A1t (i:=q) (x:=A2h r[q]) (by simp [hq]) .i64
    have hrq:r[q]∈r:=List.getElem_mem hq
    have htake:r.take (q+1)=r.take q++[r[q]]:=by rw [List.take_add_one,List.getElem?_eq_getElem hq]; rfl
    generalize r[q]=e at hcs2 hrq htake
    have kn:=Kept.new hk''.wf 2 (A2h e)
    have hk3:=hk''.trans kn
    have hM3:=hM'.kept hk''.wf kn
    have hl3:=hl'.kept hk''.wf kn
    simp only [↓Sh.dn,sx,Nat.reduceEqDiff,f6',f9,g2,g8,hb1.c1,hia1,hcc1,hia,hc1,hl1,A1a,hq,decide_true]
    refine (A7a (by kernel_rfl)).2 ?_
    simp only [↓Sh.dn,sx,Nat.reduceEqDiff,f6',f9,g2,g8,hb1.c1,hia1,hcc1,hia,hc1,hia2,hcs2,C7e,B5r,C5j,re0]
    have hnext : ∀ {seen2 : List Bool} {out2 : List Nat} {ob2 : Option Nat} {z2 : Value} {F2 : Fr} {H2 : AH}, Same (List.range' 48 44 ++ [6, 9, 10]) F'' F2 → F2.get 6 = some z2 → F2.get 9 = some (.int .i64 ((q + 1 : Nat) : Int)) → Kept H1 H2 → MB H2 H1.next n sv os seen2 out2 → LB H2 H1.next os z2 out2 ob2 → (out2 = out' ∨ out2 = out' ++ [e.2] ∧ e.1 = A8a) → (e.1 = A8a → e.2 ∈ out2) →
        wp Tryz.prog (knows 7) _ _ F2 H2 := fun {seen2 out2 ob2 z2 F2 H2} a1 a2 a3 a4 a5 a6 a7 a8 => k2 F2 H2 a1 a3 ⟨a4, z2, a2, seen2, out2, ob2, a5, a6, by
          rcases a7 with h | ⟨h, _⟩
          · rw [h]; exact hget'
          · rw [h, List.getElem?_append_left hil]; exact hget', by
          rcases a7 with h | ⟨h, _⟩
          · rw [h]; exact htk
          · rw [h, List.take_append_of_le_length (by omega)]; exact htk, fun x hx => by
          rcases a7 with h | ⟨h, _⟩
          · rw [h]; exact hsub x hx
          · rw [h]; exact List.mem_append_left _ (hsub x hx), fun t ht => by
          rcases a7 with h | ⟨h, he⟩
          · rw [h] at ht; exact hclo' t ht
          · rw [h] at ht
            rcases List.mem_append.1 ht with h2 | h2
            · exact hclo' t h2
            · rw [List.mem_singleton.1 h2]; exact .step hcs ⟨r, hr, by rw [← he]; exact hrq⟩, fun x hx hxe => by
          rw [htake] at hx
          rcases List.mem_append.1 hx with h2 | h2
          · have := hed x h2 hxe
            rcases a7 with h | ⟨h, _⟩
            · rw [h]; exact this
            · rw [h]; exact List.mem_append_left _ this
          · rw [List.mem_singleton.1 h2] at hxe ⊢; exact a8 hxe⟩
    by_cases he:e.1=⟨#[]⟩
    ·obtain ⟨p5,hia5,hc5⟩:=hM3.see Tryz.underlying58 A8h (hrt e hrq)
     by_cases hin:e.2∈out'
     ·simp only [↓Sh.dn,sx,Nat.reduceEqDiff,he,decide_true,re1,g5,hia5,hc5,hin,f9,A3a hq (Nat.le_trans hrl (by decide))]
      exact hnext (by repeat (first | refine Same.put ?_ rfl | exact Same.rfl' _)) (by simp only [sx,Nat.reduceEqDiff,f6']) (by simp only [sx]) hk3 hM3 hl3 (.inl rfl) fun _=>hin
     ·obtain ⟨p3,H3,a,cap,w',H4,ob2,e1,e2,e3,rfl,e5,e6,e7,e8,e9,e10,e11⟩:=B6c hk3 hM3 hl3 (hrt e hrq) hin (by have:=hM3.ms.le; omega)
      have hre:H3.cell ⟨H''.next,1,some 0⟩=some (.int .i64 (e.2:Int)):=by
       have:=((Sh.Obj.new (H:=H'') 2 (A2h e)).arr.keep (e11.old H''.next (Nat.lt_succ_self _) fun hy=>Nat.lt_irrefl _ (hM'.lt hk''.wf _ hy))).cell 1
       exact this
      simp only [↓Sh.dn,sx,Nat.reduceEqDiff,he,decide_true,re1,g5,e1,e2,e3,f6',hre,e6,e7,f9,A3a hq (Nat.le_trans hrl (by decide))]
      exact hnext (by repeat (first | refine Same.put ?_ rfl | exact Same.rfl' _)) (by simp only [sx,Nat.reduceEqDiff]) (by simp only [sx]) e8 e9 e10 (.inr ⟨rfl,he⟩) fun _=>List.mem_append_right _ List.mem_cons_self
    ·simp only [↓Sh.dn,sx,Nat.reduceEqDiff,he,decide_false,f9,A3a hq (Nat.le_trans hrl (by decide))]
     exact hnext (by repeat (first | refine Same.put ?_ rfl | exact Same.rfl' _)) (by simp only [sx,Nat.reduceEqDiff,f6']) (by simp only [sx]) hk3 hM3 hl3 (.inl rfl) fun h=>absurd h he
   ·rintro F'' H'' hF'' f9 ⟨hk'',z',f6',seen',out',ob',hM',hl',hget',htk,hsub,hclo',hed⟩
    have g2:=hF'' 2 rfl
    have g5:=hF'' 5 rfl
    have g8:=hF'' 8 rfl
    simp only [sx,Nat.reduceEqDiff,f2,f5,f8] at g2 g5 g8
    obtain ⟨hc1,hs1,hl1⟩:=hro hk''
    have hb1:=hrb.kept hk1.wf hk''
    have hil:i < out'.length:=(List.getElem?_eq_some_iff.1 hget').1
    have hgs:out'[i]=s:=Option.some.inj ((List.getElem?_eq_getElem hil).symm.trans hget')
    obtain ⟨p1,hia1,hcc1⟩:=A9x Tryz.underlying69 A3c hl'.bf.toSl hil
    rw [hgs] at hcc1
    have hout':=hM'.ms.le
    simp only [↓Sh.dn,sx,Nat.reduceBEq,Nat.reduceEqDiff,f6',f9,g2,g8,hb1.c1,hia1,hcc1,hia,hc1,hl1,A1a,Nat.lt_irrefl,decide_false,A3a hil (Nat.le_trans (Nat.le_trans hout' hn2) (by decide))]
    refine k (n+1 - (i+1)) _ _ (by omega) ⟨i+1,by omega,by simp only [sx],by simp only [sx,Nat.reduceEqDiff,g2],by simp only [sx,Nat.reduceEqDiff,g5],hk'',z',by simp only [sx,Nat.reduceEqDiff,f6'],seen',out',ob',hM',hl',hil,fun t ht=>hsub t (hLout t ht),hclo',fun x hx t hg=>?_⟩
    rw [List.take_add_one,hget'] at hx
    rcases List.mem_append.1 hx with hx | hx
    ·rw [htk] at hx
     exact hsub t (hcl x hx t hg)
    ·simp only [Option.toList,List.mem_singleton] at hx
     subst hx
     obtain ⟨r',hr2,hg2⟩:=hg
     rw [hr] at hr2
     rw [← Option.some.inj hr2] at hg2
     exact hed _ (by rw [List.take_length]; exact hg2) rfl
  ·simp only [↓Sh.dn,sx,Nat.reduceEqDiff,f6,f8,A1a,hi,decide_false,hlen]
   obtain ⟨rr,H3,hd3,l',hperm,hsrt,hb3,hc3⟩:=sortInts (l:=out.map fun (x:Nat)=>(x:Int)) (by rw [C6f]; exact hl.bf) (by rw [List.length_map]; omega) hk.wf
   refine ⟨_,_,hd3,?_⟩
   simp only [sx,hres]
   have hl':l'.map (fun x=>[Value.int .i64 x])=(l'.map Int.toNat).map natC:=by
    rw [List.map_map]
    refine List.map_congr_left fun x hx=>?_
    obtain ⟨y,_,rfl⟩:=List.mem_map.1 (hperm.mem_iff.1 hx)
    rfl
   rw [hl'] at hb3
   have hp2:(l'.map Int.toNat).Perm out:=by
    have:=hperm.map Int.toNat
    rw [List.map_map] at this
    have e:out.map (Int.toNat ∘ fun (x:Nat)=>(x:Int))=out:=by
     conv=>rhs; rw [← List.map_id out]
     exact List.map_congr_left fun x _=>rfl
    rw [e] at this; exact this
   refine ⟨hk1.trans (hk.then (Nat.le_refl _) (hc3.weak fun y hy=>(hl.fr y hy).1)),l'.map Int.toNat,ob,hb3,fun y hy=>Nat.le_trans hk1.next (hl.fr y hy).1,hp2.nodup_iff.2 hM.ms.nod,fun t ht=>hM.ms.lt (hp2.mem_iff.1 ht),fun t=>?_⟩
   rw [hp2.mem_iff]
   exact Clo.iff hLout hclo (fun s hs=>hcl s (by rw [List.take_of_length_le (by omega)]; exact hs)) t
end Go.Proofs.YtcgbiedfbacgpaaGreat
/- The reference's Step, Start, Run, IsEnd. -/
namespace Go.Proofs.YtcgbiedfbacgpaaGreat
open Go Go.Proofs Go.Proofs.Sh
theorem refStart {H:AH} {v ev bv:Value} {vals:List Value} {n:Nat} {E:List (List (ByteArray×Nat))} {ends:List Bool} (h:RG H v n E ends ev bv vals) (hw:Wf H):
  Sh.Call Tryz.prog (knows 7) 62 [v] H (fun r H'=>SetOut H H' r n (Clo (A8d E A8a) fun s=>s=0)):=by
 refine A2a rfl Tryz.func62 rfl (Nat.le_of_ble_eq_true rfl) ?_
 have hres:Tryz.f62.results.toList=[.tmp 2]:=rfl
 have hrb:=RBox.of h hw
 have hk1:Kept H (H.new 3 [.int .i64 0,ev,bv]).2:=Kept.new hw 3 _
 have hE:=h.ed.sl.isCell
 have hB:=h.en.isCell
 rw [h.eq]
 simp only [↓Sh.dn,sx,Nat.reduceEqDiff,B4z hE hB]
 generalize (H.new 3 [.int .i64 0,ev,bv]).2=H1 at hrb hk1 ⊢
 generalize H.next=gb at hrb ⊢
 have hbs:=A8o (H:=H1) (x:=.int .i64 0) rfl rfl
 have k2:=Kept.new hk1.wf 1 [.int .i64 0]
 have hS:Sl (H1.new 1 [.int .i64 0]).2 (.slice (some ⟨H1.next,0,some 0⟩) 1 1) 1 (([0]:List Nat).map natC):=
  (Buf.fresh (H:=H1) (s:=1) (xs:=[natC 0]) hk1.wf (by intro x hx; rw [List.mem_singleton.1 hx]; rfl) (by simp) 1 rfl).toSl
 have hR:=hrb.rg.kept hk1.wf k2
 obtain ⟨r,H3,hd3,ho⟩:=C0i hR hS (fun t ht=>by rw [List.mem_singleton.1 ht]; exact h.n1) (by decide) k2.wf
 simp only [sx,hrb.c0,hrb.ca,hbs,A6a]
 refine ⟨_,_,hd3,?_⟩
 simp only [sx,hres]
 exact (ho.pre (hk1.trans k2)).iff fun t=>by simp only [List.mem_singleton]
theorem refStep {H:AH} {v u ev bv:Value} {vals:List Value} {n:Nat} {E:List (List (ByteArray×Nat))} {ends:List Bool} {L:List Nat} {x:ByteArray} (h:RG H v n E ends ev bv vals) (hL:Sl H u 1 (L.map natC)) (hlt:∀ t∈L,t < n) (hll:L.length≤3000) (hw:Wf H):
  Sh.Call Tryz.prog (knows 7) 96 [v,u,.string x] H (fun r H'=>SetOut H H' r n (Clo (A8d E A8a) fun t=>∃ s,s∈L∧A8d E x s t)):=by
 refine A2a rfl Tryz.func96 rfl (Nat.le_of_ble_eq_true rfl) ?_
 have hres:Tryz.f96.results.toList=[.tmp 6]:=rfl
 have hrb:=RBox.of h hw
 have hk1:Kept H (H.new 3 [.int .i64 0,ev,bv]).2:=Kept.new hw 3 _
 have hE:=h.ed.sl.isCell
 have hB:=h.en.isCell
 rw [h.eq]
 simp only [↓Sh.dn,sx,B4z hE hB]
 generalize (H.new 3 [.int .i64 0,ev,bv]).2=H1 at hrb hk1 ⊢
 generalize H.next=gb at hrb ⊢
 have hn2:=h.n2
 refine A9c L.length 8 (List.range' 7 43) (fun i F H'=>Kept H1 H'∧∃ z,F.get 7=some z∧∃ out ob,LB H' H1.next none z out ob∧out.length≤i * 60000∧(∀ t∈out,t < n)∧∀ t,t∈out↔∃ s∈L.take i,A8d E x s t) (by simp only [sx]) ⟨Kept.refl hk1.wf,_,by simp only [sx,Nat.reduceEqDiff],[],none,⟨.void none,fun y hy=>by cases hy⟩,by simp,fun t ht=>(by cases ht),fun t=>by simp⟩ ?_ ?_
 ·rintro i F H' hi hF f8 ⟨hk,z,f7,out,ob,hl,hol,hon,hiff⟩ k
  have f1:=hF 1 rfl
  have f2:=hF 2 rfl
  have f3:=hF 3 rfl
  simp only [sx,Nat.reduceEqDiff] at f1 f2 f3
  have hL':=fun {H'} (hk:Kept H1 H')=>hL.grow ((hk1.trans hk).grow hw)
  have hlen:=(hL' hk).len Tryz.underlying69 H'
  rw [List.length_map] at hlen
  obtain ⟨p,hia,hc⟩:=A9x Tryz.underlying69 A3c (hL' (Kept.refl hk1.wf)) hi
  have hc':=fun {H'} (hk:Kept H1 H')=>A2b (hk.grow hk1.wf) hc
  have htn:L[i] < n:=hlt _ (List.getElem_mem hi)
  have htake:L.take (i+1)=L.take i++[L[i]]:=by rw [List.take_add_one,List.getElem?_eq_getElem hi]; rfl
  clear hc
  generalize L[i]=s at hc' htn htake
  obtain ⟨r,hr⟩:∃ r,E[s]?=some r:=⟨E[s]'(by rw [h.le]; exact htn),List.getElem?_eq_getElem _⟩
  have hr':(A4h E)[s]?=some (r.map A2h):=by unfold A4h; rw [List.getElem?_map,hr]; rfl
  obtain ⟨hrl,hrt⟩:=h.to s r hr
  obtain ⟨ga,oa,ka,wr,hia2,hca,hsr⟩:=(h.ed.grow (hk1.grow hw)).at Tryz.underlying57 A3q hr'
  have hro:∀ {H'},Kept H1 H'→H'.cell ⟨ga,oa,some ka⟩=some wr∧Sl H' wr 2 (r.map A2h)∧A4a Tryz.prog .len [97] [wr] H'=some (.int .i64 (r.length:Int),H'):=fun hk=>by
   have h2:=hsr.grow (hk.grow hk1.wf)
   refine ⟨A2b (hk.grow hk1.wf) hca,h2,?_⟩
   rw [h2.len Tryz.underlying97,List.length_map]
  simp only [↓Sh.dn,sx,Nat.reduceEqDiff,f1,f8,A1a,hi,decide_true,hlen]
  refine A9c r.length 9 (List.range' 17 33++[7,9,10]) (fun q F'' H''=>Kept H1 H''∧∃ z',F''.get 7=some z'∧∃ out' ob',LB H'' H1.next none z' out' ob'∧out'.length≤i * 60000+q∧(∀ t∈out',t < n)∧∀ t,t∈out'↔(∃ s∈L.take i,A8d E x s t)∨∃ e∈r.take q,e.1=x∧e.2=t) (by simp only [sx]) ⟨hk,z,by simp only [sx,Nat.reduceEqDiff,f7],out,ob,hl,Nat.le_trans hol (Nat.le_add_right _ _),hon,fun t=>by rw [hiff t]; simp⟩ ?_ ?_
  ·rintro q F'' H'' hq hF'' f9 ⟨hk'',z',f7',out',ob',hl',hol',hon',hiff'⟩ k2
   have g1:=hF'' 1 rfl
   have g2:=hF'' 2 rfl
   have g3:=hF'' 3 rfl
   have g8:=hF'' 8 rfl
   simp only [sx,Nat.reduceEqDiff,f1,f2,f3,f8] at g1 g2 g3 g8
   obtain ⟨hc1,hs1,hl1⟩:=hro hk''
   have hcc:=hc' hk''
   have hb1:=hrb.kept hk1.wf hk''
   obtain ⟨g',o',k',hia3,hcs2,_⟩:=hs1.at Tryz.underlying97 A1t (i:=q) (x:=A2h r[q]) (by simp [hq]) .i64
   have hrq:r[q]∈r:=List.getElem_mem hq
   have htk:r.take (q+1)=r.take q++[r[q]]:=by rw [List.take_add_one,List.getElem?_eq_getElem hq]; rfl
   generalize r[q]=e at hcs2 hrq htk
   have kn:=Kept.new hk''.wf 2 (A2h e)
   have hk3:=hk''.trans kn
   have hl3:=hl'.kept hk''.wf kn
   simp only [↓Sh.dn,sx,Nat.reduceEqDiff,f9,g1,g3,g8,hb1.c1,hia,hcc,hia2,hc1,hl1,A1a,hq,decide_true]
   refine (A7a (by kernel_rfl)).2 ?_
   simp only [↓Sh.dn,sx,Nat.reduceEqDiff,f9,g1,g2,g3,g8,hb1.c1,hia,hcc,hia2,hc1,hia3,hcs2,C7e,B5r,C5j,re0]
   have hj:∀ t,(∃ e'∈r.take (q+1),e'.1=x∧e'.2=t)↔(∃ e'∈r.take q,e'.1=x∧e'.2=t)∨e.1=x∧e.2=t:=fun t=>by
    rw [htk]
    simp only [List.mem_append,List.mem_singleton]
    constructor
    ·rintro ⟨e',h1 | h1,h2⟩
     ·exact .inl ⟨e',h1,h2⟩
     ·subst h1; exact .inr h2
    ·rintro (⟨e',h1,h2⟩ | h2)
     ·exact ⟨e',.inl h1,h2⟩
     ·exact ⟨e,.inr rfl,h2⟩
   by_cases he:e.1=x
   ·obtain ⟨a,cap,w',H4,ob2,rfl,e1,e2,e3,e4,e5⟩:=B8d e.2 hk3 (fun y hy=>by cases hy) hl3 (by omega)
    have hre:=re1 (H:=H'') (e:=e)
    simp only [↓Sh.dn,sx,Nat.reduceEqDiff,he,decide_true,f7',f9,re1,e1,e2,A3a hq (Nat.le_trans hrl (by decide))]
    refine k2 _ _ (by repeat (first | refine Same.put ?_ rfl | exact Same.rfl' _)) (by simp only [sx]) ⟨e3,w',by simp only [sx,Nat.reduceEqDiff],out'++[e.2],ob2,e4,by rw [List.length_append]; simp; omega,fun t ht=>?_,fun t=>?_⟩
    ·rcases List.mem_append.1 ht with h2 | h2
     ·exact hon' t h2
     ·rw [List.mem_singleton.1 h2]; exact hrt e hrq
    ·rw [hj,List.mem_append,List.mem_singleton,hiff' t]
     constructor
     ·rintro ((h1 | h1) | h1)
      ·exact .inl h1
      ·exact .inr (.inl h1)
      ·exact .inr (.inr ⟨he,h1.symm⟩)
     ·rintro (h1 | h1 | ⟨_,h1⟩)
      ·exact .inl (.inl h1)
      ·exact .inl (.inr h1)
      ·exact .inr h1.symm
   ·simp only [↓Sh.dn,sx,Nat.reduceEqDiff,he,decide_false,f9,A3a hq (Nat.le_trans hrl (by decide))]
    refine k2 _ _ (by repeat (first | refine Same.put ?_ rfl | exact Same.rfl' _)) (by simp only [sx]) ⟨hk3,z',by simp only [sx,Nat.reduceEqDiff,f7'],out',ob',hl3,by omega,hon',fun t=>?_⟩
    rw [hj,hiff' t]
    simp [he]
  ·rintro F'' H'' hF'' f9 ⟨hk'',z',f7',out',ob',hl',hol',hon',hiff'⟩
   have g1:=hF'' 1 rfl
   have g2:=hF'' 2 rfl
   have g3:=hF'' 3 rfl
   have g8:=hF'' 8 rfl
   simp only [sx,Nat.reduceEqDiff,f1,f2,f3,f8] at g1 g2 g3 g8
   obtain ⟨hc1,hs1,hl1⟩:=hro hk''
   have hcc:=hc' hk''
   have hb1:=hrb.kept hk1.wf hk''
   simp only [↓Sh.dn,sx,Nat.reduceBEq,Nat.reduceEqDiff,f9,g1,g3,g8,hb1.c1,hia,hcc,hia2,hc1,hl1,A1a,Nat.lt_irrefl,decide_false,A3a hi (Nat.le_trans hll (by decide))]
   refine k _ _ ?_ (by simp only [sx]) ⟨hk'',z',by simp only [sx,Nat.reduceEqDiff,f7'],out',ob',hl',by omega,hon',fun t=>?_⟩
   ·repeat refine Same.put ?_ rfl
    exact Same.trans (by repeat (first | refine Same.put ?_ rfl | exact Same.rfl' _)) (hF''.sub rfl)
   ·rw [hiff' t,htake,List.take_length]
    simp only [List.mem_append,List.mem_singleton]
    constructor
    ·rintro (⟨s',h1,h2⟩ | ⟨e,h1,h2,h3⟩)
     ·exact ⟨s',.inl h1,h2⟩
     ·exact ⟨s,.inr rfl,r,hr,by rw [← h2,← h3]; exact h1⟩
    ·rintro ⟨s',h1 | h1,h2⟩
     ·exact .inl ⟨s',h1,h2⟩
     ·subst h1
      obtain ⟨r',h3,h4⟩:=h2
      rw [hr] at h3
      rw [← Option.some.inj h3] at h4
      exact .inr ⟨_,h4,rfl,rfl⟩
 ·rintro F H' hF f8 ⟨hk,z,f7,out,ob,hl,hol,hon,hiff⟩
  have f1:=hF 1 rfl
  have f3:=hF 3 rfl
  simp only [sx,Nat.reduceEqDiff] at f1 f3
  have hL':=hL.grow ((hk1.trans hk).grow hw)
  have hlen:=hL'.len Tryz.underlying69 H'
  rw [List.length_map] at hlen
  rw [List.take_length] at hiff
  have hb1:=hrb.kept hk1.wf hk
  obtain ⟨r,H3,hd3,ho⟩:=C0i hb1.rg hl.bf.toSl hon (by omega) hk.wf
  simp only [↓Sh.dn,sx,Nat.reduceEqDiff,f1,f3,f7,f8,A1a,Nat.lt_irrefl,decide_false,hlen,hb1.ca]
  refine ⟨_,_,hd3,?_⟩
  simp only [sx,hres]
  refine (ho.pre (hk1.trans hk)).iff fun t=>?_
  have:(fun s=>s∈out)=fun t=>∃ s,s∈L∧A8d E x s t:=by
   funext t
   exact propext (hiff t)
  rw [this]
end Go.Proofs.YtcgbiedfbacgpaaGreat
/- The reference's reversed: the edges turned round. -/
namespace Go.Proofs.YtcgbiedfbacgpaaGreat
open Go Go.Proofs Go.Proofs.Sh
theorem A02 {H:AH} {v ev bv:Value} {vals:List Value} {n:Nat} {E:List (List (ByteArray×Nat))} {ends:List Bool} (h:RG H v n E ends ev bv vals) (hw:Wf H):
  Sh.Call Tryz.prog (knows 7) 60 [v] H (fun r H'=>Kept H H'∧∃ R ot vals obs,Jag H' r ot 2 vals (A4h R) obs∧(∀ y,JIn ot obs y→H.next≤y)∧R.length=n∧(∀ r∈R,r.length≤180000000∧∀ e∈r,e.2 < n)∧∀ x t s,A8d R x t s↔A8d E x s t):=by
 refine A2a rfl Tryz.func60 rfl (Nat.le_of_ble_eq_true rfl) ?_
 have hres:Tryz.f60.results.toList=[.tmp 2]:=rfl
 have hrb:=RBox.of h hw
 have hk1:Kept H (H.new 3 [.int .i64 0,ev,bv]).2:=Kept.new hw 3 _
 have hE:=h.ed.sl.isCell
 have hB:=h.en.isCell
 rw [h.eq]
 simp only [↓Sh.dn,sx,Nat.reduceEqDiff,B4z hE hB]
 have e0:∀ y,(H.new 3 [.int .i64 0,ev,bv]).2.next≤y→H.next≤y:=fun y hy=>Nat.le_trans (Nat.le_succ _) hy
 obtain ⟨gb,hgb⟩:∃ gb,H.next=gb:=⟨_,rfl⟩
 rw [hgb] at hrb
 generalize (H.new 3 [.int .i64 0,ev,bv]).2=H1 at hrb hk1 e0 ⊢
 have hn1:=h.n1
 have hn2:=h.n2
 have hlenE:∀ H',A4a Tryz.prog .len [57] [ev] H'=some (.int .i64 (n:Int),H'):=fun H'=>by
  rw [h.ed.sl.len Tryz.underlying57,List.length_map,h.ed.len]; unfold A4h; rw [List.length_map,h.le]
 have hmk:=mk_57 (H:=H1) (l:=n) (c:=n) (Nat.le_refl _) (by omega)
 have k2:=Kept.new hk1.wf 1 (List.replicate n (.slice none 0 0))
 have jg:=Jag.make hk1.wf 2 (n:=n) (by omega)
 simp only [sx,hgb,hrb.c1,hlenE,hmk]
 obtain ⟨ot,hot⟩:∃ ot,(if n=0 then none else some H1.next)=ot:=⟨_,rfl⟩
 rw [hot] at jg
 have lot:∀ y,JIn ot (List.replicate n none) y→H1.next≤y:=by
  rintro y (hy | ⟨i,hy⟩)
  ·rw [← hot,if_neg (by omega)] at hy
   rw [← Option.some.inj hy]; exact Nat.le_refl _
  ·rw [List.getElem?_replicate] at hy
   split at hy <;> cases hy
 generalize (Value.slice (some ⟨H1.next,0,some 0⟩) n n)=rv at jg ⊢
 generalize (H1.new 1 (List.replicate n (.slice none 0 0))).2=H2 at k2 jg ⊢
 have hrc0:A4h (List.replicate n ([]:List (ByteArray×Nat)))=List.replicate n []:=by simp [A4h]
 rw [← hrc0] at jg
 refine A9c n 4 (List.range' 4 47) (fun i F H'=>Kept H1 H'∧∃ R vals obs,Jag H' rv ot 2 vals (A4h R) obs∧(∀ y,JIn ot obs y→H1.next≤y)∧R.length=n∧(∀ r∈R,r.length≤i * 60000∧∀ e∈r,e.2 < n)∧∀ x t s,A8d R x t s↔s < i∧A8d E x s t) (by simp only [sx]) ⟨k2,_,_,_,jg,lot,by simp,fun r hr=>by rw [List.eq_of_mem_replicate hr]; simp,fun x t s=>by
  constructor
  ·rintro ⟨r,h1,h2⟩
   rw [List.getElem?_replicate] at h1
   split at h1
   ·rw [← Option.some.inj h1] at h2; cases h2
   ·cases h1
  ·rintro ⟨h1,_⟩; exact absurd h1 (Nat.not_lt_zero _)⟩ ?_ ?_
 ·rintro i F H' hi hF f4 ⟨hk,R,vs,obs,hJ,hin,hRl,hRr,hiff⟩ k
  have f1:=hF 1 rfl
  have f3:=hF 3 rfl
  simp only [sx,Nat.reduceEqDiff] at f1 f3
  obtain ⟨r,hr⟩:∃ r,E[i]?=some r:=⟨E[i]'(by rw [h.le]; exact hi),List.getElem?_eq_getElem _⟩
  have hr':(A4h E)[i]?=some (r.map A2h):=by unfold A4h; rw [List.getElem?_map,hr]; rfl
  obtain ⟨hrl,hrt⟩:=h.to i r hr
  obtain ⟨ga,oa,ka,wr,hia2,hca,hsr⟩:=(h.ed.grow (hk1.grow hw)).at Tryz.underlying57 A3q hr'
  have hro:∀ {H'},Kept H1 H'→H'.cell ⟨ga,oa,some ka⟩=some wr∧Sl H' wr 2 (r.map A2h)∧A4a Tryz.prog .len [97] [wr] H'=some (.int .i64 (r.length:Int),H'):=fun hk=>by
   have h2:=hsr.grow (hk.grow hk1.wf)
   refine ⟨A2b (hk.grow hk1.wf) hca,h2,?_⟩
   rw [h2.len Tryz.underlying97,List.length_map]
  have hb1:=hrb.kept hk1.wf hk
  simp only [↓Sh.dn,sx,Nat.reduceEqDiff,f1,f4,hb1.c1,A1a,hi,decide_true,hlenE]
  refine A9c r.length 5 (List.range' 18 33++[5,6]) (fun q F'' H''=>Kept H1 H''∧∃ R vals obs,Jag H'' rv ot 2 vals (A4h R) obs∧(∀ y,JIn ot obs y→H1.next≤y)∧R.length=n∧(∀ r∈R,r.length≤i * 60000+q∧∀ e∈r,e.2 < n)∧∀ x t s,A8d R x t s↔s < i∧A8d E x s t∨s=i∧(x,t)∈r.take q) (by simp only [sx]) ⟨hk,R,vs,obs,hJ,hin,hRl,fun r hr=>⟨Nat.le_trans (hRr r hr).1 (Nat.le_add_right _ _),(hRr r hr).2⟩,fun x t s=>by rw [hiff]; simp⟩ ?_ ?_
  ·rintro q F'' H'' hq hF'' f5 ⟨hk'',R,vs,obs,hJ,hin,hRl,hRr,hiff⟩ k2
   have g1:=hF'' 1 rfl
   have g3:=hF'' 3 rfl
   have g4:=hF'' 4 rfl
   simp only [sx,Nat.reduceEqDiff,f1,f3,f4] at g1 g3 g4
   obtain ⟨hc1,hs1,hl1⟩:=hro hk''
   have hb1:=hrb.kept hk1.wf hk''
   obtain ⟨g',o',k',hia3,hcs2,_⟩:=hs1.at Tryz.underlying97 A1t (i:=q) (x:=A2h r[q]) (by simp [hq]) .i64
   have hrq:r[q]∈r:=List.getElem_mem hq
   have htk:r.take (q+1)=r.take q++[r[q]]:=by rw [List.take_add_one,List.getElem?_eq_getElem hq]; rfl
   generalize r[q]=e at hcs2 hrq htk
   have kn:=Kept.new hk''.wf 2 (A2h e)
   have hk3:=hk''.trans kn
   have hJ3:=hJ.kept hk''.wf kn
   have hnj:¬JIn ot obs H''.next:=fun h=>by have:=hJ.lt hk''.wf _ h; omega
   obtain ⟨ro,hro2⟩:∃ ro,R[e.2]?=some ro:=⟨R[e.2]'(by rw [hRl]; exact hrt e hrq),List.getElem?_eq_getElem _⟩
   have hrow:(A4h R)[e.2]?=some (ro.map A2h):=by unfold A4h; rw [List.getElem?_map,hro2]; rfl
   obtain ⟨hrol,hrot⟩:=hRr ro (List.mem_of_getElem? hro2)
   obtain ⟨ba,cap,w',H5,H6,oo,p,e1,e2,e3,e4,e5,e6,e7,e8,e9⟩:=hJ3.pushAt Tryz.underlying57 A3q hk3.wf hrow (x:=A2h (e.1,i)) rfl
   rw [List.length_map] at e1 e3
   have bl:A9r Tryz.prog 99 [(0,.string e.1),(1,.int .i64 (i:Int))]=some (.agg (A2h (e.1,i)).toArray):=bld_99 (v0:=.string e.1) (v1:=.int .i64 (i:Int)) rfl rfl
   have hbs:=B93 (H:=(H''.new 2 (A2h e)).2) (x:=.agg (A2h (e.1,i)).toArray) rfl rfl
   have ha:=C40 (H:=(H''.new 2 (A2h e)).2) (base:=ba) (len:=ro.length) (cap:=cap) (x:=A2h (e.1,i)) rfl (by omega)
   rw [e1] at ha
   have c5:=((Sh.Obj.new (H:=H'') 2 (A2h e)).arr.keep (e7.old H''.next (Nat.lt_succ_self _) hnj)).cell 1
   have c5':(A2h e)[1]?=some (.int .i64 (e.2:Int)):=rfl
   rw [c5'] at c5
   have st:A6e Tryz.prog 97 H5 w' (.pointer (some p))=some H6:=by rw [A1c A3q e8,e4]
   have va:∀ xs:Array Value,A6a (.agg xs)=xs.toList:=fun _=>rfl
   have hav:=hJ3.top.veq
   simp only [va] at hbs
   simp only [↓Sh.dn,sx,Nat.reduceEqDiff,f5,g1,g4,hb1.c1,hia2,hc1,hl1,hia3,hcs2,A1a,hq,decide_true,C7e,B5r,C5j]
   refine A9w (fl:=[(0,[]),(1,[]),(2,[]),(3,[]),(4,[]),(5,[]),(6,[]),(7,[]),(8,[]),(9,[]),(10,[]),(11,[]),(12,[]),(13,[2]),(14,[]),(15,[])]) (by kernel_rfl) (by kernel_rfl) (by kernel_rfl) ?_
   simp only [↓Sh.dn,sx,Nat.reduceEqDiff,wpr,again,A4e,A7u,forall_eq',f5,g3,g4,re0,re1,e2,e3,bl,hbs,ha,c5,st,A3a hq (Nat.le_trans hrl (by decide))]
   have hrs:A4h (R.set e.2 (ro++[(e.1,i)]))=(A4h R).set e.2 (ro.map A2h++[A2h (e.1,i)]):=by unfold A4h; rw [List.map_set]; simp
   refine k2 _ _ (by repeat (first | refine Same.put ?_ rfl | exact Same.rfl' _)) (by simp only [sx]) ⟨hk3.then (Nat.le_refl _) (e6.weak fun y hy=>hin y hy),R.set e.2 (ro++[(e.1,i)]),_,_,by rw [hrs]; exact e5,fun y hy=>?_,by rw [List.length_set]; exact hRl,fun r' hr'=>?_,fun x t s=>?_⟩
   ·rcases e9 y hy with h1 | h1
    ·exact hin y h1
    ·exact Nat.le_trans hk3.next h1
   ·rcases List.mem_or_eq_of_mem_set hr' with h1 | h1
    ·have:=hRr r' h1; exact ⟨by omega,this.2⟩
    ·rw [h1]
     refine ⟨by rw [List.length_append]; simp; omega,fun e' he'=>?_⟩
     rcases List.mem_append.1 he' with h2 | h2
     ·exact hrot e' h2
     ·rw [List.mem_singleton.1 h2]; exact hi
   ·rw [C8l hro2,hiff,htk,List.mem_append,List.mem_singleton]
    constructor
    ·rintro ((h1 | ⟨h1,h2⟩) | ⟨h1,h2,h3⟩)
     ·exact .inl h1
     ·exact .inr ⟨h1,.inl h2⟩
     ·exact .inr ⟨h3,.inr (by rw [h1,h2])⟩
    ·rintro (h1 | ⟨h1,h2 | h2⟩)
     ·exact .inl (.inl h1)
     ·exact .inl (.inr ⟨h1,h2⟩)
     ·exact .inr ⟨by rw [← h2],by rw [← h2],h1⟩
  ·rintro F'' H'' hF'' f5 ⟨hk'',R,vs,obs,hJ,hin,hRl,hRr,hiff⟩
   have g1:=hF'' 1 rfl
   have g3:=hF'' 3 rfl
   have g4:=hF'' 4 rfl
   simp only [sx,Nat.reduceEqDiff,f1,f3,f4] at g1 g3 g4
   obtain ⟨hc1,hs1,hl1⟩:=hro hk''
   have hb1:=hrb.kept hk1.wf hk''
   rw [List.take_length] at hiff
   simp only [↓Sh.dn,sx,Nat.reduceBEq,Nat.reduceEqDiff,f5,g1,g4,hb1.c1,hia2,hc1,hl1,A1a,Nat.lt_irrefl,decide_false,A3a hi (Nat.le_trans hn2 (by decide))]
   refine k _ _ ?_ (by simp only [sx]) ⟨hk'',R,vs,obs,hJ,hin,hRl,fun r' hr'=>?_,fun x t s=>?_⟩
   ·repeat refine Same.put ?_ rfl
    exact Same.trans (by repeat (first | refine Same.put ?_ rfl | exact Same.rfl' _)) (hF''.sub rfl)
   ·have:=hRr r' hr'; exact ⟨by omega,this.2⟩
   ·rw [hiff]
    constructor
    ·rintro (⟨h1,h2⟩ | ⟨h1,h2⟩)
     ·exact ⟨by omega,h2⟩
     ·exact ⟨by omega,r,by rw [h1]; exact hr,h2⟩
    ·rintro ⟨h1,h2⟩
     by_cases hs:s=i
     ·subst hs
      obtain ⟨r',h3,h4⟩:=h2
      rw [hr] at h3
      exact .inr ⟨rfl,by rw [Option.some.inj h3]; exact h4⟩
     ·exact .inl ⟨by omega,h2⟩
 ·rintro F H' hF f4 ⟨hk,R,vs,obs,hJ,hin,hRl,hRr,hiff⟩
  have f1:=hF 1 rfl
  have f3:=hF 3 rfl
  simp only [sx,Nat.reduceEqDiff] at f1 f3
  have hb1:=hrb.kept hk1.wf hk
  simp only [↓Sh.dn,sx,Nat.reduceEqDiff,f1,f3,f4,hb1.c1,A1a,Nat.lt_irrefl,decide_false,hlenE,hres]
  refine ⟨hk1.trans hk,R,ot,vs,obs,hJ,fun y hy=>by rw [← hgb]; exact e0 y (hin y hy),hRl,fun r hr=>⟨by have:=(hRr r hr).1; omega,(hRr r hr).2⟩,fun x t s=>?_⟩
  rw [hiff]
  constructor
  ·exact fun h=>h.2
  ·rintro ⟨r,h1,h2⟩
   exact ⟨by rw [← h.le]; exact (List.getElem?_eq_some_iff.1 h1).1,r,h1,h2⟩
end Go.Proofs.YtcgbiedfbacgpaaGreat
/- The reference's spread: what is reached from marked states is marked. -/
namespace Go.Proofs.YtcgbiedfbacgpaaGreat
open Go Go.Proofs Go.Proofs.Sh
def A2t (R:List (List (ByteArray×Nat))) (em:Bool) (s t:Nat):Prop:=∃ x,A8d R x s t∧(em=true→x=A8a)
theorem B42 {n:Nat} {seen:List Bool} (hl:seen.length=n):Marks n seen ((List.range n).filter fun t=>decide (seen[t]?=some true)):=by
 refine ⟨hl,List.Pairwise.filter _ List.nodup_range,fun t=>?_⟩
 rw [List.mem_filter,List.mem_range,decide_eq_true_eq]
 constructor
 ·intro h; exact ⟨by rw [← hl]; exact (List.getElem?_eq_some_iff.1 h).1,h⟩
 ·exact fun h=>h.2
theorem B0f {H1 H:AH} {rv mv:Value} {ot os:Option Nat} {vals:List Value} {obs:List (Option Nat)} {n:Nat} {R:List (List (ByteArray×Nat))} {seen:List Bool} {em:Bool}
  (hk:Kept H1 H) (hJ:Jag H rv ot 2 vals (A4h R) obs) (hRl:R.length=n) (hRr:∀ r∈R,r.length≤180000000∧∀ e∈r,e.2 < n) (hb:Buf H 1 mv (seen.map A3l) os) (hfr:∀ y,os=some y→H1.next≤y) (hsep:∀ y,os=some y→¬JIn ot obs y) (hsl:seen.length=n) (hn:n≤3000):
  Sh.Call Tryz.prog (knows 7) 61 [rv,mv,.bool em] H (fun _ H'=>Chg (fun y=>os=some y) H H'∧∃ seen':List Bool,Buf H' 1 mv (seen'.map A3l) os∧seen'.length=n∧∀ t:Nat,seen'[t]?=some true↔Clo (A2t R em) (fun s=>seen[s]?=some true) t):=by
 refine A2a rfl Tryz.func61 rfl (Nat.le_of_ble_eq_true rfl) ?_
 have hres:Tryz.f61.results.toList=[]:=rfl
 have hw:=hk.wf
 have hM0:MB H H1.next n mv os seen ((List.range n).filter fun t=>decide (seen[t]?=some true)):=⟨B42 hsl,hb,hfr⟩
 have hlenM:∀ H',A4a Tryz.prog .len [58] [mv] H'=some (.int .i64 (n:Int),H'):=fun H'=>by
  rw [hb.toSl.len Tryz.underlying58,List.length_map,hsl]
 have hlos:=hM0.lt hw
 simp only [↓Sh.dn,sx]
 refine A9c n 7 (List.range' 6 19) (fun i F H'=>Kept H H'∧∃ z,F.get 6=some z∧∃ ob,LB H' H.next os z ((List.range i).filter fun t=>decide (seen[t]?=some true)) ob) (by simp only [sx]) ⟨Kept.refl hw,_,by simp only [sx,Nat.reduceEqDiff],none,⟨.void none,fun y hy=>by cases hy⟩⟩ ?_ ?_
 ·rintro i F H' hi hF f7 ⟨hk',z,f6,ob,hl⟩ k
  have f1:=hF 1 rfl
  simp only [sx,Nat.reduceEqDiff] at f1
  obtain ⟨b,hb1⟩:∃ b,seen[i]?=some b:=⟨seen[i]'(by omega),List.getElem?_eq_getElem _⟩
  obtain ⟨p,hia,hc⟩:=Sl.elem (s:=1) Tryz.underlying58 A8h (hb.toSl.grow (hk'.grow hw)) (i:=i) (u:=.bool b) (by rw [List.getElem?_map,hb1]; rfl)
  have hrange:(List.range (i+1)).filter (fun t=>decide (seen[t]?=some true))=(List.range i).filter (fun t=>decide (seen[t]?=some true))++(if b=true then [i] else []):=by
   rw [List.range_succ,List.filter_append]
   congr 1
   cases b <;> simp [hb1]
  have hll:((List.range i).filter fun t=>decide (seen[t]?=some true)).length≤1073741823:=Nat.le_trans (List.length_filter_le _ _) (by rw [List.length_range]; omega)
  simp only [↓Sh.dn,sx,Nat.reduceEqDiff,f1,f7,A1a,hi,decide_true,hlenM,hia,hc]
  cases b with
  | true=>
   obtain ⟨a,cap,w',H4,ob2,rfl,e1,e2,e3,e4⟩:=C8e i hk'.next hk'.wf (fun y hy=>Nat.lt_of_lt_of_le (hlos y hy) hk'.next) hl hll
   simp only [↓Sh.dn,sx,Nat.reduceEqDiff,f6,f7,e1,e2,A3a hi (Nat.le_trans hn (by decide))]
   refine k _ _ (by repeat (first | refine Same.put ?_ rfl | exact Same.rfl' _)) (by simp only [sx]) ⟨hk'.then (Nat.le_refl _) (e4.weak fun y hy=>(hl.fr y hy).1),w',by simp only [sx,Nat.reduceEqDiff],ob2,by rw [hrange]; exact e3⟩
  | false=>
   simp only [↓Sh.dn,sx,Nat.reduceEqDiff,f7,A3a hi (Nat.le_trans hn (by decide))]
   refine k _ _ (by repeat (first | refine Same.put ?_ rfl | exact Same.rfl' _)) (by simp only [sx]) ⟨hk',z,by simp only [sx,Nat.reduceEqDiff,f6],ob,by rw [hrange]; simpa using hl⟩
 ·rintro F H' hF f7 ⟨hk',z,f6,ob,hl⟩
  have f0:=hF 0 rfl
  have f1:=hF 1 rfl
  have f2:=hF 2 rfl
  simp only [sx,reduceCtorEq,Nat.reduceEqDiff] at f0 f1 f2
  simp only [↓Sh.dn,sx,Nat.reduceEqDiff,f1,f7,A1a,Nat.lt_irrefl,decide_false,hlenM]
  refine A1b (m:=n+1) (fun m F H'=>∃ i,m+i=n+1∧F.get 8=some (.int .i64 (i:Int))∧F.get 0=some rv∧F.get 1=some mv∧F.get 2=some (.bool em)∧Chg (fun y=>os=some y) H H'∧∃ z,F.get 6=some z∧∃ seen' out ob,MB H' H1.next n mv os seen' out∧LB H' H.next os z out ob∧i≤out.length∧(∀ t,seen[t]?=some true→t∈out)∧(∀ t∈out,Clo (A2t R em) (fun s=>seen[s]?=some true) t)∧∀ s∈out.take i,∀ t,A2t R em s t→t∈out) ⟨0,by omega,by simp only [sx]; rfl,by simp only [sx,reduceCtorEq,f0],by simp only [sx,Nat.reduceEqDiff,f1],by simp only [sx,Nat.reduceEqDiff,f2],hk'.chg,z,by simp only [sx,Nat.reduceEqDiff,f6],seen,_,ob,hM0.kept hw hk',hl,Nat.zero_le _,fun t ht=>(hM0.ms.iff t).1 ht,fun t ht=>.base ((hM0.ms.iff t).2 ht),fun s hs=>by simp at hs⟩ ?_
  clear hk' hl f0 f1 f2 f6 f7 hF
  clear z ob
  clear F H'
  rintro m F H' ⟨i,hmi,f8,f0,f1,f2,hk',z,f6,seen',out,ob,hM,hl,hio,hLout,hclo,hcl⟩ k
  have hkk:∀ {H'},Chg (fun y=>os=some y) H H'→Kept H1 H':=fun hc=>hk.then (Nat.le_refl _) (hc.weak hfr)
  have hJ':∀ {H'},Chg (fun y=>os=some y) H H'→Jag H' rv ot 2 vals (A4h R) obs:=fun hc=>hJ.chg hw hc fun y hy h=>hsep y h hy
  have hlen:=hl.bf.toSl.len Tryz.underlying69 H'
  rw [List.length_map] at hlen
  have hout:=hM.ms.le
  by_cases hi:i < out.length
  ·simp only [↓Sh.dn,sx,Nat.reduceEqDiff,f6,f8,A1a,hi,decide_true,hlen]
   have hsn:out[i] < n:=hM.ms.lt (List.getElem_mem hi)
   have hget:out[i]?=some out[i]:=List.getElem?_eq_getElem hi
   have hcs:Clo (A2t R em) (fun s=>seen[s]?=some true) out[i]:=hclo _ (List.getElem_mem hi)
   generalize out[i]=s at hsn hget hcs
   obtain ⟨r,hr⟩:∃ r,R[s]?=some r:=⟨R[s]'(by rw [hRl]; exact hsn),List.getElem?_eq_getElem _⟩
   have hr':(A4h R)[s]?=some (r.map A2h):=by unfold A4h; rw [List.getElem?_map,hr]; rfl
   obtain ⟨hrl,hrt⟩:=hRr r (List.mem_of_getElem? hr)
   refine A9c r.length 9 (List.range' 31 46++[6,9,10]) (fun q F'' H''=>Chg (fun y=>os=some y) H H''∧∃ z',F''.get 6=some z'∧∃ seen' out' ob',MB H'' H1.next n mv os seen' out'∧LB H'' H.next os z' out' ob'∧out'[i]?=some s∧out'.take i=out.take i∧(∀ x∈out,x∈out')∧(∀ t∈out',Clo (A2t R em) (fun s=>seen[s]?=some true) t)∧∀ e∈r.take q,(em=true→e.1=A8a)→e.2∈out') (by simp only [sx]) ⟨hk',z,by simp only [sx,Nat.reduceEqDiff,f6],seen',out,ob,hM,hl,hget,rfl,fun x hx=>hx,hclo,fun e he=>by simp at he⟩ ?_ ?_
   ·rintro q F'' H'' hq hF'' f9 ⟨hk'',z',f6',seen',out',ob',hM',hl',hget',htk,hsub,hclo',hed⟩ k2
    have g0:=hF'' 0 rfl
    have g1:=hF'' 1 rfl
    have g2:=hF'' 2 rfl
    have g8:=hF'' 8 rfl
    simp only [sx,reduceCtorEq,Nat.reduceEqDiff,f0,f1,f2,f8] at g0 g1 g2 g8
    obtain ⟨ga,oa,ka,wr,hia,hc1,hs1⟩:=(hJ' hk'').read.at Tryz.underlying57 A3q hr'
    have hl1:=hs1.len Tryz.underlying97 H''
    rw [List.length_map] at hl1
    have hil:i < out'.length:=(List.getElem?_eq_some_iff.1 hget').1
    have hgs:out'[i]=s:=Option.some.inj ((List.getElem?_eq_getElem hil).symm.trans hget')
    obtain ⟨p1,hia1,hcc1⟩:=A9x Tryz.underlying69 A3c hl'.bf.toSl hil
    rw [hgs] at hcc1
    obtain ⟨g',o',k',hia2,hcs2,_⟩:=hs1.at Tryz.underlying97 A1t (i:=q) (x:=A2h r[q]) (by simp [hq]) .i64
    have hrq:r[q]∈r:=List.getElem_mem hq
    have htake:r.take (q+1)=r.take q++[r[q]]:=by rw [List.take_add_one,List.getElem?_eq_getElem hq]; rfl
    generalize r[q]=e at hcs2 hrq htake
    have kn:=Kept.new hk''.wf 2 (A2h e)
    have hk3:=hk''.trans (kn.chg (X:=fun y=>os=some y))
    have hM3:=hM'.kept hk''.wf kn
    have hl3:=hl'.kept hk''.wf kn
    simp only [↓Sh.dn,sx,reduceCtorEq,Nat.reduceEqDiff,f6',f9,g0,g1,g8,hia1,hcc1,hia,hc1,hl1,hia2,hcs2,A1a,hq,decide_true,C7e,B5r,C5j,re1]
    have hnext : ∀ {seen2 : List Bool} {out2 : List Nat} {ob2 : Option Nat} {z2 : Value} {F2 : Fr} {H2 : AH}, Same (List.range' 31 46 ++ [6, 9, 10]) F'' F2 → F2.get 6 = some z2 → F2.get 9 = some (.int .i64 ((q + 1 : Nat) : Int)) → Chg (fun y => os = some y) H H2 → MB H2 H1.next n mv os seen2 out2 → LB H2 H.next os z2 out2 ob2 → (out2 = out' ∨ out2 = out' ++ [e.2] ∧ (em = true → e.1 = A8a)) → ((em = true → e.1 = A8a) → e.2 ∈ out2) →
        wp Tryz.prog (knows 7) _ _ F2 H2 := fun {seen2 out2 ob2 z2 F2 H2} a1 a2 a3 a4 a5 a6 a7 a8 => k2 F2 H2 a1 a3 ⟨a4, z2, a2, seen2, out2, ob2, a5, a6, by
          rcases a7 with h | ⟨h, _⟩
          · rw [h]; exact hget'
          · rw [h, List.getElem?_append_left hil]; exact hget', by
          rcases a7 with h | ⟨h, _⟩
          · rw [h]; exact htk
          · rw [h, List.take_append_of_le_length (by omega)]; exact htk, fun x hx => by
          rcases a7 with h | ⟨h, _⟩
          · rw [h]; exact hsub x hx
          · rw [h]; exact List.mem_append_left _ (hsub x hx), fun t ht => by
          rcases a7 with h | ⟨h, he⟩
          · rw [h] at ht; exact hclo' t ht
          · rw [h] at ht
            rcases List.mem_append.1 ht with h2 | h2
            · exact hclo' t h2
            · rw [List.mem_singleton.1 h2]; exact .step hcs ⟨e.1, ⟨r, hr, hrq⟩, he⟩, fun x hx hxe => by
          rw [htake] at hx
          rcases List.mem_append.1 hx with h2 | h2
          · have := hed x h2 hxe
            rcases a7 with h | ⟨h, _⟩
            · rw [h]; exact this
            · rw [h]; exact List.mem_append_left _ this
          · rw [List.mem_singleton.1 h2] at hxe ⊢; exact a8 hxe⟩
    have hrl':r.length≤4611686018427387904:=Nat.le_trans hrl (by decide)
    by_cases hin:e.2∈out'
    ·obtain ⟨p5,hia5,hc5⟩:=hM3.see Tryz.underlying58 A8h (hrt e hrq)
     simp only [↓Sh.dn,sx,Nat.reduceEqDiff,hia5,hc5,hin,decide_true,f9,A3a hq hrl']
     exact hnext (by repeat (first | refine Same.put ?_ rfl | exact Same.rfl' _)) (by simp only [sx,Nat.reduceEqDiff,f6']) (by simp only [sx]) hk3 hM3 hl3 (.inl rfl) fun _=>hin
    ·have hkk3:=hkk hk3
     obtain ⟨p3,H3,e1,e2,e3,e4,e5,e6⟩:=B5s hkk3 hM3 (hrt e hrq) hin
     have hout':=hM3.ms.le
     obtain ⟨a,cap,w',H4,ob2,rfl,e7,e8,e9,e10⟩:=C8e e.2 (Nat.le_trans hk3.next e6.next) e4.wf (e5.lt e4.wf) (hl3.chg hk3.wf e6 fun y h=>h) (by omega)
     have hk4:Chg (fun y=>os=some y) H H4:=(hk3.trans e6).then e10 fun y hy hlt=>by have:=(hl3.fr y hy).1; omega
     have hM4:=e5.chg e4.wf e10 (fun y hy h=>(hl3.fr y hy).2 h)
     have hre:H3.cell ⟨H''.next,1,some 0⟩=some (.int .i64 (e.2:Int)):=by
      have:=((Sh.Obj.new (H:=H'') 2 (A2h e)).arr.keep (e6.old H''.next (Nat.lt_succ_self _) fun hy=>Nat.lt_irrefl _ (hM'.lt hk''.wf _ hy))).cell 1
      exact this
     cases em with
     | false=>
      simp only [↓Sh.dn,sx,Nat.reduceEqDiff,re1,g1,g2,e1,e2,e3,f6',hre,e7,e8,f9,A3a hq hrl']
      exact hnext (by repeat (first | refine Same.put ?_ rfl | exact Same.rfl' _)) (by simp only [sx,Nat.reduceEqDiff]) (by simp only [sx]) hk4 hM4 e9 (.inr ⟨rfl,fun h=>by cases h⟩) fun _=>List.mem_append_right _ List.mem_cons_self
     | true=>
      by_cases he:e.1=⟨#[]⟩
      ·simp only [↓Sh.dn,sx,Nat.reduceEqDiff,re1,re0,g1,g2,he,decide_true,e1,e2,e3,f6',hre,e7,e8,f9,A3a hq hrl']
       exact hnext (by repeat (first | refine Same.put ?_ rfl | exact Same.rfl' _)) (by simp only [sx,Nat.reduceEqDiff]) (by simp only [sx]) hk4 hM4 e9 (.inr ⟨rfl,fun _=>he⟩) fun _=>List.mem_append_right _ List.mem_cons_self
      ·simp only [↓Sh.dn,sx,Nat.reduceEqDiff,re0,g2,he,decide_false,e1,e2,f9,A3a hq hrl']
       exact hnext (by repeat (first | refine Same.put ?_ rfl | exact Same.rfl' _)) (by simp only [sx,Nat.reduceEqDiff,f6']) (by simp only [sx]) hk3 hM3 hl3 (.inl rfl) fun h=>absurd (h rfl) he
   ·rintro F'' H'' hF'' f9 ⟨hk'',z',f6',seen',out',ob',hM',hl',hget',htk,hsub,hclo',hed⟩
    have g0:=hF'' 0 rfl
    have g1:=hF'' 1 rfl
    have g2:=hF'' 2 rfl
    have g8:=hF'' 8 rfl
    simp only [sx,reduceCtorEq,Nat.reduceEqDiff,f0,f1,f2,f8] at g0 g1 g2 g8
    obtain ⟨ga,oa,ka,wr,hia,hc1,hs1⟩:=(hJ' hk'').read.at Tryz.underlying57 A3q hr'
    have hl1:=hs1.len Tryz.underlying97 H''
    rw [List.length_map] at hl1
    have hil:i < out'.length:=(List.getElem?_eq_some_iff.1 hget').1
    have hgs:out'[i]=s:=Option.some.inj ((List.getElem?_eq_getElem hil).symm.trans hget')
    obtain ⟨p1,hia1,hcc1⟩:=A9x Tryz.underlying69 A3c hl'.bf.toSl hil
    rw [hgs] at hcc1
    have hout':=hM'.ms.le
    simp only [↓Sh.dn,sx,Nat.reduceBEq,reduceCtorEq,Nat.reduceEqDiff,f6',f9,g0,g8,hia1,hcc1,hia,hc1,hl1,A1a,Nat.lt_irrefl,decide_false,A3a hil (Nat.le_trans (Nat.le_trans hout' hn) (by decide))]
    refine k (n+1 - (i+1)) _ _ (by omega) ⟨i+1,by omega,by simp only [sx],by simp only [sx,reduceCtorEq,g0],by simp only [sx,Nat.reduceEqDiff,g1],by simp only [sx,Nat.reduceEqDiff,g2],hk'',z',by simp only [sx,Nat.reduceEqDiff,f6'],seen',out',ob',hM',hl',hil,fun t ht=>hsub t (hLout t ht),hclo',fun x hx t hg=>?_⟩
    rw [List.take_add_one,hget'] at hx
    rcases List.mem_append.1 hx with hx | hx
    ·rw [htk] at hx
     exact hsub t (hcl x hx t hg)
    ·simp only [Option.toList,List.mem_singleton] at hx
     subst hx
     obtain ⟨y,⟨r',hr2,hg2⟩,hye⟩:=hg
     rw [hr] at hr2
     rw [← Option.some.inj hr2] at hg2
     exact hed _ (by rw [List.take_length]; exact hg2) hye
  ·simp only [↓Sh.dn,sx,Nat.reduceEqDiff,f6,f8,A1a,hi,decide_false,hlen,hres]
   refine ⟨hk',seen',hM.bf,hM.ms.len,fun t=>?_⟩
   rw [hM.ms.iff]
   exact Clo.iff hLout hclo (fun s hs=>hcl s (by rw [List.take_of_length_le (by omega)]; exact hs)) t
end Go.Proofs.YtcgbiedfbacgpaaGreat
/- The reference's Alive, kept. -/
namespace Go.Proofs.YtcgbiedfbacgpaaGreat
open Go Go.Proofs Go.Proofs.Sh
theorem C2h {H:AH} {v ev bv:Value} {vals:List Value} {n:Nat} {E:List (List (ByteArray×Nat))} {ends:List Bool} (h:RG H v n E ends ev bv vals) (hw:Wf H):
  Sh.Call Tryz.prog (knows 7) 31 [v] H (fun r H'=>Kept H H'∧∃ B:List Bool,Sl H' r 1 (B.map A3l)∧B.length=n∧∀ t:Nat,B[t]?=some true↔Clo (fun s t=>∃ x,A8d E x t s) (fun s=>ends[s]?=some true) t):=by
 refine A2a rfl Tryz.func31 rfl (Nat.le_of_ble_eq_true rfl) ?_
 have hres:Tryz.f31.results.toList=[.tmp 2]:=rfl
 have hrb:=RBox.of h hw
 have hk1:Kept H (H.new 3 [.int .i64 0,ev,bv]).2:=Kept.new hw 3 _
 have hE:=h.ed.sl.isCell
 have hB:=h.en.isCell
 rw [h.eq]
 simp only [↓Sh.dn,sx,Nat.reduceEqDiff,B4z hE hB]
 generalize (H.new 3 [.int .i64 0,ev,bv]).2=H1 at hrb hk1 ⊢
 generalize H.next=gb at hrb ⊢
 have hs1:=hrb.rg.en
 obtain ⟨v',H2,b',e1,e2,e3,e4⟩:=(Buf.void (H:=H1) (s:=1) none).append hk1.wf (xs:=ends.map A3l) (by intro x hx; obtain ⟨b,_,rfl⟩:=List.mem_map.1 hx; rfl)
 have happ:=app_58 (base:=none) (len:=0) (cap:=0) (hs1.srcKind Tryz.underlying58) hs1.newCells (by rw [List.length_map,h.ln]; have:=h.n2; omega)
 rw [e1] at happ
 have hk2:Kept H1 H2:=e3.kept fun g hg h=>by cases h
 rw [List.nil_append] at e2
 have hos:∀ y,b'=some y→H1.next≤y∧y < H2.next:=by
  intro y hy
  rcases e4 with h4 | ⟨h4,h5⟩
  ·rw [h4] at hy; cases hy
  ·rw [h4] at hy; rw [← Option.some.inj hy]; exact ⟨Nat.le_refl _,h5⟩
 have hrb2:=hrb.kept hk1.wf hk2
 obtain ⟨rv,H3,hd3,hk3,R,ot,vs,obs,hJ,hin,hRl,hRr,hRg⟩:=A02 hrb2.rg hk2.wf
 have hk13:=hk2.trans hk3
 have hb3:=e2.kept hk2.wf hk3
 obtain ⟨rr,H4,hd4,hc4,seen,hb4,hsl,hiff⟩:=B0f (em:=false) hk13 hJ hRl hRr hb3 (fun y hy=>(hos y hy).1) (fun y hy hj=>by have:=hin y hj; have:=(hos y hy).2; omega) h.ln h.n2
 simp only [sx,hrb.c2,happ]
 simp only [sx,hrb2.ca]
 refine ⟨_,_,hd3,?_⟩
 refine ⟨_,_,hd4,?_⟩
 simp only [sx,hres]
 refine ⟨hk1.trans (hk13.then (Nat.le_refl _) (hc4.weak fun y hy=>(hos y hy).1)),seen,hb4.toSl,hsl,fun t=>?_⟩
 rw [hiff]
 have:A2t R false=fun s t=>∃ x,A8d E x t s:=by
  funext s t
  apply propext
  unfold A2t
  simp [hRg]
 rw [this]
theorem refKeptB {H:AH} {u bv:Value} {n:Nat} {B:List Bool} {L:List Nat} (hL:Sl H u 1 (L.map natC)) (hB:Sl H bv 1 (B.map A3l)) (hBl:B.length=n) (hlt:∀ t∈L,t < n) (hll:L.length≤1048576) (hw:Wf H):
  Sh.Call Tryz.prog (knows 7) 94 [u,bv] H (fun r H'=>Kept H H'∧∃ b,Buf H' 1 r ((L.filter fun t=>decide (B[t]?=some true)).map natC) b∧∀ y,b=some y→H.next≤y):=by
 refine A2a rfl Tryz.func94 rfl (Nat.le_of_ble_eq_true rfl) ?_
 have hres:Tryz.f94.results.toList=[.tmp 4]:=rfl
 simp only [↓Sh.dn,sx]
 have hlen:=fun H'=>hL.len Tryz.underlying69 H'
 simp only [List.length_map] at hlen
 refine A9c L.length 6 (List.range' 5 22) (fun i F H'=>Kept H H'∧∃ z,F.get 5=some z∧∃ ob,LB H' H.next none z ((L.take i).filter fun t=>decide (B[t]?=some true)) ob) (by simp only [sx]) ⟨Kept.refl hw,_,by simp only [sx,Nat.reduceEqDiff],none,⟨.void none,fun y hy=>by cases hy⟩⟩ ?_ ?_
 ·rintro i F H' hi hF f6 ⟨hk,z,f5,ob,hl⟩ k
  have f0:=hF 0 rfl
  have f1:=hF 1 rfl
  simp only [sx,reduceCtorEq,Nat.reduceEqDiff] at f0 f1
  have hL':=hL.grow (hk.grow hw)
  obtain ⟨p,hia,hc⟩:=A9x Tryz.underlying69 A3c hL' hi
  have htn:L[i] < n:=hlt _ (List.getElem_mem hi)
  have htake:L.take (i+1)=L.take i++[L[i]]:=by rw [List.take_add_one,List.getElem?_eq_getElem hi]; rfl
  generalize L[i]=t at hc htn htake
  obtain ⟨b,hb⟩:∃ b,B[t]?=some b:=⟨B[t]'(by rw [hBl]; exact htn),List.getElem?_eq_getElem _⟩
  obtain ⟨p2,hia2,hc2⟩:=Sl.elem (s:=1) Tryz.underlying58 A8h (hB.grow (hk.grow hw)) (i:=t) (u:=.bool b) (by rw [List.getElem?_map,hb]; rfl)
  have hfl:(L.take (i+1)).filter (fun t=>decide (B[t]?=some true))=(L.take i).filter (fun t=>decide (B[t]?=some true))++(if b=true then [t] else []):=by
   rw [htake,List.filter_append]
   congr 1
   cases b <;> simp [hb]
  have hle:((L.take i).filter fun t=>decide (B[t]?=some true)).length≤1073741823:=Nat.le_trans (List.length_filter_le _ _) (by rw [List.length_take]; omega)
  simp only [↓Sh.dn,sx,reduceCtorEq,Nat.reduceEqDiff,f0,f1,f6,A1a,hi,decide_true,hlen,hia,hc,hia2,hc2]
  cases b with
  | true=>
   obtain ⟨a,cap,w',H4,ob2,rfl,e1,e2,e3,e4,e5⟩:=B8d t hk (fun y hy=>by cases hy) hl hle
   simp only [↓Sh.dn,sx,reduceCtorEq,Nat.reduceEqDiff,f0,f5,f6,hia,hc,e1,e2,wrap_succ hi hll]
   exact k _ _ (by repeat (first | refine Same.put ?_ rfl | exact Same.rfl' _)) (by simp only [sx]) ⟨e3,w',by simp only [sx,Nat.reduceEqDiff],ob2,by rw [hfl]; exact e4⟩
  | false=>
   simp only [↓Sh.dn,sx,Nat.reduceEqDiff,f6,wrap_succ hi hll]
   exact k _ _ (by repeat (first | refine Same.put ?_ rfl | exact Same.rfl' _)) (by simp only [sx]) ⟨hk,z,by simp only [sx,Nat.reduceEqDiff,f5],ob,by rw [hfl]; simpa using hl⟩
 ·rintro F H' hF f6 ⟨hk,z,f5,ob,hl⟩
  have f0:=hF 0 rfl
  simp only [sx,reduceCtorEq] at f0
  rw [List.take_length] at hl
  simp only [↓Sh.dn,sx,reduceCtorEq,Nat.reduceEqDiff,f0,f5,f6,A1a,Nat.lt_irrefl,decide_false,hlen,hres]
  exact ⟨hk,ob,hl.bf,fun y hy=>(hl.fr y hy).1⟩
end Go.Proofs.YtcgbiedfbacgpaaGreat
/- syms.isLong and syms.isSymbol. -/
namespace Go.Proofs.YtcgbiedfbacgpaaGreat
open Go Go.Proofs Go.Proofs.Sh
theorem C2l {H:AH} {x:ByteArray}:Sh.Call Tryz.prog (knows 7) 77 [.string x] H (fun r H'=>H'=H∧r=.bool (decide (16 < x.size))):=by
 refine A2a rfl Tryz.func77 rfl (Nat.le_of_ble_eq_true rfl) ?_
 have hres:Tryz.f77.results.toList=[.tmp 2]:=rfl
 have e:decide ((16:Int) < (x.size:Int))=decide (16 < x.size):=decide_eq_decide.2 (by omega)
 simp only [↓Sh.dn,sx,reduceCtorEq,hres,e]
def chOk (s:ByteArray):Bool:=!s.data.toList.any badByte && decide (1≤s.size)
theorem C0m (s:ByteArray):A5y s=(chOk s && decide (s.size≤16)):=rfl
theorem C8n {x:ByteArray}:decide (x=⟨#[]⟩)=!decide (1≤x.size):=by
 by_cases h:x=⟨#[]⟩
 ·subst h; rfl
 ·have : 1 ≤ x.size := by
    refine Nat.one_le_iff_ne_zero.2 fun h0 => h (ByteArray.ext ?_)
    exact Array.eq_empty_of_size_eq_zero h0
  simp [h, this]
theorem B4w {H:AH} {x:ByteArray} (hl:x.size≤1048576):
  Sh.Call Tryz.prog (knows 7) 78 [.string x] H (fun r H'=>H'=H∧r=.bool (chOk x)):=by
 refine A2a rfl Tryz.func78 rfl (Nat.le_of_ble_eq_true rfl) ?_
 have hres:Tryz.f78.results.toList=[.tmp 2]:=rfl
 have hsz:x.data.toList.length=x.size:=by rw [Array.length_toList]; rfl
 simp only [↓Sh.dn,sx,reduceCtorEq]
 refine A9c x.size 6 (List.range' 6 26++[2,3]) (fun i F H'=>H'=H∧(x.data.toList.take i).any badByte=false) (by simp only [sx]) ⟨rfl,rfl⟩ ?_ ?_
 ·rintro i F H' hlt hF f6 ⟨rfl,hall⟩ k
  have f0:=hF 0 rfl
  have f5:=hF 5 rfl
  simp only [sx,reduceCtorEq,Nat.reduceEqDiff] at f0 f5
  obtain ⟨u,hu⟩:∃ u,x.data.toList[i]?=some u:=⟨x.data.toList[i]'(by omega),List.getElem?_eq_getElem (by omega)⟩
  have hix:=B3k (P:=Tryz.prog) (j:=.i64) Tryz.underlying9 hu
  have e33:decide ((u.toNat:Int) < 33)=decide (u.toNat < 33):=decide_eq_decide.2 (by omega)
  have e126:decide (126 < (u.toNat:Int))=decide (126 < u.toNat):=decide_eq_decide.2 (by omega)
  have e60:decide ((u.toNat:Int)=60)=decide (u.toNat=60):=decide_eq_decide.2 (by omega)
  have e62:decide ((u.toNat:Int)=62)=decide (u.toNat=62):=decide_eq_decide.2 (by omega)
  have hbad:badByte u=true→chOk x=false:=by
   intro h
   have:x.data.toList.any badByte=true:=List.any_eq_true.2 ⟨_,List.mem_of_getElem? hu,h⟩
   simp [chOk,this]
  simp only [↓Sh.dn,sx,reduceCtorEq,Nat.reduceEqDiff,f0,f5,f6,hix,A1a,hlt,e33,decide_true]
  by_cases h1:u.toNat < 33
  ·simp only [↓Sh.dn,sx,Nat.reduceEqDiff,h1,decide_true,hres,hbad (by simp [badByte,h1])]
  simp only [↓Sh.dn,sx,reduceCtorEq,Nat.reduceEqDiff,f0,hix,h1,e126,decide_false]
  by_cases h2:126 < u.toNat
  ·simp only [↓Sh.dn,sx,Nat.reduceEqDiff,h2,decide_true,hres,hbad (by simp [badByte,h2])]
  simp only [↓Sh.dn,sx,reduceCtorEq,Nat.reduceEqDiff,f0,hix,h2,e60,decide_false]
  by_cases h3:u.toNat=60
  ·simp only [↓Sh.dn,sx,Nat.reduceEqDiff,h3,decide_true,hres,hbad (by simp [badByte,h3])]
  simp only [↓Sh.dn,sx,reduceCtorEq,Nat.reduceEqDiff,f0,hix,h3,e62,decide_false]
  by_cases h4:u.toNat=62
  ·simp only [↓Sh.dn,sx,h4,decide_true,hres,hbad (by simp [badByte,h4])]
  simp only [↓Sh.dn,sx,Nat.reduceEqDiff,f6,h4,decide_false,wrap_succ hlt hl]
  refine k _ _ (by repeat (first | refine Same.put ?_ rfl | exact Same.rfl' _)) (by simp only [sx]) ⟨rfl,?_⟩
  rw [List.take_add_one,hu]
  simp only [Option.toList,List.any_append,hall,List.any_cons,List.any_nil,Bool.or_false,badByte,h1,h2,h3,h4,decide_false]
 ·rintro F H' hF f6 ⟨rfl,hall⟩
  have f0:=hF 0 rfl
  have f5:=hF 5 rfl
  simp only [sx,reduceCtorEq,Nat.reduceEqDiff] at f0 f5
  rw [← hsz,List.take_length] at hall
  simp only [↓Sh.dn,sx,reduceCtorEq,f0,f5,f6,A1a,Nat.lt_irrefl,decide_false,hres,chOk,hall,C8n]
end Go.Proofs.YtcgbiedfbacgpaaGreat
/- slices.IndexFunc and ContainsFunc: whether some element is so. -/
namespace Go.Proofs.YtcgbiedfbacgpaaGreat
open Go Go.Proofs Go.Proofs.Sh
theorem B22 {H:AH} {v:Value} {l:List ByteArray} {fid:Nat} {caps:List Value} (p:ByteArray→Bool) (hs:Sl H v 1 (l.map A5b)) (hl:l.length≤1048576) (hw:Wf H)
  (hp:∀ H',Kept H H'→∀ x∈l,Sh.Call Tryz.prog (knows 7) fid ((fun s=>Value.string s) x :: caps) H' (fun r H''=>Kept H' H''∧r=.bool (p x))):
  Sh.Call Tryz.prog (knows 7) 102 [v,.func (.func fid) #[] caps.toArray] H (fun r H'=>Kept H H'∧∃ k:Int,r=.int .i64 k∧decide (0≤k)=l.any p):=by
 refine A2a rfl Tryz.func102 rfl (Nat.le_of_ble_eq_true rfl) ?_
 have hres:Tryz.f102.results.toList=[.tmp 4]:=rfl
 have hlen:=hs.len Tryz.underlying22 H
 simp only [↓Sh.dn,sx,reduceCtorEq,hlen,List.length_map]
 refine A9c l.length 8 [5,8,9,10,11,12,13,14,15,16,18] (fun i F H'=>Kept H H'∧(l.take i).any p=false) (by simp only [sx]) ⟨Kept.refl hw,rfl⟩ ?_ ?_
 ·rintro i F H' hlt hF f8 ⟨hk,hall⟩ k
  have hs1:=hs.grow (hk.grow hw)
  obtain ⟨g,o,kk,hia,hc,hcc⟩:=hs1.at Tryz.underlying22 A6j (i:=i) (x:=A5b l[i]) (by simp [hlt]) .i64
  have hld:=hcc 0 _ rfl; simp only [Nat.add_zero] at hld
  have f0:=hF 0 rfl
  have f1:=hF 1 rfl
  have f7:=hF 7 rfl
  simp only [sx,reduceCtorEq,Nat.reduceEqDiff] at f0 f1 f7
  obtain ⟨r,H2,hd,hk2,rfl⟩:=hp H' hk l[i] (List.getElem_mem hlt)
  simp only [↓Sh.dn,sx,reduceCtorEq,Nat.reduceEqDiff,f0,f1,f7,f8,A1a,hlt,decide_true,hia,hld,reduceCtorEq]
  refine ⟨_,_,hd,?_⟩
  cases hpv:p l[i] with
  | true=>
   simp only [↓Sh.dn,sx,Nat.reduceEqDiff,hres]
   refine ⟨hk.trans hk2,_,rfl,?_⟩
   rw [List.any_eq_true.2 ⟨_,List.getElem_mem hlt,hpv⟩]
   simp
  | false=>
   simp only [↓Sh.dn,sx,Nat.reduceEqDiff,hres,f8,wrap_succ hlt hl]
   refine k _ _ (by repeat (first | refine Same.put ?_ rfl | exact Same.rfl' _)) (by simp only [sx]) ⟨hk.trans hk2,?_⟩
   rw [List.take_add_one,List.getElem?_eq_getElem hlt]
   simp only [Option.toList,List.any_append,hall,List.any_cons,List.any_nil,hpv,Bool.or_false]
 ·rintro F H' hF f8 ⟨hk,hall⟩
  have f7:=hF 7 rfl
  simp only [sx,Nat.reduceEqDiff] at f7
  rw [List.take_length] at hall
  simp only [↓Sh.dn,sx,f7,f8,A1a,Nat.lt_irrefl,decide_false,hres]
  exact ⟨hk,_,rfl,by rw [hall]; rfl⟩
theorem B4k {H:AH} {v:Value} {l:List ByteArray} {fid:Nat} {caps:List Value} (p:ByteArray→Bool) (hs:Sl H v 1 (l.map A5b)) (hl:l.length≤1048576) (hw:Wf H)
  (hp:∀ H',Kept H H'→∀ x∈l,Sh.Call Tryz.prog (knows 7) fid ((fun s=>Value.string s) x :: caps) H' (fun r H''=>Kept H' H''∧r=.bool (p x))):
  Sh.Call Tryz.prog (knows 7) 76 [v,.func (.func fid) #[] caps.toArray] H (fun r H'=>Kept H H'∧r=.bool (l.any p)):=by
 refine A2a rfl Tryz.func76 rfl (Nat.le_of_ble_eq_true rfl) ?_
 have hres:Tryz.f76.results.toList=[.tmp 4]:=rfl
 obtain ⟨r,H2,hd,hk,k,rfl,hk0⟩:=B22 p hs hl hw hp
 simp only [↓Sh.dn,sx,reduceCtorEq,Nat.reduceEqDiff]
 refine ⟨_,_,hd,?_⟩
 simp only [sx,hres,hk0]
 exact hk
end Go.Proofs.YtcgbiedfbacgpaaGreat
/- What is wrong with an alphabet, by the program. -/
namespace Go.Proofs.YtcgbiedfbacgpaaGreat
open Go Go.Proofs Go.Proofs.Sh
theorem B2z {H:AH} {v:Value} {l:List ByteArray} (hs:Sl H v 1 (l.map A5b)) (hl:l.length≤1048576) (hlx:∀ x∈l,x.size≤1048576) (hw:Wf H):
  Sh.Call Tryz.prog (knows 7) 37 [v] H (fun r H'=>Kept H H'∧r=.int .i64 (A4k l)):=by
 refine A2a rfl Tryz.func37 rfl (Nat.le_of_ble_eq_true rfl) ?_
 have hres:Tryz.f37.results.toList=[.tmp 2]:=rfl
 have hlen:=hs.len Tryz.underlying22 H
 have e40:decide ((40:Int) < ((l.length:Nat):Int))=decide (40 < l.length):=decide_eq_decide.2 (by omega)
 simp only [↓Sh.dn,sx,reduceCtorEq,hlen,List.length_map,e40]
 by_cases h40:40 < l.length
 ·simp only [↓Sh.dn,sx,Nat.reduceEqDiff,h40,decide_true,hres,A4k,Kept.refl hw]
 simp only [↓Sh.dn,sx,reduceCtorEq,Nat.reduceEqDiff,h40,decide_false]
 obtain ⟨r1,H1,hd1,hk1,rfl⟩:=B4k (caps:=[]) (fid:=77) (fun s=>decide (16 < s.size)) hs hl hw (fun H' hk x hx=>(C2l (H:=H') (x:=x)).mono fun r H'' h=>by rcases h with ⟨rfl,h⟩; exact ⟨Kept.refl hk.wf,h⟩)
 refine ⟨_,_,hd1,?_⟩
 cases hL:(l.any fun s=>decide (16 < s.size)) with
 | true=>simp only [↓Sh.dn,sx,hres,hL,A4k,A0u,h40,decide_false,hk1]
 | false=>
  have hs1:=hs.grow (hk1.grow hw)
  have hlen1:=hs1.len Tryz.underlying22 H1
  simp only [↓Sh.dn,sx,reduceCtorEq,hlen1,List.length_map]
  have h16:∀ x∈l,decide (x.size≤16)=true:=by
   intro x hx
   have:=List.any_eq_false.1 hL x hx
   simp only [decide_eq_true_eq,Nat.not_lt] at this
   simpa using this
  have e1:(l.all A5y && ascB l)=false→A4k l=1:=by intro h; simp [A4k,A0u,h40,hL]; simpa using h
  have e0:(l.all A5y && ascB l)=true→A4k l=0:=by intro h; simp [A4k,A0u,h40,hL]; simpa using h
  have hsy:∀ x∈l,A5y x=chOk x:=by intro x hx; rw [C0m,h16 x hx,Bool.and_true]
  refine A9c l.length 14 (List.range' 14 22++[2,3,4]) (fun i F H'=>H'=H1∧(∀ (j:Nat) x,j < i→l[j]?=some x→chOk x=true)∧(∀ (j:Nat) x y,j+1 < i→l[j]?=some x→l[j+1]?=some y→A3b x y=true)) (by simp only [sx]) ⟨rfl,fun j x h=>by omega,fun j x y h=>by omega⟩ ?_ ?_
  ·rintro i F H' hlt hF f14 ⟨rfl,hall,hasc⟩ k
   have f0:=hF 0 rfl
   have f12:=hF 12 rfl
   have f13:=hF 13 rfl
   simp only [sx,reduceCtorEq,Nat.reduceEqDiff] at f0 f12 f13
   obtain ⟨g,o,kk,hia,hc,hcc⟩:=hs1.at Tryz.underlying22 A6j (i:=i) (x:=A5b l[i]) (by simp [hlt]) .i64
   have hy:=hcc 0 _ rfl
   simp only [Nat.add_zero] at hy
   have hget:l[i]?=some l[i]:=List.getElem?_eq_getElem hlt
   obtain ⟨r,H2,hd2,rfl,rfl⟩:=B4w (H:=H') (x:=l[i]) (hlx _ (List.getElem_mem hlt))
   simp only [↓Sh.dn,sx,Nat.reduceEqDiff,f12,f13,f14,A1a,hlt,decide_true,hia,hy]
   refine ⟨_,_,hd2,?_⟩
   cases hch:chOk l[i] with
   | false=>
    have hbad:A4k l=1:=e1 (by
     rw [Bool.and_eq_false_iff]; left
     exact List.all_eq_false.2 ⟨_,List.getElem_mem hlt,by rw [hsy _ (List.getElem_mem hlt),hch]; simp⟩)
    simp only [↓Sh.dn,sx,Nat.reduceEqDiff,hres,hbad,hk1]
   | true=>
    have hall':∀ (j:Nat) x,j < i+1→l[j]?=some x→chOk x=true:=by
     intro j x hj hx
     by_cases he:j=i
     ·subst he; rw [hget] at hx; rw [← Option.some.inj hx]; exact hch
     ·exact hall j x (by omega) hx
    by_cases hi0:0 < i
    ·have hlt1:i - 1 < l.length:=by omega
     obtain ⟨g',o',kk',hia',hc',hcc'⟩:=hs1.at Tryz.underlying22 A6j (i:=i - 1) (x:=A5b l[i - 1]) (by simp [hlt1]) .i64
     have hy':=hcc' 0 _ rfl
     simp only [Nat.add_zero] at hy'
     have hw1:IntKind.wrap .i64 ((i:Int) - 1)=((i - 1:Nat):Int):=by rw [wrap64 (by omega) (by omega)]; omega
     have ei:decide ((0:Int) < (i:Int))=true:=by simpa using hi0
     have hget':l[i - 1]?=some l[i - 1]:=List.getElem?_eq_getElem hlt1
     simp only [↓Sh.dn,sx,reduceCtorEq,Nat.reduceEqDiff,f0,ei,hw1,hia',hy']
     cases hq:A3b l[i - 1] l[i] with
     | false=>
      have hbad:A4k l=1:=e1 (by
       rw [Bool.and_eq_false_iff]; right
       cases hb:ascB l with
       | false=>rfl
       | true=>
        have:=A51.1 hb (i - 1) _ _ hget' (by rw [show i - 1+1=i by omega]; exact hget)
        rw [this] at hq; cases hq)
      simp only [↓Sh.dn,sx,hres,hbad,hk1]
     | true=>
      simp only [↓Sh.dn,sx,Nat.reduceEqDiff,f14,wrap_succ hlt hl]
      refine k _ _ (by repeat (first | refine Same.put ?_ rfl | exact Same.rfl' _)) (by simp only [sx]) ⟨rfl,hall',fun j x y hj hx hy=>?_⟩
      by_cases he:j+1=i
      ·have:j=i - 1:=by omega
       subst this
       rw [he,hget] at hy
       rw [hget'] at hx
       rw [← Option.some.inj hx,← Option.some.inj hy]; exact hq
      ·exact hasc j x y (by omega) hx hy
    ·have ei:decide ((0:Int) < (i:Int))=false:=by simpa using hi0
     simp only [↓Sh.dn,sx,Nat.reduceEqDiff,f14,ei,wrap_succ hlt hl]
     exact k _ _ (by repeat (first | refine Same.put ?_ rfl | exact Same.rfl' _)) (by simp only [sx]) ⟨rfl,hall',fun j x y hj hx hy=>by omega⟩
  ·rintro F H' hF f14 ⟨rfl,hall,hasc⟩
   have f13:=hF 13 rfl
   simp only [sx,Nat.reduceEqDiff] at f13
   have hgood:A4k l=0:=e0 (by
    rw [Bool.and_eq_true]
    refine ⟨List.all_eq_true.2 fun x hx=>?_,A51.2 fun j x y hx hy=>hasc j x y (List.getElem?_eq_some_iff.1 hy).1 hx hy⟩
    obtain ⟨j,hj⟩:=List.mem_iff_getElem?.1 hx
    rw [hsy x hx]
    exact hall j x (List.getElem?_eq_some_iff.1 hj).1 hj)
   simp only [↓Sh.dn,sx,f13,f14,A1a,Nat.lt_irrefl,decide_false,hres,hgood,hk1]
end Go.Proofs.YtcgbiedfbacgpaaGreat
/- What is wrong with a word: by the reference, by the program. -/
namespace Go.Proofs.YtcgbiedfbacgpaaGreat
open Go Go.Proofs Go.Proofs.Sh
end Go.Proofs.YtcgbiedfbacgpaaGreat
/- The reference's Accepts and Begins. -/
namespace Go.Proofs.YtcgbiedfbacgpaaGreat
open Go Go.Proofs Go.Proofs.Sh
theorem A5v {N:NetD} (h:A1h N=0):A3r N:=by
 refine netOk ?_
 unfold A1h at h
 by_cases hE:A5g N=0
 ·exact hE
 ·rw [if_pos hE] at h; exact absurd h hE
theorem A76 {N:NetD} (hok:A3r N):A8d (A0g N)=N.goes:=by
 funext x s t
 apply propext
 unfold A8d A0g NetD.goes
 constructor
 ·rintro ⟨r,h1,h2⟩
  obtain ⟨a,ha,h3,h4⟩:=(A9p h1 _).1 h2
  have:=hok.arc a ha
  injection h4 with h4 h5
  exact ⟨a,ha,h3,h4,by omega⟩
 ·rintro ⟨a,ha,h1,h2,h3⟩
  have:=hok.arc a ha
  have hs:s < N.states.toNat:=by omega
  refine ⟨_,A0h hs,?_⟩
  rw [A9p (A0h hs)]
  exact ⟨a,ha,h1,by rw [h2,h3]; rfl⟩
theorem B0o {N:NetD} (hok:A3r N) (t:Nat):(marksOf EndD.state N.states.toNat N.ends)[t]?=some true↔N.isEnd t:=by
 unfold NetD.isEnd
 constructor
 ·intro h
  have ht:=(List.getElem?_eq_some_iff.1 h).1
  rw [A7i] at ht
  rw [A5s ht] at h
  obtain ⟨e,h1,h2⟩:=List.any_eq_true.1 (Option.some.inj h)
  exact ⟨e,h1,of_decide_eq_true h2⟩
 ·rintro ⟨e,h1,h2⟩
  have:=hok.fin e h1
  rw [A5s (by omega)]
  exact congrArg some (List.any_eq_true.2 ⟨e,h1,decide_eq_true h2⟩)
def A2u (N:NetD) (w:List ByteArray):Prop:=(∀ x∈w,x≠A8a)∧∃ t,N.run w t∧N.isEnd t
def begins (N:NetD) (w:List ByteArray):Prop:=(∀ x∈w,x≠A8a)∧∃ t,N.run w t∧N.alive t
end Go.Proofs.YtcgbiedfbacgpaaGreat
/- What is wrong with a net of any kind, by the program. -/
namespace Go.Proofs.YtcgbiedfbacgpaaGreat
open Go Go.Proofs Go.Proofs.Sh
theorem C2o {H:AH} {gg:Nat} {sg ar en:Value} {N:NetD} {s:ByteArray} (hb:NetBox H gg sg ar en N) (ha:Asc N.sigma) (hl:N.sigma.length≤1048576):
  Sh.Call Tryz.prog (knows 7) 87 [.string s,.pointer (some ⟨gg,0,some 0⟩)] H (fun r H'=>H'=H∧r=.bool (!A4j N s)):=by
 refine A2a rfl Tryz.func87 rfl (Nat.le_of_ble_eq_true rfl) ?_
 have hres:Tryz.f87.results.toList=[.tmp 3]:=rfl
 obtain ⟨r,H1,hd,rfl,k,rfl,_,_⟩:=B4a (x:=s) hb.hsg ha hl
 simp only [↓Sh.dn,sx,reduceCtorEq,Nat.reduceEqDiff,hb.c0]
 refine ⟨_,_,hd,?_⟩
 simp only [sx]
 by_cases h:s=⟨#[]⟩
 ·simp only [↓Sh.dn,sx,Nat.reduceEqDiff,h,decide_true,hres,A4j]
 ·simp only [↓Sh.dn,sx,Nat.reduceEqDiff,h,decide_false,hres,A4j]
theorem C2m {H:AH} {v:Value} {N:NetD} (h:A0y H v N) (hsm:A3j N) (hw:Wf H):
  Sh.Call Tryz.prog (knows 7) 52 [v] H (fun r H'=>Kept H H'∧r=.int .i64 (A5g N)):=by
 refine A2a rfl Tryz.func52 rfl (Nat.le_of_ble_eq_true rfl) ?_
 have hres:Tryz.f52.results.toList=[.tmp 2]:=rfl
 obtain ⟨sg,ar,en,rfl,hsg,har,hen⟩:=h
 have hb1:=NetBox.of (N:=N) hw hsg har hen
 have hk1:Kept H (H.new 4 [sg,.int .i64 N.states,ar,en]).2:=Kept.new hw 4 _
 have eA:decide ((60000:Int) < (N.arcs.length:Int))=decide (60000 < N.arcs.length):=decide_eq_decide.2 (by omega)
 have eE:decide ((60000:Int) < (N.ends.length:Int))=decide (60000 < N.ends.length):=decide_eq_decide.2 (by omega)
 simp only [↓Sh.dn,sx,Nat.reduceEqDiff,A9s hsg.isCell har.isCell hen.isCell]
 generalize H.next=gg at hb1 ⊢
 generalize (H.new 4 [sg,.int .i64 N.states,ar,en]).2=H1 at hb1 hk1 ⊢
 simp only [sx,hb1.c1]
 by_cases hA:3000 < N.states
 ·simp only [↓Sh.dn,sx,Nat.reduceEqDiff,hA,decide_true,hres,A5g,A5n,hk1]
 by_cases hB:60000 < N.arcs.length
 ·simp only [↓Sh.dn,sx,Nat.reduceEqDiff,hb1.c2,A4m hb1,hA,eA,hB,decide_true,decide_false,hres,A5g,A5n,hk1]
 by_cases hC:60000 < N.ends.length
 ·simp only [↓Sh.dn,sx,Nat.reduceEqDiff,hb1.c2,hb1.c3,A4m hb1,A7r hb1,hA,eA,eE,hB,hC,decide_true,decide_false,hres,A5g,A5n,hk1]
 have hT:A5n N=false:=by simp [A5n,hA,hB,hC]
 simp only [↓Sh.dn,sx,Nat.reduceEqDiff,hb1.c0,hb1.c2,hb1.c3,A4m hb1,A7r hb1,hA,eA,eE,hB,hC,decide_false,hres]
 obtain ⟨r,H2,hd,hk2,rfl⟩:=B2z hb1.hsg hsm.sg hsm.sx hk1.wf
 refine ⟨_,_,hd,?_⟩
 have hb2:=hb1.kept hk1.wf hk2
 have hk12:=hk1.trans hk2
 by_cases hS:A4k N.sigma=0
 case neg=>simp only [↓Sh.dn,sx,Nat.reduceEqDiff,hS,decide_false,A5g,hT,hk12]
 have hasc:=A66 hS
 simp only [↓Sh.dn,sx,Nat.reduceEqDiff,hS,decide_true,hb2.c1]
 by_cases hst:N.states < 1
 ·simp only [↓Sh.dn,sx,hst,decide_true,A5g,hT,hS,hk12]
 simp only [↓Sh.dn,sx,Nat.reduceEqDiff,hst,decide_false,hb2.c2,A4m hb2]
 have e1:N.arcs.any (A0i N)=true→A5g N=1:=by intro h; simp [A5g,hT,hS,hst,h]
 have e2:N.ends.any (A9q N)=true→A5g N=1:=by intro h; simp [A5g,hT,hS,hst,h]
 have e3:N.arcs.any (A0i N)=false→N.ends.any (A9q N)=false→A5g N=0:=by intro h h'; simp [A5g,hT,hS,hst,h,h']
 refine A9c N.arcs.length 37 (List.range' 37 41++[2,6]) (fun i F H'=>Kept H2 H'∧(N.arcs.take i).any (A0i N)=false) (by simp only [sx]) ⟨Kept.refl hk12.wf,rfl⟩ ?_ ?_
 ·rintro i F H' hlt hF f37 ⟨hk,hall⟩ k
  have f1:=hF 1 rfl
  have f4:=hF 4 rfl
  have f35:=hF 35 rfl
  have f36:=hF 36 rfl
  simp only [sx,Nat.reduceEqDiff] at f1 f4 f35 f36
  have hb':=hb2.kept hk12.wf hk
  have hb3:=hb'.new hk.wf 5 (N.arcs[i].cells)
  have hk3:=hk.news 5 (N.arcs[i].cells)
  obtain ⟨g,o,kk,hia,hc,hcc⟩:=hb'.har.at Tryz.underlying23 A1q (i:=i) (x:=N.arcs[i].cells) (by simp [hlt]) .i64
  clear hcc
  have hin:N.arcs[i]∈N.arcs:=List.getElem_mem hlt
  have hnext:A0i N N.arcs[i]=false→(N.arcs.take (i+1)).any (A0i N)=false:=by
   intro h
   rw [List.take_add_one,List.getElem?_eq_getElem hlt]
   simp only [Option.toList,List.any_append,hall,List.any_cons,List.any_nil,h,Bool.or_false]
  have hbad:A0i N N.arcs[i]=true→A5g N=1:=fun h=>e1 (List.any_eq_true.2 ⟨_,hin,h⟩)
  generalize N.arcs[i]=a at hb3 hk3 hc hnext hbad
  simp only [↓Sh.dn,sx,Nat.reduceEqDiff,B2e,A24,B7k,arc0,f35,f36,f37,A1a,hlt,decide_true,hia,hc]
  by_cases h1:a.fr < 0
  ·simp only [↓Sh.dn,sx,Nat.reduceEqDiff,h1,decide_true,hbad (by simp [A0i,h1]),hk12.trans hk3]
  simp only [↓Sh.dn,sx,Nat.reduceEqDiff,hb3.c1,arc0,f1,h1,decide_false]
  by_cases h2:N.states≤a.fr
  ·simp only [↓Sh.dn,sx,Nat.reduceEqDiff,h2,decide_true,hbad (by simp [A0i,h2]),hk12.trans hk3]
  simp only [↓Sh.dn,sx,Nat.reduceEqDiff,arc3,h2,decide_false]
  by_cases h3:a.to < 0
  ·simp only [↓Sh.dn,sx,Nat.reduceEqDiff,h3,decide_true,hbad (by simp [A0i,h3]),hk12.trans hk3]
  simp only [↓Sh.dn,sx,Nat.reduceEqDiff,hb3.c1,arc3,f1,h3,decide_false]
  by_cases h4:N.states≤a.to
  ·simp only [↓Sh.dn,sx,Nat.reduceEqDiff,h4,decide_true,hbad (by simp [A0i,h4]),hk12.trans hk3]
  obtain ⟨r,H4,hd4,rfl,rfl⟩:=C2o (s:=a.inn) hb3 hasc hsm.sg
  simp only [↓Sh.dn,sx,Nat.reduceEqDiff,arc1,f4,h4,decide_false]
  refine ⟨_,_,hd4,?_⟩
  have hb4:=hb3
  cases hI:A4j N a.inn with
  | true=>simp only [↓Sh.dn,sx,Nat.reduceEqDiff,hbad (by simp [A0i,hI]),hk12.trans hk3]
  | false=>
   obtain ⟨r,H5,hd5,rfl,rfl⟩:=C2o (s:=a.out) hb3 hasc hsm.sg
   simp only [↓Sh.dn,sx,Nat.reduceEqDiff,arc2,f4]
   refine ⟨_,_,hd5,?_⟩
   cases hO:A4j N a.out with
   | true=>simp only [↓Sh.dn,sx,hbad (by simp [A0i,hO]),hk12.trans hk3]
   | false=>
    simp only [↓Sh.dn,sx,Nat.reduceEqDiff,f37,wrap_succ hlt hsm.ar]
    exact k _ _ (by repeat (first | refine Same.put ?_ rfl | exact Same.rfl' _)) (by simp only [sx]) ⟨hk3,hnext (by simp [A0i,h1,h2,h3,h4,hI,hO])⟩
 ·rintro F H' hF f37 ⟨hk,hall⟩
  have f1:=hF 1 rfl
  have f36:=hF 36 rfl
  simp only [sx,Nat.reduceEqDiff] at f1 f36
  rw [List.take_length] at hall
  have hb':=hb2.kept hk12.wf hk
  simp only [↓Sh.dn,sx,Nat.reduceEqDiff,hb'.c3,A7r hb',f1,f36,f37,A1a,Nat.lt_irrefl,decide_false]
  refine A9c N.ends.length 81 (List.range' 81 15++[2,8]) (fun i F H''=>Kept H' H''∧(N.ends.take i).any (A9q N)=false) (by simp only [sx]) ⟨Kept.refl hk.wf,rfl⟩ ?_ ?_
  ·rintro i F2 H'' hlt hF2 f81 ⟨hk2',hall2⟩ k
   have g1:=hF2 1 rfl
   have g79:=hF2 79 rfl
   have g80:=hF2 80 rfl
   simp only [sx,Nat.reduceEqDiff,f1] at g1 g79 g80
   have hbx:=hb'.kept hk.wf hk2'
   have hb3:=hbx.new hk2'.wf 2 (N.ends[i].cells)
   have hk3:=hk2'.news 2 (N.ends[i].cells)
   have hkk:=(hk12.trans hk).trans hk3
   obtain ⟨g,o,kk,hia,hc,hcc⟩:=hbx.hen.at Tryz.underlying24 A3u (i:=i) (x:=N.ends[i].cells) (by simp [hlt]) .i64
   clear hcc
   have hbad:A9q N N.ends[i]=true→A5g N=1:=fun h=>e2 (List.any_eq_true.2 ⟨_,List.getElem_mem hlt,h⟩)
   simp only [↓Sh.dn,sx,Nat.reduceEqDiff,B69,B0u,B15,end0,g79,g80,f81,A1a,hlt,decide_true,hia,hc]
   by_cases h1:N.ends[i].state < 0
   ·simp only [↓Sh.dn,sx,Nat.reduceEqDiff,h1,decide_true,hbad (by simp [A9q,h1]),hkk]
   simp only [↓Sh.dn,sx,Nat.reduceEqDiff,hb3.c1,end0,g1,h1,decide_false]
   by_cases h2:N.states≤N.ends[i].state
   ·simp only [↓Sh.dn,sx,h2,decide_true,hbad (by simp [A9q,h2]),hkk]
   simp only [↓Sh.dn,sx,Nat.reduceEqDiff,f81,h2,decide_false,wrap_succ hlt hsm.en]
   refine k _ _ (by repeat (first | refine Same.put ?_ rfl | exact Same.rfl' _)) (by simp only [sx]) ⟨hk3,?_⟩
   rw [List.take_add_one,List.getElem?_eq_getElem hlt]
   simp only [Option.toList,List.any_append,hall2,List.any_cons,List.any_nil,Bool.or_false,A9q,h1,h2,decide_false]
  ·rintro F2 H'' hF2 f81 ⟨hk2',hall2⟩
   have g80:=hF2 80 rfl
   simp only [sx,Nat.reduceEqDiff] at g80
   rw [List.take_length] at hall2
   simp only [↓Sh.dn,sx,g80,f81,A1a,Nat.lt_irrefl,decide_false,e3 hall hall2,(hk12.trans hk).trans hk2']
end Go.Proofs.YtcgbiedfbacgpaaGreat
/- slices.IndexFunc and ContainsFunc: whether some element is so. -/
namespace Go.Proofs.YtcgbiedfbacgpaaGreat
open Go Go.Proofs Go.Proofs.Sh
theorem B33 {H:AH} {v:Value} {l:List ArcD} {fid:Nat} {caps:List Value} (p:ArcD→Bool) (hs:Sl H v 5 (l.map ArcD.cells)) (hl:l.length≤1048576) (hw:Wf H)
  (hp:∀ H',Kept H H'→∀ x∈l,Sh.Call Tryz.prog (knows 7) fid ((fun a=>Value.agg a.cells.toArray) x :: caps) H' (fun r H''=>Kept H' H''∧r=.bool (p x))):
  Sh.Call Tryz.prog (knows 7) 89 [v,.func (.func fid) #[] caps.toArray] H (fun r H'=>Kept H H'∧∃ k:Int,r=.int .i64 k∧decide (0≤k)=l.any p):=by
 refine A2a rfl Tryz.func89 rfl (Nat.le_of_ble_eq_true rfl) ?_
 have hres:Tryz.f89.results.toList=[.tmp 4]:=rfl
 have hlen:=hs.len Tryz.underlying23 H
 simp only [↓Sh.dn,sx,reduceCtorEq,hlen,List.length_map]
 refine A9c l.length 8 [5,8,9,10,11,12,13,14,15,16,18] (fun i F H'=>Kept H H'∧(l.take i).any p=false) (by simp only [sx]) ⟨Kept.refl hw,rfl⟩ ?_ ?_
 ·rintro i F H' hlt hF f8 ⟨hk,hall⟩ k
  have hs1:=hs.grow (hk.grow hw)
  obtain ⟨g,o,kk,hia,hc,hcc⟩:=hs1.at Tryz.underlying23 A1q (i:=i) (x:=ArcD.cells l[i]) (by simp [hlt]) .i64
  have hld:=hc
  have f0:=hF 0 rfl
  have f1:=hF 1 rfl
  have f7:=hF 7 rfl
  simp only [sx,reduceCtorEq,Nat.reduceEqDiff] at f0 f1 f7
  obtain ⟨r,H2,hd,hk2,rfl⟩:=hp H' hk l[i] (List.getElem_mem hlt)
  simp only [↓Sh.dn,sx,reduceCtorEq,Nat.reduceEqDiff,f0,f1,f7,f8,A1a,hlt,decide_true,hia,hld,reduceCtorEq]
  refine ⟨_,_,hd,?_⟩
  cases hpv:p l[i] with
  | true=>
   simp only [↓Sh.dn,sx,Nat.reduceEqDiff,hres]
   refine ⟨hk.trans hk2,_,rfl,?_⟩
   rw [List.any_eq_true.2 ⟨_,List.getElem_mem hlt,hpv⟩]
   simp
  | false=>
   simp only [↓Sh.dn,sx,Nat.reduceEqDiff,hres,f8,wrap_succ hlt hl]
   refine k _ _ (by repeat (first | refine Same.put ?_ rfl | exact Same.rfl' _)) (by simp only [sx]) ⟨hk.trans hk2,?_⟩
   rw [List.take_add_one,List.getElem?_eq_getElem hlt]
   simp only [Option.toList,List.any_append,hall,List.any_cons,List.any_nil,hpv,Bool.or_false]
 ·rintro F H' hF f8 ⟨hk,hall⟩
  have f7:=hF 7 rfl
  simp only [sx,Nat.reduceEqDiff] at f7
  rw [List.take_length] at hall
  simp only [↓Sh.dn,sx,f7,f8,A1a,Nat.lt_irrefl,decide_false,hres]
  exact ⟨hk,_,rfl,by rw [hall]; rfl⟩
theorem B3e {H:AH} {v:Value} {l:List ArcD} {fid:Nat} {caps:List Value} (p:ArcD→Bool) (hs:Sl H v 5 (l.map ArcD.cells)) (hl:l.length≤1048576) (hw:Wf H)
  (hp:∀ H',Kept H H'→∀ x∈l,Sh.Call Tryz.prog (knows 7) fid ((fun a=>Value.agg a.cells.toArray) x :: caps) H' (fun r H''=>Kept H' H''∧r=.bool (p x))):
  Sh.Call Tryz.prog (knows 7) 54 [v,.func (.func fid) #[] caps.toArray] H (fun r H'=>Kept H H'∧r=.bool (l.any p)):=by
 refine A2a rfl Tryz.func54 rfl (Nat.le_of_ble_eq_true rfl) ?_
 have hres:Tryz.f54.results.toList=[.tmp 4]:=rfl
 obtain ⟨r,H2,hd,hk,k,rfl,hk0⟩:=B33 p hs hl hw hp
 simp only [↓Sh.dn,sx,reduceCtorEq,Nat.reduceEqDiff]
 refine ⟨_,_,hd,?_⟩
 simp only [sx,hres,hk0]
 exact hk
end Go.Proofs.YtcgbiedfbacgpaaGreat
/- Whether a net has a cost out of bounds. -/
namespace Go.Proofs.YtcgbiedfbacgpaaGreat
open Go Go.Proofs Go.Proofs.Sh
def A6v (N:NetD) (m:Int):Bool:=N.arcs.any (fun a=>decide (a.cost < 0) || decide (m < a.cost)) || N.ends.any (fun a=>decide (a.cost < 0) || decide (m < a.cost))
theorem priced {H:AH} {v:Value} {N:NetD} {m:Int} (h:A0y H v N) (hsm:A3j N) (hw:Wf H):
  Sh.Call Tryz.prog (knows 7) 55 [v,.int .i64 m] H (fun r H'=>Kept H H'∧r=.bool (A6v N m)):=by
 refine A2a rfl Tryz.func55 rfl (Nat.le_of_ble_eq_true rfl) ?_
 have hres:Tryz.f55.results.toList=[.tmp 4]:=rfl
 obtain ⟨sg,ar,en,rfl,hsg,har,hen⟩:=h
 have hb1:=NetBox.of (N:=N) hw hsg har hen
 have hk1:Kept H (H.new 4 [sg,.int .i64 N.states,ar,en]).2:=Kept.new hw 4 _
 simp only [↓Sh.dn,sx,Nat.reduceEqDiff,A9s hsg.isCell har.isCell hen.isCell]
 generalize H.next=gg at hb1 ⊢
 generalize (H.new 4 [sg,.int .i64 N.states,ar,en]).2=H1 at hb1 hk1 ⊢
 simp only [sx,hb1.c2,A4m hb1]
 refine A9c N.arcs.length 12 (List.range' 12 14++[4,6]) (fun i F H'=>Kept H1 H'∧(N.arcs.take i).any (fun a=>decide (a.cost < 0) || decide (m < a.cost))=false) (by simp only [sx]) ⟨Kept.refl hk1.wf,rfl⟩ ?_ ?_
 ·rintro i F H' hlt hF f12 ⟨hk,hall⟩ k
  have f1:=hF 1 rfl
  have f10:=hF 10 rfl
  have f11:=hF 11 rfl
  simp only [sx,Nat.reduceEqDiff] at f1 f10 f11
  have hb':=hb1.kept hk1.wf hk
  have hb3:=hb'.new hk.wf 5 (N.arcs[i].cells)
  have hk3:=hk.news 5 (N.arcs[i].cells)
  obtain ⟨g,o,kk,hia,hc,hcc⟩:=hb'.har.at Tryz.underlying23 A1q (i:=i) (x:=N.arcs[i].cells) (by simp [hlt]) .i64
  clear hcc
  have hbad:(decide (N.arcs[i].cost < 0) || decide (m < N.arcs[i].cost))=true→A6v N m=true:=fun h=>by
   rw [A6v,List.any_eq_true.2 ⟨_,List.getElem_mem hlt,h⟩]; rfl
  simp only [↓Sh.dn,sx,Nat.reduceEqDiff,B2e,A24,B7k,arc4,f10,f11,f12,A1a,hlt,decide_true,hia,hc,hres]
  by_cases h1:N.arcs[i].cost < 0
  ·simp only [↓Sh.dn,sx,Nat.reduceEqDiff,h1,decide_true,hbad (by simp [h1]),hk1.trans hk3]
  simp only [↓Sh.dn,sx,Nat.reduceEqDiff,arc4,f1,h1,decide_false]
  by_cases h2:m < N.arcs[i].cost
  ·simp only [↓Sh.dn,sx,h2,decide_true,hbad (by simp [h2]),hk1.trans hk3]
  simp only [↓Sh.dn,sx,Nat.reduceEqDiff,f12,h2,decide_false,wrap_succ hlt hsm.ar]
  refine k _ _ (by repeat (first | refine Same.put ?_ rfl | exact Same.rfl' _)) (by simp only [sx]) ⟨hk3,?_⟩
  rw [List.take_add_one,List.getElem?_eq_getElem hlt]
  simp only [Option.toList,List.any_append,hall,List.any_cons,List.any_nil,Bool.or_false,h1,h2,decide_false]
 ·rintro F H' hF f12 ⟨hk,hall⟩
  have f2:=hF 2 rfl
  have f11:=hF 11 rfl
  simp only [sx,Nat.reduceEqDiff] at f2 f11
  rw [List.take_length] at hall
  have hb':=hb1.kept hk1.wf hk
  simp only [↓Sh.dn,sx,Nat.reduceEqDiff,hb'.c3,A7r hb',f2,f11,f12,A1a,Nat.lt_irrefl,decide_false]
  refine A9c N.ends.length 29 (List.range' 29 14++[4,8]) (fun i F H''=>Kept H' H''∧(N.ends.take i).any (fun a=>decide (a.cost < 0) || decide (m < a.cost))=false) (by simp only [sx]) ⟨Kept.refl hk.wf,rfl⟩ ?_ ?_
  ·rintro i F2 H'' hlt hF2 f29 ⟨hk2',hall2⟩ k
   have g1:=hF2 1 rfl
   have h1':=hF 1 rfl
   have g27:=hF2 27 rfl
   have g28:=hF2 28 rfl
   simp only [sx,Nat.reduceEqDiff] at g1 g27 g28 h1'
   have hbx:=hb'.kept hk.wf hk2'
   have hb3:=hbx.new hk2'.wf 2 (N.ends[i].cells)
   have hk3:=hk2'.news 2 (N.ends[i].cells)
   have hkk:=(hk1.trans hk).trans hk3
   obtain ⟨g,o,kk,hia,hc,hcc⟩:=hbx.hen.at Tryz.underlying24 A3u (i:=i) (x:=N.ends[i].cells) (by simp [hlt]) .i64
   clear hcc
   have hbad:(decide (N.ends[i].cost < 0) || decide (m < N.ends[i].cost))=true→A6v N m=true:=fun h=>by
    rw [A6v,List.any_eq_true.2 ⟨_,List.getElem_mem hlt,h⟩,Bool.or_true]
   simp only [↓Sh.dn,sx,Nat.reduceEqDiff,B69,B0u,B15,end1,g27,g28,f29,A1a,hlt,decide_true,hia,hc]
   by_cases h1:N.ends[i].cost < 0
   ·simp only [↓Sh.dn,sx,Nat.reduceEqDiff,h1,decide_true,hres,hbad (by simp [h1]),hkk]
   simp only [↓Sh.dn,sx,Nat.reduceEqDiff,end1,g1,h1',h1,decide_false]
   by_cases h2:m < N.ends[i].cost
   ·simp only [↓Sh.dn,sx,h2,decide_true,hres,hbad (by simp [h2]),hkk]
   simp only [↓Sh.dn,sx,Nat.reduceEqDiff,f29,h2,decide_false,wrap_succ hlt hsm.en]
   refine k _ _ (by repeat (first | refine Same.put ?_ rfl | exact Same.rfl' _)) (by simp only [sx]) ⟨hk3,?_⟩
   rw [List.take_add_one,List.getElem?_eq_getElem hlt]
   simp only [Option.toList,List.any_append,hall2,List.any_cons,List.any_nil,Bool.or_false,h1,h2,decide_false]
  ·rintro F2 H'' hF2 f29 ⟨hk2',hall2⟩
   have g28:=hF2 28 rfl
   simp only [sx,Nat.reduceEqDiff] at g28
   rw [List.take_length] at hall2
   simp only [↓Sh.dn,sx,g28,f29,A1a,Nat.lt_irrefl,decide_false,hres,A6v,hall,hall2,(hk1.trans hk).trans hk2']
end Go.Proofs.YtcgbiedfbacgpaaGreat
/- What is wrong with an acceptor, by the program. -/
namespace Go.Proofs.YtcgbiedfbacgpaaGreat
open Go Go.Proofs Go.Proofs.Sh
theorem C4m {H:AH} {a:ArcD} (hw:Wf H):Sh.Call Tryz.prog (knows 7) 53 [.agg a.cells.toArray] H (fun r H'=>Kept H H'∧r=.bool (!decide (a.inn=a.out))):=by
 refine A2a rfl Tryz.func53 rfl (Nat.le_of_ble_eq_true rfl) ?_
 have hres:Tryz.f53.results.toList=[.tmp 2]:=rfl
 simp only [↓Sh.dn,sx,Nat.reduceEqDiff,arcNew,arc1,arc2,hres,Kept.new hw 5 a.cells]
theorem B5j (N:NetD):NetD.free N=!A6v N 0:=by
 have h:∀ c:Int,decide (c=0)=!(decide (c < 0) || decide (0 < c)):=by
  intro c
  by_cases h1:c < 0
  ·have:c≠0:=by omega
   simp [h1,this]
  ·by_cases h2:0 < c
   ·have:c≠0:=by omega
    simp [h2,this]
   ·have:c=0:=by omega
    simp [this]
 simp only [NetD.free,A6v,h,Bool.not_or,List.all_eq_not_any_not]
 simp
theorem A4y {H:AH} {v:Value} {N:NetD} (h:A0y H v N) (hsm:A3j N) (hw:Wf H):
  Sh.Call Tryz.prog (knows 7) 24 [v] H (fun r H'=>Kept H H'∧r=.int .i64 (A1h N)):=by
 refine A2a rfl Tryz.func24 rfl (Nat.le_of_ble_eq_true rfl) ?_
 have hres:Tryz.f24.results.toList=[.tmp 2]:=rfl
 obtain ⟨sg,ar,en,rfl,hsg,har,hen⟩:=h
 have hb1:=NetBox.of (N:=N) hw hsg har hen
 have hk1:Kept H (H.new 4 [sg,.int .i64 N.states,ar,en]).2:=Kept.new hw 4 _
 simp only [↓Sh.dn,sx,Nat.reduceEqDiff,A9s hsg.isCell har.isCell hen.isCell]
 generalize H.next=gg at hb1 ⊢
 generalize (H.new 4 [sg,.int .i64 N.states,ar,en]).2=H1 at hb1 hk1 ⊢
 simp only [sx,hb1.ca]
 obtain ⟨r,H2,hd,hk2,rfl⟩:=C2m hb1.netAt hsm hk1.wf
 refine ⟨_,_,hd,?_⟩
 have hb2:=hb1.kept hk1.wf hk2
 have hk12:=hk1.trans hk2
 by_cases hE:A5g N=0
 case neg=>simp only [↓Sh.dn,sx,Nat.reduceEqDiff,hE,decide_false,hres,A1h,hk12]
 simp only [↓Sh.dn,sx,Nat.reduceEqDiff,hE,decide_true,hb2.c2]
 obtain ⟨r,H3,hd3,hk3,rfl⟩:=B3e (caps:=[]) (fid:=53) (fun a=>!decide (a.inn=a.out)) hb2.har hsm.ar hk12.wf (fun H' hk a ha=>C4m hk.wf)
 refine ⟨_,_,hd3,?_⟩
 have hb3:=hb2.kept hk12.wf hk3
 have hk13:=hk12.trans hk3
 cases hu:N.arcs.any (fun a=>!decide (a.inn=a.out)) with
 | true=>simp only [↓Sh.dn,sx,Nat.reduceEqDiff,hres,A1h,hE,B2k,hu,hk13]
 | false=>
  simp only [↓Sh.dn,sx,Nat.reduceEqDiff,hb3.ca]
  obtain ⟨r,H4,hd4,hk4,rfl⟩:=priced (m:=0) hb3.netAt hsm hk13.wf
  refine ⟨_,_,hd4,?_⟩
  cases hp:A6v N 0 with
  | true=>simp only [↓Sh.dn,sx,hres,A1h,hE,B2k,hu,B5j,hp,hk13.trans hk4]
  | false=>simp only [↓Sh.dn,sx,hres,A1h,hE,B2k,hu,B5j,hp,hk13.trans hk4]
end Go.Proofs.YtcgbiedfbacgpaaGreat
/- auto.given, Accepts, Begins. -/
namespace Go.Proofs.YtcgbiedfbacgpaaGreat
open Go Go.Proofs Go.Proofs.Sh
def A3h (N:NetD):List (List (Nat×Int×Int×Int)):=rowsOf ArcD.fr (fun a=>(a.to.toNat,A5p N.sigma a.inn,A5p N.sigma a.out,a.cost)) N.states.toNat N.arcs
theorem B23 {N:NetD} (hok:A3r N):A9i (A3h N)=B9a N N.arcs:=by
 unfold A9i A3h B9a rowsOf
 rw [List.map_map]
 refine List.map_congr_left fun s _=>?_
 simp only [Function.comp,List.map_map]
 refine List.map_congr_left fun a ha=>?_
 have:=hok.arc a (List.mem_filter.1 ha).1
 simp only [Function.comp,A2f,B89]
 rw [show ((a.to.toNat:Nat):Int)=a.to by omega]
theorem B2i {N:NetD} (hok:A3r N) (p:Int→Prop) (s t:Nat):A2c (A3h N) p s t↔∃ a∈N.arcs,a.fr=(s:Int)∧p (A5p N.sigma a.inn)∧a.to=(t:Int):=by
 unfold A2c A3h
 constructor
 ·rintro ⟨r,h1,e,h2,h3,h4⟩
  obtain ⟨a,ha,h5,rfl⟩:=(A9p h1 _).1 h2
  have:=hok.arc a ha
  exact ⟨a,ha,h5,h4,by simp only at h3; omega⟩
 ·rintro ⟨a,ha,h1,h2,h3⟩
  have:=hok.arc a ha
  have hs:s < N.states.toNat:=by omega
  exact ⟨_,A0h hs,(a.to.toNat,A5p N.sigma a.inn,A5p N.sigma a.out,a.cost),(A9p (A0h hs) _).2 ⟨a,ha,h1,rfl⟩,by simp only; omega,h2⟩
theorem B5c {l:List ByteArray} {x:ByteArray} (ha:Asc l):A5p l x < 0↔x∉l:=by
 have:=C5y (x:=x) ha
 rw [← A9j]
 cases h:A3t l x with
 | true=>rw [h] at this; simpa using this
 | false=>rw [h] at this; simpa using this
theorem C4s {l:List ByteArray} {x y:ByteArray} (ha:Asc l) (hx:x∈l):A5p l y=A5p l x↔y=x:=by
 constructor
 ·intro h
  have hx0:¬(A5p l x < 0):=fun h0=>(B5c ha).1 h0 hx
  have hy:y∈l:=by
   by_cases hy:y∈l
   ·exact hy
   ·have:=(B5c ha).2 hy; omega
  obtain ⟨i,hi⟩:=List.mem_iff_getElem?.1 hx
  obtain ⟨j,hj⟩:=List.mem_iff_getElem?.1 hy
  rw [A3v ha hi,A3v ha hj] at h
  have:j=i:=by omega
  subst this
  rw [hi] at hj
  exact (Option.some.inj hj).symm
 ·rintro rfl; rfl
theorem A30 {N:NetD} (hok:A3r N):A8a∉N.sigma:=by
 intro h
 have:=hok.sym _ h
 have h0:A5y A8a=false:=rfl
 rw [h0] at this; cases this
theorem C9k {N:NetD} (hok:A3r N) (s t:Nat):N.goes A8a s t↔A2c (A3h N) (fun k=>k < 0) s t:=by
 rw [B2i hok]
 unfold NetD.goes
 constructor
 ·rintro ⟨a,ha,h1,h2,h3⟩
  exact ⟨a,ha,h1,(B5c hok.asc).2 (by rw [h2]; exact A30 hok),h3⟩
 ·rintro ⟨a,ha,h1,h2,h3⟩
  have h4:=(B5c hok.asc).1 h2
  exact ⟨a,ha,h1,((hok.arc a ha).2.2.2.2.1).resolve_right h4,h3⟩
theorem C9l {N:NetD} (hok:A3r N) {x:ByteArray} (hx:x∈N.sigma) (s t:Nat):N.goes x s t↔A2c (A3h N) (fun k=>k=A5p N.sigma x) s t:=by
 rw [B2i hok]
 unfold NetD.goes
 constructor
 ·rintro ⟨a,ha,h1,h2,h3⟩; exact ⟨a,ha,h1,by rw [h2],h3⟩
 ·rintro ⟨a,ha,h1,h2,h3⟩; exact ⟨a,ha,h1,(C4s hok.asc hx).1 h2,h3⟩
theorem B1o {N:NetD} (hok:A3r N) {w:List ByteArray} (hw:∀ x∈w,x∈N.sigma) (t:Nat):
  N.run w t↔RunS (A2c (A3h N) fun k=>k < 0) (fun x=>A2c (A3h N) fun k=>k=x) (Clo (A2c (A3h N) fun k=>k < 0) fun s=>s=0) (w.map (A5p N.sigma)) t:=by
 unfold NetD.run NetD.clo
 have e:N.goes A8a=A2c (A3h N) fun k=>k < 0:=funext fun s=>funext fun t=>propext (C9k hok s t)
 rw [e]
 exact RunS.congr (f:=A5p N.sigma) (fun _ _=>Iff.rfl) (fun _=>Iff.rfl) (fun x hx s t=>C9l hok (hw x hx) s t) t
theorem C2y {N:NetD} (hok:A3r N) (t:Nat):0 < (A7j N N.ends).getD t 0↔N.isEnd t:=by
 unfold NetD.isEnd A7j
 rw [List.getD_eq_getElem?_getD,List.getElem?_map]
 by_cases ht:t < N.states.toNat
 ·rw [A0h ht]
  simp only [Option.map_some,Option.getD_some,List.length_map]
  rw [show (0:Int) < ((N.ends.filter fun a=>decide (a.state=(t:Int))).length:Int)↔0 < (N.ends.filter fun a=>decide (a.state=(t:Int))).length by omega,List.length_pos_iff_exists_mem]
  simp only [List.mem_filter,decide_eq_true_eq]
 ·rw [List.getElem?_eq_none (by rw [A9e]; omega)]
  simp only [Option.map_none,Option.getD_none,Int.lt_irrefl,false_iff,not_exists,not_and]
  intro e he h
  have:=hok.fin e he
  omega
theorem Gr.pg {H:AH} {base g:Nat} {N:NetD} (hok:A3r N) (h:Gr H base g N.sigma (B9a N N.arcs) (A7j N N.ends) (A4o N N.ends)):
  ∃ sv av ev cv vals,PG H g N.states.toNat 60000 (A3h N) (A7j N N.ends) sv av ev cv vals N.sigma (A4o N N.ends):=by
 obtain ⟨sv,av,ev,cv,vals,hR⟩:=h.read
 rw [← B23 hok] at hR
 have h1:=hok.st1
 have h2:=hok.st2
 refine ⟨sv,av,ev,cv,vals,hR,by unfold A3h; rw [A9e],by unfold A7j; rw [List.length_map,A9e],by omega,by omega,fun s r hr=>⟨Nat.le_trans (A8y hr) hok.ar,fun e he=>?_⟩⟩
 obtain ⟨a,ha,_,rfl⟩:=(A9p hr e).1 he
 have:=hok.arc a ha
 show a.to.toNat < _
 omega
end Go.Proofs.YtcgbiedfbacgpaaGreat
/- auto.Words. -/
namespace Go.Proofs.YtcgbiedfbacgpaaGreat
open Go Go.Proofs Go.Proofs.Sh
noncomputable def A2n (N:NetD):List (List ByteArray):=B4l N.sigma (A2u N) 60
def B3j (N:NetD):Prop:=∃ w:List ByteArray,60 < w.length∧(∀ x∈w,x∈N.sigma)∧A2u N w
theorem B07 (l:List ByteArray) (x:ByteArray):A5p l x < (l.length:Int)∨l.length=0:=by
 unfold A5p
 split
 ·rename_i i h
  have:=(List.findIdx?_eq_some_iff_getElem.1 h).1
  left; omega
 ·rcases Nat.eq_zero_or_pos l.length with h | h
  ·exact .inr h
  ·left; omega
theorem A57 {N:NetD} (s:Nat) (r:List (Nat×Int×Int×Int)) (h:(A3h N)[s]?=some r):∀ e∈r,e.2.1 < (N.sigma.length:Int):=by
 intro e he
 unfold A3h at h
 obtain ⟨a,ha,h1,rfl⟩:=(A9p h e).1 he
 rcases B07 N.sigma a.inn with h2 | h2
 ·exact h2
 ·show A5p N.sigma a.inn < _
  have h3:N.sigma=[]:=List.length_eq_zero_iff.1 h2
  rw [h3,A77 (by simp)]
  decide
theorem B1j {N:NetD} (hok:A3r N) {u:List Nat} (hu:∀ k∈u,k < N.sigma.length):
  accS (A2c (A3h N) fun k=>k < 0) (fun (k:Nat)=>A2c (A3h N) fun x=>x=(k:Int)) (fun s=>0 < (A7j N N.ends).getD s 0) (Clo (A2c (A3h N) fun k=>k < 0) fun s=>s=0) u↔A2u N (textOf N.sigma u):=by
 have hin:∀ x∈textOf N.sigma u,x∈N.sigma:=fun x hx=>by
  obtain ⟨k,hk,rfl⟩:=List.mem_map.1 hx
  have:=hu k hk
  simp only [List.getD,List.getElem?_eq_getElem this,Option.getD_some]
  exact List.getElem_mem _
 have hmap:(textOf N.sigma u).map (A5p N.sigma)=u.map fun (k:Nat)=>(k:Int):=by
  unfold textOf
  rw [List.map_map]
  refine List.map_congr_left fun k hk=>?_
  have:=hu k hk
  simp only [Function.comp,List.getD,List.getElem?_eq_getElem this,Option.getD_some]
  exact A3v hok.asc (List.getElem?_eq_getElem this)
 unfold accS A2u
 constructor
 ·rintro ⟨t,h1,h2⟩
  refine ⟨fun x hx h0=>A30 hok (h0 ▸ hin x hx),t,?_,(C2y hok t).1 h2⟩
  rw [B1o hok hin,hmap]
  exact (RunS.congr (f:=fun (k:Nat)=>(k:Int)) (fun _ _=>Iff.rfl) (fun _=>Iff.rfl) (fun x _ s t=>Iff.rfl) t).1 h1
 ·rintro ⟨_,t,h1,h2⟩
  refine ⟨t,?_,(C2y hok t).2 h2⟩
  rw [B1o hok hin,hmap] at h1
  exact (RunS.congr (f:=fun (k:Nat)=>(k:Int)) (fun _ _=>Iff.rfl) (fun _=>Iff.rfl) (fun x _ s t=>Iff.rfl) t).2 h1
theorem B99 (sigma:List ByteArray):(List.range sigma.length).map (fun k=>sigma.getD k A8a)=sigma:=by
 refine List.ext_getElem? fun i=>?_
 rw [List.getElem?_map]
 by_cases h:i < sigma.length
 ·rw [List.getElem?_range h,List.getElem?_eq_getElem h]
  simp [List.getD,List.getElem?_eq_getElem h]
 ·rw [List.getElem?_eq_none (by simp; omega),List.getElem?_eq_none (by omega)]; rfl
theorem eps_of {E:List (List (Nat×Int×Int×Int))}:B1m (fun x s t=>A2c E (fun k=>k=x) s t)=A2c E fun k=>k < 0:=by
 funext s t
 apply propext
 unfold B1m A2c
 constructor
 ·rintro ⟨x,hx,r,h1,e,h2,h3,h4⟩; exact ⟨r,h1,e,h2,h3,by rw [h4]; exact hx⟩
 ·rintro ⟨r,h1,e,h2,h3,h4⟩; exact ⟨_,h4,r,h1,e,h2,h3,rfl⟩
section
variable {N:NetD} {R:List (List (Nat×Int×Int×Int))} {es:List Int} {us:Nat→Prop} {f:Nat→Nat}
theorem trim_acc (hok:A3r N) (hT:TrimOf (fun x s t=>A2c (A3h N) (fun k=>k=x) s t) (fun x s t=>A2c R (fun k=>k=x) s t) us f (fun s=>0 < (A7j N N.ends).getD s 0) (fun s=>0 < es.getD s 0)) {u:List Nat} (hu:∀ k∈u,k < N.sigma.length):
  accS (A2c R fun k=>k < 0) (fun (k:Nat)=>A2c R fun x=>x=(k:Int)) (fun s=>0 < es.getD s 0) (Clo (A2c R fun k=>k < 0) fun s=>s=0) u↔A2u N (textOf N.sigma u):=by
 rw [← B1j hok hu]
 have:=hT.acc u
 rw [eps_of,eps_of] at this
 exact this
theorem trim_sym (hT:TrimOf (fun x s t=>A2c (A3h N) (fun k=>k=x) s t) (fun x s t=>A2c R (fun k=>k=x) s t) us f (fun s=>0 < (A7j N N.ends).getD s 0) (fun s=>0 < es.getD s 0)) (s:Nat) (r:List (Nat×Int×Int×Int)) (h:R[s]?=some r):∀ e∈r,e.2.1 < (N.sigma.length:Int):=by
 intro e he
 obtain ⟨a,b,_,_,_,_,r',h1,e',h2,_,h3⟩:=(hT.edge e.2.1 s e.1).1 ⟨r,h,e,he,rfl,rfl⟩
 rw [← h3]
 exact A57 a r' h1 e' h2
end
theorem B9i {N:NetD} (hok:A3r N):N.sigma.length≤40:=by
 have h:=hok.sig
 unfold A4k at h
 split at h
 ·cases h
 ·rename_i h1
  simp only [Bool.or_eq_true,decide_eq_true_eq,not_or] at h1
  omega
end Go.Proofs.YtcgbiedfbacgpaaGreat
