/- A part of the proof: GraphWalk, GraphWalk2, GraphFirst, GraphBeyond, Same, GraphTexts, GraphWords, RefGraph, SortIntsInt, SortInts, RefClose, RefRun, RefAbove. -/
import Derived.Test.YtjjgodccecehlaaGreatMClose2RelChained20
import Derived.Test.YtjjgodccecehlaaGreatMClose2RelChained21
import Derived.Test.YtjjgodccecehlaaGreatMClose2RelChained2
import Derived.Test.YtjjgodccecehlaaGreatMClose2RelChained5
import Derived.Test.YtjjgodccecehlaaGreatMClose2RelChained3
import Derived.Test.YtjjgodccecehlaaGreatMClose2RelChained8
import Derived.Test.YtjjgodccecehlaaGreatMClose2RelChained4
import Derived.Test.YtjjgodccecehlaaGreatMClose2RelChained13
set_option linter.unusedVariables false
set_option linter.unusedSimpArgs false
/- The search of (*graph.Graph).First: the words that go on from a set. -/
set_option maxHeartbeats 4000000
set_option maxRecDepth 20000
namespace Go.Proofs.YtjjgodccecehlaaGreat
open Go Go.Proofs Go.Proofs.Sh
noncomputable def A6i(sg:Nat)(E:List (List (Nat×Int×Int×Int)))(ends:List Int)(Q:Nat→Prop)(m:Nat):List (List Nat):=lexW (List.range sg) (accS (A1e E fun k=>k<0) (fun(k:Nat)=>A1e E fun x=>x=(k:Int)) (fun s=>0<ends.getD s 0) Q) m
theorem B98(sg:Nat)(E:List (List (Nat×Int×Int×Int)))(ends:List Int)(Q:Nat→Prop)(m:Nat):A6i sg E ends Q (m+1)=(List.range sg).flatMap fun k=>(A6i sg E ends (A7z E Q k) m).map (k :: ·):=C6w _ _ _
theorem C86{E:List (List (Nat×Int×Int×Int))}(k:Nat)(s t:Nat)(h:A1e E (fun x=>x=(k:Int)) s t):A1e E (fun x=>0≤x) s t:=by
 obtain⟨r,h1,e,h2,h3,h4⟩:=h;exact⟨r,h1,e,h2,h3,by rw[h4];omega⟩
theorem B4h{sg:Nat}{E:List (List (Nat×Int×Int×Int))}{ends:List Int}{Q:Nat→Prop}{m:Nat}(h:∀s,Q s→¬exP E ends m s):A6i sg E ends Q m=[]:=C99 fun u hu ha=>by
 obtain⟨s,h1,h2⟩:=A54 (any:=A1e E fun x=>0≤x) C86 ha;rw[hu]at h2;exact h s h1 h2
theorem C3d{sg:Nat}{E:List (List (Nat×Int×Int×Int))}{ends:List Int}{Q:Nat→Prop}(hQ:∀a b,Q a→A1e E (fun k=>k<0) a b→Q b)(h:∃s,Q s∧exP E ends 0 s):A6i sg E ends Q 0=[[]]:=by
 unfold A6i;rw[C2x,if_pos];rw[A4u];obtain⟨s,h1,h2⟩:=h;obtain⟨t,h3,h4⟩:=A60.1 h2;exact⟨t,(B8a hQ).1 (A2v.2 ⟨s,h1,h3⟩),h4⟩
theorem B01{E:List (List (Nat×Int×Int×Int))}{Q:Nat→Prop}{k:Nat}:∀a b,A7z E Q k a→A1e E (fun k=>k<0) a b→A7z E Q k b:=fun _ _ h1 h2=>.step h1 h2
theorem C84{H:AH}{base bO:Nat}{zo:Value}{oo wb:Option Nat}{out:List (List Nat)}(h:OutAt H base bO zo oo wb out)(H':AH):A3a Tryz.prog .len [131] [zo] H'=some (.int .i64 (out.length:Int),H'):=by
 obtain⟨vals,h1,h2,h3⟩:=h.ex;rw[h1.toSl.len Tryz.underlying131,List.length_map,h2]
theorem outPush{H:AH}{base bO:Nat}{zo v:Value}{oo wb o:Option Nat}{out:List (List Nat)}{u:List Nat}(h:OutAt H base bO zo oo wb out)(hw:Wf H)(hb:base≤H.next)(hv:Buf H 1 v (u.map natC) o)(ho:∀y,o=some y→base≤y∧oo≠some y∧wb≠some y)(hwb:∀y,wb=some y→y<H.next)(hol:out.length≤17179869183):
  ∃a cap w' H3 H4 oo',zo=.slice a out.length cap∧A4a Tryz.prog 131 1 [(0,v)] H=some (.slice (some ⟨H.next,0,some 0⟩) 1 1,(H.new 1 [v]).2)∧A3a Tryz.prog .append [131,131] [.slice a out.length cap,.slice (some ⟨H.next,0,some 0⟩) 1 1] (H.new 1 [v]).2=some (w',H3)∧
   A7d Tryz.prog 131 H3 w' (.pointer (some ⟨bO,0,some 0⟩))=some H4∧OutAt H4 base bO w' oo' wb (out++[u])∧Chg (fun y=>y=bO∨oo=some y) H H4∧∀y,oo'=some y→oo=some y∨H.next≤y:=by
 obtain⟨vals,h1,h2,h3⟩:=h.ex;have hlt:=h.lt;obtain⟨a,cap,w',H3,oo',e1,e2,e3,e4,e5⟩:=h1.push hw (x:=[v]) rfl;have hvc:=hv.isCell;have hbs:=C4v (H:=H) (x:=v) (by rw[A7a hvc];rfl) (by rw[A7a hvc];simp[hvc]);rw[A7a hvc]at hbs;rw[List.length_map,h2]at e1 e2;have ha:=app1_131 (H:=H) (base:=a) (len:=out.length) (cap:=cap) (x:=[v]) rfl hol;rw[e2]at ha;have hbO:oo≠some bO:=fun hy=>by have:=(h.ob bO hy).1;omega
 have a3:=h.cell.keep (e4.old bO (h.cell.lt hw) hbO);obtain⟨H4,w1,w2,w3,w4⟩:=a3.write e4.wf (i:=0) (vs:=[w']) (by simp);have hw':=e3.isCell;have st:A7d Tryz.prog 131 H3 w' (.pointer (some ⟨bO,0,some 0⟩))=some H4:=by rw[A9b C5h hw'];exact w1
 have c34:Chg (fun y=>y=bO∨oo=some y) H H4:=(e4.weak fun y hy=>.inr hy).trans (w4.weak fun y hy=>.inl hy);have hoo:∀y,oo'=some y→base≤y∧wb≠some y:=fun y hy=>by
  rcases e5 y hy with h4|h4
  ·exact h.ob y h4
  ·exact⟨by omega,fun hy2=>by have:=hwb y hy2;omega⟩
 refine⟨a,cap,w',H3,H4,oo',e1,hbs,ha,st,⟨w2,⟨vals++[v],?_,by simp[h2],fun j x q hj hq=>?_⟩,hoo,hlt⟩,c34,e5⟩
 ·rw[List.map_append]
  exact e3.chg e4.wf w4 fun y hy hyb=>by have:=(hoo y hy).1;omega
 ·have far : ∀ {z : Value} {m : List (List Value)} {o : Option Nat}, Buf H 1 z m o → (∀ y, o = some y → base ≤ y ∧ oo ≠ some y ∧ wb ≠ some y) → Buf H4 1 z m o ∧ ∀ y, o = some y → base ≤ y ∧ oo' ≠ some y ∧ wb ≠ some y := fun {z m o} hb hx =>
    ⟨hb.chg hw c34 fun y hy hX => by
      obtain⟨x1, x2, x3⟩ := hx y hy;rcases hX with hX|hX
      · omega
      · exact x2 hX, fun y hy => ⟨(hx y hy).1, fun hy2 => by
      rcases e5 y hy2 with h4|h4
      · exact(hx y hy).2.1 h4
      · have := hb.lt hw y hy;omega, (hx y hy).2.2⟩⟩
  rcases Nat.lt_or_ge j vals.length with hj1|hj1
  · rw[List.getElem?_append_left hj1]at hj
    rw[List.getElem?_append_left (by rw[←h2];exact hj1)]at hq;obtain⟨o', k1, k2⟩ := h3 j x q hj hq;exact⟨o', far k1 k2⟩
  · rw[List.getElem?_append_right hj1]at hj
    rw[List.getElem?_append_right (by rw[←h2];exact hj1), ←h2]at hq;have hj0 : j-vals.length = 0 := by
      have := (List.getElem?_eq_some_iff.1 hj).1;simp at this;omega
    rw[hj0]at hj hq;have hvx : v = x := by simpa using hj
    have huq : u = q := by simpa using hq
    subst hvx huq;exact⟨o, far hv ho⟩
theorem C59{H0:AH}{base bA bO bM bG bW g n mx long:Nat}{E:List (List (Nat×Int×Int×Int))}{ends:List Int}{sv av ev cv za:Value}{vals:List Value}{sigma:List ByteArray}{costs:List Int}
  (hpg:∀H,Chg (fun y=>y=bO∨base≤y) H0 H→PG H g n 60000 E ends sv av ev cv vals sigma costs)
  (hcA:∀H,Chg (fun y=>y=bO∨base≤y) H0 H→H.cell ⟨bA,0,some 0⟩=some za)
  (hA:∀H,Chg (fun y=>y=bO∨base≤y) H0 H→∀j,j≤long→∃p v,A4b Tryz.prog 92 za (.int .i64 (j:Int))=some (.pointer (some p))∧H.cell p=some v∧∃B:List Bool,Sl H v 1 (B.map A0z)∧B.length=n∧∀t:Nat,B[t]?=some true↔exP E ends j t)
  (hcM:∀H,Chg (fun y=>y=bO∨base≤y) H0 H→H.cell ⟨bM,0,some 0⟩=some (.int .i64 (mx:Int)))
  (hcG:∀H,Chg (fun y=>y=bO∨base≤y) H0 H→H.cell ⟨bG,0,some 0⟩=some (.pointer (some ⟨g,0,some 0⟩)))
  (hcW:∀H,Chg (fun y=>y=bO∨base≤y) H0 H→H.cell ⟨bW,0,some 0⟩=some (.func (.func 102) #[] #[.pointer (some ⟨bA,0,some 0⟩),.pointer (some ⟨bO,0,some 0⟩),.pointer (some ⟨bM,0,some 0⟩),.pointer (some ⟨bG,0,some 0⟩),.pointer (some ⟨bW,0,some 0⟩)]))
  (hsy:∀(s:Nat) r,E[s]?=some r→∀e∈r,e.2.1<(sigma.length:Int)) (hsl:sigma.length≤1000) (hmx:mx≤1000) (hlong:long≤1000):
  ∀(m:Nat) (H:AH) (Q:Nat→Prop) (s wv:Value) (w:List Nat) (wb:Option Nat) (out:List (List Nat)) (zo:Value) (oo:Option Nat),Chg (fun y=>y=bO∨base≤y) H0 H→base≤H.next→SetAt H s n Q→(∀a b,Q a→A1e E (fun k=>k<0) a b→Q b)→Stk H wv w wb→(∀y,wb=some y→base≤y)→OutAt H base bO zo oo wb out→out.length≤mx→w.length+m≤long→
   Sh.Call Tryz.prog (knows 7) 102 [s,wv,.int .i64 (m:Int),.pointer (some ⟨bA,0,some 0⟩),.pointer (some ⟨bO,0,some 0⟩),.pointer (some ⟨bM,0,some 0⟩),.pointer (some ⟨bG,0,some 0⟩),.pointer (some ⟨bW,0,some 0⟩)] H
    (fun _ H'=>Chg (fun y=>y=bO∨oo=some y∨wb=some y) H H'∧∃zo' oo',OutAt H' base bO zo' oo' wb ((out++(A6i sigma.length E ends Q m).map (w++·)).take mx)∧(∀y,oo'=some y→oo=some y∨H.next≤y)∧∀y,wb=some y→StkKept H H' y w.length):=by
 intro m
 induction m using Nat.strongRecOn with
 | ind m ih=>
 intro H Q s wv w wb out zo oo hc0 hbn hS hQ hst hwb hO hol hwl;have hw:=hc0.wf;have hbO:=hO.lt;refine A5a rfl Tryz.func102 rfl (Nat.le_of_ble_eq_true rfl) ?_;have hres:Tryz.f102.results.toList=[]:=rfl;obtain⟨L,hL,hnd,hlt,hLQ⟩:=hS;have hn2:=(hpg H hc0).n2;have hLl:=A17 hnd hlt;have nw:anew Tryz.prog 3 H (.int .i64 (m:Int))=some (.pointer (some ⟨H.next,0,some 0⟩),(H.new 1 [.int .i64 (m:Int)]).2):=A4x A1c rfl;have k1:=Kept.new hw 1 [.int .i64 (m:Int)];have o1:=(Sh.Obj.new (H:=H) 1 [.int .i64 (m:Int)]).arr;have hx1:H.next<(H.new 1 [.int .i64 (m:Int)]).2.next:=Nat.lt_succ_self _;simp only[↓Sh.dn,sx,reduceCtorEq,Nat.reduceEqDiff,nw];generalize hbl:H.next=bl at o1 hx1 ⊢;generalize (H.new 1 [.int .i64 (m:Int)]).2=H1 at k1 o1 hx1 ⊢;have hcx:∀{H'},Kept H H'→Chg (fun y=>y=bO∨base≤y) H0 H':=fun hk=>hc0.trans hk.chg;obtain⟨r2,H2,hd2,hk2,rfl⟩:=B0h (caps:=[.pointer (some ⟨bA,0,some 0⟩),.pointer (some ⟨bl,0,some 0⟩)]) (fid:=104) (fun t=>tB (exP E ends m t)) (hL.grow (k1.grow hw)) (by omega) k1.wf (fun H' hk t ht=>by
  refine A5a rfl Tryz.func104 rfl (Nat.le_of_ble_eq_true rfl) ?_;have hres:Tryz.f104.results.toList=[.tmp 4]:=rfl;have c1:=hcA H' (hcx (k1.trans hk));have c2:H'.cell ⟨bl,0,some 0⟩=some (.int .i64 (m:Int)):=(o1.keep (hk.old bl hx1)).cell 0;obtain⟨p,v,i1,i2,B,hB,hBl,hBi⟩:=hA H' (hcx (k1.trans hk)) m (by omega);have htl:t<B.length:=by rw[hBl];exact hlt t ht
  obtain⟨p2,i3,i4⟩:=Sl.elem (s:=1) Tryz.underlying58 A5r hB (i:=t) (u:=.bool B[t]) (by rw[List.getElem?_map,List.getElem?_eq_getElem htl];rfl);have hg:B[t]=tB (exP E ends m t):=by
   rw[Bool.eq_iff_iff,A4u,←hBi,List.getElem?_eq_getElem htl];simp
  simp only[↓Sh.dn,sx,reduceCtorEq,Nat.reduceEqDiff,c1,c2,i1,i2,i3,i4,hres,hg];exact Kept.refl hk.wf)
 have k02:=k1.trans hk2;have c02:=hcx k02;have hO2:=hO.kept hw k02;have hst2:=hst.chg hw (k02.chg (X:=none')) fun _ _ h=>h;have cO:=hO2.cell.cell 0;have cM:=hcM H2 c02;have cG:=hcG H2 c02;have cL:H2.cell ⟨bl,0,some 0⟩=some (.int .i64 (m:Int)):=(o1.keep (hk2.old bl hx1)).cell 0;have hlO:=C84 hO2;refine⟨_,_,hd2,?_⟩;have skip:(A6i sigma.length E ends Q m=[]∨mx≤out.length)→Chg (fun y=>y=bO∨oo=some y∨wb=some y) H H2∧∃zo' oo',OutAt H2 base bO zo' oo' wb ((out++(A6i sigma.length E ends Q m).map (w++·)).take mx)∧(∀y,oo'=some y→oo=some y∨bl≤y)∧∀y,wb=some y→StkKept H H2 y w.length:=fun hh=>by
  have ho:(out++(A6i sigma.length E ends Q m).map (w++·)).take mx=out:=by
   rcases hh with h1|h1
   ·rw[h1,List.map_nil,List.append_nil];exact List.take_of_length_le hol
   ·rw[List.take_append_of_le_length (by omega),List.take_of_length_le hol]
  rw[ho];exact⟨k02.chg,zo,oo,hO2,fun y hy=>.inl hy,fun y hy=>StkKept.same (k02.old y (hst.lt hw y hy))⟩
 cases hany:L.any fun t=>tB (exP E ends m t) with
 | false=>
  have hno:A6i sigma.length E ends Q m=[]:=B4h fun s hs he=>by
   have:=(List.any_eq_true (p:=fun t=>tB (exP E ends m t))).2 ⟨s,(hLQ s).2 hs,A4u.2 he⟩;rw[hany]at this;cases this
  simp only[↓Sh.dn,sx,Nat.reduceEqDiff,hres];exact skip (.inl hno)
 | true=>
 have hsome:∃s,Q s∧exP E ends m s:=by
  obtain⟨s,h1,h2⟩:=List.any_eq_true.1 hany;exact⟨s,(hLQ s).1 h1,A4u.1 h2⟩
 simp only[↓Sh.dn,sx,Nat.reduceEqDiff,cO,cM,hlO,A3t];by_cases hfull:mx≤out.length
 ·simp only[↓Sh.dn,sx,hfull,decide_true,hres]
  exact skip (.inr hfull)
 simp only[↓Sh.dn,sx,Nat.reduceEqDiff,hfull,decide_false,cL];cases m with
 | zero=>
  have h00:decide (((0:Nat):Int)=0)=true:=rfl;simp only[↓Sh.dn,sx,h00];obtain⟨r3,H3,hd3,hk3,o3,hb3,hf3⟩:=C7k (hst2.sl) (by rw[List.length_map];omega) hk2.wf;have hO3:=hO2.kept hk2.wf hk3;have k03:=k02.trans hk3;obtain⟨vz,hz1,hz2,hz3⟩:=hO2.ex;obtain⟨a,cap,w',H4,H5,oo',rfl,e1,e2,e3,hO5,hc5,hf5⟩:=outPush hO3 hk3.wf (by have:=k03.next;omega) hb3 (fun y hy=>⟨by have:=hf3 y hy;have:=k02.next;omega,fun hy2=>by have:=hz1.lt hk2.wf y hy2;have:=hf3 y hy;omega,fun hy2=>by have:=hst2.lt hk2.wf y hy2;have:=hf3 y hy;omega⟩) (fun y hy=>by have:=hst.lt hw y hy;have:=k03.next;omega) (by omega);have cO3:=hO3.cell.cell 0;have hvz:=hz1.veq;refine A8n (fl:=[(0,[]),(1,[]),(2,[0]),(3,[]),(4,[]),(5,[])]) (by kernel_rfl) (by kernel_rfl) (by kernel_rfl) ?_;simp only[↓Sh.dn,sx,Nat.reduceEqDiff,wpr,again,A2d,A5l,forall_eq',cO];refine⟨_,_,hd3,?_⟩;simp only[sx,cO3,e1,e2,e3,hres];have hW:A6i sigma.length E ends Q 0=[[]]:=C3d hQ hsome;have ho:(out++(A6i sigma.length E ends Q 0).map (w++·)).take mx=out++[w]:=by
   rw[hW];simp only[List.map_cons,List.map_nil,List.append_nil];exact List.take_of_length_le (by rw[List.length_append,List.length_singleton];omega)
  rw[ho];refine⟨(k03.chg).trans (hc5.weak fun y hy=>hy.imp id .inl),w',oo',hO5,fun y hy=>?_,fun y hy=>StkKept.same ?_⟩
  ·rcases hf5 y hy with h1|h1
   ·exact .inl h1
   ·have:=k03.next;exact .inr (by omega)
  ·have hyl:=hst.lt hw y hy
   rw[hc5.old y (Nat.lt_of_lt_of_le hyl k03.next) ?_,k03.old y hyl];rintro(h1|h1)
   ·have:=hwb y hy;omega
   ·exact(hO.ob y h1).2 hy
 | succ m=>
  have h00:decide (((m+1:Nat):Int)=0)=false:=by simp;omega
  have hLQ':(fun s=>s∈L)=Q:=funext fun s=>propext (hLQ s);obtain⟨r3,H3,hd3,hk3,vs,hvl,hvs⟩:=C7s (hpg H2 c02) hsy hsl (hL.grow (k02.grow hw)) hlt (by omega) hk2.wf;rw[hLQ']at hvs;have k03:=k02.trans hk3;have hlv:∀H',A3a Tryz.prog .len [148] [r3] H'=some (.int .i64 (sigma.length:Int),H'):=fun H'=>by
   rw[(hvs H3 fun _ _ _=>rfl).1.len Tryz.underlying148,List.length_map,hvl]
  simp only[↓Sh.dn,sx,reduceCtorEq,Nat.reduceEqDiff,h00,cG];refine⟨_,_,hd3,?_⟩;simp only[sx,hlv];have hZ:∀y,(y=bO∨oo=some y∨wb=some y)→y<bl:=fun y hy=>by
   rcases hy with hy|hy|hy
   ·omega
   ·obtain⟨vz,hz1,_⟩:=hO.ex
    rw[←hbl];exact hz1.lt hw y hy
   ·rw[←hbl];exact hst.lt hw y hy
  have hZX:∀y,(y=bO∨oo=some y∨wb=some y)→(y=bO∨base≤y):=fun y hy=>by
   rcases hy with hy|hy|hy
   ·exact .inl hy
   ·exact .inr (hO.ob y hy).1
   ·exact .inr (hwb y hy)
  have hn3:=hk3.next;have hn2':=hk2.next;have hst3:=hst.chg hw (k03.chg (X:=none')) fun _ _ h=>h;have ho0:out.take mx=out:=List.take_of_length_le hol;refine A0d sigma.length 34 (List.range' 34 24++[11,12]) (fun k F H'=>Chg (fun y=>y=bO∨oo=some y∨wb=some y) H3 H'∧∃zo' oo',OutAt H' base bO zo' oo' wb ((out++((List.range k).flatMap fun k=>(A6i sigma.length E ends (A7z E Q k) m).map (fun u=>w++k :: u))).take mx)∧(∀y,oo'=some y→oo=some y∨H3.next≤y)∧∀y,wb=some y→StkKept H3 H' y w.length) (by simp only[sx])
   ⟨Chg.refl hk3.wf,zo,oo,by simpa [ho0] using hO2.kept hk2.wf hk3,fun y hy=>.inl hy,fun y hy=>StkKept.same rfl⟩ ?_ ?_
  ·rintro k F H' hi hF f34 ⟨hc,zo',oo',hO',hof,hsk⟩ kk
   have f1:=hF 1 rfl;have f4:=hF 4 rfl;have f5:=hF 5 rfl;have f7:=hF 7 rfl;have f10:=hF 10 rfl;have f32:=hF 32 rfl;have f33:=hF 33 rfl;simp only[sx,Nat.reduceEqDiff]at f1 f4 f5 f7 f10 f32 f33;have ch:Chg (fun y=>y=bO∨base≤y) H0 H':=(hcx k03).then hc fun y hy _=>hZX y hy;have cO':=hO'.cell.cell 0;have cM':=hcM H' ch;have cW':=hcW H' ch;have hlO':=C84 hO';have hblZ:¬(bl=bO∨oo=some bl∨wb=some bl):=fun h=>Nat.lt_irrefl _ (hZ bl h);have ob':Arr H' bl 0 1 [.int .i64 ((m+1:Nat):Int)]:=((o1.keep (hk2.old bl hx1)).keep (hk3.old bl (by omega))).keep (hc.old bl (by omega) hblZ);have cL':=ob'.cell 0;have hagree:∀{H'':AH},Chg (fun y=>wb=some y) H' H''→∀y,H2.next≤y→y<H3.next→H''.objs.get y=H3.objs.get y:=fun{H''} hc' y h1 h2=>by
    have hny:¬(y=bO∨oo=some y∨wb=some y):=fun h=>by have:=hZ y h;omega
    rw[hc'.old y (by have:=hc.next;omega) fun h=>hny (.inr (.inr h)),hc.old y h2 hny]
   obtain⟨hsl1,hset1⟩:=hvs H' (hagree (Chg.refl hc.wf));obtain⟨v,hv⟩:∃v,vs[k]?=some v:=⟨vs[k]'(by rw[hvl];exact hi),List.getElem?_eq_getElem _⟩
   obtain⟨pk,ik,ck⟩:=Sl.elem (s:=1) Tryz.underlying148 B3e hsl1 (i:=k) (u:=v) (by rw[List.getElem?_map,hv];rfl);obtain⟨L',hL',hnd',hlt',hLQ2⟩:=hset1 k v hv;have hlL':=fun H''=>hL'.len Tryz.underlying146 H'';simp only[List.length_map]at hlL';have hst':Stk H' wv w wb:=hst3.keep hsk;have hrange:((List.range (k+1)).flatMap fun k=>(A6i sigma.length E ends (A7z E Q k) m).map (fun u=>w++k :: u))=((List.range k).flatMap fun k=>(A6i sigma.length E ends (A7z E Q k) m).map (fun u=>w++k :: u))++(A6i sigma.length E ends (A7z E Q k) m).map (fun u=>w++k :: u):=by
    rw[List.range_succ,List.flatMap_append];simp
   rw[hrange]at kk;generalize hfm:((List.range k).flatMap fun k=>(A6i sigma.length E ends (A7z E Q k) m).map (fun u=>w++k :: u))=FM at hO' hlO' kk;have hltk:(out++FM).take mx=((out++FM).take mx).take mx:=by rw[List.take_take,Nat.min_self]
   have wi:IntKind.wrap .i64 ((k:Int)+1)=((k+1:Nat):Int):=A1a hi (by omega);have hol':((out++FM).take mx).length≤mx:=by rw[List.length_take];omega
   have same:((A6i sigma.length E ends (A7z E Q k) m)=[]∨mx≤((out++FM).take mx).length)→(out++(FM++(A6i sigma.length E ends (A7z E Q k) m).map (fun u=>w++k :: u))).take mx=(out++FM).take mx:=fun hh=>by
    rw[←List.append_assoc,←B4w];rcases hh with h1|h1
    ·rw[h1,List.map_nil,List.append_nil,List.take_take,Nat.min_self]
    ·rw[List.take_append_of_le_length h1,List.take_take,Nat.min_self]
   simp only[↓Sh.dn,sx,Nat.reduceEqDiff,f34,f32,f33,A2a,hi,decide_true,ik,ck,hlL'];by_cases hle:L'=[]
   ·have hz:decide ((0:Int)<((L'.length:Nat):Int))=false:=by rw[hle];rfl
    simp only[↓Sh.dn,sx,Nat.reduceEqDiff,hz,f34,wi];refine kk _ _ (by repeat (first|refine Same.put ?_ rfl|exact Same.rfl' _)) (by simp only[sx]) ⟨hc,zo',oo',?_,hof,hsk⟩;rw[same (.inl (B4h fun s hs _=>by have:=(hLQ2 s).2 hs;rw[hle]at this;cases this))];exact hO'
   ·have hz : decide ((0 : Int) < ((L'.length : Nat) : Int)) = true := by
      have := List.length_pos_iff.2 hle;simp;omega
    simp only[↓Sh.dn, sx, Nat.reduceEqDiff, hz, f4, f5, cO', cM', hlO', A2a];by_cases hful : ((out ++ FM).take mx).length<mx
    · obtain⟨a, cap, wv', H4, wb', hwe, p1, p2, p3, p4, p5⟩ := hst'.push hc.wf k
      subst hwe;have hbs := A3o (H := H') (x := .int .i64 (k : Int)) rfl rfl;have ha := B5u (H := H') (base := a) (len := w.length) (cap := cap) (x := [.int .i64 (k : Int)]) rfl (by omega);rw[p1]at ha;have hwb2 : ∀y, wb = some y → wb' = some y := fun y hy => by
        rcases p4 with h1|⟨h1, _⟩
        · rw[h1];exact hy
        · rw[h1]at hy;cases hy
      have hwb3 : ∀y, wb' = some y → wb = some y ∨ H'.next ≤ y := fun y hy => by
        rcases p4 with h1|⟨_, h1⟩
        · rw[h1]at hy;exact .inl hy
        · exact .inr (h1 y hy)
      have hcn := hc.next;have hkn := k03.next;have hwb' : ∀y, wb' = some y → base ≤ y := fun y hy => by
        rcases hwb3 y hy with h1|h1
        · exact hwb y h1
        · omega
      have ch4 : Chg (fun y => y = bO ∨ base ≤ y) H0 H4 := ch.trans (p3.weak fun y hy => .inr (hwb y hy));have hO4 := (hO'.hand hc.wf hwb3).chg hc.wf p3 hwb2 hwb';have hpn := p3.next;obtain⟨r5, H5, hd5, hc5, zo5, oo5, hO5, hof5, hsk5⟩ := ih m (Nat.lt_succ_self m) H4 (A7z E Q k) v wv' (w ++ [k]) wb' ((out ++ FM).take mx) zo' oo' ch4 (by omega) ((hvs H4 (hagree p3)).2 k v hv) B01 p2 hwb' hO4 hol' (by rw[List.length_append, List.length_singleton];omega);have cW4 := hcW H4 ch4;have cL4 : H4.cell ⟨bl, 0, some 0⟩ = some (.int .i64 ((m + 1 : Nat) : Int)) := (ob'.keep (p3.old bl (by omega) fun h => hblZ (.inr (.inr h)))).cell 0;have cLn : (H'.new 1 [.int .i64 (k : Int)]).2.cell ⟨bl, 0, some 0⟩ = some (.int .i64 ((m + 1 : Nat) : Int)) := (ob'.keep (C98 (by omega))).cell 0;have cWn := hcW _ (ch.trans (Kept.new hc.wf 1 [.int .i64 (k : Int)]).chg);have wl : IntKind.wrap .i64 (((m + 1 : Nat) : Int)-1) = (m : Int) := by rw[wrap64 (by omega) (by omega)];omega
      have hvf : veq (.func (.func 102) #[] #[.pointer (some ⟨bA, 0, some 0⟩), .pointer (some ⟨bO, 0, some 0⟩), .pointer (some ⟨bM, 0, some 0⟩), .pointer (some ⟨bG, 0, some 0⟩), .pointer (some ⟨bW, 0, some 0⟩)]) (.func (.func 102) #[] #[.pointer (some ⟨bA, 0, some 0⟩), .pointer (some ⟨bO, 0, some 0⟩), .pointer (some ⟨bM, 0, some 0⟩), .pointer (some ⟨bG, 0, some 0⟩), .pointer (some ⟨bW, 0, some 0⟩)]) = true := by
        simp[veq, veqs, A24]
      simp only[↓Sh.dn, sx, hful, decide_true];refine A8n (fl := [(0, []), (1, []), (2, []), (3, []), (4, []), (6, []), (7, []), (5, [6, 0]), (8, [])]) (by kernel_rfl) (by kernel_rfl) (by kernel_rfl) ?_;simp only[↓Sh.dn, sx, Nat.reduceEqDiff, wpr, again, A2d, A3h, forall_eq', f1, f7, f10, cW', hbs, A6a, cLn, ha, cW4, cL4, hvf, A3h, wl];refine⟨_, _, by first|exact hd5|simpa using hd5, ?_⟩;simp only[sx, f34, wi];refine kk _ _ (by repeat (first|refine Same.put ?_ rfl|exact Same.rfl' _)) (by simp only[sx]) ⟨(hc.trans (p3.weak fun y hy => .inr (.inr hy))).then hc5 fun y hy hlt3 => ?_, zo5, oo5, ?_, fun y hy => ?_, fun y hy => ?_⟩
      · rcases hy with h1|h1|h1
        · exact .inl h1
        · rcases hof y h1 with h2|h2
          · exact .inr (.inl h2)
          · omega
        · rcases hwb3 y h1 with h2|h2
          · exact .inr (.inr h2)
          · omega
      · have he : (out ++ (FM ++ (A6i sigma.length E ends (A7z E Q k) m).map (fun u => w ++ k :: u))).take mx = ((out ++ FM).take mx ++ (A6i sigma.length E ends (A7z E Q k) m).map (w ++ [k] ++ ·)).take mx := by
          rw[←List.append_assoc, ←B4w]
          congr 3
          funext u
          simp
        rw[he];exact hO5.hand hc5.wf fun y hy => .inl (hwb2 y hy)
      · rcases hof5 y hy with h1|h1
        · exact hof y h1
        · exact .inr (by omega)
      · exact((hsk y hy).trans (p5 y hy) (Nat.le_refl _)).trans (hsk5 y (hwb2 y hy)) (by rw[List.length_append];exact Nat.le_add_right _ _)
    · simp only[↓Sh.dn, sx, Nat.reduceEqDiff, hful, decide_false, f34, wi]
      refine kk _ _ (by repeat (first|refine Same.put ?_ rfl|exact Same.rfl' _)) (by simp only[sx]) ⟨hc, zo', oo', ?_, hof, hsk⟩;rw[same (.inr (by omega))];exact hO'
  ·rintro F H' hF f34 ⟨hc,zo',oo',hO',hof,hsk⟩
   have f33:=hF 33 rfl;simp only[sx,Nat.reduceEqDiff]at f33;simp only[↓Sh.dn,sx,f33,f34,A2a,Nat.lt_irrefl,decide_false,hres];have he:(A6i sigma.length E ends Q (m+1)).map (w++·)=(List.range sigma.length).flatMap fun k=>(A6i sigma.length E ends (A7z E Q k) m).map (fun u=>w++k :: u):=by
    rw[B98,List.map_flatMap]
    congr 1
    funext k
    rw[List.map_map];rfl
   rw[he];refine⟨k03.chg.trans hc,zo',oo',hO',fun y hy=>?_,fun y hy=>?_⟩
   ·rcases hof y hy with h1|h1
    ·exact .inl h1
    ·exact .inr (by omega)
   ·exact(StkKept.same (L:=w.length) (k03.old y (hst.lt hw y hy))).trans (hsk y hy) (Nat.le_refl _)
def C4k(H:AH)(v:Value)(l:List (List Nat)):Prop:=∃(oo:Option Nat) (vals:List Value),Buf H 1 v (vals.map fun x=>[x]) oo∧vals.length=l.length∧∀(j:Nat) x u,vals[j]?=some x→l[j]?=some u→Sl H x 1 (u.map natC)
noncomputable def A8k(sg:Nat)(E:List (List (Nat×Int×Int×Int)))(ends:List Int)(k:Nat):List (List Nat):=(List.range k).flatMap fun m=>A6i sg E ends (Clo (A1e E fun k=>k<0) fun s=>s=0) m
theorem C9a(sg:Nat)(E:List (List (Nat×Int×Int×Int)))(ends:List Int){i n:Nat}(h:i≤n):∃t,A8k sg E ends n=A8k sg E ends i++t:=by
 induction n with
 | zero=>exact⟨[],by rw[show i=0 by omega];simp⟩
 | succ n ih=>
  by_cases hin:i=n+1
  ·exact⟨[],by rw[hin];simp⟩
  obtain⟨t,ht⟩:=ih (by omega);refine⟨t++A6i sg E ends (Clo (A1e E fun k=>k<0) fun s=>s=0) n,?_⟩;unfold A8k at ht ⊢;rw[List.range_succ,List.flatMap_append,ht];simp
theorem C65{t:Nat}{H:AH}{z x:Value}(hs:A5b Tryz.prog t=some 1)(hz:isCell z=true)(hx:isCell x=true):
  anew Tryz.prog t H z=some (.pointer (some ⟨H.next,0,some 0⟩),(H.new 1 [z]).2)∧A7d Tryz.prog t (H.new 1 [z]).2 x (.pointer (some ⟨H.next,0,some 0⟩))=some (H.new 1 [x]).2:=
 ⟨A4x hs hz,by rw[A9b hs hx];exact A3l rfl⟩
theorem C5r{H:AH}{g n mx long:Nat}{E:List (List (Nat×Int×Int×Int))}{ends:List Int}{sv av ev cv:Value}{vals:List Value}{sigma:List ByteArray}{costs:List Int}(h:PG H g n 60000 E ends sv av ev cv vals sigma costs)(hsy:∀(s:Nat) r,E[s]?=some r→∀e∈r,e.2.1<(sigma.length:Int))(hsl:sigma.length≤1000)(hmx:mx≤1000)(hlong:long≤900)(hw:Wf H):
  Sh.Call Tryz.prog (knows 7) 82 [.pointer (some ⟨g,0,some 0⟩),.int .i64 (mx:Int),.int .i64 (long:Int)] H (fun r H'=>Kept H H'∧C4k H' r ((A8k sigma.length E ends (long+1)).take mx)):=by
 refine A5a rfl Tryz.func82 rfl (Nat.le_of_ble_eq_true rfl) ?_;have hres:Tryz.f82.results.toList=[.tmp 6]:=rfl;obtain⟨n1,_⟩:=C65 (H:=H) (x:=.pointer none) B9x (z:=.pointer (some ⟨g,0,some 0⟩)) rfl rfl;have k1:=Kept.new hw 1 [.pointer (some ⟨g,0,some 0⟩)];have oG:=(Sh.Obj.new (H:=H) 1 [.pointer (some ⟨g,0,some 0⟩)]).arr;have x1:H.next<(H.new 1 [.pointer (some ⟨g,0,some 0⟩)]).2.next:=Nat.lt_succ_self _;simp only[↓Sh.dn,sx,Nat.reduceEqDiff,n1];generalize hbG:H.next=bG at oG x1 ⊢;generalize (H.new 1 [.pointer (some ⟨g,0,some 0⟩)]).2=H1 at k1 oG x1 ⊢;obtain⟨n2,_⟩:=C65 (H:=H1) (x:=.int .i64 0) A1c (z:=.int .i64 (mx:Int)) rfl rfl;have k2:=Kept.new k1.wf 1 [.int .i64 (mx:Int)];have oM:=(Sh.Obj.new (H:=H1) 1 [.int .i64 (mx:Int)]).arr;have x2:H1.next<(H1.new 1 [.int .i64 (mx:Int)]).2.next:=Nat.lt_succ_self _;simp only[sx,n2];generalize hbM:H1.next=bM at oM x2 x1 ⊢;generalize (H1.new 1 [.int .i64 (mx:Int)]).2=H2 at k2 oM x2 ⊢;obtain⟨n3,_⟩:=C65 (H:=H2) (x:=.slice none 0 0) C5h (z:=.slice none 0 0) rfl rfl;have k3:=Kept.new k2.wf 1 [.slice none 0 0];have oO:=(Sh.Obj.new (H:=H2) 1 [.slice none 0 0]).arr;have x3:H2.next<(H2.new 1 [.slice none 0 0]).2.next:=Nat.lt_succ_self _;have cG3:(H2.new 1 [.slice none 0 0]).2.cell ⟨bG,0,some 0⟩=some (.pointer (some ⟨g,0,some 0⟩)):=((oG.keep (k2.old bG (by omega))).keep (k3.old bG (by omega))).cell 0;simp only[sx,n3,cG3];generalize hbO:H2.next=bO at oO x3 x2 ⊢;generalize (H2.new 1 [.slice none 0 0]).2=H3 at k3 oO x3 cG3 ⊢;have hk3:=(k1.trans k2).trans k3;obtain⟨r4,H4,hd4,hk4,ob,hA⟩:=B7s (h.kept hw hk3) (by omega) (most:=long) (by omega) hk3.wf;refine⟨_,_,hd4,?_⟩;have hAc:isCell r4=true:=by
  obtain⟨_,_,hb,_⟩:=hA;exact hb.isCell
 obtain⟨n5,s5⟩:=C65 (H:=H4) (x:=r4) (z:=.slice none 0 0) C38 rfl hAc;have k5:=Kept.new hk4.wf 1 [r4];have oA:=(Sh.Obj.new (H:=H4) 1 [r4]).arr;have x5:H4.next<(H4.new 1 [r4]).2.next:=Nat.lt_succ_self _;simp only[sx,n5,s5];have x4:=hk4.next;generalize hbA:H4.next=bA at oA x5 x4 ⊢;generalize (H4.new 1 [r4]).2=H5 at k5 oA x5 ⊢;obtain⟨n6,s6⟩:=C65 (H:=H5) (x:=.func (.func 102) #[] #[.pointer (some ⟨bA,0,some 0⟩),.pointer (some ⟨bO,0,some 0⟩),.pointer (some ⟨bM,0,some 0⟩),.pointer (some ⟨bG,0,some 0⟩),.pointer (some ⟨H5.next,0,some 0⟩)]) (z:=.nilFunc) size_145 rfl rfl;have k6:=Kept.new k5.wf 1 [.func (.func 102) #[] #[.pointer (some ⟨bA,0,some 0⟩),.pointer (some ⟨bO,0,some 0⟩),.pointer (some ⟨bM,0,some 0⟩),.pointer (some ⟨bG,0,some 0⟩),.pointer (some ⟨H5.next,0,some 0⟩)]];have oW:=(Sh.Obj.new (H:=H5) 1 [.func (.func 102) #[] #[.pointer (some ⟨bA,0,some 0⟩),.pointer (some ⟨bO,0,some 0⟩),.pointer (some ⟨bM,0,some 0⟩),.pointer (some ⟨bG,0,some 0⟩),.pointer (some ⟨H5.next,0,some 0⟩)]]).arr;have x6:H5.next<(H5.new 1 [.func (.func 102) #[] #[.pointer (some ⟨bA,0,some 0⟩),.pointer (some ⟨bO,0,some 0⟩),.pointer (some ⟨bM,0,some 0⟩),.pointer (some ⟨bG,0,some 0⟩),.pointer (some ⟨H5.next,0,some 0⟩)]]).2.next:=Nat.lt_succ_self _;have hk36:=(hk4.trans k5).trans k6;have cG6:=((oG.keep (k2.old bG (by omega))).keep (k3.old bG (by omega))).keep (hk36.old bG (by omega));have cG6':=cG6.cell 0;simp only[List.getElem?_cons_zero]at cG6';simp only[sx,n6,s6,cG6'];generalize hbW:H5.next=bW at k6 oW x6 x5 hk36 cG6 ⊢;generalize (H5.new 1 [.func (.func 102) #[] #[.pointer (some ⟨bA,0,some 0⟩),.pointer (some ⟨bO,0,some 0⟩),.pointer (some ⟨bM,0,some 0⟩),.pointer (some ⟨bG,0,some 0⟩),.pointer (some ⟨bW,0,some 0⟩)]]).2=H6 at k6 oW x6 hk36 cG6 ⊢;have hk6:=hk3.trans hk36;obtain⟨r7,H0,hd7,hk7,out0,b0,hb0,hf0,hnd0,hlt0,hi0⟩:=C9t (h.kept hw hk6) hk6.wf;have hk0:=hk6.trans hk7;have x7:=hk7.next;refine⟨_,_,hd7,?_⟩;have hk37:=hk36.trans hk7;have hold:∀{H':AH} {y:Nat},Chg (fun y=>y=bO∨H0.next≤y) H0 H'→y<H0.next→y≠bO→H'.objs.get y=H0.objs.get y:=fun hc hy hne=>hc.old _ hy (by rintro(h1|h1)<;>omega);have hO0:OutAt H0 H0.next bO (.slice none 0 0) none none []:=⟨oO.keep (hk37.old bO (by omega)),⟨[],.void none,rfl,fun j v u hj=>by simp at hj⟩,(fun y hy=>by cases hy),by omega⟩
 have oG0:=cG6.keep (hk7.old bG (by omega));have oM0:=((oM.keep (k3.old bM (by omega))).keep (hk36.old bM (by omega))).keep (hk7.old bM (by omega));have oA0:=(oA.keep (k6.old bA (by omega))).keep (hk7.old bA (by omega));have oW0:=oW.keep (hk7.old bW (by omega));have hA0:=hA.kept hk4.wf ((k5.trans k6).trans hk7);have hwalk:=C59 (H0:=H0) (base:=H0.next) (bA:=bA) (bO:=bO) (bM:=bM) (bG:=bG) (bW:=bW) (mx:=mx) (long:=long) (za:=r4)
  (fun H' hc=>h.kept hw (hk0.then (Nat.le_refl _) (hc.weak fun y hy=>by rcases hy with h1|h1<;>omega)))
  (fun H' hc=>(oA0.keep (hold hc (by omega) (by omega))).cell 0)
  (fun H' hc j hj=>(hA0.keepR hk0.wf fun y h1 h2=>hold hc h2 (by omega)).at (by omega))
  (fun H' hc=>(oM0.keep (hold hc (by omega) (by omega))).cell 0)
  (fun H' hc=>(oG0.keep (hold hc (by omega) (by omega))).cell 0)
  (fun H' hc=>(oW0.keep (hold hc (by omega) (by omega))).cell 0)
  hsy hsl hmx (by omega)
 have hQ0:(fun t=>t∈out0)=Clo (A1e E fun k=>k<0) fun s=>s=0:=funext fun t=>propext (hi0 t);have hS0:∀{H':AH},Chg (fun y=>y=bO∨H0.next≤y) H0 H'→SetAt H' r7 n (Clo (A1e E fun k=>k<0) fun s=>s=0):=fun{H'} hc=>
  ⟨out0,(hb0.keep fun y hy=>hold hc (hb0.lt hk7.wf y hy) (by have:=hf0 y hy;omega)).toSl,hnd0,hlt0,hi0⟩
 have fin:∀{H':AH} {zo:Value} {oo:Option Nat} {i:Nat},i≤long+1→OutAt H' H0.next bO zo oo none ((A8k sigma.length E ends i).take mx)→(i=long+1∨mx≤((A8k sigma.length E ends i).take mx).length)→C4k H' zo ((A8k sigma.length E ends (long+1)).take mx):=fun{H' zo oo i} hi hO hh=>by
  have he:(A8k sigma.length E ends (long+1)).take mx=(A8k sigma.length E ends i).take mx:=by
   rcases hh with h1|h1
   ·rw[h1]
   ·obtain⟨t,ht⟩:=C9a sigma.length E ends hi
    rw[ht,List.take_append_of_le_length];rw[List.length_take]at h1;omega
  rw[he];obtain⟨vs,h1,h2,h3⟩:=hO.ex;exact⟨oo,vs,h1,h2,fun j v u hv hu=>by
   obtain⟨o,h4,_⟩:=h3 j v u hv hu;exact h4.toSl⟩
 have fz:A8k sigma.length E ends 0=[]:=rfl;refine A0d (long+1) 11 (List.range' 11 22) (fun i F H'=>Chg (fun y=>y=bO∨H0.next≤y) H0 H'∧∃zo oo,OutAt H' H0.next bO zo oo none ((A8k sigma.length E ends i).take mx)) (by simp only[sx]) ⟨Chg.refl hk0.wf,_,none,by rw[fz];simpa using hO0⟩ ?_ ?_
 ·rintro i F H' hi hF f11 ⟨hc,zo,oo,hO⟩ k
  have f2:=hF 2 rfl;have f4:=hF 4 rfl;have f7:=hF 7 rfl;have f9:=hF 9 rfl;have f10:=hF 10 rfl;simp only[sx,Nat.reduceEqDiff]at f2 f4 f7 f9 f10;have cO:=hO.cell.cell 0;simp only[List.getElem?_cons_zero]at cO;have cM:=(oM0.keep (hold hc (by omega) (by omega))).cell 0;have cW:=(oW0.keep (hold hc (by omega) (by omega))).cell 0;simp only[List.getElem?_cons_zero]at cM cW;have hlO:=C84 hO;have hil:i≤long:=by omega
  simp only[↓Sh.dn,sx,Nat.reduceEqDiff,f2,f11,A3t,hil,decide_true,f4,f7,cO,cM,hlO,A2a];by_cases hfull:((A8k sigma.length E ends i).take mx).length<mx
  ·obtain⟨r8,H8,hd8,hc8,zo8,oo8,hO8,hof8,_⟩:=hwalk i H' (Clo (A1e E fun k=>k<0) fun s=>s=0) r7 (.slice none 0 0) [] none _ zo oo hc hc.next (hS0 hc) (fun a b h1 h2=>.step h1 h2) (.void none) (fun y hy=>by cases hy) hO (by rw[List.length_take];omega) (by simp;omega)
   simp only[↓Sh.dn,sx,Nat.reduceEqDiff,hfull,decide_true,f9,f10,f11,cW];refine⟨_,_,by first|exact hd8|simpa using hd8,?_⟩;simp only[A1a hi (by omega)];refine k _ _ (by repeat (first|refine Same.put ?_ rfl|exact Same.rfl' _)) (by simp only[sx]) ⟨hc.trans (hc8.weak fun y hy=>?_),zo8,oo8,?_⟩
   ·rcases hy with h1|h1|h1
    ·exact .inl h1
    ·exact .inr (hO.ob y h1).1
    ·cases h1
   ·have he : (A8k sigma.length E ends (i + 1)).take mx = ((A8k sigma.length E ends i).take mx ++ (A6i sigma.length E ends (Clo (A1e E fun k => k < 0) fun s => s = 0) i).map ([] ++ ·)).take mx := by
      rw[B4w];unfold A8k;rw[List.range_succ, List.flatMap_append];simp
    rw[he];exact hO8
  ·simp only[↓Sh.dn,sx,Nat.reduceEqDiff,hfull,decide_false,f7,cO,hres]
   exact⟨hk0.then (Nat.le_refl _) (hc.weak fun y hy=>by rcases hy with h1|h1<;>omega),fin (by omega) hO (.inr (by omega))⟩
 ·rintro F H' hF f11 ⟨hc,zo,oo,hO⟩
  have f2:=hF 2 rfl;have f7:=hF 7 rfl;simp only[sx,Nat.reduceEqDiff]at f2 f7;have cO:=hO.cell.cell 0;simp only[List.getElem?_cons_zero]at cO;have hno:¬(long+1≤long):=by omega
  simp only[↓Sh.dn,sx,Nat.reduceEqDiff,f2,f7,f11,A3t,hno,decide_false,cO,hres];exact⟨hk0.then (Nat.le_refl _) (hc.weak fun y hy=>by rcases hy with h1|h1<;>omega),fin (Nat.le_refl _) hO (.inl rfl)⟩
theorem B88{H:AH}{g n most:Nat}{E:List (List (Nat×Int×Int×Int))}{ends:List Int}{sv av ev cv:Value}{vals:List Value}{sigma:List ByteArray}{costs:List Int}(h:PG H g n 60000 E ends sv av ev cv vals sigma costs)(hsg:sigma.length≤1048576)(hm:most≤1000)(hw:Wf H):
  Sh.Call Tryz.prog (knows 7) 83 [.pointer (some ⟨g,0,some 0⟩),.int .i64 (most:Int)] H (fun r H'=>Kept H H'∧r=.bool (tB (∃j,most<j∧exP E ends j 0))):=by
 refine A5a rfl Tryz.func83 rfl (Nat.le_of_ble_eq_true rfl) ?_;have hres:Tryz.f83.results.toList=[.tmp 4]:=rfl;have hn1:=h.n1;have hn2:=h.n2;have hc1:=h.gr.arr.cell 1;have hlenA:∀H',A3a Tryz.prog .len [101] [av] H'=some (.int .i64 (n:Int),H'):=fun H'=>by
  rw[h.gr.jag.sl.len Tryz.underlying101,List.length_map,h.gr.jag.len];unfold A8b;rw[List.length_map,h.le]
 obtain⟨r1,H1,hd1,hk1,g1,rfl,R,base,hbase,hG,hRl,hRr,hRg⟩:=B3h h hsg hw;obtain⟨sv',av',ev',cv',vals',hR⟩:=hG.read;have hPG:PG H1 g1 n 6000000000 R (List.replicate n 0) sv' av' ev' cv' vals' sigma (List.replicate n 0):=⟨hR,hRl,by simp,h.n1,h.n2,fun s r hr=>hRr r (List.mem_of_getElem? hr)⟩
 obtain⟨nw,st⟩:=C9y (H:=H1) (g:=g1);have kn:=Kept.new hk1.wf 1 [.pointer (some ⟨g1,0,some 0⟩)];have obx:=(Sh.Obj.new (H:=H1) 1 [.pointer (some ⟨g1,0,some 0⟩)]).arr;have hbx:(H1.new 1 [.pointer (some ⟨g1,0,some 0⟩)]).2.cell ⟨H1.next,0,some 0⟩=some (.pointer (some ⟨g1,0,some 0⟩)):=obx.cell 0;have hP2:=hPG.kept hk1.wf kn;have hk2:=hk1.trans kn;simp only[↓Sh.dn,sx,reduceCtorEq,Nat.reduceEqDiff];refine⟨_,_,hd1,?_⟩;simp only[sx,nw,st];generalize hbxe:H1.next=bx at hbx ⊢;generalize (H1.new 1 [.pointer (some ⟨g1,0,some 0⟩)]).2=H2 at hP2 hk2 hbx ⊢;have hsp:=B66 hP2 hbx hk2.wf;obtain⟨r3,H3,hd3,hk3,ob,hA⟩:=B7s (h.kept hw hk2) hsg hm hk2.wf;have hk03:=hk2.trans hk3;have hlA:=hA.len;obtain⟨p,v,i1,i2,X,hX,hXl,hXi⟩:=hA.at (j:=most) (Nat.lt_succ_self _);have wl:IntKind.wrap .i64 (((most+1:Nat):Int)-1)=(most:Int):=by rw[wrap64 (by omega) (by omega)];omega
 have q1:=A2b (hk03.grow hw) hc1;have wn:IntKind.wrap .i64 ((n:Int)+1)=((n+1:Nat):Int):=by rw[wrap64 (by omega) (by omega)];omega
 refine⟨_,_,hd3,?_⟩;simp only[sx,hlA,wl,i1,i2,q1,hlenA,wn];refine A0d (n+1) 27 (List.range' 27 10++[8]) (fun i F H'=>Kept H2 H'∧∃v,F.get 8=some v∧∃B:List Bool,Sl H' v 1 (B.map A0z)∧B.length=n∧(∀t:Nat,B[t]?=some true↔exP E ends (most+i) t)∧∀j,most<j→j≤most+i→¬exP E ends j 0) (by simp only[sx]) ⟨hk3,v,by simp only[sx,Nat.reduceEqDiff],X,hX,hXl,hXi,fun j h1 h2=>by omega⟩ ?_ ?_
 ·rintro i F H' hi hF f27 ⟨hk,v,f8,B,hB,hBl,hBi,hno⟩ k
  have f5:=hF 5 rfl;have f6:=hF 6 rfl;have f26:=hF 26 rfl;simp only[sx,Nat.reduceEqDiff]at f5 f6 f26;have cb:=A2b (hk.grow hk2.wf) hbx;obtain⟨r6,H6,hd6,hk6,B6,o6,hB6,hB6o,hB6l,hB6i⟩:=B94 (caps:=[.pointer (some ⟨bx,0,some 0⟩)]) (fid:=109) (hP2.kept hk2.wf hk) hB hBl hk.wf (fun H'' hk''=>hsp H'' (hk.trans hk''));have hQ:∀t:Nat,B6[t]?=some true↔exP E ends (most+(i+1)) t:=fun t=>by rw[hB6i,C0i hRg hBi];rfl
  obtain⟨b,hb⟩:∃b,B6[0]?=some b:=⟨B6[0]'(by rw[hB6l];exact hn1),List.getElem?_eq_getElem _⟩
  obtain⟨q,e1,e2⟩:=Sl.elem (s:=1) Tryz.underlying58 A5r hB6.toSl (i:=0) (u:=.bool b) (by rw[List.getElem?_map,hb];rfl);have e1':A4b Tryz.prog 58 r6 (.int .i64 0)=some (.pointer (some q)):=e1;have hlt:decide ((i:Int)<((n+1:Nat):Int))=true:=by simp;omega
  simp only[↓Sh.dn,sx,Nat.reduceEqDiff,f27,f26,hlt,f5,cb,f6,f8];refine⟨_,_,by first|exact hd6|simpa using hd6,?_⟩;simp only[sx,e1',e2];cases b with
  | true=>
   have:tB (∃j,most<j∧exP E ends j 0)=true:=A4u.2 ⟨most+(i+1),by omega,(hQ 0).1 hb⟩;simp only[↓Sh.dn,sx,hres,this];exact hk2.trans (hk.trans hk6)
  | false=>
   simp only[↓Sh.dn,sx,Nat.reduceEqDiff,f27,A1a hi (by omega)];refine k _ _ (by repeat (first|refine Same.put ?_ rfl|exact Same.rfl' _)) (by simp only[sx]) ⟨hk.trans hk6,r6,by simp only[sx,Nat.reduceEqDiff],B6,hB6.toSl,hB6l,hQ,fun j h1 h2 h3=>?_⟩;by_cases hj:j=most+(i+1)
   ·subst hj
    have:=(hQ 0).2 h3;rw[hb]at this;cases this
   ·exact hno j h1 (by omega) h3
 ·rintro F H' hF f27 ⟨hk,v,f8,B,hB,hBl,hBi,hno⟩
  have f26:=hF 26 rfl;simp only[sx,Nat.reduceEqDiff]at f26;have hlt:decide (((n+1:Nat):Int)<((n+1:Nat):Int))=false:=by simp
  have:tB (∃j,most<j∧exP E ends j 0)=false:=by
   cases hb:tB (∃j,most<j∧exP E ends j 0) with
   | false=>rfl
   | true=>
    obtain⟨m,h1,h2⟩:=A4u.1 hb;obtain⟨j,h3,h4,h5⟩:=B1z (n:=n) (fun s t hst=>by
     obtain⟨r,k1,e,k2,k3,_⟩:=hst;rw[←k3];exact(h.to s r k1).2 e k2) m h1 h2
    exact absurd h5 (hno j h3 (by omega))
  simp only[↓Sh.dn,sx,f26,f27,hlt,hres,this];exact hk2.trans hk
structure LS(H:AH)(base:Nat)(z:Value)(l:List ByteArray)(ob:Option Nat):Prop where
 bf:Buf H 1 z (l.map A6b) ob
 fr:∀y,ob=some y→base≤y
theorem LS.void(H:AH)(base:Nat):LS H base (.slice none 0 0) [] none:=⟨.void none,fun y hy=>by cases hy⟩
theorem LS.kept{H H':AH}{base:Nat}{z:Value}{l:List ByteArray}{ob:Option Nat}(h:LS H base z l ob)(hw:Wf H)(hk:Kept H H'):LS H' base z l ob:=⟨h.bf.kept hw hk,h.fr⟩
theorem pushStr{base:Nat}{H':AH}{z:Value}{ob:Option Nat}{l:List ByteArray}(x:ByteArray)(hb:base≤H'.next)(hw:Wf H')(hl:LS H' base z l ob)(hn:l.length≤17179869183):
  ∃ a cap w' H4 ob', z = .slice a l.length cap ∧ A4a Tryz.prog 22 1 [(0, .string x)] H' = some (.slice (some ⟨H'.next, 0, some 0⟩) 1 1, (H'.new 1 [.string x]).2) ∧
      A3a Tryz.prog .append [22, 22] [.slice a l.length cap, .slice (some ⟨H'.next, 0, some 0⟩) 1 1] (H'.new 1 [.string x]).2 = some (w', H4) ∧
      LS H4 base w' (l ++ [x]) ob' ∧ Chg (fun y => ob = some y) H' H4 := by
 obtain⟨a,cap,w',H4,ob',e1,e2,e3,e4,e5⟩:=hl.bf.push hw (x:=A6b x) rfl;rw[List.length_map]at e1 e2;have ha:=app1_22 (H:=H') (base:=a) (len:=l.length) (cap:=cap) (x:=A6b x) rfl hn;rw[e2]at ha;refine⟨a,cap,w',H4,ob',e1,C88 (H:=H') (x:=.string x) rfl rfl,ha,⟨by rw[List.map_append];exact e3,fun y hy=>?_⟩,e4⟩;rcases e5 y hy with h1|h1
 ·exact hl.fr y h1
 ·omega
theorem C2s{H:AH}{v u:Value}{sigma:List ByteArray}{w:List Nat}(hs:Sl H v 1 (sigma.map A6b))(hu:Sl H u 1 (w.map natC))(hwl:w.length≤1000)(hin:∀k∈w,k<sigma.length)(hw:Wf H):
  Sh.Call Tryz.prog (knows 7) 84 [v,u] H (fun r H'=>Kept H H'∧∃o,LS H' H.next r (w.map fun k=>sigma.getD k A4n) o):=by
 refine A5a rfl Tryz.func84 rfl (Nat.le_of_ble_eq_true rfl) ?_;have hres:Tryz.f84.results.toList=[.tmp 4]:=rfl;have hlen:=fun H'=>hu.len Tryz.underlying71 H';simp only[List.length_map]at hlen;have hmk:A4f Tryz.prog 22 (.int .i64 0) (.int .i64 (w.length:Int)) H=some (.slice (some ⟨H.next,0,some 0⟩) 0 w.length,(H.new 1 (List.replicate w.length (.string ⟨#[]⟩))).2):=mk_22 (H:=H) (l:=0) (c:=w.length) (Nat.zero_le _) (by omega);have k1:=Kept.new hw 1 (List.replicate w.length (.string ⟨#[]⟩));have f1:=Buf.room hw (.string ⟨#[]⟩) (c:=w.length) (by omega);simp only[↓Sh.dn,sx,Nat.reduceEqDiff,hlen,hmk];have l1:LS (H.new 1 (List.replicate w.length (.string ⟨#[]⟩))).2 H.next (.slice (some ⟨H.next,0,some 0⟩) 0 w.length) [] (if w.length=0 then none else some H.next):=⟨f1,fun y hy=>by
  split at hy
  ·cases hy
  ·exact Nat.le_of_eq (Option.some.inj hy)⟩
 refine A0d w.length 13 (List.range' 13 12++[5,7]) (fun i F H'=>Kept H H'∧∃z,F.get 5=some z∧∃o,LS H' H.next z ((w.take i).map fun k=>sigma.getD k A4n) o) (by simp only[sx]) ⟨k1,_,by simp only[sx,Nat.reduceEqDiff],_,l1⟩ ?_ ?_
 ·rintro i F H' hi hF f13 ⟨hk,z,f5,o,hl⟩ k
  have f0:=hF 0 rfl;have f11:=hF 11 rfl;have f12:=hF 12 rfl;simp only[sx,reduceCtorEq,Nat.reduceEqDiff]at f0 f11 f12;obtain⟨p,hia,hc⟩:=B2w Tryz.underlying71 A1c (hu.grow (hk.grow hw)) hi;have hks:=hin _ (List.getElem_mem hi);have htake:w.take (i+1)=w.take i++[w[i]]:=by rw[List.take_add_one,List.getElem?_eq_getElem hi];rfl
  generalize w[i]=x at hc htake hks;obtain⟨q,e1,e2⟩:=Sl.elem (s:=1) Tryz.underlying22 A6r (hs.grow (hk.grow hw)) (i:=x) (u:=.string (sigma.getD x A4n)) (by rw[List.getElem?_map,List.getElem?_eq_getElem hks];simp[A6b,List.getD,List.getElem?_eq_getElem hks]);obtain⟨a,cap,w',H4,o2,rfl,e3,e4,e5,e6⟩:=pushStr (sigma.getD x A4n) hk.next hk.wf hl (by rw[List.length_map,List.length_take];omega);simp only[↓Sh.dn,sx,reduceCtorEq,Nat.reduceEqDiff,f0,f5,f11,f12,f13,A2a,hi,decide_true,hia,hc,e1,e2,e3,e4,A1a hi (by omega)];refine k _ _ (by repeat (first|refine Same.put ?_ rfl|exact Same.rfl' _)) (by simp only[sx]) ⟨hk.then (Nat.le_refl _) (e6.weak fun y hy=>hl.fr y hy),w',by simp only[sx,Nat.reduceEqDiff],o2,by rw[htake,List.map_append];exact e5⟩
 ·rintro F H' hF f13 ⟨hk,z,f5,o,hl⟩
  have f12:=hF 12 rfl;simp only[sx,Nat.reduceEqDiff]at f12;rw[List.take_length]at hl;simp only[↓Sh.dn,sx,Nat.reduceEqDiff,f5,f12,f13,A2a,Nat.lt_irrefl,decide_false,hres];exact⟨hk,o,hl⟩
def textOf(sigma:List ByteArray)(u:List Nat):List ByteArray:=u.map fun k=>sigma.getD k A4n
def strRow(u:List ByteArray):List (List Value):=u.map A6b
theorem C6d{H:AH}{G:Nat→Prop}{z v:Value}{oo o:Option Nat}{out:List (List ByteArray)}{u:List ByteArray}(h:RowsB strRow H G z oo out)(hw:Wf H)(hb:∀y,H.next≤y→G y)(hv:Buf H 1 v (strRow u) o)(ho:∀y,o=some y→G y∧oo≠some y)(hol:out.length≤17179869183):
  ∃a cap w' H3 oo',z=.slice a out.length cap∧A4a Tryz.prog 30 1 [(0,v)] H=some (.slice (some ⟨H.next,0,some 0⟩) 1 1,(H.new 1 [v]).2)∧A3a Tryz.prog .append [30,30] [.slice a out.length cap,.slice (some ⟨H.next,0,some 0⟩) 1 1] (H.new 1 [v]).2=some (w',H3)∧RowsB strRow H3 G w' oo' (out++[u])∧Chg (fun y=>oo=some y) H H3∧∀y,oo'=some y→oo=some y∨H.next≤y:=by
 obtain⟨a,cap,w',H3,oo',e1,e2,e3,e4,e5⟩:=h.push hw hb hv ho;have hvc:=hv.isCell;have hbs:=B81 (H:=H) (x:=v) (by rw[A7a hvc];rfl) (by rw[A7a hvc];simp[hvc]);rw[A7a hvc]at hbs;have ha:=app1_30 (H:=H) (base:=a) (len:=out.length) (cap:=cap) (x:=[v]) rfl hol;rw[e2]at ha;exact⟨a,cap,w',H3,oo',e1,hbs,ha,e3,e4,e5⟩
noncomputable def A4g(all:List (List ByteArray))(more:Prop)(most:Nat):List (List ByteArray)×Bool×Int:=
 if most<all.length then (all.take most,true,0) else if tB more=true then (if all.length<most then ([],false,3) else (all,true,0)) else (all,false,0)
theorem C8u{H:AH}{g n most:Nat}{E:List (List (Nat×Int×Int×Int))}{ends:List Int}{sv av ev cv:Value}{vals:List Value}{sigma:List ByteArray}{costs:List Int}(h:PG H g n 60000 E ends sv av ev cv vals sigma costs)(hsy:∀(s:Nat) r,E[s]?=some r→∀e∈r,e.2.1<(sigma.length:Int))(hsl:sigma.length≤1000)(hm:most≤900)(h1m:1≤most)(hw:Wf H):
  Sh.Call Tryz.prog (knows 7) 42 [.pointer (some ⟨g,0,some 0⟩),.int .i64 (most:Int)] H (fun r H'=>Kept H H'∧∃lv,r=.tuple #[lv,.bool (A4g ((A8k sigma.length E ends 61).map (textOf sigma)) (∃j,60<j∧exP E ends j 0) most).2.1,.int .i64 (A4g ((A8k sigma.length E ends 61).map (textOf sigma)) (∃j,60<j∧exP E ends j 0) most).2.2]∧∃vs,JagR H' lv 1 ((A4g ((A8k sigma.length E ends 61).map (textOf sigma)) (∃j,60<j∧exP E ends j 0) most).1.map strRow) vs):=by
 refine A5a rfl Tryz.func42 rfl (Nat.le_of_ble_eq_true rfl) ?_;have hres:Tryz.f42.results.toList=[.tmp 4,.tmp 5,.tmp 6]:=rfl;have hn1:=h.n1;have hc0:=h.gr.arr.cell 0;have wm:IntKind.wrap .i64 ((most:Int)+1)=((most+1:Nat):Int):=by rw[wrap64 (by omega) (by omega)];omega
 obtain⟨r1,H1,hd1,hk1,oo1,vs1,hb1,hl1,hr1⟩:=C5r (mx:=most+1) (long:=60) h hsy hsl (by omega) (by omega) hw;generalize hFP:A8k sigma.length E ends (60+1)=FP at hl1 hr1;have hFP':A8k sigma.length E ends 61=FP:=hFP;have hin:∀u∈FP,∀k∈u,k<sigma.length:=fun u hu k hk=>by
  rw[←hFP']at hu;unfold A8k A6i at hu;obtain⟨m,_,hm2⟩:=List.mem_flatMap.1 hu;exact List.mem_range.1 ((B0x.1 hm2).1.2 k hk)
 have hln:∀u∈FP,u.length≤60:=fun u hu=>by
  rw[←hFP']at hu;unfold A8k A6i at hu;obtain⟨m,hm1,hm2⟩:=List.mem_flatMap.1 hu;have:=List.mem_range.1 hm1;rw[(B0x.1 hm2).1.1];omega
 have hlen1:∀H',A3a Tryz.prog .len [131] [r1] H'=some (.int .i64 ((min (most+1) FP.length:Nat):Int),H'):=fun H'=>by
  rw[hb1.toSl.len Tryz.underlying131,List.length_map,hl1,List.length_take]
 have hc0':=A2b (hk1.grow hw) hc0;simp only[↓Sh.dn,sx,reduceCtorEq,Nat.reduceEqDiff,wm];refine⟨_,_,hd1,?_⟩;simp only[sx,hlen1,A2a];refine wp_then (fun F' H'=>∃zl l b,F'.get 0=some (.pointer (some ⟨g,0,some 0⟩))∧F'.get 7=some zl∧F'.get 8=some (.bool b)∧Kept H H'∧C4k H' zl l∧(∀u∈l,u∈FP)∧l.length≤most∧A4g (FP.map (textOf sigma)) (∃j,60<j∧exP E ends j 0) most=(l.map (textOf sigma),b,0)) ?_ ?_
 ·rintro F' H' ⟨zl,l,b,f0,f7,f8,hk,⟨oo,vs,hb,hvl,hvr⟩,hsub,hlm,hout⟩
  have hlz:∀H',A3a Tryz.prog .len [131] [zl] H'=some (.int .i64 ((l.length:Nat):Int),H'):=fun H'=>by
   rw[hb.toSl.len Tryz.underlying131,List.length_map,hvl]
  rw[hout];simp only[↓Sh.dn,sx,Nat.reduceEqDiff,f7,hlz];refine A0d l.length 32 (List.range' 32 14++[9,11]) (fun i F H''=>Kept H' H''∧∃z,F.get 9=some z∧∃ob,RowsB strRow H'' (fun y=>H'.next≤y) z ob ((l.take i).map (textOf sigma))) (by simp only[sx]) ⟨Kept.refl hk.wf,_,by simp only[sx,Nat.reduceEqDiff],none,RowsB.void _ _⟩ ?_ ?_
  ·rintro i F H'' hi hF f32 ⟨hk2,z,f9,ob,hR⟩ k
   have g0:=hF 0 rfl;have g30:=hF 30 rfl;have g31:=hF 31 rfl;simp only[sx,reduceCtorEq,Nat.reduceEqDiff,f0]at g0 g30 g31;obtain⟨v,hv⟩:∃v,vs[i]?=some v:=⟨vs[i]'(by rw[hvl];exact hi),List.getElem?_eq_getElem _⟩
   obtain⟨p,i1,c1⟩:=Sl.elem (s:=1) Tryz.underlying131 A6s ((hb.kept hk.wf hk2).toSl) (i:=i) (u:=v) (by rw[List.getElem?_map,hv];rfl);have hu:=hvr i v _ hv (List.getElem?_eq_getElem hi);have hlu:l[i]∈l:=List.getElem_mem hi;have htake:l.take (i+1)=l.take i++[l[i]]:=by rw[List.take_add_one,List.getElem?_eq_getElem hi];rfl
   generalize l[i]=u at hu hlu htake;have hk3:=hk.trans hk2;have hsg:=h.gr.sg.grow (hk3.grow hw);obtain⟨r4,H4,hd4,hk4,o4,hL4⟩:=C2s hsg (hu.grow (hk2.grow hk.wf)) (Nat.le_trans (hln u (hsub u hlu)) (by decide)) (hin u (hsub u hlu)) hk2.wf;have hR4:=hR.kept hk2.wf hk4;have hn2:=hk2.next;obtain⟨a,cap,w',H5,ob5,rfl,e1,e2,e3,e4,e5⟩:=C6d hR4 hk4.wf (fun y hy=>by have:=hk4.next;omega) (u:=textOf sigma u) hL4.bf (fun y hy=>⟨by have:=hL4.fr y hy;omega,fun hy2=>by
    obtain⟨vz,hz1,_⟩:=hR.ex;have:=hz1.lt hk2.wf y hy2;have:=hL4.fr y hy;omega⟩) (by rw[List.length_map,List.length_take];omega)
   have q0:=A2b (hk3.grow hw) hc0;simp only[↓Sh.dn,sx,reduceCtorEq,Nat.reduceEqDiff,g0,g30,g31,f9,f32,A2a,hi,decide_true,i1,c1,q0];refine⟨_,_,hd4,?_⟩;simp only[sx,e1,e2,A1a hi (by omega)];exact k _ _ (by repeat (first|refine Same.put ?_ rfl|exact Same.rfl' _)) (by simp only[sx]) ⟨(hk2.trans hk4).then (Nat.le_refl _) (e4.weak hR4.ob),w',by simp only[sx,Nat.reduceEqDiff],ob5,by rw[htake,List.map_append];exact e3⟩
  ·rintro F H'' hF f32 ⟨hk2,z,f9,ob,hR⟩
   have g8:=hF 8 rfl;have g31:=hF 31 rfl;simp only[sx,Nat.reduceEqDiff,f8]at g8 g31;rw[List.take_length]at hR;simp only[↓Sh.dn,sx,Nat.reduceEqDiff,f9,f32,g8,g31,A2a,Nat.lt_irrefl,decide_false,hres];exact⟨hk.trans hk2,_,rfl,hR.read⟩
 ·intro S' rest
  by_cases hmore:most<FP.length
  ·have h1:decide (most<min (most+1) FP.length)=true:=by rw[decide_eq_true_eq];omega
   obtain⟨v',hc1,hc2⟩:=hb1.cut (k:=most) (by rw[List.length_map,hl1,List.length_take];omega);have hcut:=hc1 (P:=Tryz.prog) (H':=H1) Tryz.underlying131 A6s (fun he=>by
    have:=congrArg List.length he;rw[List.length_map,hl1,List.length_take]at this;have h2:min (most+1) FP.length=0:=this;omega)
   simp only[↓Sh.dn,sx,Nat.reduceEqDiff,h1,hcut];refine rest _ _ ⟨v',FP.take most,true,by simp only[sx,reduceCtorEq],by simp only[sx],by simp only[sx,Nat.reduceEqDiff],hk1,⟨oo1,vs1.take most,by rw[←List.map_take]at hc2;exact hc2,by rw[List.length_take,List.length_take,hl1,List.length_take];omega,fun j x u hx hu=>?_⟩,fun u hu=>List.mem_of_mem_take hu,by rw[List.length_take];omega,?_⟩
   ·rw[List.getElem?_take]at hx hu
    split at hx
    ·rename_i hj
     rw[if_pos hj]at hu;exact hr1 j x u hx (by rw[List.getElem?_take,if_pos (by omega)];exact hu)
    ·cases hx
   ·unfold A4g
    rw[List.length_map,if_pos hmore,List.map_take]
  ·have h1:decide (most<min (most+1) FP.length)=false:=by rw[decide_eq_false_iff_not];omega
   have htk:FP.take (most+1)=FP:=List.take_of_length_le (by omega);rw[htk]at hl1 hr1;obtain⟨r2,H2,hd2,hk2,rfl⟩:=B88 (most:=60) (h.kept hw hk1) (by omega) (by decide) hk1.wf;have hk12:=hk1.trans hk2;have hWN:C4k H2 r1 FP:=⟨oo1,vs1,hb1.kept hk1.wf hk2,hl1,fun j x u hx hu=>(hr1 j x u hx hu).grow (hk2.grow hk1.wf)⟩
   simp only[↓Sh.dn,sx,reduceCtorEq,h1];refine⟨_,_,hd2,?_⟩;cases hbe:tB (∃j,60<j∧exP E ends j 0) with
   | false=>
    simp only[↓Sh.dn,sx];refine rest _ _ ⟨r1,FP,false,by simp only[sx,reduceCtorEq],by simp only[sx,Nat.reduceEqDiff],by simp only[sx,Nat.reduceEqDiff],hk12,hWN,fun u hu=>hu,by omega,?_⟩;unfold A4g;rw[List.length_map,if_neg hmore,hbe];simp
   | true=>
    have hmin:min (most+1) FP.length=FP.length:=by omega
    simp only[↓Sh.dn,sx,Nat.reduceEqDiff,hlen1,hmin,A2a];by_cases hfew:FP.length<most
    ·have ho : A4g (FP.map (textOf sigma)) (∃ j, 60 < j ∧ exP E ends j 0) most = ([], false, 3) := by
       unfold A4g;rw[List.length_map, if_neg hmore, hbe, if_pos rfl, if_pos hfew]
     simp only[↓Sh.dn, sx, Nat.reduceEqDiff, hfew, decide_true, hres, ho];exact⟨hk12, _, rfl, [], Sl.nil _ _, rfl, fun i w r hi => by simp at hi⟩
    ·simp only[↓Sh.dn,sx,hfew,decide_false]
     refine rest _ _ ⟨r1,FP,true,by simp only[sx,reduceCtorEq],by simp only[sx,Nat.reduceEqDiff],by simp only[sx],hk12,hWN,fun u hu=>hu,by omega,?_⟩;unfold A4g;rw[List.length_map,if_neg hmore,hbe,if_pos rfl,if_neg hfew]
end Go.Proofs.YtjjgodccecehlaaGreat
