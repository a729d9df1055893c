/- A part of the proof: GraphWalk, GraphWalk2, GraphFirst, GraphBeyond, GraphTexts, GraphWords, RefWalk, GraphX, RefWalk2, RefShort, RowsTotal, ShortKit, GraphNet, GraphAdd, BinarySearch, PlaceWord, GraphOf, GraphIs. -/
import Derived.Test.YtjjgodccecehlaaGreatMClose2RelDowns7
import Derived.Test.YtjjgodccecehlaaGreatMClose2RelDowns8
import Derived.Test.YtjjgodccecehlaaGreatMClose2RelDowns3
import Derived.Test.YtjjgodccecehlaaGreatMClose2RelDowns6
import Derived.Test.YtjjgodccecehlaaGreatMClose2RelDowns2
set_option linter.unusedVariables false
set_option linter.unusedSimpArgs false
/- The search of (*graph.Graph).First: the words that go on from a set. -/
set_option maxHeartbeats 4000000
set_option maxRecDepth 20000
namespace Go.Proofs.YtjjgodccecehlaaGreat
open Go Go.Proofs Go.Proofs.Sh
noncomputable def A4j(sg:Nat)(E:List (List (Nat×Int×Int×Int)))(ends:List Int)(Q:Nat→Prop)(m:Nat):List (List Nat):=lexW (List.range sg) (accS (A5e E fun k=>k<0) (fun(k:Nat)=>A5e E fun x=>x=(k:Int)) (fun s=>0<ends.getD s 0) Q) m
theorem C9b(sg:Nat)(E:List (List (Nat×Int×Int×Int)))(ends:List Int)(Q:Nat→Prop)(m:Nat):A4j sg E ends Q (m+1)=(List.range sg).flatMap fun k=>(A4j sg E ends (A5z E Q k) m).map (k :: ·):=B3z _ _ _
theorem C54{E:List (List (Nat×Int×Int×Int))}(k:Nat)(s t:Nat)(h:A5e E (fun x=>x=(k:Int)) s t):A5e E (fun x=>0≤x) s t:=by
 obtain⟨r,h1,e,h2,h3,h4⟩:=h;exact⟨r,h1,e,h2,h3,by rw[h4];omega⟩
theorem B6j{sg:Nat}{E:List (List (Nat×Int×Int×Int))}{ends:List Int}{Q:Nat→Prop}{m:Nat}(h:∀s,Q s→¬exP E ends m s):A4j sg E ends Q m=[]:=B08 fun u hu ha=>by
 obtain⟨s,h1,h2⟩:=A6q (any:=A5e E fun x=>0≤x) C54 ha;rw[hu]at h2;exact h s h1 h2
theorem C1g{sg:Nat}{E:List (List (Nat×Int×Int×Int))}{ends:List Int}{Q:Nat→Prop}(hQ:∀a b,Q a→A5e E (fun k=>k<0) a b→Q b)(h:∃s,Q s∧exP E ends 0 s):A4j sg E ends Q 0=[[]]:=by
 unfold A4j;rw[B25,if_pos];rw[A3z];obtain⟨s,h1,h2⟩:=h;obtain⟨t,h3,h4⟩:=A2t.1 h2;exact⟨t,(A11 hQ).1 (A5o.2 ⟨s,h1,h3⟩),h4⟩
theorem B82{E:List (List (Nat×Int×Int×Int))}{Q:Nat→Prop}{k:Nat}:∀a b,A5z E Q k a→A5e E (fun k=>k<0) a b→A5z E Q k b:=fun _ _ h1 h2=>.step h1 h2
theorem D8b{H:AH}{base bO:Nat}{zo:Value}{oo wb:Option Nat}{out:List (List Nat)}(h:OutAt H base bO zo oo wb out)(H':AH):A4a Tryz.prog .len [131] [zo] H'=some (.int .i64 (out.length:Int),H'):=by
 obtain⟨vals,h1,h2,h3⟩:=h.ex;rw[h1.toSl.len Tryz.underlying131,List.length_map,h2]
theorem outPush{H:AH}{base bO:Nat}{zo v:Value}{oo wb o:Option Nat}{out:List (List Nat)}{u:List Nat}(h:OutAt H base bO zo oo wb out)(hw:Wf H)(hb:base≤H.next)(hv:Buf H 1 v (u.map natC) o)(ho:∀y,o=some y→base≤y∧oo≠some y∧wb≠some y)(hwb:∀y,wb=some y→y<H.next)(hol:out.length≤17179869183):
  ∃a cap w' H3 H4 oo',zo=.slice a out.length cap∧A5a Tryz.prog 131 1 [(0,v)] H=some (.slice (some ⟨H.next,0,some 0⟩) 1 1,(H.new 1 [v]).2)∧A4a Tryz.prog .append [131,131] [.slice a out.length cap,.slice (some ⟨H.next,0,some 0⟩) 1 1] (H.new 1 [v]).2=some (w',H3)∧
   A0e Tryz.prog 131 H3 w' (.pointer (some ⟨bO,0,some 0⟩))=some H4∧OutAt H4 base bO w' oo' wb (out++[u])∧Chg (fun y=>y=bO∨oo=some y) H H4∧∀y,oo'=some y→oo=some y∨H.next≤y:=by
 obtain⟨vals,h1,h2,h3⟩:=h.ex;have hlt:=h.lt;obtain⟨a,cap,w',H3,oo',e1,e2,e3,e4,e5⟩:=h1.push hw (x:=[v]) rfl;have hvc:=hv.isCell;have hbs:=C8r (H:=H) (x:=v) (by rw[A4b hvc];rfl) (by rw[A4b hvc];simp[hvc]);rw[A4b hvc]at hbs;rw[List.length_map,h2]at e1 e2;have ha:=app1_131 (H:=H) (base:=a) (len:=out.length) (cap:=cap) (x:=[v]) rfl hol;rw[e2]at ha;have hbO:oo≠some bO:=fun hy=>by have:=(h.ob bO hy).1;omega
 have a3:=h.cell.keep (e4.old bO (h.cell.lt hw) hbO);obtain⟨H4,w1,w2,w3,w4⟩:=a3.write e4.wf (i:=0) (vs:=[w']) (by simp);have hw':=e3.isCell;have st:A0e Tryz.prog 131 H3 w' (.pointer (some ⟨bO,0,some 0⟩))=some H4:=by rw[A0c C8o hw'];exact w1
 have c34:Chg (fun y=>y=bO∨oo=some y) H H4:=(e4.weak fun y hy=>.inr hy).trans (w4.weak fun y hy=>.inl hy);have hoo:∀y,oo'=some y→base≤y∧wb≠some y:=fun y hy=>by
  rcases e5 y hy with h4|h4
  ·exact h.ob y h4
  ·exact⟨by omega,fun hy2=>by have:=hwb y hy2;omega⟩
 refine⟨a,cap,w',H3,H4,oo',e1,hbs,ha,st,⟨w2,⟨vals++[v],?_,by simp[h2],fun j x q hj hq=>?_⟩,hoo,hlt⟩,c34,e5⟩
 ·rw[List.map_append]
  exact e3.chg e4.wf w4 fun y hy hyb=>by have:=(hoo y hy).1;omega
 ·have far : ∀ {z : Value} {m : List (List Value)} {o : Option Nat}, Buf H 1 z m o → (∀ y, o = some y → base ≤ y ∧ oo ≠ some y ∧ wb ≠ some y) → Buf H4 1 z m o ∧ ∀ y, o = some y → base ≤ y ∧ oo' ≠ some y ∧ wb ≠ some y := fun {z m o} hb hx =>
    ⟨hb.chg hw c34 fun y hy hX => by
      obtain⟨x1, x2, x3⟩ := hx y hy;rcases hX with hX|hX
      · omega
      · exact x2 hX, fun y hy => ⟨(hx y hy).1, fun hy2 => by
      rcases e5 y hy2 with h4|h4
      · exact(hx y hy).2.1 h4
      · have := hb.lt hw y hy;omega, (hx y hy).2.2⟩⟩
  rcases Nat.lt_or_ge j vals.length with hj1|hj1
  · rw[List.getElem?_append_left hj1]at hj
    rw[List.getElem?_append_left (by rw[←h2];exact hj1)]at hq;obtain⟨o', k1, k2⟩ := h3 j x q hj hq;exact⟨o', far k1 k2⟩
  · rw[List.getElem?_append_right hj1]at hj
    rw[List.getElem?_append_right (by rw[←h2];exact hj1), ←h2]at hq;have hj0 : j-vals.length = 0 := by
      have := (List.getElem?_eq_some_iff.1 hj).1;simp at this;omega
    rw[hj0]at hj hq;have hvx : v = x := by simpa using hj
    have huq : u = q := by simpa using hq
    subst hvx huq;exact⟨o, far hv ho⟩
theorem C8w{H0:AH}{base bA bO bM bG bW g n mx long:Nat}{E:List (List (Nat×Int×Int×Int))}{ends:List Int}{sv av ev cv za:Value}{vals:List Value}{sigma:List ByteArray}{costs:List Int}
  (hpg:∀H,Chg (fun y=>y=bO∨base≤y) H0 H→PG H g n 60000 E ends sv av ev cv vals sigma costs)
  (hcA:∀H,Chg (fun y=>y=bO∨base≤y) H0 H→H.cell ⟨bA,0,some 0⟩=some za)
  (hA:∀H,Chg (fun y=>y=bO∨base≤y) H0 H→∀j,j≤long→∃p v,A7b Tryz.prog 92 za (.int .i64 (j:Int))=some (.pointer (some p))∧H.cell p=some v∧∃B:List Bool,Sl H v 1 (B.map A6l)∧B.length=n∧∀t:Nat,B[t]?=some true↔exP E ends j t)
  (hcM:∀H,Chg (fun y=>y=bO∨base≤y) H0 H→H.cell ⟨bM,0,some 0⟩=some (.int .i64 (mx:Int)))
  (hcG:∀H,Chg (fun y=>y=bO∨base≤y) H0 H→H.cell ⟨bG,0,some 0⟩=some (.pointer (some ⟨g,0,some 0⟩)))
  (hcW:∀H,Chg (fun y=>y=bO∨base≤y) H0 H→H.cell ⟨bW,0,some 0⟩=some (.func (.func 102) #[] #[.pointer (some ⟨bA,0,some 0⟩),.pointer (some ⟨bO,0,some 0⟩),.pointer (some ⟨bM,0,some 0⟩),.pointer (some ⟨bG,0,some 0⟩),.pointer (some ⟨bW,0,some 0⟩)]))
  (hsy:∀(s:Nat) r,E[s]?=some r→∀e∈r,e.2.1<(sigma.length:Int)) (hsl:sigma.length≤1000) (hmx:mx≤1000) (hlong:long≤1000):
  ∀(m:Nat) (H:AH) (Q:Nat→Prop) (s wv:Value) (w:List Nat) (wb:Option Nat) (out:List (List Nat)) (zo:Value) (oo:Option Nat),Chg (fun y=>y=bO∨base≤y) H0 H→base≤H.next→SetAt H s n Q→(∀a b,Q a→A5e E (fun k=>k<0) a b→Q b)→Stk H wv w wb→(∀y,wb=some y→base≤y)→OutAt H base bO zo oo wb out→out.length≤mx→w.length+m≤long→
   Sh.Call Tryz.prog (knows 7) 102 [s,wv,.int .i64 (m:Int),.pointer (some ⟨bA,0,some 0⟩),.pointer (some ⟨bO,0,some 0⟩),.pointer (some ⟨bM,0,some 0⟩),.pointer (some ⟨bG,0,some 0⟩),.pointer (some ⟨bW,0,some 0⟩)] H
    (fun _ H'=>Chg (fun y=>y=bO∨oo=some y∨wb=some y) H H'∧∃zo' oo',OutAt H' base bO zo' oo' wb ((out++(A4j sigma.length E ends Q m).map (w++·)).take mx)∧(∀y,oo'=some y→oo=some y∨H.next≤y)∧∀y,wb=some y→StkKept H H' y w.length):=by
 intro m
 induction m using Nat.strongRecOn with
 | ind m ih=>
 intro H Q s wv w wb out zo oo hc0 hbn hS hQ hst hwb hO hol hwl;have hw:=hc0.wf;have hbO:=hO.lt;refine A3a rfl Tryz.func102 rfl (Nat.le_of_ble_eq_true rfl) ?_;have hres:Tryz.f102.results.toList=[]:=rfl;obtain⟨L,hL,hnd,hlt,hLQ⟩:=hS;have hn2:=(hpg H hc0).n2;have hLl:=A8u hnd hlt;have nw:anew Tryz.prog 3 H (.int .i64 (m:Int))=some (.pointer (some ⟨H.next,0,some 0⟩),(H.new 1 [.int .i64 (m:Int)]).2):=A0t A2c rfl;have k1:=Kept.new hw 1 [.int .i64 (m:Int)];have o1:=(Sh.Obj.new (H:=H) 1 [.int .i64 (m:Int)]).arr;have hx1:H.next<(H.new 1 [.int .i64 (m:Int)]).2.next:=Nat.lt_succ_self _;simp only[↓Sh.dn,sx,reduceCtorEq,Nat.reduceEqDiff,nw];generalize hbl:H.next=bl at o1 hx1 ⊢;generalize (H.new 1 [.int .i64 (m:Int)]).2=H1 at k1 o1 hx1 ⊢;have hcx:∀{H'},Kept H H'→Chg (fun y=>y=bO∨base≤y) H0 H':=fun hk=>hc0.trans hk.chg;obtain⟨r2,H2,hd2,hk2,rfl⟩:=B1h (caps:=[.pointer (some ⟨bA,0,some 0⟩),.pointer (some ⟨bl,0,some 0⟩)]) (fid:=104) (fun t=>tB (exP E ends m t)) (hL.grow (k1.grow hw)) (by omega) k1.wf (fun H' hk t ht=>by
  refine A3a rfl Tryz.func104 rfl (Nat.le_of_ble_eq_true rfl) ?_;have hres:Tryz.f104.results.toList=[.tmp 4]:=rfl;have c1:=hcA H' (hcx (k1.trans hk));have c2:H'.cell ⟨bl,0,some 0⟩=some (.int .i64 (m:Int)):=(o1.keep (hk.old bl hx1)).cell 0;obtain⟨p,v,i1,i2,B,hB,hBl,hBi⟩:=hA H' (hcx (k1.trans hk)) m (by omega);have htl:t<B.length:=by rw[hBl];exact hlt t ht
  obtain⟨p2,i3,i4⟩:=Sl.elem (s:=1) Tryz.underlying58 A1k hB (i:=t) (u:=.bool B[t]) (by rw[List.getElem?_map,List.getElem?_eq_getElem htl];rfl);have hg:B[t]=tB (exP E ends m t):=by
   rw[Bool.eq_iff_iff,A3z,←hBi,List.getElem?_eq_getElem htl];simp
  simp only[↓Sh.dn,sx,reduceCtorEq,Nat.reduceEqDiff,c1,c2,i1,i2,i3,i4,hres,hg];exact Kept.refl hk.wf)
 have k02:=k1.trans hk2;have c02:=hcx k02;have hO2:=hO.kept hw k02;have hst2:=hst.chg hw (k02.chg (X:=none')) fun _ _ h=>h;have cO:=hO2.cell.cell 0;have cM:=hcM H2 c02;have cG:=hcG H2 c02;have cL:H2.cell ⟨bl,0,some 0⟩=some (.int .i64 (m:Int)):=(o1.keep (hk2.old bl hx1)).cell 0;have hlO:=D8b hO2;refine⟨_,_,hd2,?_⟩;have skip:(A4j sigma.length E ends Q m=[]∨mx≤out.length)→Chg (fun y=>y=bO∨oo=some y∨wb=some y) H H2∧∃zo' oo',OutAt H2 base bO zo' oo' wb ((out++(A4j sigma.length E ends Q m).map (w++·)).take mx)∧(∀y,oo'=some y→oo=some y∨bl≤y)∧∀y,wb=some y→StkKept H H2 y w.length:=fun hh=>by
  have ho:(out++(A4j sigma.length E ends Q m).map (w++·)).take mx=out:=by
   rcases hh with h1|h1
   ·rw[h1,List.map_nil,List.append_nil];exact List.take_of_length_le hol
   ·rw[List.take_append_of_le_length (by omega),List.take_of_length_le hol]
  rw[ho];exact⟨k02.chg,zo,oo,hO2,fun y hy=>.inl hy,fun y hy=>StkKept.same (k02.old y (hst.lt hw y hy))⟩
 cases hany:L.any fun t=>tB (exP E ends m t) with
 | false=>
  have hno:A4j sigma.length E ends Q m=[]:=B6j fun s hs he=>by
   have:=(List.any_eq_true (p:=fun t=>tB (exP E ends m t))).2 ⟨s,(hLQ s).2 hs,A3z.2 he⟩;rw[hany]at this;cases this
  simp only[↓Sh.dn,sx,Nat.reduceEqDiff,hres];exact skip (.inl hno)
 | true=>
 have hsome:∃s,Q s∧exP E ends m s:=by
  obtain⟨s,h1,h2⟩:=List.any_eq_true.1 hany;exact⟨s,(hLQ s).1 h1,A3z.1 h2⟩
 simp only[↓Sh.dn,sx,Nat.reduceEqDiff,cO,cM,hlO,A0k];by_cases hfull:mx≤out.length
 ·simp only[↓Sh.dn,sx,hfull,decide_true,hres]
  exact skip (.inr hfull)
 simp only[↓Sh.dn,sx,Nat.reduceEqDiff,hfull,decide_false,cL];cases m with
 | zero=>
  have h00:decide (((0:Nat):Int)=0)=true:=rfl;simp only[↓Sh.dn,sx,h00];obtain⟨r3,H3,hd3,hk3,o3,hb3,hf3⟩:=C2q (hst2.sl) (by rw[List.length_map];omega) hk2.wf;have hO3:=hO2.kept hk2.wf hk3;have k03:=k02.trans hk3;obtain⟨vz,hz1,hz2,hz3⟩:=hO2.ex;obtain⟨a,cap,w',H4,H5,oo',rfl,e1,e2,e3,hO5,hc5,hf5⟩:=outPush hO3 hk3.wf (by have:=k03.next;omega) hb3 (fun y hy=>⟨by have:=hf3 y hy;have:=k02.next;omega,fun hy2=>by have:=hz1.lt hk2.wf y hy2;have:=hf3 y hy;omega,fun hy2=>by have:=hst2.lt hk2.wf y hy2;have:=hf3 y hy;omega⟩) (fun y hy=>by have:=hst.lt hw y hy;have:=k03.next;omega) (by omega);have cO3:=hO3.cell.cell 0;have hvz:=hz1.veq;refine A1u (fl:=[(0,[]),(1,[]),(2,[0]),(3,[]),(4,[]),(5,[])]) (by kernel_rfl) (by kernel_rfl) (by kernel_rfl) ?_;simp only[↓Sh.dn,sx,Nat.reduceEqDiff,wpr,again,A2e,A4u,forall_eq',cO];refine⟨_,_,hd3,?_⟩;simp only[sx,cO3,e1,e2,e3,hres];have hW:A4j sigma.length E ends Q 0=[[]]:=C1g hQ hsome;have ho:(out++(A4j sigma.length E ends Q 0).map (w++·)).take mx=out++[w]:=by
   rw[hW];simp only[List.map_cons,List.map_nil,List.append_nil];exact List.take_of_length_le (by rw[List.length_append,List.length_singleton];omega)
  rw[ho];refine⟨(k03.chg).trans (hc5.weak fun y hy=>hy.imp id .inl),w',oo',hO5,fun y hy=>?_,fun y hy=>StkKept.same ?_⟩
  ·rcases hf5 y hy with h1|h1
   ·exact .inl h1
   ·have:=k03.next;exact .inr (by omega)
  ·have hyl:=hst.lt hw y hy
   rw[hc5.old y (Nat.lt_of_lt_of_le hyl k03.next) ?_,k03.old y hyl];rintro(h1|h1)
   ·have:=hwb y hy;omega
   ·exact(hO.ob y h1).2 hy
 | succ m=>
  have h00:decide (((m+1:Nat):Int)=0)=false:=by simp;omega
  have hLQ':(fun s=>s∈L)=Q:=funext fun s=>propext (hLQ s);obtain⟨r3,H3,hd3,hk3,vs,hvl,hvs⟩:=C3u (hpg H2 c02) hsy hsl (hL.grow (k02.grow hw)) hlt (by omega) hk2.wf;rw[hLQ']at hvs;have k03:=k02.trans hk3;have hlv:∀H',A4a Tryz.prog .len [148] [r3] H'=some (.int .i64 (sigma.length:Int),H'):=fun H'=>by
   rw[(hvs H3 fun _ _ _=>rfl).1.len Tryz.underlying148,List.length_map,hvl]
  simp only[↓Sh.dn,sx,reduceCtorEq,Nat.reduceEqDiff,h00,cG];refine⟨_,_,hd3,?_⟩;simp only[sx,hlv];have hZ:∀y,(y=bO∨oo=some y∨wb=some y)→y<bl:=fun y hy=>by
   rcases hy with hy|hy|hy
   ·omega
   ·obtain⟨vz,hz1,_⟩:=hO.ex
    rw[←hbl];exact hz1.lt hw y hy
   ·rw[←hbl];exact hst.lt hw y hy
  have hZX:∀y,(y=bO∨oo=some y∨wb=some y)→(y=bO∨base≤y):=fun y hy=>by
   rcases hy with hy|hy|hy
   ·exact .inl hy
   ·exact .inr (hO.ob y hy).1
   ·exact .inr (hwb y hy)
  have hn3:=hk3.next;have hn2':=hk2.next;have hst3:=hst.chg hw (k03.chg (X:=none')) fun _ _ h=>h;have ho0:out.take mx=out:=List.take_of_length_le hol;refine A5c sigma.length 34 (List.range' 34 24++[11,12]) (fun k F H'=>Chg (fun y=>y=bO∨oo=some y∨wb=some y) H3 H'∧∃zo' oo',OutAt H' base bO zo' oo' wb ((out++((List.range k).flatMap fun k=>(A4j sigma.length E ends (A5z E Q k) m).map (fun u=>w++k :: u))).take mx)∧(∀y,oo'=some y→oo=some y∨H3.next≤y)∧∀y,wb=some y→StkKept H3 H' y w.length) (by simp only[sx])
   ⟨Chg.refl hk3.wf,zo,oo,by simpa [ho0] using hO2.kept hk2.wf hk3,fun y hy=>.inl hy,fun y hy=>StkKept.same rfl⟩ ?_ ?_
  ·rintro k F H' hi hF f34 ⟨hc,zo',oo',hO',hof,hsk⟩ kk
   have f1:=hF 1 rfl;have f4:=hF 4 rfl;have f5:=hF 5 rfl;have f7:=hF 7 rfl;have f10:=hF 10 rfl;have f32:=hF 32 rfl;have f33:=hF 33 rfl;simp only[sx,Nat.reduceEqDiff]at f1 f4 f5 f7 f10 f32 f33;have ch:Chg (fun y=>y=bO∨base≤y) H0 H':=(hcx k03).then hc fun y hy _=>hZX y hy;have cO':=hO'.cell.cell 0;have cM':=hcM H' ch;have cW':=hcW H' ch;have hlO':=D8b hO';have hblZ:¬(bl=bO∨oo=some bl∨wb=some bl):=fun h=>Nat.lt_irrefl _ (hZ bl h);have ob':Arr H' bl 0 1 [.int .i64 ((m+1:Nat):Int)]:=((o1.keep (hk2.old bl hx1)).keep (hk3.old bl (by omega))).keep (hc.old bl (by omega) hblZ);have cL':=ob'.cell 0;have hagree:∀{H'':AH},Chg (fun y=>wb=some y) H' H''→∀y,H2.next≤y→y<H3.next→H''.objs.get y=H3.objs.get y:=fun{H''} hc' y h1 h2=>by
    have hny:¬(y=bO∨oo=some y∨wb=some y):=fun h=>by have:=hZ y h;omega
    rw[hc'.old y (by have:=hc.next;omega) fun h=>hny (.inr (.inr h)),hc.old y h2 hny]
   obtain⟨hsl1,hset1⟩:=hvs H' (hagree (Chg.refl hc.wf));obtain⟨v,hv⟩:∃v,vs[k]?=some v:=⟨vs[k]'(by rw[hvl];exact hi),List.getElem?_eq_getElem _⟩
   obtain⟨pk,ik,ck⟩:=Sl.elem (s:=1) Tryz.underlying148 B0d hsl1 (i:=k) (u:=v) (by rw[List.getElem?_map,hv];rfl);obtain⟨L',hL',hnd',hlt',hLQ2⟩:=hset1 k v hv;have hlL':=fun H''=>hL'.len Tryz.underlying146 H'';simp only[List.length_map]at hlL';have hst':Stk H' wv w wb:=hst3.keep hsk;have hrange:((List.range (k+1)).flatMap fun k=>(A4j sigma.length E ends (A5z E Q k) m).map (fun u=>w++k :: u))=((List.range k).flatMap fun k=>(A4j sigma.length E ends (A5z E Q k) m).map (fun u=>w++k :: u))++(A4j sigma.length E ends (A5z E Q k) m).map (fun u=>w++k :: u):=by
    rw[List.range_succ,List.flatMap_append];simp
   rw[hrange]at kk;generalize hfm:((List.range k).flatMap fun k=>(A4j sigma.length E ends (A5z E Q k) m).map (fun u=>w++k :: u))=FM at hO' hlO' kk;have hltk:(out++FM).take mx=((out++FM).take mx).take mx:=by rw[List.take_take,Nat.min_self]
   have wi:IntKind.wrap .i64 ((k:Int)+1)=((k+1:Nat):Int):=A2a hi (by omega);have hol':((out++FM).take mx).length≤mx:=by rw[List.length_take];omega
   have same:((A4j sigma.length E ends (A5z E Q k) m)=[]∨mx≤((out++FM).take mx).length)→(out++(FM++(A4j sigma.length E ends (A5z E Q k) m).map (fun u=>w++k :: u))).take mx=(out++FM).take mx:=fun hh=>by
    rw[←List.append_assoc,←B4c];rcases hh with h1|h1
    ·rw[h1,List.map_nil,List.append_nil,List.take_take,Nat.min_self]
    ·rw[List.take_append_of_le_length h1,List.take_take,Nat.min_self]
   simp only[↓Sh.dn,sx,Nat.reduceEqDiff,f34,f32,f33,A1a,hi,decide_true,ik,ck,hlL'];by_cases hle:L'=[]
   ·have hz:decide ((0:Int)<((L'.length:Nat):Int))=false:=by rw[hle];rfl
    simp only[↓Sh.dn,sx,Nat.reduceEqDiff,hz,f34,wi];refine kk _ _ (by repeat (first|refine Same.put ?_ rfl|exact Same.rfl' _)) (by simp only[sx]) ⟨hc,zo',oo',?_,hof,hsk⟩;rw[same (.inl (B6j fun s hs _=>by have:=(hLQ2 s).2 hs;rw[hle]at this;cases this))];exact hO'
   ·have hz : decide ((0 : Int) < ((L'.length : Nat) : Int)) = true := by
      have := List.length_pos_iff.2 hle;simp;omega
    simp only[↓Sh.dn, sx, Nat.reduceEqDiff, hz, f4, f5, cO', cM', hlO', A1a];by_cases hful : ((out ++ FM).take mx).length<mx
    · obtain⟨a, cap, wv', H4, wb', hwe, p1, p2, p3, p4, p5⟩ := hst'.push hc.wf k
      subst hwe;have hbs := A4p (H := H') (x := .int .i64 (k : Int)) rfl rfl;have ha := B7j (H := H') (base := a) (len := w.length) (cap := cap) (x := [.int .i64 (k : Int)]) rfl (by omega);rw[p1]at ha;have hwb2 : ∀y, wb = some y → wb' = some y := fun y hy => by
        rcases p4 with h1|⟨h1, _⟩
        · rw[h1];exact hy
        · rw[h1]at hy;cases hy
      have hwb3 : ∀y, wb' = some y → wb = some y ∨ H'.next ≤ y := fun y hy => by
        rcases p4 with h1|⟨_, h1⟩
        · rw[h1]at hy;exact .inl hy
        · exact .inr (h1 y hy)
      have hcn := hc.next;have hkn := k03.next;have hwb' : ∀y, wb' = some y → base ≤ y := fun y hy => by
        rcases hwb3 y hy with h1|h1
        · exact hwb y h1
        · omega
      have ch4 : Chg (fun y => y = bO ∨ base ≤ y) H0 H4 := ch.trans (p3.weak fun y hy => .inr (hwb y hy));have hO4 := (hO'.hand hc.wf hwb3).chg hc.wf p3 hwb2 hwb';have hpn := p3.next;obtain⟨r5, H5, hd5, hc5, zo5, oo5, hO5, hof5, hsk5⟩ := ih m (Nat.lt_succ_self m) H4 (A5z E Q k) v wv' (w ++ [k]) wb' ((out ++ FM).take mx) zo' oo' ch4 (by omega) ((hvs H4 (hagree p3)).2 k v hv) B82 p2 hwb' hO4 hol' (by rw[List.length_append, List.length_singleton];omega);have cW4 := hcW H4 ch4;have cL4 : H4.cell ⟨bl, 0, some 0⟩ = some (.int .i64 ((m + 1 : Nat) : Int)) := (ob'.keep (p3.old bl (by omega) fun h => hblZ (.inr (.inr h)))).cell 0;have cLn : (H'.new 1 [.int .i64 (k : Int)]).2.cell ⟨bl, 0, some 0⟩ = some (.int .i64 ((m + 1 : Nat) : Int)) := (ob'.keep (C2c (by omega))).cell 0;have cWn := hcW _ (ch.trans (Kept.new hc.wf 1 [.int .i64 (k : Int)]).chg);have wl : IntKind.wrap .i64 (((m + 1 : Nat) : Int)-1) = (m : Int) := by rw[wrap64 (by omega) (by omega)];omega
      have hvf : veq (.func (.func 102) #[] #[.pointer (some ⟨bA, 0, some 0⟩), .pointer (some ⟨bO, 0, some 0⟩), .pointer (some ⟨bM, 0, some 0⟩), .pointer (some ⟨bG, 0, some 0⟩), .pointer (some ⟨bW, 0, some 0⟩)]) (.func (.func 102) #[] #[.pointer (some ⟨bA, 0, some 0⟩), .pointer (some ⟨bO, 0, some 0⟩), .pointer (some ⟨bM, 0, some 0⟩), .pointer (some ⟨bG, 0, some 0⟩), .pointer (some ⟨bW, 0, some 0⟩)]) = true := by
        simp[veq, veqs, B1e]
      simp only[↓Sh.dn, sx, hful, decide_true];refine A1u (fl := [(0, []), (1, []), (2, []), (3, []), (4, []), (6, []), (7, []), (5, [6, 0]), (8, [])]) (by kernel_rfl) (by kernel_rfl) (by kernel_rfl) ?_;simp only[↓Sh.dn, sx, Nat.reduceEqDiff, wpr, again, A2e, A9q, forall_eq', f1, f7, f10, cW', hbs, A6a, cLn, ha, cW4, cL4, hvf, A9q, wl];refine⟨_, _, by first|exact hd5|simpa using hd5, ?_⟩;simp only[sx, f34, wi];refine kk _ _ (by repeat (first|refine Same.put ?_ rfl|exact Same.rfl' _)) (by simp only[sx]) ⟨(hc.trans (p3.weak fun y hy => .inr (.inr hy))).then hc5 fun y hy hlt3 => ?_, zo5, oo5, ?_, fun y hy => ?_, fun y hy => ?_⟩
      · rcases hy with h1|h1|h1
        · exact .inl h1
        · rcases hof y h1 with h2|h2
          · exact .inr (.inl h2)
          · omega
        · rcases hwb3 y h1 with h2|h2
          · exact .inr (.inr h2)
          · omega
      · have he : (out ++ (FM ++ (A4j sigma.length E ends (A5z E Q k) m).map (fun u => w ++ k :: u))).take mx = ((out ++ FM).take mx ++ (A4j sigma.length E ends (A5z E Q k) m).map (w ++ [k] ++ ·)).take mx := by
          rw[←List.append_assoc, ←B4c]
          congr 3
          funext u
          simp
        rw[he];exact hO5.hand hc5.wf fun y hy => .inl (hwb2 y hy)
      · rcases hof5 y hy with h1|h1
        · exact hof y h1
        · exact .inr (by omega)
      · exact((hsk y hy).trans (p5 y hy) (Nat.le_refl _)).trans (hsk5 y (hwb2 y hy)) (by rw[List.length_append];exact Nat.le_add_right _ _)
    · simp only[↓Sh.dn, sx, Nat.reduceEqDiff, hful, decide_false, f34, wi]
      refine kk _ _ (by repeat (first|refine Same.put ?_ rfl|exact Same.rfl' _)) (by simp only[sx]) ⟨hc, zo', oo', ?_, hof, hsk⟩;rw[same (.inr (by omega))];exact hO'
  ·rintro F H' hF f34 ⟨hc,zo',oo',hO',hof,hsk⟩
   have f33:=hF 33 rfl;simp only[sx,Nat.reduceEqDiff]at f33;simp only[↓Sh.dn,sx,f33,f34,A1a,Nat.lt_irrefl,decide_false,hres];have he:(A4j sigma.length E ends Q (m+1)).map (w++·)=(List.range sigma.length).flatMap fun k=>(A4j sigma.length E ends (A5z E Q k) m).map (fun u=>w++k :: u):=by
    rw[C9b,List.map_flatMap]
    congr 1
    funext k
    rw[List.map_map];rfl
   rw[he];refine⟨k03.chg.trans hc,zo',oo',hO',fun y hy=>?_,fun y hy=>?_⟩
   ·rcases hof y hy with h1|h1
    ·exact .inl h1
    ·exact .inr (by omega)
   ·exact(StkKept.same (L:=w.length) (k03.old y (hst.lt hw y hy))).trans (hsk y hy) (Nat.le_refl _)
def C7l(H:AH)(v:Value)(l:List (List Nat)):Prop:=∃(oo:Option Nat) (vals:List Value),Buf H 1 v (vals.map fun x=>[x]) oo∧vals.length=l.length∧∀(j:Nat) x u,vals[j]?=some x→l[j]?=some u→Sl H x 1 (u.map natC)
noncomputable def A8l(sg:Nat)(E:List (List (Nat×Int×Int×Int)))(ends:List Int)(k:Nat):List (List Nat):=(List.range k).flatMap fun m=>A4j sg E ends (Clo (A5e E fun k=>k<0) fun s=>s=0) m
theorem C3c(sg:Nat)(E:List (List (Nat×Int×Int×Int)))(ends:List Int){i n:Nat}(h:i≤n):∃t,A8l sg E ends n=A8l sg E ends i++t:=by
 induction n with
 | zero=>exact⟨[],by rw[show i=0 by omega];simp⟩
 | succ n ih=>
  by_cases hin:i=n+1
  ·exact⟨[],by rw[hin];simp⟩
  obtain⟨t,ht⟩:=ih (by omega);refine⟨t++A4j sg E ends (Clo (A5e E fun k=>k<0) fun s=>s=0) n,?_⟩;unfold A8l at ht ⊢;rw[List.range_succ,List.flatMap_append,ht];simp
theorem D7a{t:Nat}{H:AH}{z x:Value}(hs:A9b Tryz.prog t=some 1)(hz:isCell z=true)(hx:isCell x=true):
  anew Tryz.prog t H z=some (.pointer (some ⟨H.next,0,some 0⟩),(H.new 1 [z]).2)∧A0e Tryz.prog t (H.new 1 [z]).2 x (.pointer (some ⟨H.next,0,some 0⟩))=some (H.new 1 [x]).2:=
 ⟨A0t hs hz,by rw[A0c hs hx];exact A3m rfl⟩
theorem C3t{H:AH}{g n mx long:Nat}{E:List (List (Nat×Int×Int×Int))}{ends:List Int}{sv av ev cv:Value}{vals:List Value}{sigma:List ByteArray}{costs:List Int}(h:PG H g n 60000 E ends sv av ev cv vals sigma costs)(hsy:∀(s:Nat) r,E[s]?=some r→∀e∈r,e.2.1<(sigma.length:Int))(hsl:sigma.length≤1000)(hmx:mx≤1000)(hlong:long≤900)(hw:Wf H):
  Sh.Call Tryz.prog (knows 7) 82 [.pointer (some ⟨g,0,some 0⟩),.int .i64 (mx:Int),.int .i64 (long:Int)] H (fun r H'=>Kept H H'∧C7l H' r ((A8l sigma.length E ends (long+1)).take mx)):=by
 refine A3a rfl Tryz.func82 rfl (Nat.le_of_ble_eq_true rfl) ?_;have hres:Tryz.f82.results.toList=[.tmp 6]:=rfl;obtain⟨n1,_⟩:=D7a (H:=H) (x:=.pointer none) C0f (z:=.pointer (some ⟨g,0,some 0⟩)) rfl rfl;have k1:=Kept.new hw 1 [.pointer (some ⟨g,0,some 0⟩)];have oG:=(Sh.Obj.new (H:=H) 1 [.pointer (some ⟨g,0,some 0⟩)]).arr;have x1:H.next<(H.new 1 [.pointer (some ⟨g,0,some 0⟩)]).2.next:=Nat.lt_succ_self _;simp only[↓Sh.dn,sx,Nat.reduceEqDiff,n1];generalize hbG:H.next=bG at oG x1 ⊢;generalize (H.new 1 [.pointer (some ⟨g,0,some 0⟩)]).2=H1 at k1 oG x1 ⊢;obtain⟨n2,_⟩:=D7a (H:=H1) (x:=.int .i64 0) A2c (z:=.int .i64 (mx:Int)) rfl rfl;have k2:=Kept.new k1.wf 1 [.int .i64 (mx:Int)];have oM:=(Sh.Obj.new (H:=H1) 1 [.int .i64 (mx:Int)]).arr;have x2:H1.next<(H1.new 1 [.int .i64 (mx:Int)]).2.next:=Nat.lt_succ_self _;simp only[sx,n2];generalize hbM:H1.next=bM at oM x2 x1 ⊢;generalize (H1.new 1 [.int .i64 (mx:Int)]).2=H2 at k2 oM x2 ⊢;obtain⟨n3,_⟩:=D7a (H:=H2) (x:=.slice none 0 0) C8o (z:=.slice none 0 0) rfl rfl;have k3:=Kept.new k2.wf 1 [.slice none 0 0];have oO:=(Sh.Obj.new (H:=H2) 1 [.slice none 0 0]).arr;have x3:H2.next<(H2.new 1 [.slice none 0 0]).2.next:=Nat.lt_succ_self _;have cG3:(H2.new 1 [.slice none 0 0]).2.cell ⟨bG,0,some 0⟩=some (.pointer (some ⟨g,0,some 0⟩)):=((oG.keep (k2.old bG (by omega))).keep (k3.old bG (by omega))).cell 0;simp only[sx,n3,cG3];generalize hbO:H2.next=bO at oO x3 x2 ⊢;generalize (H2.new 1 [.slice none 0 0]).2=H3 at k3 oO x3 cG3 ⊢;have hk3:=(k1.trans k2).trans k3;obtain⟨r4,H4,hd4,hk4,ob,hA⟩:=B3p (h.kept hw hk3) (by omega) (most:=long) (by omega) hk3.wf;refine⟨_,_,hd4,?_⟩;have hAc:isCell r4=true:=by
  obtain⟨_,_,hb,_⟩:=hA;exact hb.isCell
 obtain⟨n5,s5⟩:=D7a (H:=H4) (x:=r4) (z:=.slice none 0 0) C3g rfl hAc;have k5:=Kept.new hk4.wf 1 [r4];have oA:=(Sh.Obj.new (H:=H4) 1 [r4]).arr;have x5:H4.next<(H4.new 1 [r4]).2.next:=Nat.lt_succ_self _;simp only[sx,n5,s5];have x4:=hk4.next;generalize hbA:H4.next=bA at oA x5 x4 ⊢;generalize (H4.new 1 [r4]).2=H5 at k5 oA x5 ⊢;obtain⟨n6,s6⟩:=D7a (H:=H5) (x:=.func (.func 102) #[] #[.pointer (some ⟨bA,0,some 0⟩),.pointer (some ⟨bO,0,some 0⟩),.pointer (some ⟨bM,0,some 0⟩),.pointer (some ⟨bG,0,some 0⟩),.pointer (some ⟨H5.next,0,some 0⟩)]) (z:=.nilFunc) size_145 rfl rfl;have k6:=Kept.new k5.wf 1 [.func (.func 102) #[] #[.pointer (some ⟨bA,0,some 0⟩),.pointer (some ⟨bO,0,some 0⟩),.pointer (some ⟨bM,0,some 0⟩),.pointer (some ⟨bG,0,some 0⟩),.pointer (some ⟨H5.next,0,some 0⟩)]];have oW:=(Sh.Obj.new (H:=H5) 1 [.func (.func 102) #[] #[.pointer (some ⟨bA,0,some 0⟩),.pointer (some ⟨bO,0,some 0⟩),.pointer (some ⟨bM,0,some 0⟩),.pointer (some ⟨bG,0,some 0⟩),.pointer (some ⟨H5.next,0,some 0⟩)]]).arr;have x6:H5.next<(H5.new 1 [.func (.func 102) #[] #[.pointer (some ⟨bA,0,some 0⟩),.pointer (some ⟨bO,0,some 0⟩),.pointer (some ⟨bM,0,some 0⟩),.pointer (some ⟨bG,0,some 0⟩),.pointer (some ⟨H5.next,0,some 0⟩)]]).2.next:=Nat.lt_succ_self _;have hk36:=(hk4.trans k5).trans k6;have cG6:=((oG.keep (k2.old bG (by omega))).keep (k3.old bG (by omega))).keep (hk36.old bG (by omega));have cG6':=cG6.cell 0;simp only[List.getElem?_cons_zero]at cG6';simp only[sx,n6,s6,cG6'];generalize hbW:H5.next=bW at k6 oW x6 x5 hk36 cG6 ⊢;generalize (H5.new 1 [.func (.func 102) #[] #[.pointer (some ⟨bA,0,some 0⟩),.pointer (some ⟨bO,0,some 0⟩),.pointer (some ⟨bM,0,some 0⟩),.pointer (some ⟨bG,0,some 0⟩),.pointer (some ⟨bW,0,some 0⟩)]]).2=H6 at k6 oW x6 hk36 cG6 ⊢;have hk6:=hk3.trans hk36;obtain⟨r7,H0,hd7,hk7,out0,b0,hb0,hf0,hnd0,hlt0,hi0⟩:=C7t (h.kept hw hk6) hk6.wf;have hk0:=hk6.trans hk7;have x7:=hk7.next;refine⟨_,_,hd7,?_⟩;have hk37:=hk36.trans hk7;have hold:∀{H':AH} {y:Nat},Chg (fun y=>y=bO∨H0.next≤y) H0 H'→y<H0.next→y≠bO→H'.objs.get y=H0.objs.get y:=fun hc hy hne=>hc.old _ hy (by rintro(h1|h1)<;>omega);have hO0:OutAt H0 H0.next bO (.slice none 0 0) none none []:=⟨oO.keep (hk37.old bO (by omega)),⟨[],.void none,rfl,fun j v u hj=>by simp at hj⟩,(fun y hy=>by cases hy),by omega⟩
 have oG0:=cG6.keep (hk7.old bG (by omega));have oM0:=((oM.keep (k3.old bM (by omega))).keep (hk36.old bM (by omega))).keep (hk7.old bM (by omega));have oA0:=(oA.keep (k6.old bA (by omega))).keep (hk7.old bA (by omega));have oW0:=oW.keep (hk7.old bW (by omega));have hA0:=hA.kept hk4.wf ((k5.trans k6).trans hk7);have hwalk:=C8w (H0:=H0) (base:=H0.next) (bA:=bA) (bO:=bO) (bM:=bM) (bG:=bG) (bW:=bW) (mx:=mx) (long:=long) (za:=r4)
  (fun H' hc=>h.kept hw (hk0.then (Nat.le_refl _) (hc.weak fun y hy=>by rcases hy with h1|h1<;>omega)))
  (fun H' hc=>(oA0.keep (hold hc (by omega) (by omega))).cell 0)
  (fun H' hc j hj=>(hA0.keepR hk0.wf fun y h1 h2=>hold hc h2 (by omega)).at (by omega))
  (fun H' hc=>(oM0.keep (hold hc (by omega) (by omega))).cell 0)
  (fun H' hc=>(oG0.keep (hold hc (by omega) (by omega))).cell 0)
  (fun H' hc=>(oW0.keep (hold hc (by omega) (by omega))).cell 0)
  hsy hsl hmx (by omega)
 have hQ0:(fun t=>t∈out0)=Clo (A5e E fun k=>k<0) fun s=>s=0:=funext fun t=>propext (hi0 t);have hS0:∀{H':AH},Chg (fun y=>y=bO∨H0.next≤y) H0 H'→SetAt H' r7 n (Clo (A5e E fun k=>k<0) fun s=>s=0):=fun{H'} hc=>
  ⟨out0,(hb0.keep fun y hy=>hold hc (hb0.lt hk7.wf y hy) (by have:=hf0 y hy;omega)).toSl,hnd0,hlt0,hi0⟩
 have fin:∀{H':AH} {zo:Value} {oo:Option Nat} {i:Nat},i≤long+1→OutAt H' H0.next bO zo oo none ((A8l sigma.length E ends i).take mx)→(i=long+1∨mx≤((A8l sigma.length E ends i).take mx).length)→C7l H' zo ((A8l sigma.length E ends (long+1)).take mx):=fun{H' zo oo i} hi hO hh=>by
  have he:(A8l sigma.length E ends (long+1)).take mx=(A8l sigma.length E ends i).take mx:=by
   rcases hh with h1|h1
   ·rw[h1]
   ·obtain⟨t,ht⟩:=C3c sigma.length E ends hi
    rw[ht,List.take_append_of_le_length];rw[List.length_take]at h1;omega
  rw[he];obtain⟨vs,h1,h2,h3⟩:=hO.ex;exact⟨oo,vs,h1,h2,fun j v u hv hu=>by
   obtain⟨o,h4,_⟩:=h3 j v u hv hu;exact h4.toSl⟩
 have fz:A8l sigma.length E ends 0=[]:=rfl;refine A5c (long+1) 11 (List.range' 11 22) (fun i F H'=>Chg (fun y=>y=bO∨H0.next≤y) H0 H'∧∃zo oo,OutAt H' H0.next bO zo oo none ((A8l sigma.length E ends i).take mx)) (by simp only[sx]) ⟨Chg.refl hk0.wf,_,none,by rw[fz];simpa using hO0⟩ ?_ ?_
 ·rintro i F H' hi hF f11 ⟨hc,zo,oo,hO⟩ k
  have f2:=hF 2 rfl;have f4:=hF 4 rfl;have f7:=hF 7 rfl;have f9:=hF 9 rfl;have f10:=hF 10 rfl;simp only[sx,Nat.reduceEqDiff]at f2 f4 f7 f9 f10;have cO:=hO.cell.cell 0;simp only[List.getElem?_cons_zero]at cO;have cM:=(oM0.keep (hold hc (by omega) (by omega))).cell 0;have cW:=(oW0.keep (hold hc (by omega) (by omega))).cell 0;simp only[List.getElem?_cons_zero]at cM cW;have hlO:=D8b hO;have hil:i≤long:=by omega
  simp only[↓Sh.dn,sx,Nat.reduceEqDiff,f2,f11,A0k,hil,decide_true,f4,f7,cO,cM,hlO,A1a];by_cases hfull:((A8l sigma.length E ends i).take mx).length<mx
  ·obtain⟨r8,H8,hd8,hc8,zo8,oo8,hO8,hof8,_⟩:=hwalk i H' (Clo (A5e E fun k=>k<0) fun s=>s=0) r7 (.slice none 0 0) [] none _ zo oo hc hc.next (hS0 hc) (fun a b h1 h2=>.step h1 h2) (.void none) (fun y hy=>by cases hy) hO (by rw[List.length_take];omega) (by simp;omega)
   simp only[↓Sh.dn,sx,Nat.reduceEqDiff,hfull,decide_true,f9,f10,f11,cW];refine⟨_,_,by first|exact hd8|simpa using hd8,?_⟩;simp only[A2a hi (by omega)];refine k _ _ (by repeat (first|refine Same.put ?_ rfl|exact Same.rfl' _)) (by simp only[sx]) ⟨hc.trans (hc8.weak fun y hy=>?_),zo8,oo8,?_⟩
   ·rcases hy with h1|h1|h1
    ·exact .inl h1
    ·exact .inr (hO.ob y h1).1
    ·cases h1
   ·have he : (A8l sigma.length E ends (i + 1)).take mx = ((A8l sigma.length E ends i).take mx ++ (A4j sigma.length E ends (Clo (A5e E fun k => k < 0) fun s => s = 0) i).map ([] ++ ·)).take mx := by
      rw[B4c];unfold A8l;rw[List.range_succ, List.flatMap_append];simp
    rw[he];exact hO8
  ·simp only[↓Sh.dn,sx,Nat.reduceEqDiff,hfull,decide_false,f7,cO,hres]
   exact⟨hk0.then (Nat.le_refl _) (hc.weak fun y hy=>by rcases hy with h1|h1<;>omega),fin (by omega) hO (.inr (by omega))⟩
 ·rintro F H' hF f11 ⟨hc,zo,oo,hO⟩
  have f2:=hF 2 rfl;have f7:=hF 7 rfl;simp only[sx,Nat.reduceEqDiff]at f2 f7;have cO:=hO.cell.cell 0;simp only[List.getElem?_cons_zero]at cO;have hno:¬(long+1≤long):=by omega
  simp only[↓Sh.dn,sx,Nat.reduceEqDiff,f2,f7,f11,A0k,hno,decide_false,cO,hres];exact⟨hk0.then (Nat.le_refl _) (hc.weak fun y hy=>by rcases hy with h1|h1<;>omega),fin (Nat.le_refl _) hO (.inl rfl)⟩
theorem C0c{H:AH}{g n most:Nat}{E:List (List (Nat×Int×Int×Int))}{ends:List Int}{sv av ev cv:Value}{vals:List Value}{sigma:List ByteArray}{costs:List Int}(h:PG H g n 60000 E ends sv av ev cv vals sigma costs)(hsg:sigma.length≤1048576)(hm:most≤1000)(hw:Wf H):
  Sh.Call Tryz.prog (knows 7) 83 [.pointer (some ⟨g,0,some 0⟩),.int .i64 (most:Int)] H (fun r H'=>Kept H H'∧r=.bool (tB (∃j,most<j∧exP E ends j 0))):=by
 refine A3a rfl Tryz.func83 rfl (Nat.le_of_ble_eq_true rfl) ?_;have hres:Tryz.f83.results.toList=[.tmp 4]:=rfl;have hn1:=h.n1;have hn2:=h.n2;have hc1:=h.gr.arr.cell 1;have hlenA:∀H',A4a Tryz.prog .len [101] [av] H'=some (.int .i64 (n:Int),H'):=fun H'=>by
  rw[h.gr.jag.sl.len Tryz.underlying101,List.length_map,h.gr.jag.len];unfold A9d;rw[List.length_map,h.le]
 obtain⟨r1,H1,hd1,hk1,g1,rfl,R,base,hbase,hG,hRl,hRr,hRg⟩:=B2f h hsg hw;obtain⟨sv',av',ev',cv',vals',hR⟩:=hG.read;have hPG:PG H1 g1 n 6000000000 R (List.replicate n 0) sv' av' ev' cv' vals' sigma (List.replicate n 0):=⟨hR,hRl,by simp,h.n1,h.n2,fun s r hr=>hRr r (List.mem_of_getElem? hr)⟩
 obtain⟨nw,st⟩:=C2x (H:=H1) (g:=g1);have kn:=Kept.new hk1.wf 1 [.pointer (some ⟨g1,0,some 0⟩)];have obx:=(Sh.Obj.new (H:=H1) 1 [.pointer (some ⟨g1,0,some 0⟩)]).arr;have hbx:(H1.new 1 [.pointer (some ⟨g1,0,some 0⟩)]).2.cell ⟨H1.next,0,some 0⟩=some (.pointer (some ⟨g1,0,some 0⟩)):=obx.cell 0;have hP2:=hPG.kept hk1.wf kn;have hk2:=hk1.trans kn;simp only[↓Sh.dn,sx,reduceCtorEq,Nat.reduceEqDiff];refine⟨_,_,hd1,?_⟩;simp only[sx,nw,st];generalize hbxe:H1.next=bx at hbx ⊢;generalize (H1.new 1 [.pointer (some ⟨g1,0,some 0⟩)]).2=H2 at hP2 hk2 hbx ⊢;have hsp:=B42 hP2 hbx hk2.wf;obtain⟨r3,H3,hd3,hk3,ob,hA⟩:=B3p (h.kept hw hk2) hsg hm hk2.wf;have hk03:=hk2.trans hk3;have hlA:=hA.len;obtain⟨p,v,i1,i2,X,hX,hXl,hXi⟩:=hA.at (j:=most) (Nat.lt_succ_self _);have wl:IntKind.wrap .i64 (((most+1:Nat):Int)-1)=(most:Int):=by rw[wrap64 (by omega) (by omega)];omega
 have q1:=A8b (hk03.grow hw) hc1;have wn:IntKind.wrap .i64 ((n:Int)+1)=((n+1:Nat):Int):=by rw[wrap64 (by omega) (by omega)];omega
 refine⟨_,_,hd3,?_⟩;simp only[sx,hlA,wl,i1,i2,q1,hlenA,wn];refine A5c (n+1) 27 (List.range' 27 10++[8]) (fun i F H'=>Kept H2 H'∧∃v,F.get 8=some v∧∃B:List Bool,Sl H' v 1 (B.map A6l)∧B.length=n∧(∀t:Nat,B[t]?=some true↔exP E ends (most+i) t)∧∀j,most<j→j≤most+i→¬exP E ends j 0) (by simp only[sx]) ⟨hk3,v,by simp only[sx,Nat.reduceEqDiff],X,hX,hXl,hXi,fun j h1 h2=>by omega⟩ ?_ ?_
 ·rintro i F H' hi hF f27 ⟨hk,v,f8,B,hB,hBl,hBi,hno⟩ k
  have f5:=hF 5 rfl;have f6:=hF 6 rfl;have f26:=hF 26 rfl;simp only[sx,Nat.reduceEqDiff]at f5 f6 f26;have cb:=A8b (hk.grow hk2.wf) hbx;obtain⟨r6,H6,hd6,hk6,B6,o6,hB6,hB6o,hB6l,hB6i⟩:=B31 (caps:=[.pointer (some ⟨bx,0,some 0⟩)]) (fid:=109) (hP2.kept hk2.wf hk) hB hBl hk.wf (fun H'' hk''=>hsp H'' (hk.trans hk''));have hQ:∀t:Nat,B6[t]?=some true↔exP E ends (most+(i+1)) t:=fun t=>by rw[hB6i,C9p hRg hBi];rfl
  obtain⟨b,hb⟩:∃b,B6[0]?=some b:=⟨B6[0]'(by rw[hB6l];exact hn1),List.getElem?_eq_getElem _⟩
  obtain⟨q,e1,e2⟩:=Sl.elem (s:=1) Tryz.underlying58 A1k hB6.toSl (i:=0) (u:=.bool b) (by rw[List.getElem?_map,hb];rfl);have e1':A7b Tryz.prog 58 r6 (.int .i64 0)=some (.pointer (some q)):=e1;have hlt:decide ((i:Int)<((n+1:Nat):Int))=true:=by simp;omega
  simp only[↓Sh.dn,sx,Nat.reduceEqDiff,f27,f26,hlt,f5,cb,f6,f8];refine⟨_,_,by first|exact hd6|simpa using hd6,?_⟩;simp only[sx,e1',e2];cases b with
  | true=>
   have:tB (∃j,most<j∧exP E ends j 0)=true:=A3z.2 ⟨most+(i+1),by omega,(hQ 0).1 hb⟩;simp only[↓Sh.dn,sx,hres,this];exact hk2.trans (hk.trans hk6)
  | false=>
   simp only[↓Sh.dn,sx,Nat.reduceEqDiff,f27,A2a hi (by omega)];refine k _ _ (by repeat (first|refine Same.put ?_ rfl|exact Same.rfl' _)) (by simp only[sx]) ⟨hk.trans hk6,r6,by simp only[sx,Nat.reduceEqDiff],B6,hB6.toSl,hB6l,hQ,fun j h1 h2 h3=>?_⟩;by_cases hj:j=most+(i+1)
   ·subst hj
    have:=(hQ 0).2 h3;rw[hb]at this;cases this
   ·exact hno j h1 (by omega) h3
 ·rintro F H' hF f27 ⟨hk,v,f8,B,hB,hBl,hBi,hno⟩
  have f26:=hF 26 rfl;simp only[sx,Nat.reduceEqDiff]at f26;have hlt:decide (((n+1:Nat):Int)<((n+1:Nat):Int))=false:=by simp
  have:tB (∃j,most<j∧exP E ends j 0)=false:=by
   cases hb:tB (∃j,most<j∧exP E ends j 0) with
   | false=>rfl
   | true=>
    obtain⟨m,h1,h2⟩:=A3z.1 hb;obtain⟨j,h3,h4,h5⟩:=B53 (n:=n) (fun s t hst=>by
     obtain⟨r,k1,e,k2,k3,_⟩:=hst;rw[←k3];exact(h.to s r k1).2 e k2) m h1 h2
    exact absurd h5 (hno j h3 (by omega))
  simp only[↓Sh.dn,sx,f26,f27,hlt,hres,this];exact hk2.trans hk
theorem C5v{H:AH}{v u:Value}{sigma:List ByteArray}{w:List Nat}(hs:Sl H v 1 (sigma.map A7a))(hu:Sl H u 1 (w.map natC))(hwl:w.length≤1000)(hin:∀k∈w,k<sigma.length)(hw:Wf H):
  Sh.Call Tryz.prog (knows 7) 84 [v,u] H (fun r H'=>Kept H H'∧∃o,LS H' H.next r (w.map fun k=>sigma.getD k A0b) o):=by
 refine A3a rfl Tryz.func84 rfl (Nat.le_of_ble_eq_true rfl) ?_;have hres:Tryz.f84.results.toList=[.tmp 4]:=rfl;have hlen:=fun H'=>hu.len Tryz.underlying71 H';simp only[List.length_map]at hlen;have hmk:A9f Tryz.prog 22 (.int .i64 0) (.int .i64 (w.length:Int)) H=some (.slice (some ⟨H.next,0,some 0⟩) 0 w.length,(H.new 1 (List.replicate w.length (.string ⟨#[]⟩))).2):=mk_22 (H:=H) (l:=0) (c:=w.length) (Nat.zero_le _) (by omega);have k1:=Kept.new hw 1 (List.replicate w.length (.string ⟨#[]⟩));have f1:=Buf.room hw (.string ⟨#[]⟩) (c:=w.length) (by omega);simp only[↓Sh.dn,sx,Nat.reduceEqDiff,hlen,hmk];have l1:LS (H.new 1 (List.replicate w.length (.string ⟨#[]⟩))).2 H.next (.slice (some ⟨H.next,0,some 0⟩) 0 w.length) [] (if w.length=0 then none else some H.next):=⟨f1,fun y hy=>by
  split at hy
  ·cases hy
  ·exact Nat.le_of_eq (Option.some.inj hy)⟩
 refine A5c w.length 13 (List.range' 13 12++[5,7]) (fun i F H'=>Kept H H'∧∃z,F.get 5=some z∧∃o,LS H' H.next z ((w.take i).map fun k=>sigma.getD k A0b) o) (by simp only[sx]) ⟨k1,_,by simp only[sx,Nat.reduceEqDiff],_,l1⟩ ?_ ?_
 ·rintro i F H' hi hF f13 ⟨hk,z,f5,o,hl⟩ k
  have f0:=hF 0 rfl;have f11:=hF 11 rfl;have f12:=hF 12 rfl;simp only[sx,reduceCtorEq,Nat.reduceEqDiff]at f0 f11 f12;obtain⟨p,hia,hc⟩:=A13 Tryz.underlying71 A2c (hu.grow (hk.grow hw)) hi;have hks:=hin _ (List.getElem_mem hi);have htake:w.take (i+1)=w.take i++[w[i]]:=by rw[List.take_add_one,List.getElem?_eq_getElem hi];rfl
  generalize w[i]=x at hc htake hks;obtain⟨q,e1,e2⟩:=Sl.elem (s:=1) Tryz.underlying22 A4i (hs.grow (hk.grow hw)) (i:=x) (u:=.string (sigma.getD x A0b)) (by rw[List.getElem?_map,List.getElem?_eq_getElem hks];simp[A7a,List.getD,List.getElem?_eq_getElem hks]);obtain⟨a,cap,w',H4,o2,rfl,e3,e4,e5,e6⟩:=C6e (sigma.getD x A0b) hk.next hk.wf hl (by rw[List.length_map,List.length_take];omega);simp only[↓Sh.dn,sx,reduceCtorEq,Nat.reduceEqDiff,f0,f5,f11,f12,f13,A1a,hi,decide_true,hia,hc,e1,e2,e3,e4,A2a hi (by omega)];refine k _ _ (by repeat (first|refine Same.put ?_ rfl|exact Same.rfl' _)) (by simp only[sx]) ⟨hk.then (Nat.le_refl _) (e6.weak fun y hy=>hl.fr y hy),w',by simp only[sx,Nat.reduceEqDiff],o2,by rw[htake,List.map_append];exact e5⟩
 ·rintro F H' hF f13 ⟨hk,z,f5,o,hl⟩
  have f12:=hF 12 rfl;simp only[sx,Nat.reduceEqDiff]at f12;rw[List.take_length]at hl;simp only[↓Sh.dn,sx,Nat.reduceEqDiff,f5,f12,f13,A1a,Nat.lt_irrefl,decide_false,hres];exact⟨hk,o,hl⟩
def textOf(sigma:List ByteArray)(u:List Nat):List ByteArray:=u.map fun k=>sigma.getD k A0b
def strRow(u:List ByteArray):List (List Value):=u.map A7a
theorem B8f{H:AH}{G:Nat→Prop}{z v:Value}{oo o:Option Nat}{out:List (List ByteArray)}{u:List ByteArray}(h:RowsB strRow H G z oo out)(hw:Wf H)(hb:∀y,H.next≤y→G y)(hv:Buf H 1 v (strRow u) o)(ho:∀y,o=some y→G y∧oo≠some y)(hol:out.length≤17179869183):
  ∃a cap w' H3 oo',z=.slice a out.length cap∧A5a Tryz.prog 30 1 [(0,v)] H=some (.slice (some ⟨H.next,0,some 0⟩) 1 1,(H.new 1 [v]).2)∧A4a Tryz.prog .append [30,30] [.slice a out.length cap,.slice (some ⟨H.next,0,some 0⟩) 1 1] (H.new 1 [v]).2=some (w',H3)∧RowsB strRow H3 G w' oo' (out++[u])∧Chg (fun y=>oo=some y) H H3∧∀y,oo'=some y→oo=some y∨H.next≤y:=by
 obtain⟨a,cap,w',H3,oo',e1,e2,e3,e4,e5⟩:=h.push hw hb hv ho;have hvc:=hv.isCell;have hbs:=B9y (H:=H) (x:=v) (by rw[A4b hvc];rfl) (by rw[A4b hvc];simp[hvc]);rw[A4b hvc]at hbs;have ha:=app1_30 (H:=H) (base:=a) (len:=out.length) (cap:=cap) (x:=[v]) rfl hol;rw[e2]at ha;exact⟨a,cap,w',H3,oo',e1,hbs,ha,e3,e4,e5⟩
noncomputable def A7i(all:List (List ByteArray))(more:Prop)(most:Nat):List (List ByteArray)×Bool×Int:=
 if most<all.length then (all.take most,true,0) else if tB more=true then (if all.length<most then ([],false,3) else (all,true,0)) else (all,false,0)
theorem C7s{H:AH}{g n most:Nat}{E:List (List (Nat×Int×Int×Int))}{ends:List Int}{sv av ev cv:Value}{vals:List Value}{sigma:List ByteArray}{costs:List Int}(h:PG H g n 60000 E ends sv av ev cv vals sigma costs)(hsy:∀(s:Nat) r,E[s]?=some r→∀e∈r,e.2.1<(sigma.length:Int))(hsl:sigma.length≤1000)(hm:most≤900)(h1m:1≤most)(hw:Wf H):
  Sh.Call Tryz.prog (knows 7) 42 [.pointer (some ⟨g,0,some 0⟩),.int .i64 (most:Int)] H (fun r H'=>Kept H H'∧∃lv,r=.tuple #[lv,.bool (A7i ((A8l sigma.length E ends 61).map (textOf sigma)) (∃j,60<j∧exP E ends j 0) most).2.1,.int .i64 (A7i ((A8l sigma.length E ends 61).map (textOf sigma)) (∃j,60<j∧exP E ends j 0) most).2.2]∧∃vs,JagR H' lv 1 ((A7i ((A8l sigma.length E ends 61).map (textOf sigma)) (∃j,60<j∧exP E ends j 0) most).1.map strRow) vs):=by
 refine A3a rfl Tryz.func42 rfl (Nat.le_of_ble_eq_true rfl) ?_;have hres:Tryz.f42.results.toList=[.tmp 4,.tmp 5,.tmp 6]:=rfl;have hn1:=h.n1;have hc0:=h.gr.arr.cell 0;have wm:IntKind.wrap .i64 ((most:Int)+1)=((most+1:Nat):Int):=by rw[wrap64 (by omega) (by omega)];omega
 obtain⟨r1,H1,hd1,hk1,oo1,vs1,hb1,hl1,hr1⟩:=C3t (mx:=most+1) (long:=60) h hsy hsl (by omega) (by omega) hw;generalize hFP:A8l sigma.length E ends (60+1)=FP at hl1 hr1;have hFP':A8l sigma.length E ends 61=FP:=hFP;have hin:∀u∈FP,∀k∈u,k<sigma.length:=fun u hu k hk=>by
  rw[←hFP']at hu;unfold A8l A4j at hu;obtain⟨m,_,hm2⟩:=List.mem_flatMap.1 hu;exact List.mem_range.1 ((B4x.1 hm2).1.2 k hk)
 have hln:∀u∈FP,u.length≤60:=fun u hu=>by
  rw[←hFP']at hu;unfold A8l A4j at hu;obtain⟨m,hm1,hm2⟩:=List.mem_flatMap.1 hu;have:=List.mem_range.1 hm1;rw[(B4x.1 hm2).1.1];omega
 have hlen1:∀H',A4a Tryz.prog .len [131] [r1] H'=some (.int .i64 ((min (most+1) FP.length:Nat):Int),H'):=fun H'=>by
  rw[hb1.toSl.len Tryz.underlying131,List.length_map,hl1,List.length_take]
 have hc0':=A8b (hk1.grow hw) hc0;simp only[↓Sh.dn,sx,reduceCtorEq,Nat.reduceEqDiff,wm];refine⟨_,_,hd1,?_⟩;simp only[sx,hlen1,A1a];refine wp_then (fun F' H'=>∃zl l b,F'.get 0=some (.pointer (some ⟨g,0,some 0⟩))∧F'.get 7=some zl∧F'.get 8=some (.bool b)∧Kept H H'∧C7l H' zl l∧(∀u∈l,u∈FP)∧l.length≤most∧A7i (FP.map (textOf sigma)) (∃j,60<j∧exP E ends j 0) most=(l.map (textOf sigma),b,0)) ?_ ?_
 ·rintro F' H' ⟨zl,l,b,f0,f7,f8,hk,⟨oo,vs,hb,hvl,hvr⟩,hsub,hlm,hout⟩
  have hlz:∀H',A4a Tryz.prog .len [131] [zl] H'=some (.int .i64 ((l.length:Nat):Int),H'):=fun H'=>by
   rw[hb.toSl.len Tryz.underlying131,List.length_map,hvl]
  rw[hout];simp only[↓Sh.dn,sx,Nat.reduceEqDiff,f7,hlz];refine A5c l.length 32 (List.range' 32 14++[9,11]) (fun i F H''=>Kept H' H''∧∃z,F.get 9=some z∧∃ob,RowsB strRow H'' (fun y=>H'.next≤y) z ob ((l.take i).map (textOf sigma))) (by simp only[sx]) ⟨Kept.refl hk.wf,_,by simp only[sx,Nat.reduceEqDiff],none,RowsB.void _ _⟩ ?_ ?_
  ·rintro i F H'' hi hF f32 ⟨hk2,z,f9,ob,hR⟩ k
   have g0:=hF 0 rfl;have g30:=hF 30 rfl;have g31:=hF 31 rfl;simp only[sx,reduceCtorEq,Nat.reduceEqDiff,f0]at g0 g30 g31;obtain⟨v,hv⟩:∃v,vs[i]?=some v:=⟨vs[i]'(by rw[hvl];exact hi),List.getElem?_eq_getElem _⟩
   obtain⟨p,i1,c1⟩:=Sl.elem (s:=1) Tryz.underlying131 A4y ((hb.kept hk.wf hk2).toSl) (i:=i) (u:=v) (by rw[List.getElem?_map,hv];rfl);have hu:=hvr i v _ hv (List.getElem?_eq_getElem hi);have hlu:l[i]∈l:=List.getElem_mem hi;have htake:l.take (i+1)=l.take i++[l[i]]:=by rw[List.take_add_one,List.getElem?_eq_getElem hi];rfl
   generalize l[i]=u at hu hlu htake;have hk3:=hk.trans hk2;have hsg:=h.gr.sg.grow (hk3.grow hw);obtain⟨r4,H4,hd4,hk4,o4,hL4⟩:=C5v hsg (hu.grow (hk2.grow hk.wf)) (Nat.le_trans (hln u (hsub u hlu)) (by decide)) (hin u (hsub u hlu)) hk2.wf;have hR4:=hR.kept hk2.wf hk4;have hn2:=hk2.next;obtain⟨a,cap,w',H5,ob5,rfl,e1,e2,e3,e4,e5⟩:=B8f hR4 hk4.wf (fun y hy=>by have:=hk4.next;omega) (u:=textOf sigma u) hL4.bf (fun y hy=>⟨by have:=hL4.fr y hy;omega,fun hy2=>by
    obtain⟨vz,hz1,_⟩:=hR.ex;have:=hz1.lt hk2.wf y hy2;have:=hL4.fr y hy;omega⟩) (by rw[List.length_map,List.length_take];omega)
   have q0:=A8b (hk3.grow hw) hc0;simp only[↓Sh.dn,sx,reduceCtorEq,Nat.reduceEqDiff,g0,g30,g31,f9,f32,A1a,hi,decide_true,i1,c1,q0];refine⟨_,_,hd4,?_⟩;simp only[sx,e1,e2,A2a hi (by omega)];exact k _ _ (by repeat (first|refine Same.put ?_ rfl|exact Same.rfl' _)) (by simp only[sx]) ⟨(hk2.trans hk4).then (Nat.le_refl _) (e4.weak hR4.ob),w',by simp only[sx,Nat.reduceEqDiff],ob5,by rw[htake,List.map_append];exact e3⟩
  ·rintro F H'' hF f32 ⟨hk2,z,f9,ob,hR⟩
   have g8:=hF 8 rfl;have g31:=hF 31 rfl;simp only[sx,Nat.reduceEqDiff,f8]at g8 g31;rw[List.take_length]at hR;simp only[↓Sh.dn,sx,Nat.reduceEqDiff,f9,f32,g8,g31,A1a,Nat.lt_irrefl,decide_false,hres];exact⟨hk.trans hk2,_,rfl,hR.read⟩
 ·intro S' rest
  by_cases hmore:most<FP.length
  ·have h1:decide (most<min (most+1) FP.length)=true:=by rw[decide_eq_true_eq];omega
   obtain⟨v',hc1,hc2⟩:=hb1.cut (k:=most) (by rw[List.length_map,hl1,List.length_take];omega);have hcut:=hc1 (P:=Tryz.prog) (H':=H1) Tryz.underlying131 A4y (fun he=>by
    have:=congrArg List.length he;rw[List.length_map,hl1,List.length_take]at this;have h2:min (most+1) FP.length=0:=this;omega)
   simp only[↓Sh.dn,sx,Nat.reduceEqDiff,h1,hcut];refine rest _ _ ⟨v',FP.take most,true,by simp only[sx,reduceCtorEq],by simp only[sx],by simp only[sx,Nat.reduceEqDiff],hk1,⟨oo1,vs1.take most,by rw[←List.map_take]at hc2;exact hc2,by rw[List.length_take,List.length_take,hl1,List.length_take];omega,fun j x u hx hu=>?_⟩,fun u hu=>List.mem_of_mem_take hu,by rw[List.length_take];omega,?_⟩
   ·rw[List.getElem?_take]at hx hu
    split at hx
    ·rename_i hj
     rw[if_pos hj]at hu;exact hr1 j x u hx (by rw[List.getElem?_take,if_pos (by omega)];exact hu)
    ·cases hx
   ·unfold A7i
    rw[List.length_map,if_pos hmore,List.map_take]
  ·have h1:decide (most<min (most+1) FP.length)=false:=by rw[decide_eq_false_iff_not];omega
   have htk:FP.take (most+1)=FP:=List.take_of_length_le (by omega);rw[htk]at hl1 hr1;obtain⟨r2,H2,hd2,hk2,rfl⟩:=C0c (most:=60) (h.kept hw hk1) (by omega) (by decide) hk1.wf;have hk12:=hk1.trans hk2;have hWN:C7l H2 r1 FP:=⟨oo1,vs1,hb1.kept hk1.wf hk2,hl1,fun j x u hx hu=>(hr1 j x u hx hu).grow (hk2.grow hk1.wf)⟩
   simp only[↓Sh.dn,sx,reduceCtorEq,h1];refine⟨_,_,hd2,?_⟩;cases hbe:tB (∃j,60<j∧exP E ends j 0) with
   | false=>
    simp only[↓Sh.dn,sx];refine rest _ _ ⟨r1,FP,false,by simp only[sx,reduceCtorEq],by simp only[sx,Nat.reduceEqDiff],by simp only[sx,Nat.reduceEqDiff],hk12,hWN,fun u hu=>hu,by omega,?_⟩;unfold A7i;rw[List.length_map,if_neg hmore,hbe];simp
   | true=>
    have hmin:min (most+1) FP.length=FP.length:=by omega
    simp only[↓Sh.dn,sx,Nat.reduceEqDiff,hlen1,hmin,A1a];by_cases hfew:FP.length<most
    ·have ho : A7i (FP.map (textOf sigma)) (∃ j, 60 < j ∧ exP E ends j 0) most = ([], false, 3) := by
       unfold A7i;rw[List.length_map, if_neg hmore, hbe, if_pos rfl, if_pos hfew]
     simp only[↓Sh.dn, sx, Nat.reduceEqDiff, hfew, decide_true, hres, ho];exact⟨hk12, _, rfl, [], Sl.nil _ _, rfl, fun i w r hi => by simp at hi⟩
    ·simp only[↓Sh.dn,sx,hfew,decide_false]
     refine rest _ _ ⟨r1,FP,true,by simp only[sx,reduceCtorEq],by simp only[sx,Nat.reduceEqDiff],by simp only[sx],hk12,hWN,fun u hu=>hu,by omega,?_⟩;unfold A7i;rw[List.length_map,if_neg hmore,hbe,if_pos rfl,if_neg hfew]
def symE(E:List (List (ByteArray×Nat)))(x:ByteArray)(s t:Nat):Prop:=x≠A0b∧A3e E x s t
def B1b(E:List (List (ByteArray×Nat)))(Q:Nat→Prop)(x:ByteArray):Nat→Prop:=Clo (A3e E A0b) fun t=>∃s,Q s∧symE E x s t
noncomputable def A7l(sigma:List ByteArray)(E:List (List (ByteArray×Nat)))(ends:List Bool)(Q:Nat→Prop)(m:Nat):List (List ByteArray):=lexW sigma (accS (A3e E A0b) (symE E) (fun s=>ends[s]?=some true) Q) m
theorem C9c(sigma:List ByteArray)(E:List (List (ByteArray×Nat)))(ends:List Bool)(Q:Nat→Prop)(m:Nat):A7l sigma E ends Q (m+1)=sigma.flatMap fun x=>(A7l sigma E ends (B1b E Q x) m).map (x :: ·):=B3z _ _ _
theorem B8w{E:List (List (ByteArray×Nat))}(x:ByteArray)(s t:Nat)(h:symE E x s t):anyE E s t:=⟨x,h.1,h.2⟩
theorem B1j{sigma:List ByteArray}{E:List (List (ByteArray×Nat))}{ends:List Bool}{Q:Nat→Prop}{m:Nat}(h:∀s,Q s→¬exE E ends m s):A7l sigma E ends Q m=[]:=B08 fun u hu ha=>by
 obtain⟨s,h1,h2⟩:=A6q (any:=anyE E) B8w ha;rw[hu]at h2;exact h s h1 h2
theorem C6b{sigma:List ByteArray}{E:List (List (ByteArray×Nat))}{ends:List Bool}{Q:Nat→Prop}(hQ:∀a b,Q a→A3e E A0b a b→Q b)(h:∃s,Q s∧exE E ends 0 s):A7l sigma E ends Q 0=[[]]:=by
 unfold A7l;rw[B25,if_pos];rw[A3z];obtain⟨s,h1,h2⟩:=h;obtain⟨t,h3,h4⟩:=A2t.1 h2;exact⟨t,(A11 hQ).1 (A5o.2 ⟨s,h1,h3⟩),h4⟩
theorem C7c{sigma:List ByteArray}{E:List (List (ByteArray×Nat))}{ends:List Bool}{Q:Nat→Prop}{m:Nat}:A7l sigma E ends Q m=A7l sigma E ends (fun s=>Q s∧exE E ends m s) m:=B8t fun u hu _=>by
 have:=acc_keep (E:=A3e E A0b) (A:=symE E) (any:=anyE E) (end_:=fun s=>ends[s]?=some true) B8w (w:=u) (S:=Q);rw[hu]at this;exact this
theorem B3g{α:Type}{f:ByteArray→List α}{l:List ByteArray}:∀{sigma:List ByteArray},(∀x∈sigma,x∉l→f x=[])→(sigma.filter fun x=>A3n l x).flatMap f=sigma.flatMap f
 | [],_=>rfl
 | x :: sigma,h=>by
  have ih:=B3g (sigma:=sigma) fun y hy=>h y (List.mem_cons_of_mem _ hy);rw[List.filter_cons];cases hx:A3n l x with
  | true=>rw[if_pos rfl,List.flatMap_cons,List.flatMap_cons,ih]
  | false=>
   have hn:x∉l:=fun h2=>by rw[A3h.2 h2]at hx;cases hx
   rw[if_neg (by simp),List.flatMap_cons,h x List.mem_cons_self hn,List.nil_append,ih]
theorem C8t{l:List ByteArray}(h:Asc l)(p:ByteArray→Bool):Asc (l.filter p):=by
 have h0:l.Pairwise fun a b=>A3b a b=true:=by
  rw[List.pairwise_iff_getElem];intro i j hi hj hij;exact h i j _ _ hij (List.getElem?_eq_getElem hi) (List.getElem?_eq_getElem hj)
 have:=List.pairwise_iff_getElem.1 (h0.filter p);intro i j x y hij hx hy;obtain⟨h1,h2⟩:=List.getElem?_eq_some_iff.1 hx;obtain⟨h3,h4⟩:=List.getElem?_eq_some_iff.1 hy;rw[←h2,←h4];exact this i j h1 h3 hij
structure LisAt(H:AH)(G:Nat→Prop)(gx:Nat)(ev bv xv:Value)(most:Nat)(zo:Value)(oo:Option Nat)(out:List (List ByteArray)):Prop where
 cell:Arr H gx 0 6 [.int .i64 0,ev,bv,xv,.int .i64 (most:Int),zo]
 rows:RowsB strRow H G zo oo out
 ng:¬G gx
theorem LisAt.kept{H H':AH}{G:Nat→Prop}{gx:Nat}{ev bv xv zo:Value}{most:Nat}{oo:Option Nat}{out:List (List ByteArray)}(h:LisAt H G gx ev bv xv most zo oo out)(hw:Wf H)(hk:Kept H H'):LisAt H' G gx ev bv xv most zo oo out:=⟨h.cell.keep (hk.old gx (h.cell.lt hw)),h.rows.kept hw hk,h.ng⟩
theorem C0e{H:AH}{G:Nat→Prop}{z:Value}{oo:Option Nat}{out:List (List ByteArray)}(h:RowsB strRow H G z oo out)(H':AH):A4a Tryz.prog .len [30] [z] H'=some (.int .i64 (out.length:Int),H'):=by
 obtain⟨vals,h1,h2,h3⟩:=h.ex;rw[h1.toSl.len Tryz.underlying30,List.length_map,h2]
theorem B1g{H:AH}{G:Nat→Prop}{z:Value}{oo:Option Nat}{out:List (List ByteArray)}(h:RowsB strRow H G z oo out):veq z z=true∧isCell z=true∧∀y,Wf H→oo=some y→y<H.next:=by
 obtain⟨vals,h1,h2,h3⟩:=h.ex;exact⟨h1.veq,h1.isCell,fun y hw hy=>h1.lt hw y hy⟩
theorem C7k{H:AH}{u:Value}{w:List ByteArray}(hu:Sl H u 1 (w.map A7a))(hwl:w.length≤1000000)(hw:Wf H):
  ∃v' H' b',A4a Tryz.prog .append [22,22] [.slice none 0 0,u] H=some (v',H')∧Buf H' 1 v' (w.map A7a) b'∧Kept H H'∧∀y,b'=some y→H.next≤y:=by
 obtain⟨v',H',b',e1,e2,e3,e4⟩:=(Buf.void (H:=H) (s:=1) none).append hw (xs:=w.map A7a) (by intro x hx;obtain⟨b,_,rfl⟩:=List.mem_map.1 hx;rfl);have happ:=C52 (base:=none) (len:=0) (cap:=0) (hu.srcKind Tryz.underlying22) hu.newCells (by rw[List.length_map];omega);rw[e1]at happ;have hk:Kept H H':=e3.kept fun g hg h=>by cases h
 rw[List.nil_append]at e2;refine⟨v',H',b',happ,e2,hk,fun y hy=>?_⟩;rcases e4 with h4|⟨h4,h5⟩
 ·rw[h4]at hy;cases hy
 ·rw[h4]at hy;rw[←Option.some.inj hy];exact Nat.le_refl _
theorem C57{H:AH}{X:Nat→Prop}{g:Nat}{sigma:List ByteArray}{rows:List (List (List Value))}{ends costs:List Int}{s:Nat}{r:List (List Value)}{x0 x1 x2 x3:Int}
  (h:GrX H X g sigma rows ends costs) (hr:rows[s]?=some r) (hl:r.length≤17179869183) (hw:Wf H):
  Sh.Call Tryz.prog (knows 7) 63 [.pointer (some ⟨g,0,some 0⟩),.int .i64 (s:Int),.int .i64 x0,.int .i64 x1,.int .i64 x2,.int .i64 x3] H (fun _ H'=>Chg X H H'∧GrX H' (fun y=>X y∨H.next≤y) g sigma (rows.set s (r++[[.int .i64 x0,.int .i64 x1,.int .i64 x2,.int .i64 x3]])) ends costs):=by
 obtain⟨sv,av,ev,cv,os,ot,oe,oc,vals,obs,h,ho⟩:=h;refine(C2k h.arr h.jag h.gj hr hl hw).mono ?_;rintro _ H' ⟨hc,vals',obs',hj,hin⟩;have hg:=h.arr.lt hw;refine⟨hc.weak fun y hy=>ho y (.inr (.inr (.inl hy))),sv,av,ev,cv,os,ot,oe,oc,vals',obs',?_,?_⟩
 ·exact{ h with
  arr:=h.arr.keep (hc.old g hg h.gj)
  sg:=h.sg.chg hw hc h.sj
  jag:=hj
  en:=h.en.chg hw hc h.je
  co:=h.co.chg hw hc h.jc
  fj:=fun _ _=>Nat.zero_le _
  gj:=fun hy=>by
   rcases hin g hy with h1|h1
   ·exact h.gj h1
   ·omega
  sj:=fun y hy hy2=>by
   rcases hin y hy2 with h1|h1
   ·exact h.sj y hy h1
   ·have:=h.sg.lt hw y hy;omega
  je:=fun y hy hy2=>by
   rcases hin y hy2 with h1|h1
   ·exact h.je y hy h1
   ·have:=h.en.lt hw y hy;omega
  jc:=fun y hy hy2=>by
   rcases hin y hy2 with h1|h1
   ·exact h.jc y hy h1
   ·have:=h.co.lt hw y hy;omega }
 ·rintro y (hy|hy|hy|hy|hy)
  ·exact .inl (ho y (.inl hy))
  ·exact .inl (ho y (.inr (.inl hy)))
  ·rcases hin y hy with h1|h1
   ·exact .inl (ho y (.inr (.inr (.inl h1))))
   ·exact .inr h1
  ·exact .inl (ho y (.inr (.inr (.inr (.inl hy)))))
  ·exact .inl (ho y (.inr (.inr (.inr (.inr hy)))))
theorem made_new{H H2:AH}{s:Nat}{vals:List Value}(hv:veqs vals vals=true)(he:H2.objs.get H.next=(H.new s vals).2.objs.get H.next):MadeQ H.next (H.new s vals).2 H2:=by
 intro x hx;have:=Sh.Obj.new (H:=H) s vals;unfold Sh.Obj at this;rw[he];refine⟨hx,?_⟩;rw[this]at hx;injection hx with hx
 subst hx;simp[B6m,rowEq,hv]
theorem refWalk{H0:AH}{G:Nat→Prop}{base gx n most long:Nat}{oo0:Option Nat}{E:List (List (ByteArray×Nat))}{ends:List Bool}{sigma:List ByteArray}{ev bv xv:Value}{vals:List Value}
  (hrg:∀H,Chg (fun y=>y=gx∨oo0=some y∨base≤y) H0 H→RG H (.agg #[.int .i64 0,ev,bv]) n E ends ev bv vals)
  (hA:∀H,Chg (fun y=>y=gx∨oo0=some y∨base≤y) H0 H→∀j,j≤long→∃p v,A7b Tryz.prog 92 xv (.int .i64 (j:Int))=some (.pointer (some p))∧H.cell p=some v∧∃B:List Bool,Sl H v 1 (B.map A6l)∧B.length=n∧∀t:Nat,B[t]?=some true↔exE E ends j t)
  (htot:(E.map List.length).sum≤16000000) (hasc:Asc sigma) (hsy:∀x s t,A3e E x s t→x=A0b∨x∈sigma) (hno:A0b∉sigma) (hmost:most≤900) (hlong:long≤900) (hb0:∀y,base≤y→G y) (hgx:gx<base):
  ∀(m:Nat) (H:AH) (Q:Nat→Prop) (sv wv:Value) (w:List ByteArray) (wb:Option Nat) (out:List (List ByteArray)) (zo:Value) (oo:Option Nat),Chg (fun y=>y=gx∨oo0=some y∨base≤y) H0 H→base≤H.next→SetAt H sv n Q→(∀a b,Q a→A3e E A0b a b→Q b)→Buf H 1 wv (w.map A7a) wb→(∀y,wb=some y→y≠gx∧oo≠some y)→LisAt H G gx ev bv xv most zo oo out→(∀y,oo=some y→oo0=some y∨base≤y)→out.length≤most+1→w.length+m≤long→
   Sh.Call Tryz.prog (knows 7) 53 [.pointer (some ⟨gx,0,some 0⟩),sv,wv,.int .i64 (m:Int)] H
    (fun _ H'=>Chg (fun y=>y=gx∨oo=some y) H H'∧∃zo' oo',LisAt H' G gx ev bv xv most zo' oo' ((out++(A7l sigma E ends Q m).map (w++·)).take (most+1))∧∀y,oo'=some y→oo=some y∨H.next≤y):=by
 intro m
 induction m using Nat.strongRecOn with
 | ind m ih=>
 intro H Q sv wv w wb out zo oo hc0 hbn hS hQ hwv hwb hO hoo hol hwl;have hw:=hc0.wf;refine A3a rfl Tryz.func53 rfl (Nat.le_of_ble_eq_true rfl) ?_;have hres:Tryz.f53.results.toList=[]:=rfl;obtain⟨L,hL,hnd,hlt,hLQ⟩:=hS;have hRG:=hrg H hc0;have hn2:=hRG.n2;have hLl:=A8u hnd hlt;have c3:=hO.cell.cell 3;have c4:=hO.cell.cell 4;have c5:=hO.cell.cell 5;simp only[List.getElem?_cons_succ,List.getElem?_cons_zero]at c3 c4 c5;obtain⟨p,v,i1,i2,B,hB,hBl,hBi⟩:=hA H hc0 m (by omega);obtain⟨r2,H2,hd2,hk2,kb,hKb,hKf⟩:=refKeptB hL hB hBl hlt (by omega) hw;have c02:Chg (fun y=>y=gx∨oo0=some y∨base≤y) H0 H2:=hc0.trans hk2.chg;have hO2:=hO.kept hw hk2;obtain⟨hzv,hzc,hzl⟩:=B1g hO.rows;have hlO:=C0e hO.rows;have d4:=hO2.cell.cell 4;have d5:=hO2.cell.cell 5;simp only[List.getElem?_cons_succ,List.getElem?_cons_zero]at d4 d5;simp only[↓Sh.dn,sx,reduceCtorEq,Nat.reduceEqDiff,c3,i1,i2];refine⟨_,_,hd2,?_⟩;generalize hK:L.filter (fun t=>decide (B[t]?=some true))=Kl at hKb;have hKm:∀t,t∈Kl↔Q t∧exE E ends m t:=fun t=>by
  rw[←hK,List.mem_filter,hLQ,decide_eq_true_eq,hBi]
 have hKnd:Kl.Nodup:=by rw[←hK];exact List.Pairwise.filter _ hnd
 have hKlt:∀t∈Kl,t<n:=fun t ht=>hlt t ((hLQ t).2 ((hKm t).1 ht).1);have hKl:=A8u hKnd hKlt;have hlK:=fun H'=>hKb.toSl.len Tryz.underlying71 H';simp only[List.length_map]at hlK;have skip:(A7l sigma E ends Q m=[]∨most<out.length)→Chg (fun y=>y=gx∨oo=some y) H H2∧∃zo' oo',LisAt H2 G gx ev bv xv most zo' oo' ((out++(A7l sigma E ends Q m).map (w++·)).take (most+1))∧∀y,oo'=some y→oo=some y∨H.next≤y:=fun hh=>by
  have ho:(out++(A7l sigma E ends Q m).map (w++·)).take (most+1)=out:=by
   rcases hh with h1|h1
   ·rw[h1,List.map_nil,List.append_nil];exact List.take_of_length_le hol
   ·rw[List.take_append_of_le_length (by omega),List.take_of_length_le hol]
  rw[ho];exact⟨hk2.chg,zo,oo,hO2,fun y hy=>.inl hy⟩
 by_cases hKn:Kl=[]
 ·have hz:decide ((Kl.length:Int)=0)=true:=by rw[hKn];rfl
  have hnone:A7l sigma E ends Q m=[]:=B1j fun s hs he=>by
   have:=(hKm s).2 ⟨hs,he⟩;rw[hKn]at this;cases this
  simp only[↓Sh.dn,sx,Nat.reduceEqDiff,hlK,hz,hres];exact skip (.inl hnone)
 have hz:decide ((Kl.length:Int)=0)=false:=by
  have:=List.length_pos_iff.2 hKn;simp;omega
 simp only[↓Sh.dn,sx,reduceCtorEq,Nat.reduceEqDiff,hlK,hz,d4,d5,hlO,A1a];by_cases hfull:most<out.length
 ·simp only[↓Sh.dn,sx,hfull,decide_true,hres]
  exact skip (.inr hfull)
 simp only[↓Sh.dn,sx,Nat.reduceEqDiff,hfull,decide_false];have hsome:∃s,Q s∧exE E ends m s:=by
  cases hKe:Kl with
  | nil=>exact absurd hKe hKn
  | cons s K'=>exact⟨s,(hKm s).1 (by rw[hKe];exact List.mem_cons_self)⟩
 have hw2:=hwv.kept hw hk2;cases m with
 | zero=>
  have h00:decide (((0:Nat):Int)=0)=true:=rfl;simp only[↓Sh.dn,sx,h00];obtain⟨v3,H3,b3,e1,hb3,hk3,hf3⟩:=C7k hw2.toSl (by omega) hk2.wf;have hO3:=hO2.kept hk2.wf hk3;have k03:=hk2.trans hk3;have hn3:=k03.next;obtain⟨a,cap,w',H4,oo',rfl,e2,e3,hR4,hc4,hf4⟩:=B8f (u:=w) hO3.rows hk3.wf (fun y hy=>hb0 y (by omega)) hb3 (fun y hy=>⟨hb0 y (by have:=hf3 y hy;have:=hk2.next;omega),fun hy2=>by have:=hzl y hw hy2;have:=hf3 y hy;have:=hk2.next;omega⟩) (by omega);have hgo:oo≠some gx:=fun hy=>hO.ng (hO.rows.ob gx hy);have a4:=hO3.cell.keep (hc4.old gx (hO3.cell.lt hk3.wf) hgo);obtain⟨H5,s1,s2,s3,s4⟩:=a4.write hc4.wf (i:=5) (vs:=[w']) (by simp);have hw'c:=(B1g hR4).2.1;have st:A0e Tryz.prog 30 H4 w' (.pointer (some ⟨gx,5,some 0⟩))=some H5:=by rw[A0c C13 hw'c];exact s1
  have d53:=hO3.cell.cell 5;simp only[List.getElem?_cons_succ,List.getElem?_cons_zero]at d53;refine A1u (fl:=[(0,[]),(1,[]),(2,[]),(3,[]),(4,[]),(5,[]),(6,[4]),(7,[]),(8,[]),(9,[]),(10,[]),(11,[])]) (by kernel_rfl) (by kernel_rfl) (by kernel_rfl) ?_;simp only[↓Sh.dn,sx,reduceCtorEq,Nat.reduceEqDiff,wpr,again,A2e,forall_eq',d5,e1,d53,hzv,e2,e3,st,hres];have hW:A7l sigma E ends Q 0=[[]]:=C6b hQ hsome;have ho:(out++(A7l sigma E ends Q 0).map (w++·)).take (most+1)=out++[w]:=by
   rw[hW];simp only[List.map_cons,List.map_nil,List.append_nil];exact List.take_of_length_le (by rw[List.length_append,List.length_singleton];omega)
  rw[ho];refine⟨((k03.chg).trans (hc4.weak fun y hy=>.inr hy)).trans (s4.weak fun y hy=>.inl hy),w',oo',⟨s2,?_,hO.ng⟩,fun y hy=>?_⟩
  ·exact hR4.move hc4.wf (fun y hy hyl=>s4.old y hyl fun hyx=>hO.ng (hyx ▸ hy)) fun y hy _=>hy
  ·rcases hf4 y hy with h1|h1
   ·exact .inl h1
   ·exact .inr (by omega)
 | succ m=>
  have h00:decide (((m+1:Nat):Int)=0)=false:=by simp;omega
  have hRG2:=hrg H2 c02;have hcells:∀{H'},Arr H' gx 0 6 [.int .i64 0,ev,bv,xv,.int .i64 (most:Int),zo]→H'.cells ⟨gx,0,some 0⟩ 3=some [.int .i64 0,ev,bv]:=fun h=>by
   rw[h.cells (by simp)];rfl
  obtain⟨r3,H3,hd3,hk3,l,lb,hlb,hlasc,hll,hlf,hlm⟩:=C5d hRG2 hKb.toSl hKlt hKnd htot hk2.wf;have k03:=hk2.trans hk3;have hn2':=hk2.next;have hn3:=hk3.next;have hlsub:∀x∈l,x∈sigma∧x≠A0b:=fun x hx=>by
   obtain⟨h1,s,_,t,h2⟩:=(hlm x).1 hx;exact⟨(hsy x s t h2).resolve_left h1,h1⟩
  have hcell2:H2.cells ⟨gx,0,some 0⟩ 3=some [.int .i64 0,ev,bv]:=hcells hO2.cell;have hlen3:∀H',A4a Tryz.prog .len [22] [r3] H'=some (.int .i64 (l.length:Int),H'):=fun H'=>by
   rw[hlb.toSl.len Tryz.underlying22,List.length_map]
  simp only[↓Sh.dn,sx,reduceCtorEq,Nat.reduceEqDiff,h00,hcell2];refine⟨_,_,hd3,?_⟩;have hZ:∀y,(y=gx∨oo=some y)→y<H.next:=fun y hy=>by
   rcases hy with hy|hy
   ·omega
   ·exact hzl y hw hy
  have hZX:∀y,(y=gx∨oo=some y)→(y=gx∨oo0=some y∨base≤y):=fun y hy=>by
   rcases hy with hy|hy
   ·exact .inl hy
   ·exact .inr (hoo y hy)
  have ho0:out.take (most+1)=out:=List.take_of_length_le hol;have c03:Chg (fun y=>y=gx∨oo0=some y∨base≤y) H0 H3:=hc0.trans k03.chg;have hK3:=hKb.kept hk2.wf hk3;have hw3:=hw2.kept hk2.wf hk3;refine A5c l.length 9 (List.range' 53 28++[9]) (fun k F H'=>Chg (fun y=>y=gx∨oo=some y) H3 H'∧∃zo' oo',LisAt H' G gx ev bv xv most zo' oo' ((out++((l.take k).flatMap fun x=>(A7l sigma E ends (B1b E (fun s=>s∈Kl) x) m).map (fun u=>w++x :: u))).take (most+1))∧∀y,oo'=some y→oo=some y∨H3.next≤y) (by simp only[sx])
   ⟨Chg.refl hk3.wf,zo,oo,by simpa [ho0] using hO2.kept hk2.wf hk3,fun y hy=>.inl hy⟩ ?_ ?_
  ·rintro k F H' hi hF f9 ⟨hc,zo',oo',hO',hof⟩ kk
   have f0:=hF 0 rfl;have f1:=hF 1 rfl;have f2:=hF 2 rfl;have f3:=hF 3 rfl;have f8:=hF 8 rfl;simp only[sx,reduceCtorEq,Nat.reduceEqDiff]at f0 f1 f2 f3 f8;have ch:Chg (fun y=>y=gx∨oo0=some y∨base≤y) H0 H':=c03.then hc fun y hy _=>hZX y hy;have hnZ:∀{y},H.next≤y→¬(y=gx∨oo=some y):=fun hy h=>by have:=hZ _ h;omega
   have hKs:Buf H' 1 r2 (Kl.map natC) kb:=hK3.chg hk3.wf hc fun y hy=>hnZ (hKf y hy);have hls:Buf H' 1 r3 (l.map A7a) lb:=hlb.chg hk3.wf hc fun y hy=>hnZ (by have:=hlf y hy;omega);have hws:Buf H' 1 wv (w.map A7a) wb:=hw3.chg hk3.wf hc fun y hy h=>by
    obtain⟨h1,h2⟩:=hwb y hy;rcases h with h|h
    ·exact h1 h
    ·exact h2 h
   obtain⟨p8,i8,c8⟩:=Sl.elem (s:=1) Tryz.underlying22 A4i hls.toSl (i:=k) (u:=.string l[k]) (by rw[List.getElem?_map,List.getElem?_eq_getElem hi];rfl);have hlk:l[k]∈l:=List.getElem_mem hi;have htake:l.take (k+1)=l.take k++[l[k]]:=by rw[List.take_add_one,List.getElem?_eq_getElem hi];rfl
   generalize l[k]=x at c8 hlk htake;have kn:=Kept.new hc.wf 1 [.string x];have hbs:=B38 (H:=H') (x:=.string x) rfl rfl;have mq:=fun H2=>made_new (H:=H') (H2:=H2) (s:=1) (vals:=[.string x]) (by simp only[A4z,A35,C3a,Bool.and_self]);have hSm:Buf (H'.new 1 [.string x]).2 1 (.slice (some ⟨H'.next,0,some 0⟩) 1 1) [A7a x] (some H'.next):=Buf.fresh (H:=H') (s:=1) (xs:=[A7a x]) hc.wf (by intro x hx;rw[List.mem_singleton.1 hx];rfl) (by simp) 1 rfl;have hxa:H'.next<(H'.new 1 [.string x]).2.next:=Nat.lt_succ_self _;have cha:=ch.trans kn.chg;have hKa:=hKs.kept hc.wf kn;have hwa:=hws.kept hc.wf kn;have c8a:=A8b (kn.grow hc.wf) c8;have ga:(H'.new 1 [.string x]).2.cells ⟨gx,0,some 0⟩ 3=some [.int .i64 0,ev,bv]:=by rw[(hO'.kept hc.wf kn).cell.cells (by simp)];rfl
   generalize hHa:(H'.new 1 [.string x]).2=Ha at kn mq hSm hxa cha hKa hwa c8a ga;obtain⟨r4,H4,hd4,hk4,S4,b4,hb4,hf4,hnd4,hlt4,hi4⟩:=refStep (x:=x) (hrg Ha cha) hKa.toSl hKlt (by omega) kn.wf;obtain⟨v5,H5,b5,e5,hb5,hk5,hf5⟩:=C7k (hwa.toSl.grow (hk4.grow kn.wf)) (by omega) hk4.wf;have k45:=hk4.trans hk5;have k5':=kn.trans k45;have hSm5:=hSm.kept kn.wf k45;obtain⟨a6,cap6,hv6⟩:=hb5.shape;subst hv6;rw[List.length_map]at hb5 e5;obtain⟨w6,H6,b6,h6b,h6c,h6d,h6e⟩:=hb5.append hk5.wf (xs:=[A7a x]) (by intro y hy;rw[List.mem_singleton.1 hy];rfl);have ha:=C52 (base:=a6) (len:=w.length) (cap:=cap6) (hSm5.toSl.srcKind Tryz.underlying22) hSm5.toSl.newCells (by rw[List.length_singleton];omega);rw[h6b]at ha;have hcn:=hc.next;have hn4:=hk4.next;have hn5:=hk5.next;have k46:Kept H' H6:=k5'.then (base:=H'.next) (Nat.le_refl _) (h6d.weak fun y hy=>by have:=hf5 y hy;omega);have hO6:=hO'.kept hc.wf k46;have ch6:Chg (fun y=>y=gx∨oo0=some y∨base≤y) H0 H6:=ch.trans k46.chg;have hlO':=(B1g hO'.rows).2.2;have hf6:∀y,b6=some y→H'.next≤y:=fun y hy=>by
    rcases h6e with h1|⟨h1,_⟩
    ·rw[h1]at hy;have:=hf5 y hy;omega
    ·rw[h1]at hy;have:=Option.some.inj hy;omega
   have hS6:SetAt H6 r4 n (B1b E (fun s=>s∈Kl) x):=by
    have hb46:Buf H6 1 r4 (S4.map natC) b4:=(hb4.kept hk4.wf hk5).chg hk5.wf h6d fun y hy hy2=>by have:=hb4.lt hk4.wf y hy;have:=hf5 y hy2;omega
    refine⟨S4,hb46.toSl,hnd4,hlt4,fun t=>?_⟩;rw[hi4];have:(fun t=>∃s,s∈Kl∧A3e E x s t)=fun t=>∃s,s∈Kl∧symE E x s t:=by
     funext t
     apply propext;unfold symE;constructor
     ·rintro⟨s,h1,h2⟩;exact⟨s,h1,(hlsub x hlk).2,h2⟩
     ·rintro⟨s,h1,h2⟩;exact⟨s,h1,h2.2⟩
    rw[this];rfl
   obtain⟨r7,H7,hd7,hc7,zo7,oo7,hO7,hof7⟩:=ih m (Nat.lt_succ_self m) H6 (B1b E (fun s=>s∈Kl) x) r4 w6 (w++[x]) b6 _ zo' oo' ch6 (by have:=k46.next;omega) hS6 (fun a b h1 h2=>.step h1 h2) (by rw[List.map_append];exact h6c) (fun y hy=>⟨by have:=hf6 y hy;have:=hZ gx (.inl rfl);omega,fun hy2=>by have:=hlO' y hc.wf hy2;have:=hf6 y hy;omega⟩) hO6 (fun y hy=>by
    rcases hof y hy with h1|h1
    ·exact hoo y h1
    ·exact .inr (by omega)) (by rw[List.length_take];omega) (by rw[List.length_append,List.length_singleton];omega)
   have c84:=A8b (hk4.grow kn.wf) c8a;have c85:=A8b (k45.grow kn.wf) c8a;have wl:IntKind.wrap .i64 (((m+1:Nat):Int)-1)=(m:Int):=by rw[wrap64 (by omega) (by omega)];omega
   have wi:IntKind.wrap .i64 ((k:Int)+1)=((k+1:Nat):Int):=A2a hi (by omega);have g0:H'.cells ⟨gx,0,some 0⟩ 3=some [.int .i64 0,ev,bv]:=by rw[hO'.cell.cells (by simp)];rfl
   have u4:MadeQ H'.next Ha H4:=mq H4 (hk4.old _ hxa);have u5:MadeQ H'.next Ha H5:=mq H5 (k45.old _ hxa);simp only[↓Sh.dn,sx,Nat.reduceEqDiff,f8,f9,hlen3,A1a,hi,decide_true];refine wp_made (fl:=[(0,[],[],[]),(1,[],[],[]),(2,[],[],[]),(3,[],[],[]),(4,[],[],[]),(5,[],[],[]),(6,[],[],[]),(7,[],[],[]),(8,[],[],[]),(9,[],[],[]),(11,[],[],[]),(13,[],[],[]),(14,[],[],[]),(15,[],[],[]),(16,[],[],[]),(17,[],[],[]),(19,[],[],[]),(20,[],[],[]),(10,[16],[true],[true]),(12,[16],[true],[true]),(18,[],[false],[false]),(21,[],[],[])]) (by kernel_rfl) (by kernel_rfl) (by kernel_rfl) ?_;simp only[↓Sh.dn,sx,reduceCtorEq,Nat.reduceEqDiff,wpm,B62,D1b,B4f,again,isEff,A2e,C3a,forall_eq',f0,f1,f2,f3,f8,f9,i8,c8,wl,hbs,A6a,hHa,g0];refine⟨_,_,hd4,?_⟩;simp only[sx,u4,c84,e5,u5,c85,ha];refine⟨_,_,by first|exact hd7|simpa using hd7,?_⟩;simp only[wi];refine kk _ _ (by repeat (first|refine Same.put ?_ rfl|exact Same.rfl' _)) (by simp only[sx]) ⟨(hc.trans k46.chg).then hc7 fun y hy hlt3=>?_,zo7,oo7,?_,fun y hy=>?_⟩
   ·rcases hy with h1|h1
    ·exact .inl h1
    ·rcases hof y h1 with h2|h2
     ·exact .inr h2
     ·omega
   ·have he : (out ++ (l.take (k + 1)).flatMap fun x => (A7l sigma E ends (B1b E (fun s => s ∈ Kl) x) m).map (fun u => w ++ x :: u)).take (most + 1) = ((out ++ (l.take k).flatMap fun x => (A7l sigma E ends (B1b E (fun s => s ∈ Kl) x) m).map (fun u => w ++ x :: u)).take (most + 1) ++ (A7l sigma E ends (B1b E (fun s => s ∈ Kl) x) m).map (w ++ [x] ++ ·)).take (most + 1) := by
      rw[B4c, htake, List.flatMap_append, ←List.append_assoc]
      congr 2
      simp
    rw[he];exact hO7
   ·rcases hof7 y hy with h1|h1
    ·exact hof y h1
    ·have:=k46.next
     exact .inr (by omega)
  ·rintro F H' hF f9 ⟨hc,zo',oo',hO',hof⟩
   have f8:=hF 8 rfl;simp only[sx,Nat.reduceEqDiff]at f8;rw[List.take_length]at hO';simp only[↓Sh.dn,sx,Nat.reduceEqDiff,f8,f9,hlen3,A1a,Nat.lt_irrefl,decide_false,hres];have hKQ:(fun s=>s∈Kl)=fun s=>Q s∧exE E ends (m+1) s:=funext fun s=>propext (hKm s);have hfl:l=sigma.filter fun x=>A3n l x:=by
    refine C17 hlasc (C8t hasc _) fun x=>?_;rw[List.mem_filter,A3h];exact⟨fun hx=>⟨(hlsub x hx).1,hx⟩,fun h=>h.2⟩
   have he:(A7l sigma E ends Q (m+1)).map (w++·)=l.flatMap fun x=>(A7l sigma E ends (B1b E (fun s=>s∈Kl) x) m).map (fun u=>w++x :: u):=by
    rw[C7c,←hKQ,C9c,List.map_flatMap];rw[←B3g (l:=l) (fun x hx hxl=>by
     rw[B1j,List.map_nil,List.map_nil];intro s hs _;refine hs.of (Q:=fun _=>False) (fun t ⟨s',h1,h2⟩=>hxl ((hlm x).2 ⟨h2.1,s',h1,t,h2.2⟩)) fun _ _ h _=>h),←hfl]
    congr 1
    funext x
    rw[List.map_map];rfl
   rw[he];refine⟨k03.chg.trans hc,zo',oo',hO',fun y hy=>?_⟩;rcases hof y hy with h1|h1
   ·exact .inl h1
   ·exact .inr (by omega)
def AliveP(H:AH)(P:Nat→Prop)(n:Nat)(z:Value)(ob:Option Nat)(Q:Nat→Nat→Prop)(k:Nat):Prop:=
 (∀y,ob=some y→P y)∧∃vals:List Value,Buf H 1 z (vals.map fun x=>[x]) ob∧vals.length=k∧∀(j:Nat) v,vals[j]?=some v→∃(B:List Bool) (o:Option Nat),Buf H 1 v (B.map A6l) o∧(∀y,o=some y→P y∧ob≠some y)∧B.length=n∧∀t:Nat,B[t]?=some true↔Q j t
theorem AliveP.move{H H':AH}{P P':Nat→Prop}{n:Nat}{z:Value}{ob:Option Nat}{Q:Nat→Nat→Prop}{k:Nat}(h:AliveP H P n z ob Q k)(hw:Wf H)(hk:∀y,P y→y<H.next→H'.objs.get y=H.objs.get y)(hP:∀y,P y→y<H.next→P' y):AliveP H' P' n z ob Q k:=by
 obtain⟨h0,vals,h1,h2,h3⟩:=h;refine⟨fun y hy=>hP y (h0 y hy) (h1.lt hw y hy),vals,h1.keep fun y hy=>hk y (h0 y hy) (h1.lt hw y hy),h2,fun j v hv=>?_⟩;obtain⟨B,o,h4,h5,h6⟩:=h3 j v hv;exact⟨B,o,h4.keep fun y hy=>hk y (h5 y hy).1 (h4.lt hw y hy),fun y hy=>⟨hP y (h5 y hy).1 (h4.lt hw y hy),(h5 y hy).2⟩,h6⟩
theorem C6c{H:AH}{P:Nat→Prop}{n:Nat}{z v:Value}{ob o:Option Nat}{Q:Nat→Nat→Prop}{k:Nat}{B:List Bool}(h:AliveP H P n z ob Q k)(hw:Wf H)(hb:∀y,H.next≤y→P y)(hB:Buf H 1 v (B.map A6l) o)(ho:∀y,o=some y→P y∧ob≠some y)(hBl:B.length=n)(hQ:∀t:Nat,B[t]?=some true↔Q k t)(hk:k≤17179869183):
  ∃a cap w' H4 ob',z=.slice a k cap∧A5a Tryz.prog 92 1 [(0,v)] H=some (.slice (some ⟨H.next,0,some 0⟩) 1 1,(H.new 1 [v]).2)∧A4a Tryz.prog .append [92,92] [.slice a k cap,.slice (some ⟨H.next,0,some 0⟩) 1 1] (H.new 1 [v]).2=some (w',H4)∧AliveP H4 P n w' ob' Q (k+1)∧Chg (fun y=>ob=some y) H H4∧∀y,ob'=some y→ob=some y∨H.next≤y:=by
 obtain⟨h0,vals,h1,h2,h3⟩:=h;obtain⟨a,cap,w',H4,ob',e1,e2,e3,e4,e5⟩:=h1.push hw (x:=[v]) rfl;have hv:=hB.isCell;have hbs:=B0k (H:=H) (x:=v) (by rw[A4b hv];rfl) (by rw[A4b hv];simp[hv]);rw[A4b hv]at hbs;rw[List.length_map,h2]at e1 e2;have ha:=C5y (H:=H) (base:=a) (len:=k) (cap:=cap) (x:=[v]) rfl hk;rw[e2]at ha;have hfar:∀y,o=some y→ob'≠some y:=fun y hy hy2=>by
  rcases e5 y hy2 with h4|h4
  ·exact(ho y hy).2 h4
  ·have:=hB.lt hw y hy;omega
 refine⟨a,cap,w',H4,ob',e1,hbs,ha,⟨fun y hy=>?_,vals++[v],by rw[List.map_append];exact e3,by simp[h2],fun j w hj=>?_⟩,e4,e5⟩
 ·rcases e5 y hy with h4|h4
  ·exact h0 y h4
  ·exact hb y h4
 ·rcases Nat.lt_or_ge j vals.length with hj1|hj1
  ·rw[List.getElem?_append_left hj1]at hj
   obtain⟨B',o',k1,k2,k3⟩:=h3 j w hj;refine⟨B',o',k1.chg hw e4 fun y hy hy2=>(k2 y hy).2 hy2,fun y hy=>⟨(k2 y hy).1,fun hy2=>?_⟩,k3⟩;rcases e5 y hy2 with h4|h4
   ·exact(k2 y hy).2 h4
   ·have:=k1.lt hw y hy;omega
  ·rw[List.getElem?_append_right hj1]at hj
   have hj0:j-vals.length=0:=by
    have:=(List.getElem?_eq_some_iff.1 hj).1;simp at this;omega
   have hjk:j=k:=by omega
   rw[hj0]at hj;have:v=w:=by simpa using hj
   subst this hjk;exact⟨B,o,hB.chg hw e4 fun y hy hy2=>(ho y hy).2 hy2,fun y hy=>⟨(ho y hy).1,hfar y hy⟩,hBl,hQ⟩
theorem D9b{H:AH}{P:Nat→Prop}{n:Nat}{z:Value}{ob:Option Nat}{Q:Nat→Nat→Prop}{k j:Nat}(h:AliveP H P n z ob Q k)(hj:j<k):
  ∃p v,A7b Tryz.prog 92 z (.int .i64 (j:Int))=some (.pointer (some p))∧H.cell p=some v∧∃B:List Bool,Sl H v 1 (B.map A6l)∧B.length=n∧∀t:Nat,B[t]?=some true↔Q j t:=by
 obtain⟨h0,vals,h1,h2,h3⟩:=h;have hv:vals[j]?=some (vals[j]'(by rw[h2];exact hj)):=List.getElem?_eq_getElem _;obtain⟨B,o,k1,k2,k3⟩:=h3 j _ hv;obtain⟨p,i1,i2⟩:=Sl.elem (s:=1) Tryz.underlying92 B0e h1.toSl (i:=j) (u:=vals[j]'(by rw[h2];exact hj)) (by rw[List.getElem?_map,hv];rfl);exact⟨p,_,i1,i2,B,k1.toSl,k3⟩
noncomputable def A9i(sigma:List ByteArray)(E:List (List (ByteArray×Nat)))(ends:List Bool)(k:Nat):List (List ByteArray):=(List.range k).flatMap fun m=>A7l sigma E ends (Clo (A3e E A0b) fun s=>s=0) m
theorem B5k(sigma:List ByteArray)(E:List (List (ByteArray×Nat)))(ends:List Bool)(k:Nat):A9i sigma E ends (k+1)=A9i sigma E ends k++A7l sigma E ends (Clo (A3e E A0b) fun s=>s=0) k:=by
 unfold A9i;rw[List.range_succ,List.flatMap_append];simp
theorem C3d(sigma:List ByteArray)(E:List (List (ByteArray×Nat)))(ends:List Bool){i n:Nat}(h:i≤n):∃t,A9i sigma E ends n=A9i sigma E ends i++t:=by
 induction n with
 | zero=>exact⟨[],by rw[show i=0 by omega];simp⟩
 | succ n ih=>
  by_cases hin:i=n+1
  ·exact⟨[],by rw[hin];simp⟩
  obtain⟨t,ht⟩:=ih (by omega);exact⟨t++A7l sigma E ends (Clo (A3e E A0b) fun s=>s=0) n,by rw[B5k,ht,List.append_assoc]⟩
noncomputable def A4h(all:List (List ByteArray))(more:Prop)(most:Nat):List (List ByteArray)×Bool×Bool:=
 if most<all.length then (all.take most,true,false) else if tB more=true then (if all.length<most then ([],false,true) else (all,true,false)) else (all,false,false)
theorem C1c{H:AH}{v ev bv:Value}{vals:List Value}{n most:Nat}{E:List (List (ByteArray×Nat))}{ends:List Bool}{sigma:List ByteArray}(h:RG H v n E ends ev bv vals)(htot:(E.map List.length).sum≤16000000)(hasc:Asc sigma)(hsy:∀x s t,A3e E x s t→x=A0b∨x∈sigma)(hno:A0b∉sigma)(hmost:most≤900)(h1m:1≤most)(hw:Wf H):
  Sh.Call Tryz.prog (knows 7) 22 [v,.int .i64 (most:Int)] H (fun r H'=>Kept H H'∧∃lv,r=.tuple #[lv,.bool (A4h (A9i sigma E ends 61) (A3o (A3e E A0b) (anyE E) (fun s=>ends[s]?=some true) 61 0) most).2.1,.bool (A4h (A9i sigma E ends 61) (A3o (A3e E A0b) (anyE E) (fun s=>ends[s]?=some true) 61 0) most).2.2]∧∃vs,JagR H' lv 1 ((A4h (A9i sigma E ends 61) (A3o (A3e E A0b) (anyE E) (fun s=>ends[s]?=some true) 61 0) most).1.map strRow) vs):=by
 refine A3a rfl Tryz.func22 rfl (Nat.le_of_ble_eq_true rfl) ?_;have hres:Tryz.f22.results.toList=[.tmp 4,.tmp 5,.tmp 6]:=rfl;have hn1:=h.n1;have hn2:=h.n2;have hrb:=RBox.of h hw;have hk1:Kept H (H.new 3 [.int .i64 0,ev,bv]).2:=Kept.new hw 3 _;have hE:=h.ed.sl.isCell;have hB:=h.en.isCell;rw[h.eq];simp only[↓Sh.dn,sx,Nat.reduceEqDiff,B28 hE hB];generalize (H.new 3 [.int .i64 0,ev,bv]).2=H1 at hrb hk1 ⊢;generalize hgb:H.next=gb at hrb ⊢;have hlE:∀H',A4a Tryz.prog .len [57] [ev] H'=some (.int .i64 (n:Int),H'):=fun H'=>by
  rw[h.ed.sl.len Tryz.underlying57,List.length_map,h.ed.len];unfold A9h;rw[List.length_map,h.le]
 have hz:decide ((n:Int)=0)=false:=by simp;omega
 obtain⟨rv,H3,hd3,hk3,R,ot,vs,obs,hJ,hin,hRl,hRr,hRg⟩:=A73 hrb.rg hk1.wf;have hrb3:=hrb.kept hk1.wf hk3;simp only[↓Sh.dn,sx,Nat.reduceEqDiff,hrb.c1,hlE,hz,hrb.ca];refine⟨_,_,hd3,?_⟩;have hs3:=hrb3.rg.en;obtain⟨mv,H4,os,a1,a2,a3,a4⟩:=(Buf.void (H:=H3) (s:=1) none).append hk3.wf (xs:=ends.map A6l) (by intro x hx;obtain⟨b,_,rfl⟩:=List.mem_map.1 hx;rfl);have happ:=app_58 (base:=none) (len:=0) (cap:=0) (hs3.srcKind Tryz.underlying58) hs3.newCells (by rw[List.length_map,h.ln];omega);rw[a1]at happ;have hk4:Kept H3 H4:=a3.kept fun g hg h=>by cases h
 rw[List.nil_append]at a2;have hos:∀y,os=some y→H3.next≤y∧y<H4.next:=by
  intro y hy;rcases a4 with h4|⟨h4,h5⟩
  ·rw[h4]at hy;cases hy
  ·rw[h4]at hy;rw[←Option.some.inj hy];exact⟨Nat.le_refl _,h5⟩
 have hJ4:=hJ.kept hk3.wf hk4;have hJn:=hJ.lt hk3.wf;obtain⟨rr,H5,hd5,hc5,seen,hb5,hsl5,hi5⟩:=B3f (em:=true) (hk3.trans hk4) hJ4 hRl hRr a2 (fun y hy=>by have:=(hos y hy).1;have:=hk3.next;omega) (fun y hy hj=>by have:=hJn y hj;have:=(hos y hy).1;omega) h.ln hn2;have hk35:Kept H3 H5:=hk4.then (Nat.le_refl _) (hc5.weak fun y hy=>(hos y hy).1);have hJ5:=hJ.kept hk3.wf hk35;have hrb5:=hrb3.kept hk3.wf hk35;have hX0:∀t:Nat,seen[t]?=some true↔exE E ends 0 t:=fun t=>by rw[hi5,B2m hRg];rfl
 simp only[sx,hrb3.c2,happ];refine⟨_,_,hd5,?_⟩;have va:∀xs:Array Value,A6a (.agg xs)=xs.toList:=fun _=>rfl;have vi:∀n:Int,A6a (.int .i64 n)=[.int .i64 n]:=fun _=>rfl;have ci:∀n:Int,isCell (.int .i64 n)=true:=fun _=>rfl;have cs:isCell (.slice none 0 0)=true:=rfl;have bl:A3s Tryz.prog 94 [(0,.agg #[.int .i64 0,ev,bv]),(2,.int .i64 (most:Int))]=some (.agg #[.int .i64 0,ev,bv,.slice none 0 0,.int .i64 (most:Int),.slice none 0 0]):=by
  refine A6m (pl:=[(0,3),(3,1),(4,1),(5,1)]) Tryz.underlying94 C9e (by kernel_rfl) ?_;simp[A12,va,vi,ci,hE,hB,setCells,A3c]
 have nl:∀(H:AH),anew Tryz.prog 94 H (.agg #[.int .i64 0,ev,bv,.slice none 0 0,.int .i64 (most:Int),.slice none 0 0])=some (.pointer (some ⟨H.next,0,some 0⟩),(H.new 6 [.int .i64 0,ev,bv,.slice none 0 0,.int .i64 (most:Int),.slice none 0 0]).2):=
  fun H=>A3q C6z rfl (by simp[hE,hB,ci,cs])
 have k6:=Kept.new hc5.wf 6 [.int .i64 0,ev,bv,.slice none 0 0,.int .i64 (most:Int),.slice none 0 0];have o6:=(Sh.Obj.new (H:=H5) 6 [.int .i64 0,ev,bv,.slice none 0 0,.int .i64 (most:Int),.slice none 0 0]).arr;have x6:H5.next<(H5.new 6 [.int .i64 0,ev,bv,.slice none 0 0,.int .i64 (most:Int),.slice none 0 0]).2.next:=Nat.lt_succ_self _;have hrb6:=hrb5.kept hc5.wf k6;simp only[sx,hrb5.ca,bl,nl,hrb6.ca];generalize hgx:H5.next=gx at o6 x6 ⊢;generalize (H5.new 6 [.int .i64 0,ev,bv,.slice none 0 0,.int .i64 (most:Int),.slice none 0 0]).2=H6 at k6 o6 x6 hrb6 ⊢;obtain⟨r7,H7,hd7,hk7,S0,b7,hb7,hf7,hnd7,hlt7,hi7⟩:=refStart hrb6.rg k6.wf;refine⟨_,_,hd7,?_⟩;have hb0:gx<H7.next:=Nat.lt_of_lt_of_le x6 hk7.next;have hk57:=k6.trans hk7;have o7:=o6.keep (hk7.old gx x6);have hQ0:(fun t=>t∈S0)=Clo (A3e E A0b) fun s=>s=0:=funext fun t=>propext (hi7 t);have hk07:=(hk1.trans hk3).trans (hk35.trans hk57);have h67:=hk7.next;have h13:=hk1.next;have h33:=hk3.next;have h35:=hk35.next;have far:∀y,y<H5.next→y≠gx:=fun y hy=>by omega
 have hlL:LisAt H7 (fun y=>H7.next≤y∧(none:Option Nat)≠some y) gx ev bv (.slice none 0 0) most (.slice none 0 0) none []:=⟨o7,RowsB.void _ _,fun h=>by omega⟩
 have hA0:AliveP H7 (fun y=>y≠gx∧(none:Option Nat)≠some y) n (.slice none 0 0) none (exE E ends) 0:=⟨fun y hy=>(by cases hy),[],.void none,rfl,fun j v hj=>by simp at hj⟩
 have f0e:A9i sigma E ends 0=[]:=rfl;have hK5:∀{H'},Chg (fun y=>y=gx∨H7.next≤y) H7 H'→Kept H5 H':=fun hc=>hk57.then (Nat.le_refl _) (hc.weak fun y hy=>by have:=hk57.next;omega);refine A5c 61 11 (List.range' 31 35++[8,11]) (fun i F H'=>Chg (fun y=>y=gx∨H7.next≤y) H7 H'∧(A9i sigma E ends i).length≤most∧∃zm,F.get 8=some zm∧∃(X:List Bool) (om:Option Nat) (xv:Value) (ob:Option Nat) (zo:Value) (oo:Option Nat),Buf H' 1 zm (X.map A6l) om∧(∀y,om=some y→y≠gx∧oo≠some y∧ob≠some y)∧X.length=n∧(∀t:Nat,X[t]?=some true↔exE E ends i t)∧(∀y,ob=some y→H7.next≤y)∧LisAt H' (fun y=>H7.next≤y∧ob≠some y) gx ev bv xv most zo oo (A9i sigma E ends i)∧AliveP H' (fun y=>y≠gx∧oo≠some y) n xv ob (exE E ends) i) (by simp only[sx])
  ⟨Chg.refl hk7.wf,by rw[f0e];exact Nat.zero_le _,mv,by simp only[sx,Nat.reduceEqDiff],seen,os,_,none,_,none,hb5.kept hc5.wf hk57,fun y hy=>⟨far y (by have:=(hos y hy).2;have:=hc5.next;omega),(fun h=>by cases h),fun h=>by cases h⟩,hsl5,hX0,(fun y hy=>by cases hy),hlL,hA0⟩ ?_ ?_
 ·rintro i F H' hi hF f11 ⟨hc,hfl,zm,f8,X,om,xv,ob,zo,oo,hX,hom,hXl,hXi,hob,hL,hA⟩ k
  have g1:=hF 1 rfl;have g7:=hF 7 rfl;have g9:=hF 9 rfl;have g10:=hF 10 rfl;simp only[sx,Nat.reduceEqDiff]at g1 g7 g9 g10;have hgl:=hL.ng;have hcn:=hc.next;have hool:=(B1g hL.rows).2.2;have hoog:∀y,oo=some y→H7.next≤y:=fun y hy=>(hL.rows.ob y hy).1;obtain⟨a,cap,xv2,Ha,ob2,rfl,e1,e2,hA2,hca,hob2⟩:=C6c hA hc.wf (fun y hy=>⟨by omega,fun h=>by have:=hool y hc.wf h;omega⟩) hX (fun y hy=>⟨⟨(hom y hy).1,(hom y hy).2.1⟩,(hom y hy).2.2⟩) hXl hXi (by omega);have hobn:∀y,ob=some y→y≠gx∧oo≠some y:=hA.1;have ca:=hL.cell.keep (hca.old gx (hL.cell.lt hc.wf) fun h=>(hobn gx h).1 rfl);obtain⟨Hb,s1,s2,s3,s4⟩:=ca.write hca.wf (i:=3) (vs:=[xv2]) (by simp);have hx2c:isCell xv2=true:=by
   obtain⟨_,_,hb,_⟩:=hA2;exact hb.isCell
  have st:A0e Tryz.prog 92 Ha xv2 (.pointer (some ⟨gx,3,some 0⟩))=some Hb:=by rw[A0c C3g hx2c];exact s1
  have hcab:Chg (fun y=>ob=some y∨y=gx) H' Hb:=(hca.weak fun y hy=>.inl hy).trans (s4.weak fun y hy=>.inr hy);have hcb:Chg (fun y=>y=gx∨H7.next≤y) H7 Hb:=hc.trans (hcab.weak fun y hy=>by
   rcases hy with h1|h1
   ·exact .inr (hob y h1)
   ·exact .inl h1)
  have hbn:=hcab.next;have hob2l:∀y,ob2=some y→y<Ha.next:=fun y hy=>by
   obtain⟨_,vz,hz1,_⟩:=hA2;exact hz1.lt hca.wf y hy
  have hHa:Ha.next=Hb.next:=s3.symm
  have hLb : LisAt Hb (fun y => H7.next ≤ y ∧ ob2 ≠ some y) gx ev bv xv2 most zo oo (A9i sigma E ends i) := ⟨s2, hL.rows.move hc.wf (fun y hy hyl => hcab.old y hyl fun h => by
      rcases h with h1|h1
      · exact hy.2 h1
      · have := hy.1;omega) (fun y hy hyl => ⟨hy.1, fun h => by
      rcases hob2 y h with h1|h1
      · exact hy.2 h1
      · omega⟩), fun h => by omega⟩
  have hAb:=hA2.move (H':=Hb) (P':=fun y=>y≠gx∧oo≠some y) hca.wf (fun y hy hyl=>s4.old y hyl hy.1) fun y hy _=>hy;have hXb:=hX.chg hc.wf hcab fun y hy h=>by
   rcases h with h1|h1
   ·exact(hom y hy).2.2 h1
   ·exact(hom y hy).1 h1
  have hS0:SetAt Hb r7 n (Clo (A3e E A0b) fun s=>s=0):=⟨S0,(hb7.chg hk7.wf hcb fun y hy h=>by
   have h1:=hf7 y hy;have h2:=hb7.lt hk7.wf y hy;omega).toSl,hnd7,hlt7,hi7⟩
  obtain⟨r8,Hc,hd8,hcc,zo2,oo2,hLc,hof⟩:=refWalk (H0:=Hb) (G:=fun y=>H7.next≤y∧ob2≠some y) (base:=Hb.next) (gx:=gx) (n:=n) (most:=most) (long:=i) (oo0:=oo) (E:=E) (ends:=ends) (sigma:=sigma) (ev:=ev) (bv:=bv) (xv:=xv2) (vals:=vals)
   (fun H8 hc8=>(hrb5.rg.kept hc5.wf ((hK5 hcb).then (Nat.le_refl _) (hc8.weak fun y hy=>by
    have:=(hK5 hcb).next;rcases hy with h1|h1|h1
    ·omega
    ·have:=hoog y h1;omega
    ·omega))))
   (fun H8 hc8 j hj=>D9b (hAb.move (P':=fun _=>True) hcb.wf (fun y hy hyl=>hc8.old y hyl fun h=>by
    rcases h with h1|h1|h1
    ·exact hy.1 h1
    ·exact hy.2 h1
    ·omega) fun _ _ _=>trivial) (by omega))
   htot hasc hsy hno hmost (by omega) (fun y hy=>⟨by omega,fun h=>by have:=hob2l y h;omega⟩) (by omega)
   i Hb (Clo (A3e E A0b) fun s=>s=0) r7 (.slice none 0 0) [] none _ zo oo (Chg.refl hcb.wf) (Nat.le_refl _) hS0 (fun a b h1 h2=>.step h1 h2) (.void none) (fun y hy=>by cases hy) hLb (fun y hy=>.inl hy) (by omega) (by simp)
  have hlist:(A9i sigma E ends i++(A7l sigma E ends (Clo (A3e E A0b) fun s=>s=0) i).map ([]++·)).take (most+1)=(A9i sigma E ends (i+1)).take (most+1):=by
   rw[B5k];simp
  rw[hlist]at hLc;have hcc':Chg (fun y=>y=gx∨H7.next≤y) H7 Hc:=hcb.trans (hcc.weak fun y hy=>by
   rcases hy with h1|h1
   ·exact .inl h1
   ·exact .inr (hoog y h1))
  have hccn:=hcc.next;have c3:=hL.cell.cell 3;have c5:=hLc.cell.cell 5;simp only[List.getElem?_cons_succ,List.getElem?_cons_zero]at c3 c5;have hlO:=C0e hLc.rows;have h60:decide ((i:Int)≤60)=true:=by simp;omega
  simp only[↓Sh.dn,sx,Nat.reduceEqDiff,f11,h60,f8,g9,c3,e1,e2,st,g10];refine⟨_,_,hd8,?_⟩;simp only[sx,c5,hlO,g1,A1a];by_cases hmo:most<(A9i sigma E ends (i+1)).length
  ·have h1:decide (most<((A9i sigma E ends (i+1)).take (most+1)).length)=true:=by rw[decide_eq_true_eq,List.length_take];omega
   obtain⟨vz,hz1,hz2,hz3⟩:=hLc.rows.ex;have hzl:((vz.map fun x=>[x]):List (List Value)).length=most+1:=by rw[List.length_map,hz2,List.length_take];omega
   obtain⟨lv,hcut,hsl⟩:=hz1.cut3 (k:=most) (by omega) (by unfold big;omega) (fun h=>by rw[h]at hzl;simp at hzl);have hcu:=hcut (P:=Tryz.prog) Tryz.underlying30 A6t;obtain⟨tl,htl⟩:=C3d sigma E ends (i:=i+1) (n:=61) (by omega);have ho:A4h (A9i sigma E ends 61) (A3o (A3e E A0b) (anyE E) (fun s=>ends[s]?=some true) 61 0) most=((A9i sigma E ends (i+1)).take most,true,false):=by
    unfold A4h;rw[htl,if_pos (by rw[List.length_append];omega),List.take_append_of_le_length (by omega)]
   simp only[↓Sh.dn,sx,Nat.reduceEqDiff,h1,g9,c5,g1,hcu,hres,ho];refine⟨(hk1.trans (hk3.trans hk35)).trans (hK5 hcc'),lv,rfl,vz.take most,by rw[List.map_take];exact hsl,by rw[List.length_take,List.length_map,List.length_take,hz2,List.length_take];omega,fun j w r hw hr=>?_⟩;rw[List.getElem?_take]at hw;split at hw
   ·rename_i hj
    rw[List.getElem?_map,List.getElem?_take,if_pos hj]at hr;obtain⟨u,hu,rfl⟩:=Option.map_eq_some_iff.1 hr;obtain⟨o,h4,_⟩:=hz3 j w u hw (by rw[List.getElem?_take,if_pos (by omega)];exact hu);exact h4.toSl
   ·cases hw
  ·have h1:decide (most<((A9i sigma E ends (i+1)).take (most+1)).length)=false:=by rw[decide_eq_false_iff_not,List.length_take];omega
   have htk:(A9i sigma E ends (i+1)).take (most+1)=A9i sigma E ends (i+1):=List.take_of_length_le (by omega);rw[htk]at hLc;have hXc:=hXb.chg hcb.wf hcc fun y hy h=>by
    rcases h with h2|h2
    ·exact(hom y hy).1 h2
    ·exact(hom y hy).2.1 h2
   obtain⟨r9,Hd,hd9,hk9,X9,o9,hX9,hX9o,hX9l,hX9i⟩:=B9z (hJ5.kept hc5.wf (hK5 hcc')) hRl hRr hXc.toSl hXl hn1 hn2 hcc.wf;have hool2:=(B1g hLc.rows).2.2;simp only[↓Sh.dn,sx,Nat.reduceEqDiff,h1,g7,f8];refine⟨_,_,hd9,?_⟩;simp only[sx,f11,A2a hi (by omega)];have h7n:=hcb.next;refine k _ _ (by repeat (first|refine Same.put ?_ rfl|exact Same.rfl' _)) (by simp only[sx]) ⟨hcc'.trans hk9.chg,by omega,r9,by simp only[sx,Nat.reduceEqDiff],X9,o9,xv2,ob2,zo2,oo2,hX9,fun y hy=>?_,hX9l,fun t=>?_,fun y hy=>?_,hLc.kept hcc.wf hk9,?_⟩
   ·have h2:=hX9o y hy
    exact⟨by omega,fun h=>by have:=hool2 y hcc.wf h;omega,fun h=>by have:=hob2l y h;omega⟩
   ·rw[hX9i,B1f hRg hXi];rfl
   ·rcases hob2 y hy with h2|h2
    ·exact hob y h2
    ·omega
   ·refine hAb.move hcb.wf (fun y hy hyl=>?_) fun y hy hyl=>⟨hy.1,fun h=>?_⟩
    ·rw[hk9.old y (by omega),hcc.old y hyl fun h=>?_]
     rcases h with h2|h2
     ·exact hy.1 h2
     ·exact hy.2 h2
    ·rcases hof y h with h2|h2
     ·exact hy.2 h2
     ·omega
 ·rintro F H' hF f11 ⟨hc,hfl,zm,f8,X,om,xv,ob,zo,oo,hX,hom,hXl,hXi,hob,hL,hA⟩
  have g1:=hF 1 rfl;have g2:=hF 2 rfl;have g9:=hF 9 rfl;simp only[sx,Nat.reduceEqDiff]at g1 g2 g9;have hrb':=hrb5.kept hc5.wf (hK5 hc);obtain⟨r8,H8,hd8,hk8,rfl⟩:=C51 (m:=61) hrb'.rg (by omega) hc.wf;have hL8:=hL.kept hc.wf hk8;have c5:=hL8.cell.cell 5;simp only[List.getElem?_cons_succ,List.getElem?_cons_zero]at c5;have hlO:=C0e hL8.rows;have h61:decide (((61:Nat):Int)≤60)=false:=rfl;have hkk:=((hk1.trans (hk3.trans hk35)).trans (hK5 hc)).trans hk8;simp only[↓Sh.dn,sx,Nat.reduceEqDiff,f11,h61,g2,hrb'.ca];refine⟨_,_,by exact hd8,?_⟩;have hno':¬(most<(A9i sigma E ends 61).length):=by omega
  cases hlo:tB (A3o (A3e E A0b) (anyE E) (fun s=>ends[s]?=some true) 61 0) with
  | false=>
   have ho:A4h (A9i sigma E ends 61) (A3o (A3e E A0b) (anyE E) (fun s=>ends[s]?=some true) 61 0) most=(A9i sigma E ends 61,false,false):=by
    unfold A4h;rw[if_neg hno',hlo,if_neg (by simp)]
   simp only[↓Sh.dn,sx,Nat.reduceEqDiff,g9,c5,hres,ho];exact⟨hkk,_,rfl,hL8.rows.read⟩
  | true=>
   simp only[↓Sh.dn,sx,Nat.reduceEqDiff,g1,g9,c5,hlO,A1a];by_cases hfew:(A9i sigma E ends 61).length<most
   ·have ho : A4h (A9i sigma E ends 61) (A3o (A3e E A0b) (anyE E) (fun s => ends[s]? = some true) 61 0) most = ([], false, true) := by
      unfold A4h;rw[if_neg hno', hlo, if_pos rfl, if_pos hfew]
    simp only[↓Sh.dn, sx, Nat.reduceEqDiff, hfew, decide_true, hres, ho];exact⟨hkk, _, rfl, [], Sl.nil _ _, rfl, fun i w r hi => by simp at hi⟩
   ·have ho : A4h (A9i sigma E ends 61) (A3o (A3e E A0b) (anyE E) (fun s => ends[s]? = some true) 61 0) most = (A9i sigma E ends 61, true, false) := by
      unfold A4h;rw[if_neg hno', hlo, if_pos rfl, if_neg hfew]
    simp only[↓Sh.dn, sx, Nat.reduceEqDiff, hfew, decide_false, g9, c5, hres, ho];exact⟨hkk, _, rfl, hL8.rows.read⟩
theorem B8a{α:Type}{p q r:α→Bool}(h1:∀a,r a=(p a||q a))(h2:∀a,p a=true→q a=false):∀l:List α,(l.filter p).length+(l.filter q).length=(l.filter r).length
 | []=>rfl
 | a :: l=>by
  have ih:=B8a h1 h2 l;have e:=h1 a;cases hp:p a with
  | true=>
   have hq:=h2 a hp;rw[hp,hq]at e;simp only[List.filter_cons,hp,hq,e,if_true,Bool.or_false,List.length_cons,Bool.false_eq_true,if_false];omega
  | false=>
   cases hq:q a with
   | true=>
    rw[hp,hq]at e;simp only[List.filter_cons,hp,hq,e,if_true,Bool.or_true,List.length_cons,Bool.false_eq_true,if_false];omega
   | false=>
    rw[hp,hq]at e;simp only[List.filter_cons,hp,hq,e,Bool.or_self,Bool.false_eq_true,if_false];exact ih
theorem C2t{α β:Type}{key:α→Int}{f:α→β}{n:Nat}{l:List α}:((rowsOf key f n l).map List.length).sum≤l.length:=by
 have h:∀n:Nat,((List.range n).map fun(s:Nat)=>(l.filter fun a=>decide (key a=(s:Int))).length).sum=(l.filter fun a=>decide (0≤key a∧key a<(n:Int))).length:=by
  intro n
  induction n with
  | zero=>
   have:(l.filter fun a=>decide (0≤key a∧key a<((0:Nat):Int)))=[]:=by
    rw[List.filter_eq_nil_iff];intro a _;simp only[decide_eq_true_eq];omega
   rw[this];rfl
  | succ n ih=>
   rw[List.range_succ,List.map_append,List.sum_append,ih];simp only[List.map_cons,List.map_nil,List.sum_cons,List.sum_nil,Nat.add_zero];refine B8a (fun a=>?_) (fun a ha=>?_) l
   ·rw[Bool.eq_iff_iff,Bool.or_eq_true];simp only[decide_eq_true_eq];omega
   ·simp only[decide_eq_true_eq,decide_eq_false_iff_not]at ha ⊢;omega
 unfold rowsOf;rw[List.map_map];have e:(List.length∘fun(s:Nat)=>(l.filter fun a=>decide (key a=(s:Int))).map f)=fun(s:Nat)=>(l.filter fun a=>decide (key a=(s:Int))).length:=by
  funext s;simp
 rw[e,h];exact List.length_filter_le _ _
theorem C4d(all:List (List ByteArray))(P:Prop)(most:Nat):
  A7i all P most=((A4h all P most).1,(A4h all P most).2.1,if (A4h all P most).2.2=true then 3 else 0)∧((A4h all P most).2.2=true→(A4h all P most).1=[]∧(A4h all P most).2.1=false):=by
 unfold A7i A4h;split
 ·exact⟨rfl,fun h=>by cases h⟩
 ·split
  ·split
   ·exact⟨rfl,fun _=>⟨rfl,rfl⟩⟩
   ·exact⟨rfl,fun h=>by cases h⟩
  ·exact⟨rfl,fun h=>by cases h⟩
theorem B63{H:AH}{v u:Value}{l:List (List ByteArray)}{vs ws:List Value}(hl:JagR H v 1 (l.map strRow) vs)(hm:JagR H u 1 (l.map strRow) ws)(hll:l.length≤1048576)(hx:∀w∈l,w.length≤1048576)(hw:Wf H):
  Sh.Call Tryz.prog (knows 7) 23 [v,u] H (fun r H'=>H'=H∧r=.bool true):=by
 refine A3a rfl Tryz.func23 rfl (Nat.le_of_ble_eq_true rfl) ?_;have hres:Tryz.f23.results.toList=[.tmp 4]:=rfl;have l1:∀H',A4a Tryz.prog .len [30] [v] H'=some (.int .i64 (l.length:Int),H'):=fun H'=>by
  rw[hl.sl.len Tryz.underlying30,List.length_map,hl.len,List.length_map]
 have l2:∀H',A4a Tryz.prog .len [30] [u] H'=some (.int .i64 (l.length:Int),H'):=fun H'=>by
  rw[hm.sl.len Tryz.underlying30,List.length_map,hm.len,List.length_map]
 simp only[↓Sh.dn,sx,reduceCtorEq,Nat.reduceEqDiff,l1,l2,eq_self,decide_true];refine A5c l.length 5 (List.range' 5 22) (fun i F H'=>H'=H) (by simp only[sx]) rfl ?_ ?_
 ·rintro i F H' hi hF f5 rfl k
  have f0:=hF 0 rfl;have f1:=hF 1 rfl;simp only[sx,reduceCtorEq,Nat.reduceEqDiff]at f0 f1;obtain⟨g1,o1,k1,w1,i1,c1,s1⟩:=hl.at Tryz.underlying30 A6t (i:=i) (r:=strRow l[i]) (by rw[List.getElem?_map,List.getElem?_eq_getElem hi];rfl);obtain⟨g2,o2,k2,w2,i2,c2,s2⟩:=hm.at Tryz.underlying30 A6t (i:=i) (r:=strRow l[i]) (by rw[List.getElem?_map,List.getElem?_eq_getElem hi];rfl);have hli:=hx _ (List.getElem_mem hi);obtain⟨r3,H3,hd3,e3,rfl⟩:=refSame (l:=l[i]) (m:=l[i]) s1 s2 hli hli hw;rw[e3]at hd3;have ht:decide (l[i]=l[i])=true:=decide_eq_true rfl;rw[ht]at hd3;simp only[↓Sh.dn,sx,reduceCtorEq,Nat.reduceEqDiff,f0,f5,l1,A1a,hi,decide_true];refine(A9a (by kernel_rfl)).2 ?_;simp only[↓Sh.dn,sx,reduceCtorEq,Nat.reduceEqDiff,f0,f1,f5,i1,c1,i2,c2];refine⟨_,_,hd3,?_⟩;simp only[↓Sh.dn,sx,Nat.reduceEqDiff,f5,wrap_succ hi hll];exact k _ _ (by repeat (first|refine Same.put ?_ rfl|exact Same.rfl' _)) (by simp only[sx]) rfl
 ·rintro F H' hF f5 rfl
  have f0:=hF 0 rfl;simp only[sx,reduceCtorEq]at f0;simp only[↓Sh.dn,sx,reduceCtorEq,Nat.reduceEqDiff,f0,f5,l1,A1a,Nat.lt_irrefl,decide_false,hres]
abbrev GE:=Nat×Int×Int×Int
def geK(e:GE):Value:=.agg (A6c e).toArray
theorem held_ge:Tryz.prog.stoodInHeld 81=false:=by kernel_rfl
theorem geK_eq(a b:GE):eqT Tryz.prog A6g 81 (geK a) (geK b)=some (decide (a=b)):=by
 show eqT Tryz.prog (19+1) _ _ _=_;obtain⟨a0,a1,a2,a3⟩:=a;obtain⟨b0,b1,b2,b3⟩:=b;rw[eqT.eq_def];simp only[geK,A6c,Tryz.underlying81,held_ge,cond_false,eqFields,apart,agg_3,List.getElem?_cons_zero,List.getElem?_cons_succ,Option.bind_some,D0b (d:=18)];have s1:("To" == "_")=false:=rfl;have s2:("In" == "_")=false:=rfl;have s3:("Out" == "_")=false:=rfl;have s4:("Cost" == "_")=false:=rfl;simp only[s1,s2,s3,s4,cond_false];have e0:((a0:Int)=(b0:Int))↔a0=b0:=Int.ofNat_inj;simp only[e0,Prod.mk.injEq];by_cases h0:a0=b0
 ·by_cases h1:a1=b1
  ·by_cases h2:a2=b2
   ·by_cases h3:a3=b3
    ·simp[h0,h1,h2,h3]
    ·simp[h0,h1,h2,h3]
   ·simp[h0,h1,h2]
  ·simp[h0,h1]
 ·simp[h0]
theorem C7w(a:GE):A0p Tryz.prog 81 (geK a)=true:=by
 obtain⟨a0,a1,a2,a3⟩:=a;unfold A0p;rw[Bool.and_eq_true];refine⟨rfl,?_⟩;show keyT Tryz.prog (19+1) _ _=true;rw[keyT.eq_def];simp only[geK,A6c,Tryz.underlying81];have hk:∀n:Int,keyT Tryz.prog 19 3 (.int .i64 n)=true:=fun n=>by
  show keyT Tryz.prog (18+1) _ _=true;rw[keyT.eq_def];simp only[Tryz.underlying3]
 simp only[List.all_cons,List.all_nil,apart,agg_3,List.getElem?_cons_zero,List.getElem?_cons_succ,hk,Bool.or_true,Bool.and_self]
def EMap(H:AH)(g:Nat)(D:List GE):Prop:=MapIs H g geK (D.map fun t=>(t,.bool true))
theorem B0u{α:Type}[DecidableEq α](v:Value)(D:List α)(t:α):A8t (D.map fun t=>(t,v)) t=if t∈D then some v else none:=by
 unfold A8t;by_cases h:t∈D
 ·rw[if_pos h]
  cases hf:(D.map fun t=>(t,v)).find? fun p=>decide (t=p.1) with
  | none=>
   rw[List.find?_eq_none]at hf;have:=hf (t,v) (List.mem_map.2 ⟨t,h,rfl⟩);simp at this
  | some p=>
   have:=List.mem_of_find?_eq_some hf;obtain⟨u,_,rfl⟩:=List.mem_map.1 this;rfl
 ·rw[if_neg h]
  have:(D.map fun t=>(t,v)).find? (fun p=>decide (t=p.1))=none:=by
   rw[List.find?_eq_none];rintro p hp;obtain⟨u,hu,rfl⟩:=List.mem_map.1 hp;simp only[decide_eq_true_eq];rintro rfl;exact h hu
  rw[this];rfl
theorem EMap.look{H:AH}{g:Nat}{D:List GE}(h:EMap H g D)(t:GE):A4s Tryz.prog 115 (.map (some g)) (.agg (A6c t).toArray) false H=some (.bool (decide (t∈D))):=by
 have:=MapIs.look (P:=Tryz.prog) (ok:=false) Tryz.underlying115 B3l C7w geK_eq h t;rw[B0u]at this;unfold geK at this;rw[this];by_cases hd:t∈D<;>simp[hd]
theorem EMap.add{H:AH}{g:Nat}{D:List GE}(h:EMap H g D)(hw:Wf H){t:GE}(ht:t∉D):∃H',A7h Tryz.prog 115 (.map (some g)) (.agg (A6c t).toArray) (.bool true) H=some H'∧EMap H' g (D++[t])∧Chg (fun y=>y=g) H H'∧H'.next=H.next:=by
 obtain⟨H',h1,h2,h3,h4⟩:=MapIs.add (P:=Tryz.prog) Tryz.underlying115 C7w geK_eq h hw (a:=t) (by rw[B0u,if_neg ht]) (.bool true);exact⟨H',h1,by unfold EMap;rw[List.map_append];exact h2,h3,h4⟩
structure NB(H:AH)(base gb:Nat)(cl av ev:Value)(os oa oe:Option Nat)(n:Nat)(sigma:List ByteArray)(arcs:List ArcD)(es:List EndD):Prop where
 bx:Arr H gb 0 4 [cl,.int .i64 (n:Int),av,ev]
 sg:Buf H 1 cl (sigma.map A7a) os
 ar:Buf H 5 av (arcs.map ArcD.cells) oa
 en:Buf H 2 ev (es.map EndD.cells) oe
 b0:base≤gb
 bs:∀y,os=some y→base≤y∧y≠gb
 ba:∀y,oa=some y→base≤y∧y≠gb∧os≠some y
 be:∀y,oe=some y→base≤y∧y≠gb∧os≠some y∧oa≠some y
section
variable {H H':AH} {base gb n:Nat} {cl av ev:Value} {os oa oe:Option Nat} {sigma:List ByteArray} {arcs:List ArcD} {es:List EndD}
theorem NB.chg(h:NB H base gb cl av ev os oa oe n sigma arcs es)(hw:Wf H){X:Nat→Prop}(hc:Chg X H H')(hx:∀y,X y→y≠gb∧os≠some y∧oa≠some y∧oe≠some y):NB H' base gb cl av ev os oa oe n sigma arcs es:=
 { h with
  bx:=h.bx.keep (hc.old gb (h.bx.lt hw) fun hy=>(hx gb hy).1 rfl)
  sg:=h.sg.chg hw hc fun y hy hX=>(hx y hX).2.1 hy
  ar:=h.ar.chg hw hc fun y hy hX=>(hx y hX).2.2.1 hy
  en:=h.en.chg hw hc fun y hy hX=>(hx y hX).2.2.2 hy }
theorem NB.kept(h:NB H base gb cl av ev os oa oe n sigma arcs es)(hw:Wf H)(hk:Kept H H'):NB H' base gb cl av ev os oa oe n sigma arcs es:=h.chg hw (hk.chg (X:=none')) fun y hy=>hy.elim
end
theorem GrX.steady{H:AH}{X Y:Nat→Prop}{g:Nat}{sigma:List ByteArray}{rows:List (List (List Value))}{ends costs:List Int}(h:GrX H Y g sigma rows ends costs)(hw:Wf H)(hd:∀y,Y y→¬X y):
  ∃sv av ev cv vals,∀H',Chg X H H'→GrR H' g sv av ev cv vals sigma rows ends costs:=by
 obtain⟨sv,av,ev,cv,os,ot,oe,oc,vals,obs,h,ho⟩:=h;refine⟨sv,av,ev,cv,vals,fun H' hc=>⟨h.arr.keep (hc.old g (h.arr.lt hw) (hd g (ho g (.inl rfl)))),(h.sg.chg hw hc fun y hy=>hd y (ho y (.inr (.inl hy)))).toSl,(h.jag.chg hw hc fun y hy=>hd y (ho y (.inr (.inr (.inl hy))))).read,(h.en.chg hw hc fun y hy=>hd y (ho y (.inr (.inr (.inr (.inl hy)))))).toSl,(h.co.chg hw hc fun y hy=>hd y (ho y (.inr (.inr (.inr (.inr hy)))))).toSl⟩⟩
theorem GrX.setEC{H:AH}{X:Nat→Prop}{g:Nat}{sigma:List ByteArray}{rows:List (List (List Value))}{ends costs:List Int}{s:Nat}(h:GrX H X g sigma rows ends costs)(hw:Wf H)(hs:s<ends.length)(hs':s<costs.length)(x y:Int):
  ∃ev cv p1 p2 H1 H2,H.cell ⟨g,2,some 0⟩=some ev∧H.cell ⟨g,3,some 0⟩=some cv∧H1.cell ⟨g,3,some 0⟩=some cv∧veq cv cv=true∧A7b Tryz.prog 71 ev (.int .i64 (s:Int))=some (.pointer (some p1))∧A7b Tryz.prog 71 cv (.int .i64 (s:Int))=some (.pointer (some p2))∧
   A0e Tryz.prog 3 H (.int .i64 x) (.pointer (some p1))=some H1∧A0e Tryz.prog 3 H1 (.int .i64 y) (.pointer (some p2))=some H2∧Chg X H H1∧Chg X H H2∧GrX H2 X g sigma rows (ends.set s x) (costs.set s y):=by
 obtain⟨sv,av,ev,cv,os,ot,oe,oc,vals,obs,h,ho⟩:=h;obtain⟨p1,H1,i1,e1,b1,c1,n1⟩:=Buf.set (P:=Tryz.prog) h.en hw (i:=s) (x:=intC x) (by simpa using hs) rfl;have hco1:=h.co.chg hw c1 fun y hy hye=>h.ec y hye hy;obtain⟨p2,H2,i2,e2,b2,c2,n2⟩:=Buf.set (P:=Tryz.prog) hco1 c1.wf (i:=s) (x:=intC y) (by simpa using hs') rfl;have a1:=h.arr.keep (c1.old g (h.arr.lt hw) h.ge);have hX1:Chg X H H1:=c1.weak fun y hy=>ho y (.inr (.inr (.inr (.inl hy))));have hX2:Chg X H1 H2:=c2.weak fun y hy=>ho y (.inr (.inr (.inr (.inr hy))));have c12:Chg (fun y=>oe=some y∨oc=some y) H H2:=(c1.weak fun y hy=>.inl hy).trans (c2.weak fun y hy=>.inr hy);refine⟨ev,cv,p1,p2,H1,H2,h.arr.cell 2,h.arr.cell 3,a1.cell 3,h.co.toSl.veq,i1 Tryz.underlying71 A2c,i2 Tryz.underlying71 A2c,by rw[A0c A2c rfl];exact e1,by rw[A0c A2c rfl];exact e2,hX1,hX1.trans hX2,sv,av,ev,cv,os,ot,oe,oc,vals,obs,{ h with arr:=h.arr.keep (c12.old g (h.arr.lt hw) ?_),sg:=h.sg.chg hw c12 ?_,jag:=h.jag.chg hw c12 ?_,en:=?_,co:=?_ },ho⟩
 ·rintro(hy|hy)
  ·exact h.ge hy
  ·exact h.gc hy
 ·rintro y hy (hy2|hy2)
  ·exact h.se y hy hy2
  ·exact h.sc y hy hy2
 ·rintro y hy (hy2|hy2)
  ·exact h.je y hy2 hy
  ·exact h.jc y hy2 hy
 ·rw[List.map_set];exact b1.chg c1.wf c2 fun y hy hyc=>h.ec y hy hyc
 ·rw[List.map_set];exact b2
theorem isNaNStr{H:AH}{x:ByteArray}:Sh.Call Tryz.prog (knows 7) 118 [.string x] H (fun r H'=>H'=H∧r=.bool false):=by
 refine A3a rfl Tryz.func118 rfl (Nat.le_of_ble_eq_true rfl) ?_;have hres:Tryz.f118.results.toList=[.tmp 2]:=rfl;simp only[↓Sh.dn,sx,reduceCtorEq,Nat.reduceEqDiff,hres,decide_true]
theorem B2b{H:AH}{v:Value}{x:ByteArray}{l:List ByteArray}(hs:Sl H v 1 (l.map A7a))(ha:Asc l)(hl:l.length≤1048576):
  Sh.Call Tryz.prog (knows 7) 94 [v,.string x] H (fun r H'=>H'=H∧∃k:Nat,r=.tuple #[.int .i64 (k:Int),.bool (A3n l x)]∧k≤l.length∧(l[k]?=some x↔x∈l)):=by
 refine A3a rfl Tryz.func94 rfl (Nat.le_of_ble_eq_true rfl) ?_;have hres:Tryz.f94.results.toList=[.tmp 4,.tmp 5]:=rfl;have hlen:=hs.len Tryz.underlying22 H;simp only[↓Sh.dn,sx,reduceCtorEq,Nat.reduceEqDiff,hlen,List.length_map];refine A5b (fun m F H'=>H'=H∧∃a b:Nat,m=b-a∧a≤b∧b≤l.length∧F.get 7=some (.int .i64 (a:Int))∧F.get 8=some (.int .i64 (b:Int))∧F.get 0=some v∧F.get 1=some (.string x)∧F.get 6=some (.int .i64 (l.length:Int))∧
  (∀(i:Nat) y,i<a→l[i]?=some y→A3b y x=true)∧(∀(i:Nat) y,b≤i→l[i]?=some y→A3b y x=false)) (m:=l.length)
  ⟨rfl,0,l.length,by omega,by omega,by omega,by simp only[sx,Nat.reduceEqDiff];rfl,by simp only[sx],by simp only[sx,reduceCtorEq],by simp only[sx,Nat.reduceEqDiff],by simp only[sx,Nat.reduceEqDiff],fun i y h=>by omega,fun i y h1 h2=>by have:=(List.getElem?_eq_some_iff.1 h2).1;omega⟩ ?_
 rintro m F H' ⟨rfl,a,b,rfl,hab,hbn,f7,f8,f0,f1,f6,hlo,hhi⟩ k;by_cases hlt:a<b
 ·have hm:(a+b)/2<l.length:=by omega
  have hw2:IntKind.wrap .i64 (((a+b)/2:Nat):Int)=(((a+b)/2:Nat):Int):=wrap64 (by omega) (by omega);obtain⟨g,o,kk,hia,hc,hcc⟩:=hs.at Tryz.underlying22 A4i (i:=(a+b)/2) (x:=A7a l[(a+b)/2]) (by simp[hm]) .i64;have hy:=hcc 0 _ rfl;simp only[Nat.add_zero]at hy;obtain⟨r,H1,hd,rfl,rfl⟩:=B0t (H:=H') (x:=l[(a+b)/2]) (y:=x);have hget:l[(a+b)/2]?=some l[(a+b)/2]:=List.getElem?_eq_getElem hm;simp only[↓Sh.dn,sx,reduceCtorEq,Nat.reduceEqDiff,f0,f1,f7,f8,A1a,hlt,decide_true,C4u,half a b (by omega),hw2,hia,hy,reduceCtorEq];refine⟨_,_,hd,?_⟩;cases hpv:A3b l[(a+b)/2] x with
  | true=>
   have hw3:IntKind.wrap .i64 ((((a+b)/2:Nat):Int)+1)=(((a+b)/2+1:Nat):Int):=wrap_succ (n:=l.length) (by omega) hl;simp only[↓Sh.dn,sx,Nat.reduceEqDiff,hw3];refine k (b-((a+b)/2+1)) _ _ (by omega) ⟨rfl,(a+b)/2+1,b,rfl,by omega,hbn,by simp only[sx],by simp only[sx,Nat.reduceEqDiff,f8],by simp only[sx,reduceCtorEq,f0],by simp only[sx,Nat.reduceEqDiff,f1],by simp only[sx,Nat.reduceEqDiff,f6],fun i y hi hy=>?_,hhi⟩;by_cases he:i=(a+b)/2
   ·subst he;rw[hget]at hy;rw[←Option.some.inj hy];exact hpv
   ·exact A4o (ha _ _ _ _ (by omega) hy hget) hpv
  | false=>
   simp only[↓Sh.dn,sx,Nat.reduceEqDiff];refine k ((a+b)/2-a) _ _ (by omega) ⟨rfl,a,(a+b)/2,rfl,by omega,by omega,by simp only[sx,Nat.reduceEqDiff,f7],by simp only[sx],by simp only[sx,reduceCtorEq,f0],by simp only[sx,Nat.reduceEqDiff,f1],by simp only[sx,Nat.reduceEqDiff,f6],hlo,fun i y h1 hy=>?_⟩;by_cases he:i=(a+b)/2
   ·subst he;rw[hget]at hy;rw[←Option.some.inj hy];exact hpv
   ·cases hlt2:A3b y x with
    | false=>rfl
    | true=>rw[A4o (ha _ _ _ _ (by omega) hget hy) hlt2]at hpv;cases hpv
 ·have hab':a=b:=by omega
  subst hab';have hp:=B26 ha x hlo hhi;by_cases hla:a<l.length
  ·obtain⟨g,o,kk,hia,hc,hcc⟩:=hs.at Tryz.underlying22 A4i (i:=a) (x:=A7a l[a]) (by simp[hla]) .i64
   have hy:=hcc 0 _ rfl;simp only[Nat.add_zero]at hy;have hget:l[a]?=some l[a]:=List.getElem?_eq_getElem hla;by_cases hex:l[a]=x
   ·have hin:A3n l x=true:=A3h.2 (hp.1 (by rw[hget,hex]))
    simp only[↓Sh.dn,sx,reduceCtorEq,Nat.reduceEqDiff,f0,f1,f6,f7,f8,A1a,hlt,hla,hia,hy,hex,decide_true,decide_false,hres,hin,reduceCtorEq];exact⟨a,rfl,hbn,hp⟩
   ·have hin : A3n l x = false := by
      cases h : A3n l x with
      | false => rfl
      | true => have := hp.2 (A3h.1 h);rw[hget]at this;exact absurd (Option.some.inj this) hex
    obtain⟨r, H1, hd, rfl, rfl⟩ := isNaNStr (H := H') (x := l[a]);simp only[↓Sh.dn, sx, reduceCtorEq, Nat.reduceEqDiff, f0, f1, f6, f7, f8, A1a, hlt, hla, hia, hy, hex, decide_true, decide_false, hres, hin, reduceCtorEq];refine⟨_, _, hd, ?_⟩;simp only[↓Sh.dn, sx, Nat.reduceEqDiff];exact⟨a, rfl, hbn, hp⟩
  ·have hin : A3n l x = false := by
     cases h : A3n l x with
     | false => rfl
     | true => have := hp.2 (A3h.1 h);rw[List.getElem?_eq_none (by omega)]at this;cases this
   simp only[↓Sh.dn, sx, Nat.reduceEqDiff, f6, f7, f8, A1a, hlt, hla, decide_false, hres, hin];exact⟨a, rfl, hbn, hp⟩
theorem place{H:AH}{v:Value}{x:ByteArray}{l:List ByteArray}(hs:Sl H v 1 (l.map A7a))(ha:Asc l)(hl:l.length≤1048576):
  Sh.Call Tryz.prog (knows 7) 64 [v,.string x] H (fun r H'=>H'=H∧r=.int .i64 (A0m l x)):=by
 refine A3a rfl Tryz.func64 rfl (Nat.le_of_ble_eq_true rfl) ?_;have hres:Tryz.f64.results.toList=[.tmp 4]:=rfl;obtain⟨r,H1,hd,rfl,k,rfl,_,hk⟩:=B2b (x:=x) hs ha hl;simp only[↓Sh.dn,sx,reduceCtorEq,Nat.reduceEqDiff];refine⟨_,_,hd,?_⟩;cases hin:A3n l x with
 | true=>
  have:=A80 ha (hk.2 (A3h.1 hin));simp only[↓Sh.dn,sx,Nat.reduceEqDiff,hres,this]
 | false=>
  have:=B9r (l:=l) (x:=x) (fun h=>by rw[A3h.2 h]at hin;cases hin);simp only[↓Sh.dn,sx,hres,this]
theorem B2j{l:List ByteArray}{x:ByteArray}(ha:Asc l):decide (A0m l x<0)=!A3n l x:=by
 cases hin:A3n l x with
 | true=>
  obtain⟨k,hk⟩:=List.mem_iff_getElem?.1 (A3h.1 hin);rw[A80 ha hk];simp
 | false=>
  rw[B9r (fun h=>by rw[A3h.2 h]at hin;cases hin)];rfl
def C3j(l:List ByteArray)(s:ByteArray):List Value:=[.int .i64 (A0m l s)]
theorem C83{H:AH}{v u:Value}{l w:List ByteArray}(hs:Sl H v 1 (l.map A7a))(ha:Asc l)(hl:l.length≤1048576)(hu:Sl H u 1 (w.map A7a))(hlw:w.length≤1048576)(hw:Wf H):
  Sh.Call Tryz.prog (knows 7) 33 [v,u] H (fun r H'=>Kept H H'∧∃z,r=.tuple #[z,.bool (w.all (A3n l))]∧(w.all (A3n l)=true→∃b,Buf H' 1 z (w.map (C3j l)) b∧∀g,b=some g→H.next≤g)):=by
 refine A3a rfl Tryz.func33 rfl (Nat.le_of_ble_eq_true rfl) ?_;have hres:Tryz.f33.results.toList=[.tmp 4,.tmp 5]:=rfl;have hlen:=hu.len Tryz.underlying22;rw[List.length_map]at hlen;have hmk:=mk_71 (H:=H) (l:=0) (c:=w.length) (Nat.zero_le _) (by omega);have hk1:Kept H (H.new 1 (List.replicate w.length (.int .i64 0))).2:=Kept.new hw 1 _;have hb1:=Buf.room hw (.int .i64 0) (c:=w.length) (by omega);have e0:((0:Nat):Int)=0:=rfl;rw[e0]at hmk;simp only[↓Sh.dn,sx,Nat.reduceEqDiff,hlen,hmk];have hfar:∀g,(if w.length=0 then none else some H.next)=some g→H.next≤g:=by
  intro g h;split at h
  ·cases h
  ·injection h with h;omega
 generalize (H.new 1 (List.replicate w.length (.int .i64 0))).2=H1 at hk1 hb1 ⊢;refine A5c w.length 15 (List.range' 15 14++[6,8,9]) (fun i F H'=>Kept H H'∧(w.take i).all (A3n l)=true∧∃z b,F.get 6=some z∧Buf H' 1 z ((w.take i).map (C3j l)) b∧∀g,b=some g→H.next≤g) (by simp only[sx]) ⟨hk1,rfl,.slice (some ⟨H.next,0,some 0⟩) 0 w.length,_,by simp only[sx,Nat.reduceEqDiff],by simpa using hb1,hfar⟩ ?_ ?_
 ·rintro i F H' hlt hF f15 ⟨hk,hall,z,b,f6,hb,hbf⟩ k
  have f0:=hF 0 rfl;have f13:=hF 13 rfl;have f14:=hF 14 rfl;simp only[sx,reduceCtorEq,Nat.reduceEqDiff]at f0 f13 f14;have hs':=hs.grow (hk.grow hw);have hu':=hu.grow (hk.grow hw);obtain⟨g,o,kk,hia,hc,hcc⟩:=hu'.at Tryz.underlying22 A4i (i:=i) (x:=A7a w[i]) (by simp[hlt]) .i64;have hy:=hcc 0 _ rfl;simp only[Nat.add_zero]at hy;have htake:w.take (i+1)=w.take i++[w[i]]:=by rw[List.take_add_one,List.getElem?_eq_getElem hlt];rfl
  obtain⟨r,H2,hd,rfl,rfl⟩:=place (x:=w[i]) hs' ha hl;simp only[↓Sh.dn,sx,reduceCtorEq,Nat.reduceEqDiff,f0,f13,f14,f15,A1a,hlt,decide_true,hia,hy];refine⟨_,_,hd,?_⟩;cases hin:A3n l w[i] with
  | false=>
   have hno:w.all (A3n l)=false:=List.all_eq_false.2 ⟨_,List.getElem_mem hlt,by rw[hin];simp⟩;simp only[↓Sh.dn,sx,Nat.reduceEqDiff,B2j ha,hin,hres,hno];exact⟨hk,_,rfl⟩
  | true=>
   obtain⟨a,cap,rfl⟩:=hb.shape;have hk3:=hk.news 1 [.int .i64 (A0m l w[i])];have hb3:=hb.kept hk.wf (Kept.new hk.wf 1 [.int .i64 (A0m l w[i])]);have hbld:=A4p (H:=H2) (x:=.int .i64 (A0m l w[i])) rfl rfl;have hnew:Sl (H2.new 1 [.int .i64 (A0m l w[i])]).2 (.slice (some ⟨H2.next,0,some 0⟩) 1 1) 1 [[.int .i64 (A0m l w[i])]]:=
    (Buf.fresh (H:=H2) (s:=1) (xs:=[[.int .i64 (A0m l w[i])]]) hk.wf (by simp) (by simp) 1 rfl).toSl
   have happ:=app_71 (H:=(H2.new 1 [.int .i64 (A0m l w[i])]).2) (base:=a) (len:=((w.take i).map (C3j l)).length) (cap:=cap) (hnew.srcKind Tryz.underlying71) hnew.newCells (by simp;omega);obtain⟨z',H4,b',e1,e2,e3,e4⟩:=hb3.append hk3.wf (xs:=[[.int .i64 (A0m l w[i])]]) (by simp);rw[e1]at happ
   have hk4 : Kept H H4 := ⟨fun y hy => by
       rw[e3.old y (Nat.lt_of_lt_of_le hy hk3.next) (fun hyb => by have := hbf y hyb;omega)];exact hk3.old y hy, Nat.le_trans hk3.next e3.next, e3.wf⟩
   simp only[↓Sh.dn,sx,Nat.reduceEqDiff,B2j ha,hin,f6,f15,hbld,A6a,happ,wrap_succ hlt hlw];refine k _ _ (by repeat (first|refine Same.put ?_ rfl|exact Same.rfl' _)) (by simp only[sx]) ⟨hk4,?_,z',b',by simp only[sx,Nat.reduceEqDiff],?_,fun g hg=>?_⟩
   ·rw[htake,List.all_append,hall];simp[hin]
   ·rw[htake,List.map_append];exact e2
   ·rcases e4 with h4|⟨h4,_⟩
    ·exact hbf g (by rw[←h4,hg])
    ·rw[h4]at hg;injection hg with hg
     have:=hk3.next;omega
 ·rintro F H' hF f15 ⟨hk,hall,z,b,f6,hb,hbf⟩
  have f14:=hF 14 rfl;simp only[sx,Nat.reduceEqDiff]at f14;rw[List.take_length]at hall hb;simp only[↓Sh.dn,sx,Nat.reduceEqDiff,f14,f15,f6,A1a,Nat.lt_irrefl,decide_false,hres,hall];exact⟨hk,z,rfl,b,hb,hbf⟩
theorem graphOf{H:AH}{v:Value}{N:NetD}(h:A8v H v N)(hok:A1q N)(hsm:A3g N)(hw:Wf H):
  Sh.Call Tryz.prog (knows 7) 29 [v] H (fun r H'=>Kept H H'∧∃g,r=.pointer (some ⟨g,0,some 0⟩)∧∃base,H.next≤base∧Gr H' base g N.sigma (B0h N N.arcs) (A8j N N.ends) (A5l N N.ends)):=by
 refine A3a rfl Tryz.func29 rfl (Nat.le_of_ble_eq_true rfl) ?_;have hres:Tryz.f29.results.toList=[.tmp 2]:=rfl;obtain⟨sg,ar,en,rfl,hsg,har,hen⟩:=h;have hb1:=NetBox.of (N:=N) hw hsg har hen;have hk1:Kept H (H.new 4 [sg,.int .i64 N.states,ar,en]).2:=Kept.new hw 4 _;have h1:=hok.st1;have h2:=hok.st2;obtain⟨n,hn⟩:∃n:Nat,N.states=(n:Int):=⟨N.states.toNat,by omega⟩
 have hnn:N.states.toNat=n:=by omega
 simp only[↓Sh.dn,sx,Nat.reduceEqDiff,A3u hsg.isCell har.isCell hen.isCell];have hnx:H.next<(H.new 4 [sg,.int .i64 N.states,ar,en]).2.next:=Nat.lt_succ_self _;generalize H.next=gg at hb1 hnx ⊢;generalize (H.new 4 [sg,.int .i64 N.states,ar,en]).2=H1 at hb1 hk1 hnx ⊢;obtain⟨r,H2,hd2,hk2,g,rfl,hgr⟩:=A56 (n:=n) hb1.hsg (by simpa using hsm.sg) (by omega) hk1.wf;simp only[sx,hb1.c0,hb1.c1,hn];refine⟨_,_,hd2,?_⟩;have hb2:=hb1.kept hk1.wf hk2;simp only[sx,hb2.c2,A2o hb2];have hz:∀f:List Int→Int,f []=0→(rowsOf EndD.state EndD.cost N.states.toNat []).map f=List.replicate n 0:=by
  intro f hf;rw[A04,hnn,List.map_replicate,hf]
 refine A5c N.arcs.length 16 (List.range' 16 37++[5]) (fun i F H'=>Kept H1 H'∧Gr H' H1.next g N.sigma (B0h N (N.arcs.take i)) (A8j N []) (A5l N [])) (by simp only[sx]) ⟨hk2,by
  rw[List.take_zero];unfold B0h A8j A5l;rw[A04,hz _ rfl,hz _ rfl,hnn];exact hgr⟩ ?_ ?_
 ·rintro i F H' hlt hF f16 ⟨hk,hg⟩ k
  have f1:=hF 1 rfl;have f3:=hF 3 rfl;have f14:=hF 14 rfl;have f15:=hF 15 rfl;simp only[sx,Nat.reduceEqDiff]at f1 f3 f14 f15;have hb':=hb1.kept hk1.wf hk;obtain⟨q,o,kk,hia,hc,hcc⟩:=hb'.har.at Tryz.underlying23 A7q (i:=i) (x:=N.arcs[i].cells) (by simp[hlt]) .i64;clear hcc;have htake:N.arcs.take (i+1)=N.arcs.take i++[N.arcs[i]]:=by rw[List.take_add_one,List.getElem?_eq_getElem hlt];rfl
  obtain⟨k0,k1,k2,k3,k4,k5⟩:=hok.arc _ (List.getElem_mem hlt);have hb3:=hb'.new hk.wf 5 (N.arcs[i].cells);have hk3:=hk.news 5 (N.arcs[i].cells);generalize N.arcs[i]=a at hb3 hk3 hc htake k0 k1 k2 k3 k4 k5;obtain⟨s,hs⟩:∃s:Nat,a.fr=(s:Int):=⟨a.fr.toNat,by omega⟩
  have hsn:s<N.states.toNat:=by omega
  obtain⟨r1,K1,hd1,rfl,rfl⟩:=place (x:=a.inn) hb3.hsg hok.asc hsm.sg;obtain⟨r2,K2,hd2,rfl,rfl⟩:=place (x:=a.out) hb3.hsg hok.asc hsm.sg;have hrow:=A8h (key:=ArcD.fr) (f:=C1a N.sigma) (l:=N.arcs.take i) hsn;have hrl:=B2k hrow;have hsmA:=hsm.ar;have htl:(N.arcs.take i).length≤1048576:=by rw[List.length_take];omega
  obtain⟨sv,av,ev,cv,os,ot,oe,oc,vals,obs,hG0⟩:=hg;have hG:=hG0.chg hk.wf ((Kept.new hk.wf 5 a.cells).chg (X:=none')) fun _ _ h=>h;have hnj:¬JIn ot obs H'.next:=fun h=>by have:=hG0.jag.lt hk.wf _ h;omega
  have hn:=hG.arr.cell 1;obtain⟨ba,cap,w',H4,H5,o',p,e1,e2,e3,e4,e5,e6,e7,e8,e9⟩:=hG.jag.pushAt Tryz.underlying101 A2v hk3.wf hrow (x:=C1a N.sigma a) rfl;rw[←hs]at e2;have bl:=bld_81 (v0:=.int .i64 a.to) (v1:=.int .i64 (A0m N.sigma a.inn)) (v2:=.int .i64 (A0m N.sigma a.out)) (v3:=.int .i64 a.cost) rfl rfl rfl rfl;have hbs:=B7s (H:=(H'.new 5 a.cells).2) (x:=.agg (C1a N.sigma a).toArray) rfl rfl;have ha:=C9k (H:=(H'.new 5 a.cells).2) (base:=ba) (len:=_) (cap:=cap) (x:=C1a N.sigma a) rfl (Nat.le_trans hrl (by omega));rw[e1]at ha;have hn4:=(hG.arr.keep (e7.old g (hG.arr.lt hk3.wf) hG.gj)).cell 1;have c4:=((Obj.new (H:=H') 5 a.cells).arr.keep (e7.old H'.next (Nat.lt_succ_self _) hnj)).cell 0;have c4':(a.cells)[0]?=some (.int .i64 a.fr):=rfl;rw[c4']at c4;have st:A0e Tryz.prog 111 H4 w' (.pointer (some p))=some H5:=by rw[A0c A2v e8,e4]
  have va:∀xs:Array Value,A6a (.agg xs)=xs.toList:=fun _=>rfl;have hav:=hG.jag.top.veq;simp only[va]at hbs;obtain⟨z1,z2⟩:=GrB.arced hG hk3.wf e6 e5 e9;simp only[↓Sh.dn,sx,Nat.reduceEqDiff,A18,A51,A67,f14,f15,f16,A1a,hlt,decide_true,hia,hc];refine A1u (fl:=[(0,[]),(1,[]),(2,[]),(3,[]),(4,[]),(5,[]),(6,[]),(7,[]),(8,[]),(9,[]),(10,[]),(11,[]),(12,[]),(13,[]),(14,[]),(15,[]),(16,[]),(17,[]),(18,[]),(19,[]),(21,[]),(22,[]),(23,[]),(24,[]),(26,[]),(27,[]),(20,[27,24,22,15,13,11,9,5,3]),(25,[27,15,13,11,9,5,3]),(28,[]),(29,[]),(30,[5,3]),(31,[]),(32,[])]) (by kernel_rfl) (by kernel_rfl) (by kernel_rfl) ?_;simp only[↓Sh.dn,sx,Nat.reduceEqDiff,wpr,again,A2e,A9q,C3a,A4u,forall_eq',hb3.c0,arc0,arc1,arc2,arc3,arc4,f1,f3,hn,e2,e3];refine⟨_,_,hd1,?_⟩;simp only[sx,hb3.c0,arc0,arc2,arc3,arc4,hn,e3,hav,hsg.veq];refine⟨_,_,hd2,?_⟩;have bl':A3s Tryz.prog 81 [(0,.int .i64 a.to),(1,.int .i64 (A0m N.sigma a.inn)),(2,.int .i64 (A0m N.sigma a.out)),(3,.int .i64 a.cost)]=some (.agg (C1a N.sigma a).toArray):=bl;simp only[sx,arc0,arc3,arc4,hn,e3,bl',hbs,ha,hn4,st,c4,f16,wrap_succ hlt hsm.ar];refine k _ _ (by repeat (first|refine Same.put ?_ rfl|exact Same.rfl' _)) (by simp only[sx]) ⟨hk3.then (Nat.le_refl _) z1,?_⟩;rw[htake];unfold B0h;rw[A9x hsn hs];exact z2
 ·rintro F H' hF f16 ⟨hk,hg⟩
  have f1:=hF 1 rfl;have f3:=hF 3 rfl;have f15:=hF 15 rfl;simp only[sx,Nat.reduceEqDiff]at f1 f3 f15;rw[List.take_length]at hg;have hb':=hb1.kept hk1.wf hk;simp only[↓Sh.dn,sx,Nat.reduceEqDiff,hb'.c3,A4t hb',f1,f15,f16,A1a,Nat.lt_irrefl,decide_false];refine A5c N.ends.length 56 (List.range' 56 11++[7]) (fun i F H'=>Kept H1 H'∧Gr H' H1.next g N.sigma (B0h N N.arcs) (A8j N (N.ends.take i)) (A5l N (N.ends.take i))) (by simp only[sx]) ⟨hk,hg⟩ ?_ ?_
  ·rintro i F' H' hlt hF' f56 ⟨hk,hg⟩ k
   have g1:=hF' 1 rfl;have g3:=hF' 3 rfl;have f54:=hF' 54 rfl;have f55:=hF' 55 rfl;simp only[sx,Nat.reduceEqDiff,f1,f3]at g1 g3 f54 f55;have hb':=hb1.kept hk1.wf hk;obtain⟨q,o,kk,hia,hc,hcc⟩:=hb'.hen.at Tryz.underlying24 A7v (i:=i) (x:=N.ends[i].cells) (by simp[hlt]) .i64;clear hcc;have htake:N.ends.take (i+1)=N.ends.take i++[N.ends[i]]:=by rw[List.take_add_one,List.getElem?_eq_getElem hlt];rfl
   obtain⟨k0,k1⟩:=hok.fin _ (List.getElem_mem hlt);have hk3:=hk.news 2 (N.ends[i].cells);have hg3:=hg.kept hk.wf (Kept.new hk.wf 2 (N.ends[i].cells));generalize N.ends[i]=e at hk3 hg3 hc htake k0 k1;obtain⟨s,hs⟩:∃s:Nat,e.state=(s:Int):=⟨e.state.toNat,by omega⟩
   have hsn:s<N.states.toNat:=by omega
   have hrow:=A8h (key:=EndD.state) (f:=EndD.cost) (l:=N.ends.take i) hsn;have hrl:=B2k hrow;have htl:(N.ends.take i).length≤60000:=by rw[List.length_take];have:=hok.en;omega
   have l1:s<(A8j N (N.ends.take i)).length:=by unfold A8j;rw[List.length_map,A7e];exact hsn
   have l2:s<(A5l N (N.ends.take i)).length:=by unfold A5l;rw[List.length_map,A7e];exact hsn
   have v1:(A8j N (N.ends.take i))[s]=((((N.ends.take i).filter fun a=>decide (a.state=(s:Int))).map EndD.cost).length:Int):=by
    apply Option.some.inj;rw[←List.getElem?_eq_getElem l1];unfold A8j;rw[List.getElem?_map,hrow];rfl
   have v2:(A5l N (N.ends.take i))[s]=leastOf (((N.ends.take i).filter fun a=>decide (a.state=(s:Int))).map EndD.cost):=by
    apply Option.some.inj;rw[←List.getElem?_eq_getElem l2];unfold A5l;rw[List.getElem?_map,hrow];rfl
   obtain⟨r,H5,hd5,hc5,hg5⟩:=grEnd (x:=e.cost) hg3 l1 l2 hk3.wf (by rw[v1];omega) (by rw[v1];omega);rw[v1,v2]at hg5;rw[←hs]at hd5;simp only[↓Sh.dn,sx,Nat.reduceEqDiff,C9a,B2w,C0d,end0,end1,g3,f54,f55,f56,A1a,hlt,decide_true,hia,hc];refine⟨_,_,hd5,?_⟩;have hen:=hsm.en;simp only[wrap_succ hlt hen];refine k _ _ (by repeat (first|refine Same.put ?_ rfl|exact Same.rfl' _)) (by simp only[sx]) ⟨hk3.then (Nat.le_refl _) hc5,?_⟩;rw[htake];have e1:A8j N (N.ends.take i++[e])=(A8j N (N.ends.take i)).set s (((((N.ends.take i).filter fun a=>decide (a.state=(s:Int))).map EndD.cost).length:Int)+1):=by
    unfold A8j;rw[A9x hsn hs,List.map_set]
    congr 1
    rw[List.length_append];simp
   have e2:A5l N (N.ends.take i++[e])=(A5l N (N.ends.take i)).set s (A9z ((((N.ends.take i).filter fun a=>decide (a.state=(s:Int))).map EndD.cost).length:Int) (leastOf (((N.ends.take i).filter fun a=>decide (a.state=(s:Int))).map EndD.cost)) e.cost):=by
    unfold A5l;rw[A9x hsn hs,List.map_set]
    congr 1
    rw[B15];unfold A9z;have:((((N.ends.take i).filter fun a=>decide (a.state=(s:Int))).map EndD.cost).length:Int)=0↔((N.ends.take i).filter fun a=>decide (a.state=(s:Int))).map EndD.cost=[]:=by
     rw[←List.length_eq_zero_iff];omega
    simp only[this]
   rw[e1,e2];exact hg5
  ·rintro F' H' hF' f56 ⟨hk,hg⟩
   have g3:=hF' 3 rfl;have f55:=hF' 55 rfl;simp only[sx,Nat.reduceEqDiff,f3]at g3 f55;rw[List.take_length]at hg;simp only[↓Sh.dn,sx,Nat.reduceEqDiff,g3,f55,f56,A1a,Nat.lt_irrefl,decide_false,hres];exact⟨hk1.trans hk,_,rfl,_,Nat.le_of_lt hnx,hg⟩
def A1l(N:NetD):List (List (Nat×Int×Int×Int)):=rowsOf ArcD.fr (fun a=>(a.to.toNat,A0m N.sigma a.inn,A0m N.sigma a.out,a.cost)) N.states.toNat N.arcs
theorem B66{N:NetD}(hok:A1q N):A9d (A1l N)=B0h N N.arcs:=by
 unfold A9d A1l B0h rowsOf;rw[List.map_map];refine List.map_congr_left fun s _=>?_;simp only[Function.comp,List.map_map];refine List.map_congr_left fun a ha=>?_;have:=hok.arc a (List.mem_filter.1 ha).1;simp only[Function.comp,A6c,C1a];rw[show ((a.to.toNat:Nat):Int)=a.to by omega]
theorem C0l{l:List ByteArray}{x:ByteArray}(ha:Asc l):A0m l x<0↔x∉l:=by
 have:=B2j (x:=x) ha;rw[←A3h];cases h:A3n l x with
 | true=>rw[h]at this;simpa using this
 | false=>rw[h]at this;simpa using this
theorem B0r{N:NetD}(hok:A1q N):A0b∉N.sigma:=by
 intro h;have:=hok.sym _ h;have h0:A5u A0b=false:=rfl;rw[h0]at this;cases this
theorem ends_gr{N:NetD}(hok:A1q N)(t:Nat):0<(A8j N N.ends).getD t 0↔N.isEnd t:=by
 unfold NetD.isEnd A8j;rw[List.getD_eq_getElem?_getD,List.getElem?_map];by_cases ht:t<N.states.toNat
 ·rw[A8h ht]
  simp only[Option.map_some,Option.getD_some,List.length_map];rw[show (0:Int)<((N.ends.filter fun a=>decide (a.state=(t:Int))).length:Int)↔0<(N.ends.filter fun a=>decide (a.state=(t:Int))).length by omega,List.length_pos_iff_exists_mem];simp only[List.mem_filter,decide_eq_true_eq]
 ·rw[List.getElem?_eq_none (by rw[A7e];omega)]
  simp only[Option.map_none,Option.getD_none,Int.lt_irrefl,false_iff,not_exists,not_and];intro e he h;have:=hok.fin e he;omega
def ixN(sigma:List ByteArray)(x:ByteArray):Nat:=(A0m sigma x).toNat
theorem B5z{sigma:List ByteArray}(ha:Asc sigma){x:ByteArray}(hx:x∈sigma):∃k:Nat,sigma[k]?=some x∧A0m sigma x=(k:Int)∧ixN sigma x=k:=by
 obtain⟨k,hk⟩:=List.mem_iff_getElem?.1 hx;have:=A80 ha hk;exact⟨k,hk,this,by unfold ixN;rw[this];rfl⟩
theorem C2w{sigma:List ByteArray}(ha:Asc sigma)(x y:ByteArray)(hx:x∈sigma)(hy:y∈sigma)(h:ixN sigma x=ixN sigma y):x=y:=by
 obtain⟨k,h1,_,h2⟩:=B5z ha hx;obtain⟨j,h3,_,h4⟩:=B5z ha hy;rw[h2,h4]at h;rw[h,h3]at h1;exact(Option.some.inj h1).symm
theorem ix_cells{sigma:List ByteArray}(ha:Asc sigma){w:List ByteArray}(hw:∀x∈w,x∈sigma):w.map (C3j sigma)=(w.map (ixN sigma)).map natC:=by
 rw[List.map_map];refine List.map_congr_left fun x hx=>?_;obtain⟨k,_,h1,h2⟩:=B5z ha (hw x hx);show [Value.int .i64 (A0m sigma x)]=[.int .i64 ((ixN sigma x:Nat):Int)]
 rw[h1,h2]
end Go.Proofs.YtjjgodccecehlaaGreat
