/- A part of the proof: GraphNet, GraphArc, GraphEnd, GraphX, GraphAdd, GraphNew, GraphB, AnyLong, IsSymbol, AllSymbols, IsSet, RefSigma, Search, SearchAt, SearchStrings, IsIn, ValidateNet, IsFree, RefValidate, NetOk, CmpLessStr, BinarySearch, PlaceWord, GraphOf, GraphIs. -/
import Derived.Test.YtjjgodccecehlaaGreatMClose2RelChained6
import Derived.Test.YtjjgodccecehlaaGreatMClose2RelChained2
import Derived.Test.YtjjgodccecehlaaGreatMClose2RelChained7
import Derived.Test.YtjjgodccecehlaaGreatMClose2RelChained1
set_option linter.unusedVariables false
set_option linter.unusedSimpArgs false
/- (*graph.Graph).Net: the net of a graph. -/
set_option maxHeartbeats 4000000
set_option maxRecDepth 20000
namespace Go.Proofs.YtjjgodccecehlaaGreat
open Go Go.Proofs Go.Proofs.Sh
def A7v(sigma:List ByteArray)(k:Int):ByteArray:=if k<0 then ⟨#[]⟩ else sigma.getD k.toNat ⟨#[]⟩
theorem B30{H:AH}{g:Nat}{sv av ev cv:Value}{vals:List Value}{sigma:List ByteArray}{rows:List (List (List Value))}{ends costs:List Int}(h:GrR H g sv av ev cv vals sigma rows ends costs){k:Int}(hk:k<sigma.length):
  Sh.Call Tryz.prog (knows 7) 66 [.pointer (some ⟨g,0,some 0⟩),.int .i64 k] H (fun r H'=>H'=H∧r=.string (A7v sigma k)):=by
 refine A5a rfl Tryz.func66 rfl (Nat.le_of_ble_eq_true rfl) ?_;have hres:Tryz.f66.results.toList=[.tmp 4]:=rfl;have hc:=h.arr.cell 0;by_cases h0:k<0
 ·have:A7v sigma k=⟨#[]⟩:=if_pos h0
  simp only[↓Sh.dn,sx,Nat.reduceEqDiff,h0,decide_true,hres,this]
 ·obtain⟨i,rfl⟩:∃i:Nat,k=(i:Int):=⟨k.toNat,by omega⟩
  have hi:i<sigma.length:=by omega
  have:A7v sigma (i:Int)=sigma[i]:=by unfold A7v;rw[if_neg h0];simp[List.getD,hi]
  obtain⟨p,hia,hcc⟩:=Sl.elem (s:=1) Tryz.underlying22 A6r h.sg (i:=i) (u:=.string sigma[i]) (by rw[List.getElem?_map,List.getElem?_eq_getElem hi];rfl);simp only[↓Sh.dn,sx,reduceCtorEq,Nat.reduceEqDiff,h0,decide_false,hc,hia,hcc,hres,this]
abbrev GE:=Nat×Int×Int×Int
def geK(e:GE):Value:=.agg (A9a e).toArray
theorem held_ge:Tryz.prog.stoodInHeld 81=false:=by kernel_rfl
theorem geK_eq(a b:GE):eqT Tryz.prog A1g 81 (geK a) (geK b)=some (decide (a=b)):=by
 show eqT Tryz.prog (19+1) _ _ _=_;obtain⟨a0,a1,a2,a3⟩:=a;obtain⟨b0,b1,b2,b3⟩:=b;rw[eqT.eq_def];simp only[geK,A9a,Tryz.underlying81,held_ge,cond_false,eqFields,apart,C17,List.getElem?_cons_zero,List.getElem?_cons_succ,Option.bind_some,C1c (d:=18)];have s1:("To" == "_")=false:=rfl;have s2:("In" == "_")=false:=rfl;have s3:("Out" == "_")=false:=rfl;have s4:("Cost" == "_")=false:=rfl;simp only[s1,s2,s3,s4,cond_false];have e0:((a0:Int)=(b0:Int))↔a0=b0:=Int.ofNat_inj;simp only[e0,Prod.mk.injEq];by_cases h0:a0=b0
 ·by_cases h1:a1=b1
  ·by_cases h2:a2=b2
   ·by_cases h3:a3=b3
    ·simp[h0,h1,h2,h3]
    ·simp[h0,h1,h2,h3]
   ·simp[h0,h1,h2]
  ·simp[h0,h1]
 ·simp[h0]
theorem D0b(a:GE):A9l Tryz.prog 81 (geK a)=true:=by
 obtain⟨a0,a1,a2,a3⟩:=a;unfold A9l;rw[Bool.and_eq_true];refine⟨rfl,?_⟩;show keyT Tryz.prog (19+1) _ _=true;rw[keyT.eq_def];simp only[geK,A9a,Tryz.underlying81];have hk:∀n:Int,keyT Tryz.prog 19 3 (.int .i64 n)=true:=fun n=>by
  show keyT Tryz.prog (18+1) _ _=true;rw[keyT.eq_def];simp only[Tryz.underlying3]
 simp only[List.all_cons,List.all_nil,apart,C17,List.getElem?_cons_zero,List.getElem?_cons_succ,hk,Bool.or_true,Bool.and_self]
def EMap(H:AH)(g:Nat)(D:List GE):Prop:=MapIs H g geK (D.map fun t=>(t,.bool true))
theorem B3p{α:Type}[DecidableEq α](v:Value)(D:List α)(t:α):A7q (D.map fun t=>(t,v)) t=if t∈D then some v else none:=by
 unfold A7q;by_cases h:t∈D
 ·rw[if_pos h]
  cases hf:(D.map fun t=>(t,v)).find? fun p=>decide (t=p.1) with
  | none=>
   rw[List.find?_eq_none]at hf;have:=hf (t,v) (List.mem_map.2 ⟨t,h,rfl⟩);simp at this
  | some p=>
   have:=List.mem_of_find?_eq_some hf;obtain⟨u,_,rfl⟩:=List.mem_map.1 this;rfl
 ·rw[if_neg h]
  have:(D.map fun t=>(t,v)).find? (fun p=>decide (t=p.1))=none:=by
   rw[List.find?_eq_none];rintro p hp;obtain⟨u,hu,rfl⟩:=List.mem_map.1 hp;simp only[decide_eq_true_eq];rintro rfl;exact h hu
  rw[this];rfl
theorem EMap.look{H:AH}{g:Nat}{D:List GE}(h:EMap H g D)(t:GE):A4r Tryz.prog 115 (.map (some g)) (.agg (A9a t).toArray) false H=some (.bool (decide (t∈D))):=by
 have:=MapIs.look (P:=Tryz.prog) (ok:=false) Tryz.underlying115 B1o D0b geK_eq h t;rw[B3p]at this;unfold geK at this;rw[this];by_cases hd:t∈D<;>simp[hd]
theorem EMap.add{H:AH}{g:Nat}{D:List GE}(h:EMap H g D)(hw:Wf H){t:GE}(ht:t∉D):∃H',A3g Tryz.prog 115 (.map (some g)) (.agg (A9a t).toArray) (.bool true) H=some H'∧EMap H' g (D++[t])∧Chg (fun y=>y=g) H H'∧H'.next=H.next:=by
 obtain⟨H',h1,h2,h3,h4⟩:=MapIs.add (P:=Tryz.prog) Tryz.underlying115 D0b geK_eq h hw (a:=t) (by rw[B3p,if_neg ht]) (.bool true);exact⟨H',h1,by unfold EMap;rw[List.map_append];exact h2,h3,h4⟩
structure NB(H:AH)(base gb:Nat)(cl av ev:Value)(os oa oe:Option Nat)(n:Nat)(sigma:List ByteArray)(arcs:List ArcD)(es:List EndD):Prop where
 bx:Arr H gb 0 4 [cl,.int .i64 (n:Int),av,ev]
 sg:Buf H 1 cl (sigma.map A6b) os
 ar:Buf H 5 av (arcs.map ArcD.cells) oa
 en:Buf H 2 ev (es.map EndD.cells) oe
 b0:base≤gb
 bs:∀y,os=some y→base≤y∧y≠gb
 ba:∀y,oa=some y→base≤y∧y≠gb∧os≠some y
 be:∀y,oe=some y→base≤y∧y≠gb∧os≠some y∧oa≠some y
section
variable {H H':AH} {base gb n:Nat} {cl av ev:Value} {os oa oe:Option Nat} {sigma:List ByteArray} {arcs:List ArcD} {es:List EndD}
theorem NB.chg(h:NB H base gb cl av ev os oa oe n sigma arcs es)(hw:Wf H){X:Nat→Prop}(hc:Chg X H H')(hx:∀y,X y→y≠gb∧os≠some y∧oa≠some y∧oe≠some y):NB H' base gb cl av ev os oa oe n sigma arcs es:=
 { h with
  bx:=h.bx.keep (hc.old gb (h.bx.lt hw) fun hy=>(hx gb hy).1 rfl)
  sg:=h.sg.chg hw hc fun y hy hX=>(hx y hX).2.1 hy
  ar:=h.ar.chg hw hc fun y hy hX=>(hx y hX).2.2.1 hy
  en:=h.en.chg hw hc fun y hy hX=>(hx y hX).2.2.2 hy }
theorem NB.kept(h:NB H base gb cl av ev os oa oe n sigma arcs es)(hw:Wf H)(hk:Kept H H'):NB H' base gb cl av ev os oa oe n sigma arcs es:=h.chg hw (hk.chg (X:=none')) fun y hy=>hy.elim
theorem NB.pushArc(h:NB H base gb cl av ev os oa oe n sigma arcs es)(hw:Wf H)(a:ArcD)(hl:arcs.length≤17179869183):
  ∃b cap av' H1 H2 oa',av=.slice b arcs.length cap∧A4a Tryz.prog 23 1 [(0,.agg a.cells.toArray)] H=some (.slice (some ⟨H.next,0,some 0⟩) 1 1,(H.new 5 a.cells).2)∧
   A3a Tryz.prog .append [23,23] [.slice b arcs.length cap,.slice (some ⟨H.next,0,some 0⟩) 1 1] (H.new 5 a.cells).2=some (av',H1)∧
   A7d Tryz.prog 23 H1 av' (.pointer (some ⟨gb,2,some 0⟩))=some H2∧NB H2 base gb cl av' ev os oa' oe n sigma (arcs++[a]) es∧Chg (fun y=>base≤y∧(y=gb∨oa=some y)) H H2∧∀y,oa'=some y→oa=some y∨H.next≤y:=by
 obtain⟨b,cap,av',H1,oa',rfl,e1,e2,e3,e4⟩:=h.ar.push hw (x:=a.cells) rfl;rw[List.length_map]at e1;have hbs:=C3z (H:=H) (x:=.agg a.cells.toArray) rfl rfl;have va:∀xs:Array Value,A6a (.agg xs)=xs.toList:=fun _=>rfl;simp only[va]at hbs;have ha:=app1_23 (H:=H) (base:=b) (len:=arcs.length) (cap:=cap) (x:=a.cells) rfl hl;rw[e1]at ha;have hgb:=h.bx.lt hw;have bx1:=h.bx.keep (e3.old gb hgb fun hy=>(h.ba gb hy).2.1 rfl);obtain⟨H2,w1,ar1,v1,z1⟩:=bx1.write e3.wf (i:=2) (vs:=[av']) (by simp);have sc:setCells [cl,.int .i64 (n:Int),.slice b arcs.length cap,ev] 2 [av']=[cl,.int .i64 (n:Int),av',ev]:=rfl;rw[List.length_map]at ar1;rw[sc]at ar1;have st:A7d Tryz.prog 23 H1 av' (.pointer (some ⟨gb,2,some 0⟩))=some H2:=by rw[A9b D9a e2.isCell,w1]
 have old:∀y,oa'=some y→oa=some y∨H.next≤y:=e4;have z0:Chg (fun y=>base≤y∧(y=gb∨oa=some y)) H H1:=e3.weak fun y hy=>⟨(h.ba y hy).1,.inr hy⟩
 have z2:Chg (fun y=>base≤y∧(y=gb∨oa=some y)) H1 H2:=z1.weak fun y hy=>⟨by rw[hy];exact h.b0,.inl hy⟩
 refine⟨b,cap,av',H1,H2,oa',by rw[List.length_map],hbs,ha,st,⟨ar1,?_,?_,?_,h.b0,h.bs,fun y hy=>?_,fun y hy=>?_⟩,z0.trans z2,old⟩
 ·exact(h.sg.chg hw e3 fun y hy hya=>(h.ba y hya).2.2 hy).chg e3.wf z1 fun y hy hyg=>(h.bs y hy).2 hyg
 ·rw[List.map_append]
  refine e2.chg e3.wf z1 fun y hy hyg=>?_;rcases old y hy with h1|h1
  ·exact(h.ba y h1).2.1 hyg
  ·omega
 ·exact(h.en.chg hw e3 fun y hy hya=>(h.be y hy).2.2.2 hya).chg e3.wf z1 fun y hy hyg=>(h.be y hy).2.1 hyg
 ·rcases old y hy with h1|h1
  ·exact h.ba y h1
  ·have h0:=h.b0
   exact⟨by omega,by omega,fun hs=>by have:=h.sg.lt hw y hs;omega⟩
 ·have h5:=h.be y hy
  refine⟨h5.1,h5.2.1,h5.2.2.1,fun ha=>?_⟩;rcases old y ha with h1|h1
  ·exact h5.2.2.2 h1
  ·have:=h.en.lt hw y hy;omega
theorem NB.pushEnd(h:NB H base gb cl av ev os oa oe n sigma arcs es)(hw:Wf H)(x:EndD)(hl:es.length≤17179869183):
  ∃b cap ev' H1 H2 oe',ev=.slice b es.length cap∧A4a Tryz.prog 24 1 [(0,.agg x.cells.toArray)] H=some (.slice (some ⟨H.next,0,some 0⟩) 1 1,(H.new 2 x.cells).2)∧
   A3a Tryz.prog .append [24,24] [.slice b es.length cap,.slice (some ⟨H.next,0,some 0⟩) 1 1] (H.new 2 x.cells).2=some (ev',H1)∧
   A7d Tryz.prog 24 H1 ev' (.pointer (some ⟨gb,3,some 0⟩))=some H2∧NB H2 base gb cl av ev' os oa oe' n sigma arcs (es++[x])∧Chg (fun y=>base≤y∧(y=gb∨oe=some y)) H H2∧∀y,oe'=some y→oe=some y∨H.next≤y:=by
 obtain⟨b,cap,ev',H1,oe',rfl,e1,e2,e3,e4⟩:=h.en.push hw (x:=x.cells) rfl;rw[List.length_map]at e1;have hbs:=C40 (H:=H) (x:=.agg x.cells.toArray) rfl rfl;have va:∀xs:Array Value,A6a (.agg xs)=xs.toList:=fun _=>rfl;simp only[va]at hbs;have ha:=app1_24 (H:=H) (base:=b) (len:=es.length) (cap:=cap) (x:=x.cells) rfl hl;rw[e1]at ha;have hgb:=h.bx.lt hw;have bx1:=h.bx.keep (e3.old gb hgb fun hy=>(h.be gb hy).2.1 rfl);obtain⟨H2,w1,ar1,v1,z1⟩:=bx1.write e3.wf (i:=3) (vs:=[ev']) (by simp);have sc:setCells [cl,.int .i64 (n:Int),av,.slice b es.length cap] 3 [ev']=[cl,.int .i64 (n:Int),av,ev']:=rfl;rw[List.length_map]at ar1;rw[sc]at ar1;have st:A7d Tryz.prog 24 H1 ev' (.pointer (some ⟨gb,3,some 0⟩))=some H2:=by rw[A9b D4b e2.isCell,w1]
 have old:∀y,oe'=some y→oe=some y∨H.next≤y:=e4;have z0:Chg (fun y=>base≤y∧(y=gb∨oe=some y)) H H1:=e3.weak fun y hy=>⟨(h.be y hy).1,.inr hy⟩
 have z2:Chg (fun y=>base≤y∧(y=gb∨oe=some y)) H1 H2:=z1.weak fun y hy=>⟨by rw[hy];exact h.b0,.inl hy⟩
 refine⟨b,cap,ev',H1,H2,oe',by rw[List.length_map],hbs,ha,st,⟨ar1,?_,?_,?_,h.b0,h.bs,h.ba,fun y hy=>?_⟩,z0.trans z2,old⟩
 ·exact(h.sg.chg hw e3 fun y hy hye=>(h.be y hye).2.2.1 hy).chg e3.wf z1 fun y hy hyg=>(h.bs y hy).2 hyg
 ·exact(h.ar.chg hw e3 fun y hy hye=>(h.be y hye).2.2.2 hy).chg e3.wf z1 fun y hy hyg=>(h.ba y hy).2.1 hyg
 ·rw[List.map_append]
  refine e2.chg e3.wf z1 fun y hy hyg=>?_;rcases old y hy with h1|h1
  ·exact(h.be y h1).2.1 hyg
  ·omega
 ·rcases old y hy with h1|h1
  ·exact h.be y h1
  ·have h0:=h.b0
   exact⟨by omega,by omega,fun hs=>by have:=h.sg.lt hw y hs;omega,fun ha=>by have:=h.ar.lt hw y ha;omega⟩
end
def B2l(sigma:List ByteArray)(s:Nat)(e:GE):ArcD:=⟨s,A7v sigma e.2.1,A7v sigma e.2.2.1,e.1,e.2.2.2⟩
theorem graphNet{H:AH}{X:Nat→Prop}{g n:Nat}{sigma:List ByteArray}{ends costs:List Int}{E:List (List GE)}
  (h:GrX H X g sigma (A8b E) ends costs) (hE:E.length=n) (he:ends.length=n) (hcl:costs.length=n) (hn1:1≤n) (hn:n≤3000) (hsg:sigma.length≤1048576) (hto:∀r∈E,∀e∈r,e.1<n∧e.2.1<sigma.length∧e.2.2.1<sigma.length) (htot:(E.map List.length).sum≤1048576) (hw:Wf H):
  Sh.Call Tryz.prog (knows 7) 30 [.pointer (some ⟨g,0,some 0⟩)] H (fun r H'=>Kept H H'∧∃M:NetD,(∀H'',(∀y,H.next≤y→H''.objs.get y=H'.objs.get y)→Nonempty (A6v H'' r M))∧M.sigma=sigma∧M.states=(n:Int)∧M.arcs.length≤(E.map List.length).sum∧(∀a,a∈M.arcs↔∃(s:Nat) (r:List GE),E[s]?=some r∧∃e∈r,a=B2l sigma s e)∧M.ends.length≤n∧∀x,x∈M.ends↔∃s:Nat,s<n∧0<ends.getD s 0∧x=⟨(s:Int),costs.getD s 0⟩):=by
 refine A5a rfl Tryz.func30 rfl (Nat.le_of_ble_eq_true rfl) ?_;have hres:Tryz.f30.results.toList=[.cell 2 26]:=rfl;obtain⟨sv,av,ev,cv,vals,hR⟩:=h.read;have hpre:∀i,((E.take i).map List.length).sum≤(E.map List.length).sum:=fun i=>by
  have h1:((E.take i).map List.length).sum+((E.drop i).map List.length).sum=(E.map List.length).sum:=by
   rw[←List.sum_append,←List.map_append,List.take_append_drop]
  omega
 have hrl:∀(s:Nat) r,E[s]?=some r→r.length≤1048576:=fun s r hr=>by
  have h1:=hpre (s+1);have h2:E.take (s+1)=E.take s++[r]:=by rw[List.take_add_one,hr];rfl
  rw[h2,List.map_append,List.sum_append]at h1;simp at h1;omega
 have hP:PG H g n 1048576 E ends sv av ev cv vals sigma costs:=⟨hR,hE,he,hn1,Nat.le_trans hn (by decide),fun s r hr=>⟨hrl s r hr,fun e he'=>(hto r (List.mem_of_getElem? hr) e he').1⟩⟩
 have hlenA:∀H',A3a Tryz.prog .len [101] [av] H'=some (.int .i64 (n:Int),H'):=fun H'=>by
  rw[hR.jag.sl.len Tryz.underlying101,List.length_map,hR.jag.len];unfold A8b;rw[List.length_map,hE]
 simp only[↓Sh.dn,sx,A44];have k0:=Kept.new hw 4 [.slice none 0 0,.int .i64 0,.slice none 0 0,.slice none 0 0];have o0:=Sh.Obj.new (H:=H) 4 [.slice none 0 0,.int .i64 0,.slice none 0 0,.slice none 0 0];have x0:H.next<(H.new 4 [.slice none 0 0,.int .i64 0,.slice none 0 0,.slice none 0 0]).2.next:=Nat.lt_succ_self _;obtain⟨go,hgo⟩:∃y,H.next=y:=⟨_,rfl⟩
 rw[hgo]at o0 x0;generalize (H.new 4 [.slice none 0 0,.int .i64 0,.slice none 0 0,.slice none 0 0]).2=H0 at k0 o0 x0 ⊢;have k1:=Kept.new k0.wf 4 [.slice none 0 0,.int .i64 0,.slice none 0 0,.slice none 0 0];have o1:=Sh.Obj.new (H:=H0) 4 [.slice none 0 0,.int .i64 0,.slice none 0 0,.slice none 0 0];have x1:H0.next<(H0.new 4 [.slice none 0 0,.int .i64 0,.slice none 0 0,.slice none 0 0]).2.next:=Nat.lt_succ_self _;have m1:∀x,(H0.new 4 [.slice none 0 0,.int .i64 0,.slice none 0 0,.slice none 0 0]).2.objs.get H0.next=some x→B2a x x=true:=by
  intro x hx;have:=o1;unfold Sh.Obj at this;rw[this]at hx;injection hx with hx
  subst hx;simp[B2a,C7w,A1k,A7m,A5l,A3h]
 obtain⟨H1,hH1⟩:∃K,(H0.new 4 [.slice none 0 0,.int .i64 0,.slice none 0 0,.slice none 0 0]).2=K:=⟨_,rfl⟩
 have nz:=A44 (H:=H0);rw[hH1]at k1 o1 x1 m1 nz;have k01:=k0.trans k1;have hR0:=hR.kept hw k0;have hR1:=hR.kept hw k01;obtain⟨r2,H2,hd2,hk2,os,hcb,hcf⟩:=C7f hR1.sg (by rw[List.length_map];exact hsg) k1.wf;have k02:=k01.trans hk2;have ic:=hcb.isCell;have bq:A9n Tryz.prog 26 [(0,r2),(1,.int .i64 (n:Int))]=some (.agg #[r2,.int .i64 (n:Int),.slice none 0 0,.slice none 0 0]):=by
  have va:∀xs:Array Value,A6a (.agg xs)=xs.toList:=fun _=>rfl;have hci:isCell (.int .i64 (n:Int))=true:=rfl;refine A5j (pl:=[(0,1),(1,1),(2,1),(3,1)]) Tryz.underlying26 A14 (by kernel_rfl) ?_;simp[A3w,va,A7a ic,A7a hci,ic,hci,setCells,A0c]
 have arr2:=o1.arr.keep (hk2.old H0.next x1);obtain⟨H3,w3,ar3,v3,z3⟩:=arr2.write hk2.wf (i:=0) (vs:=[r2,.int .i64 (n:Int),.slice none 0 0,.slice none 0 0]) (by simp);have sc:setCells [.slice none 0 0,.int .i64 0,.slice none 0 0,.slice none 0 0] 0 [r2,.int .i64 (n:Int),.slice none 0 0,.slice none 0 0]=[r2,.int .i64 (n:Int),.slice none 0 0,.slice none 0 0]:=rfl;rw[sc]at ar3;have st3:=A51 (H:=H2) (n:=(n:Int)) (p:=⟨H0.next,0,some 0⟩) ic (show isCell (.slice none 0 0)=true from rfl) (show isCell (.slice none 0 0)=true from rfl);rw[w3]at st3;have k03:Kept H0 H3:=(k1.trans hk2).then (Nat.le_refl _) (z3.weak fun y hy=>by omega);have hnb:NB H3 H0.next H0.next r2 (.slice none 0 0) (.slice none 0 0) os none none n sigma [] []:=
  ⟨ar3,hcb.chg hk2.wf z3 fun y hy e=>by have:=hcf y hy;omega,.void none,.void none,Nat.le_refl _,fun y hy=>by have:=hcf y hy;exact⟨by omega,by omega⟩,fun y hy=>(by cases hy),fun y hy=>by cases hy⟩
 have hav:=hR.jag.sl.veq;have hsv:=hR.sg.veq;refine A6u (fl:=[(0,true),(1,true),(2,true),(3,false),(5,true),(6,true),(7,true),(8,false),(9,false),(11,false),(4,false),(10,true),(12,true)]) (by kernel_rfl) (by kernel_rfl) k0.wf ?_;have q0:=hR0.arr.cell 0;have q1:=hR0.arr.cell 1;have q0':=hR1.arr.cell 0;have q1':=hR1.arr.cell 1;simp only[↓Sh.dn,sx,reduceCtorEq,Nat.reduceEqDiff,wpg,B7m,isEff,A2d,isRead,A3h,forall_eq',q0,q1,hlenA,nz,hav,hsv];refine⟨m1,_,_,hd2,hk2.wf,?_⟩
 try refine⟨hk2.grow k1.wf,?_⟩
 have hR2:=hR.kept hw k02;have q1'':=hR2.arr.cell 1;have hR3:=hR.kept hw (k0.trans k03);have q3:=hR3.arr.cell 1;simp only[sx,bq,st3]
 try refine⟨hk2.grow k1.wf,?_⟩
 try simp only[sx,q3,hlenA]
 refine⟨k03.wf,?_⟩;refine A0d n 25 (List.range' 25 61++[4,5,6,8]) (fun i F H'=>Kept H0 H'∧∃av' ev' oa oe arcs es,NB H' H0.next H0.next r2 av' ev' os oa oe n sigma arcs es∧arcs.length≤((E.take i).map List.length).sum∧(∀a,a∈arcs↔∃(s:Nat) (r:List GE),s<i∧E[s]?=some r∧∃e∈r,a=B2l sigma s e)∧es.length≤i∧∀x,x∈es↔∃s:Nat,s<i∧0<ends.getD s 0∧x=⟨(s:Int),costs.getD s 0⟩) (by simp only[sx]) ⟨k03,_,_,none,none,[],[],hnb,Nat.zero_le _,fun a=>by simp,Nat.le_refl _,fun x=>by simp⟩ ?_ ?_
 ·rintro i F H' hi hF f25 ⟨hk,av',ev',oa,oe,arcs,es,hN,hal,hai,hel,hei⟩ k
  have f0:=hF 0 rfl;have f3:=hF 3 rfl;have f23:=hF 23 rfl;have f24:=hF 24 rfl;simp only[sx,reduceCtorEq,Nat.reduceEqDiff]at f0 f3 f23 f24;have hiE:i<E.length:=by omega
  have hr:E[i]?=some E[i]:=List.getElem?_eq_getElem hiE;have hrt:=hto E[i] (List.getElem_mem hiE);have htE:E.take (i+1)=E.take i++[E[i]]:=by rw[List.take_add_one,hr];rfl
  generalize E[i]=r at hr hrt htE;have hrl2:=hrl i r hr;have hsum:((E.take (i+1)).map List.length).sum=((E.take i).map List.length).sum+r.length:=by rw[htE];simp
  have hp1:=hpre (i+1);have hkH:=fun{H'} (hk:Kept H0 H')=>k0.trans hk;obtain⟨pr,wr,hiar,hcr0,hsr,hlr⟩:=PG.row hP hr;have hcr:=A2b ((hkH hk).grow hw) hcr0;have km:=Kept.push hk.wf (.map []);have hm0:EMap (H'.push (.map [])).2 H'.next []:=MapIs.new;have hN0:=hN.kept hk.wf km;have hgbl:=hN.bx.lt hk.wf;have osl:=fun y h=>hN.sg.lt hk.wf y h;have oal:=fun y h=>hN.ar.lt hk.wf y h;have oel:=fun y h=>hN.en.lt hk.wf y h;have hkm:=hk.trans km;simp only[↓Sh.dn,sx,Nat.reduceEqDiff,f23,f24,f25,A2a,hi,decide_true,hiar,hcr,hlr];have nx:H'.next<(H'.push (.map [])).2.next:=Nat.lt_succ_self _;obtain⟨gm,hgm⟩:∃gm,H'.next=gm:=⟨_,rfl⟩
  rw[hgm]at hm0 hgbl osl oal oel nx;refine A0d r.length 33 (List.range' 33 30++[8]) (fun q F'' H''=>Kept H0 H''∧∃av' oa arcs D,NB H'' H0.next H0.next r2 av' ev' os oa oe n sigma arcs es∧EMap H'' gm D∧(∀y,oa=some y→y≠gm)∧arcs.length≤((E.take i).map List.length).sum+q∧(∀e,e∈D↔e∈r.take q)∧∀a,a∈arcs↔(∃(s:Nat) (r:List GE),s<i∧E[s]?=some r∧∃e∈r,a=B2l sigma s e)∨∃e∈r.take q,a=B2l sigma i e) (by simp only[sx]) ⟨hkm,av',oa,arcs,[],hN0,hm0,fun y hy=>by have:=oal y hy;omega,Nat.le_trans hal (Nat.le_add_right _ _),fun e=>by simp,fun a=>by rw[hai];simp⟩ ?_ ?_
  ·rintro q F'' H'' hq hF'' f33 ⟨hk'',av',oa,arcs,D,hN,hM,hom,hal,hD,hai⟩ k2
   have g0:=hF'' 0 rfl;have g3:=hF'' 3 rfl;have g4:=hF'' 4 rfl;have g6:=hF'' 6 rfl;have g31:=hF'' 31 rfl;have g32:=hF'' 32 rfl;simp only[sx,reduceCtorEq,Nat.reduceEqDiff,f0,f3,hgm]at g0 g3 g4 g6 g31 g32;obtain⟨pe,hiae,hce⟩:=PG.edge (hsr.grow ((hkH hk'').grow hw)) hq;have hrq:r[q]∈r:=List.getElem_mem hq;have htk:r.take (q+1)=r.take q++[r[q]]:=by rw[List.take_add_one,List.getElem?_eq_getElem hq];rfl
   generalize r[q]=e at hce hrq htk;obtain⟨ht1,ht2,ht3⟩:=hrt e hrq;have kn:=Kept.new hk''.wf 4 (A9a e);have hk3:=hk''.trans kn;have hN3:=hN.kept hk''.wf kn;have hM3:EMap (H''.new 4 (A9a e)).2 gm D:=hM.keep (kn.old _ (hM.lt hk''.wf));have hlk:=hM3.look e;have hgml:=hM.lt hk''.wf;have hall:(H''.new 4 (A9a e)).2.cells ⟨H''.next,0,some 0⟩ 4=some (A9a e):=C29;have hj:∀(p:GE→Prop),(∃e'∈r.take (q+1),p e')↔(∃e'∈r.take q,p e')∨p e:=fun p=>by
    rw[htk];simp only[List.mem_append,List.mem_singleton];constructor
    ·rintro⟨e',h1|h1,h2⟩
     ·exact .inl ⟨e',h1,h2⟩
     ·subst h1;exact .inr h2
    ·rintro(⟨e',h1,h2⟩|h2)
     ·exact⟨e',.inl h1,h2⟩
     ·exact⟨e,.inr rfl,h2⟩
   simp only[↓Sh.dn,sx,Nat.reduceEqDiff,f33,g6,g31,g32,hiae,hce,A2a,hq,decide_true,A8q,A9k,A9q,hall,hlk];by_cases hin:e∈D
   ·simp only[↓Sh.dn,sx,Nat.reduceEqDiff,hin,decide_true,f33,A1a hq (Nat.le_trans hrl2 (by decide))]
    refine k2 _ _ (by repeat (first|refine Same.put ?_ rfl|exact Same.rfl' _)) (by simp only[sx]) ⟨hk3,av',oa,arcs,D,hN3,hM3,hom,by omega,fun e'=>?_,fun a=>?_⟩
    ·rw[hD,htk,List.mem_append,List.mem_singleton]
     exact⟨.inl,fun h=>h.elim id fun h=>by rw[h];exact(hD e).1 hin⟩
    ·rw[hai,hj]
     constructor
     ·rintro(h1|h1)
      ·exact .inl h1
      ·exact .inr (.inl h1)
     ·rintro(h1|h1|h1)
      ·exact .inl h1
      ·exact .inr h1
      ·exact .inr ⟨e,(hD e).1 hin,h1⟩
   ·obtain⟨K1,e1,hM4,c4,n4⟩:=hM3.add hk3.wf hin
    have hN4:=hN3.chg hk3.wf c4 fun y hy=>by
     subst hy;exact⟨by omega,fun h=>by have:=osl _ h;omega,fun h=>hom _ h rfl,fun h=>by have:=oel _ h;omega⟩
    have hk4:Kept H0 K1:=hk3.then (Nat.le_refl _) (c4.weak fun y hy=>by rw[hy,←hgm];exact hk.next);have hR4:=hR.kept hw (hkH hk4);have ob:=(Sh.Obj.new (H:=H'') 4 (A9a e)).arr.keep (c4.old H''.next (Nat.lt_succ_self _) (by omega));have c0:K1.cell ⟨H''.next,0,some 0⟩=some (.int .i64 (e.1:Int)):=ob.cell 0;have c1:K1.cell ⟨H''.next,1,some 0⟩=some (.int .i64 e.2.1):=ob.cell 1;have c2:K1.cell ⟨H''.next,2,some 0⟩=some (.int .i64 e.2.2.1):=ob.cell 2;have c3:K1.cell ⟨H''.next,3,some 0⟩=some (.int .i64 e.2.2.2):=ob.cell 3;have bx2:=hN4.bx.cell 2;obtain⟨r5,K5,hd5,rfl,rfl⟩:=B30 hR4 ht2;obtain⟨r6,K6,hd6,rfl,rfl⟩:=B30 hR4 ht3;obtain⟨b,cap,av2,K7,K8,oa',rfl,e2,e3,e4,hN8,c8,new8⟩:=hN4.pushArc hk4.wf (B2l sigma i e) (by omega);have bl:A9n Tryz.prog 45 [(0,.int .i64 (i:Int)),(1,.string (A7v sigma e.2.1)),(2,.string (A7v sigma e.2.2.1)),(3,.int .i64 (e.1:Int)),(4,.int .i64 e.2.2.2)]=some (.agg (B2l sigma i e).cells.toArray):=bld_45 rfl rfl rfl rfl rfl;have hk8:Kept H0 K8:=hk4.then (Nat.le_refl _) (c8.weak fun y hy=>hy.1);have hgm4:=hM4.lt hk4.wf;have hM8:EMap K8 gm (D++[e]):=hM4.keep (c8.old gm hgm4 fun hy=>by
     rcases hy.2 with h1|h1
     ·omega
     ·exact hom gm h1 rfl)
    simp only[↓Sh.dn,sx,Nat.reduceEqDiff,hin,decide_false,g6,hall,e1];refine A8n (fl:=[(0,[]),(1,[]),(2,[]),(3,[]),(4,[]),(5,[]),(7,[]),(8,[]),(9,[]),(11,[]),(12,[]),(13,[]),(14,[]),(6,[14,12,9,1]),(10,[14,12,1]),(15,[]),(16,[]),(17,[]),(18,[]),(19,[])]) (by kernel_rfl) (by kernel_rfl) (by kernel_rfl) ?_;simp only[↓Sh.dn,sx,reduceCtorEq,Nat.reduceEqDiff,wpr,again,A2d,A3h,A5l,forall_eq',g0,g3,g4,bx2,c0,c1,c2,c3];refine⟨_,_,hd5,?_⟩;simp only[sx,bx2,c0,c2,c3];refine⟨_,_,hd6,?_⟩;simp only[sx,bx2,c0,c3,bl,e2,e3,e4,f33,A1a hq (Nat.le_trans hrl2 (by decide))];refine k2 _ _ (by repeat (first|refine Same.put ?_ rfl|exact Same.rfl' _)) (by simp only[sx]) ⟨hk8,av2,oa',arcs++[B2l sigma i e],D++[e],hN8,hM8,fun y hy=>?_,by simp only[List.length_append,List.length_singleton];omega,fun e'=>?_,fun a=>?_⟩
    ·rcases new8 y hy with h1|h1
     ·exact hom y h1
     ·omega
    ·rw[List.mem_append,hD,htk,List.mem_append]
    ·rw[List.mem_append,List.mem_singleton,hai,hj]
     constructor
     ·rintro((h1|h1)|h1)
      ·exact .inl h1
      ·exact .inr (.inl h1)
      ·exact .inr (.inr h1)
     ·rintro(h1|h1|h1)
      ·exact .inl (.inl h1)
      ·exact .inl (.inr h1)
      ·exact .inr h1
  ·rintro F'' H'' hF'' f33 ⟨hk'',av',oa,arcs,D,hN,hM,hom,hal,hD,hai⟩
   have g0:=hF'' 0 rfl;have g3:=hF'' 3 rfl;have g4:=hF'' 4 rfl;have g25:=hF'' 25 rfl;have g32:=hF'' 32 rfl;simp only[sx,reduceCtorEq,Nat.reduceEqDiff,f0,f3,f25]at g0 g3 g4 g25 g32;rw[List.take_length]at hai;have hR4:=hR.kept hw (hkH hk'');have n2:=hR4.arr.cell 2;have n3:=hR4.arr.cell 3;have hie:i<ends.length:=by omega
   have hic:i<costs.length:=by omega
   obtain⟨pa,ia,ca⟩:=Sl.elem (s:=1) Tryz.underlying71 A1c hR4.en (i:=i) (u:=.int .i64 ends[i]) (by rw[List.getElem?_map,List.getElem?_eq_getElem hie];rfl);obtain⟨pb,ib,cb⟩:=Sl.elem (s:=1) Tryz.underlying71 A1c hR4.co (i:=i) (u:=.int .i64 costs[i]) (by rw[List.getElem?_map,List.getElem?_eq_getElem hic];rfl);have hge:ends.getD i 0=ends[i]:=by simp[List.getD,hie]
   have hgc:costs.getD i 0=costs[i]:=by simp[List.getD,hic]
   have hai2:∀a,a∈arcs↔∃(s:Nat) (r:List GE),s<i+1∧E[s]?=some r∧∃e∈r,a=B2l sigma s e:=fun a=>by
    rw[hai];constructor
    ·rintro(⟨s,r',h1,h2⟩|⟨e,h1,h2⟩)
     ·exact⟨s,r',by omega,h2⟩
     ·exact⟨i,r,by omega,hr,e,h1,h2⟩
    ·rintro⟨s,r',h1,h2,e,h3,h4⟩
     by_cases hs:s=i
     ·subst hs
      rw[hr]at h2;exact .inr ⟨e,by rw[Option.some.inj h2];exact h3,h4⟩
     ·exact .inl ⟨s,r',by omega,h2,e,h3,h4⟩
   simp only[↓Sh.dn,sx,Nat.reduceBEq,reduceCtorEq,Nat.reduceEqDiff,f33,g0,g4,g32,A2a,Nat.lt_irrefl,decide_false,n2,ia,ca];by_cases hpos:0<ends[i]
   ·obtain⟨b,cap,ev2,K7,K8,oe',rfl,e2,e3,e4,hN8,c8,_⟩:=hN.pushEnd hk''.wf ⟨(i:Int),costs[i]⟩ (by omega)
    have bx3:=hN.bx.cell 3;have bl:A9n Tryz.prog 47 [(0,.int .i64 (i:Int)),(1,.int .i64 costs[i])]=some (.agg (EndD.cells ⟨(i:Int),costs[i]⟩).toArray):=bld_47 rfl rfl;have hk8:Kept H0 K8:=hk''.then (Nat.le_refl _) (c8.weak fun y hy=>hy.1);simp only[↓Sh.dn,sx,hpos,decide_true];refine A8n (fl:=[(0,[]),(1,[]),(2,[]),(3,[]),(4,[]),(5,[]),(6,[]),(7,[]),(8,[]),(9,[]),(10,[]),(11,[]),(12,[]),(13,[]),(14,[])]) (by kernel_rfl) (by kernel_rfl) (by kernel_rfl) ?_;simp only[↓Sh.dn,sx,reduceCtorEq,Nat.reduceEqDiff,wpr,again,g0,g3,g4,g25,bx3,n3,ib,cb,bl,e2,e3,e4,A1a hi (Nat.le_trans hn (by decide))];refine k _ _ ?_ (by simp only[sx]) ⟨hk8,av',ev2,oa,oe',arcs,es++[⟨(i:Int),costs[i]⟩],hN8,by rw[hsum];exact hal,hai2,by simp;omega,fun x=>?_⟩
    ·repeat refine Same.put ?_ rfl
     exact Same.trans (by repeat (first|refine Same.put ?_ rfl|exact Same.rfl' _)) (hF''.sub rfl)
    ·rw[List.mem_append,List.mem_singleton,hei]
     constructor
     ·rintro(⟨s,h1,h2⟩|h1)
      ·exact⟨s,by omega,h2⟩
      ·exact⟨i,by omega,by rw[hge];exact hpos,by rw[hgc];exact h1⟩
     ·rintro⟨s,h1,h2,h3⟩
      by_cases hs:s=i
      ·subst hs;rw[hgc]at h3;exact .inr h3
      ·exact .inl ⟨s,by omega,h2,h3⟩
   ·simp only[↓Sh.dn,sx,Nat.reduceEqDiff,hpos,decide_false,g25,A1a hi (Nat.le_trans hn (by decide))]
    refine k _ _ ?_ (by simp only[sx]) ⟨hk'',av',ev',oa,oe,arcs,es,hN,by rw[hsum];exact hal,hai2,by omega,fun x=>?_⟩
    ·repeat refine Same.put ?_ rfl
     exact Same.trans (by repeat (first|refine Same.put ?_ rfl|exact Same.rfl' _)) (hF''.sub rfl)
    ·rw[hei]
     constructor
     ·rintro⟨s,h1,h2⟩;exact⟨s,by omega,h2⟩
     ·rintro⟨s,h1,h2,h3⟩
      by_cases hs:s=i
      ·subst hs;rw[hge]at h2;exact absurd h2 hpos
      ·exact⟨s,by omega,h2,h3⟩
 ·rintro F H' hF f25 ⟨hk,av',ev',oa,oe,arcs,es,hN,hal,hai,hel,hei⟩
  have f2:=hF 2 rfl;have f3:=hF 3 rfl;have f24:=hF 24 rfl;simp only[sx,Nat.reduceEqDiff,hgo]at f2 f3 f24;rw[List.take_of_length_le (by omega)]at hal;have o0':Sh.Obj H' go 4 [.slice none 0 0,.int .i64 0,.slice none 0 0,.slice none 0 0] true:=by
   unfold Sh.Obj at o0 ⊢;rw[hk.old go x0];exact o0
  obtain⟨H6,w6,ar6,v6,z6⟩:=o0'.arr.write hk.wf (i:=0) (vs:=[r2,.int .i64 (n:Int),av',ev']) (by simp);have sc6:setCells [.slice none 0 0,.int .i64 0,.slice none 0 0,.slice none 0 0] 0 [r2,.int .i64 (n:Int),av',ev']=[r2,.int .i64 (n:Int),av',ev']:=rfl;rw[sc6]at ar6;have st6:=A51 (H:=H') (n:=(n:Int)) (p:=⟨go,0,some 0⟩) ic hN.ar.isCell hN.en.isCell;rw[w6]at st6;have hca:=hN.bx.cells (i:=0) (n:=4) (by simp);have hcr:=ar6.cells (i:=0) (n:=4) (by simp);have hgb:=hN.b0;have hN6:=hN.chg hk.wf z6 fun y hy=>by
   subst hy;exact⟨by omega,fun h=>by have:=(hN.bs _ h).1;omega,fun h=>by have:=(hN.ba _ h).1;omega,fun h=>by have:=(hN.be _ h).1;omega⟩
  simp only[↓Sh.dn,sx,Nat.reduceEqDiff,f2,f3,f24,f25,A2a,Nat.lt_irrefl,decide_false,hca,List.drop_zero,List.take_succ_cons,List.take_zero,st6,hres,hcr];refine⟨(k0.trans hk).then (Nat.le_of_eq hgo) (z6.weak fun y hy=>by omega),⟨sigma,(n:Int),arcs,es⟩,fun H'' hh=>⟨⟨r2,av',ev',rfl,(hN6.sg.keep fun y hy=>hh y (by have:=(hN6.bs y hy).1;omega)).toSl,(hN6.ar.keep fun y hy=>hh y (by have:=(hN6.ba y hy).1;omega)).toSl,(hN6.en.keep fun y hy=>hh y (by have:=(hN6.be y hy).1;omega)).toSl⟩⟩,rfl,rfl,hal,fun a=>?_,hel,hei⟩;rw[hai];constructor
  ·rintro⟨s,r,_,h2⟩;exact⟨s,r,h2⟩
  ·rintro⟨s,r,h1,h2⟩
   exact⟨s,r,by rw[←hE];exact(List.getElem?_eq_some_iff.1 h1).1,h1,h2⟩
theorem C7g{H:AH}{g:Nat}{sv av ev cv:Value}{ot:Option Nat}{vals:List Value}{rows:List (List (List Value))}{obs:List (Option Nat)}{s:Nat}{r:List (List Value)}{x0 x1 x2 x3:Int}
  (hg:Arr H g 0 4 [sv,av,ev,cv]) (hj:Jag H av ot 4 vals rows obs) (hgj:¬JIn ot obs g) (hr:rows[s]?=some r) (hl:r.length≤17179869183) (hw:Wf H):
  Sh.Call Tryz.prog (knows 7) 63 [.pointer (some ⟨g,0,some 0⟩),.int .i64 (s:Int),.int .i64 x0,.int .i64 x1,.int .i64 x2,.int .i64 x3] H (fun _ H'=>Chg (JIn ot obs) H H'∧∃vals' obs',Jag H' av ot 4 vals' (rows.set s (r++[[.int .i64 x0,.int .i64 x1,.int .i64 x2,.int .i64 x3]])) obs'∧∀y,JIn ot obs' y→JIn ot obs y∨H.next≤y):=by
 refine A5a rfl Tryz.func63 rfl (Nat.le_of_ble_eq_true rfl) ?_;have hres:Tryz.f63.results.toList=[]:=rfl;have hn:=hg.cell 1;obtain⟨a,cap,w',H2,H3,o',p,e1,e2,e3,e4,e5,e6,e7,e8,e9⟩:=hj.pushAt Tryz.underlying101 A9p hw hr (x:=[.int .i64 x0,.int .i64 x1,.int .i64 x2,.int .i64 x3]) rfl;have hb:=bld_81 (v0:=.int .i64 x0) (v1:=.int .i64 x1) (v2:=.int .i64 x2) (v3:=.int .i64 x3) rfl rfl rfl rfl;have hbs:=B6q (H:=H) (x:=.agg #[.int .i64 x0,.int .i64 x1,.int .i64 x2,.int .i64 x3]) rfl rfl;have ha:=C0k (H:=H) (base:=a) (len:=r.length) (cap:=cap) (x:=[.int .i64 x0,.int .i64 x1,.int .i64 x2,.int .i64 x3]) rfl (by omega);rw[e1]at ha;have hn2:=(hg.keep (e7.old g (hg.lt hw) hgj)).cell 1;have st:A7d Tryz.prog 111 H2 w' (.pointer (some p))=some H3:=by rw[A9b A9p e8,e4]
 have hav:=hj.top.veq;have va:∀xs:Array Value,A6a (.agg xs)=xs.toList:=fun _=>rfl;simp only[va]at hbs;refine A8n (fl:=[(0,[]),(1,[]),(2,[]),(3,[]),(4,[]),(5,[]),(6,[]),(7,[]),(8,[]),(9,[]),(10,[]),(11,[]),(12,[]),(13,[]),(14,[]),(15,[]),(16,[]),(17,[]),(18,[3]),(19,[]),(20,[])]) (by kernel_rfl) (by kernel_rfl) (by kernel_rfl) ?_;simp only[↓Sh.dn,sx,reduceCtorEq,Nat.reduceEqDiff,wpr,again,A2d,forall_eq',hn,e2,e3,hb,hbs,ha,hn2,st,hres,hav];exact⟨e6,_,_,e5,e9⟩
def A1t(n c x:Int):Int:=if n=0∨x<c then x else c
theorem C7m{H:AH}{g:Nat}{sv av ev cv:Value}{ends costs:List Int}{oe oc:Option Nat}{s:Nat}{x:Int}
  (hg:Arr H g 0 4 [sv,av,ev,cv]) (he:Buf H 1 ev (ends.map fun n=>[.int .i64 n]) oe) (hc:Buf H 1 cv (costs.map fun n=>[.int .i64 n]) oc)
  (hge:oe≠some g) (hgc:oc≠some g) (hec:∀y,oe=some y→oc≠some y) (hs:s<ends.length) (hs':s<costs.length) (hw:Wf H)
  (h0:0≤ends[s]) (h1:ends[s]≤1048576):
  Sh.Call Tryz.prog (knows 7) 62 [.pointer (some ⟨g,0,some 0⟩),.int .i64 (s:Int),.int .i64 x] H (fun r H'=>Chg (fun y=>oe=some y∨oc=some y) H H'∧H'.next=H.next∧Buf H' 1 ev ((ends.set s (ends[s]+1)).map fun n=>[.int .i64 n]) oe∧Buf H' 1 cv ((costs.set s (A1t ends[s] costs[s] x)).map fun n=>[.int .i64 n]) oc):=by
 refine A5a rfl Tryz.func62 rfl (Nat.le_of_ble_eq_true rfl) ?_;have hres:Tryz.f62.results.toList=[]:=rfl;have hn:=hg.cell 2;have hm:=hg.cell 3;obtain⟨q,o,k,hia,hcs,hcc⟩:=he.toSl.at Tryz.underlying71 A1c (i:=s) (x:=[.int .i64 ends[s]]) (by simp[hs]) .i64;have hy:=hcc 0 _ rfl;obtain⟨q',o',k',hia',hcs',hcc'⟩:=hc.toSl.at Tryz.underlying71 A1c (i:=s) (x:=[.int .i64 costs[s]]) (by simp[hs']) .i64;have hy':=hcc' 0 _ rfl;simp only[Nat.add_zero]at hy hy';have wu:IntKind.wrap .i64 (ends[s]+1)=ends[s]+1:=by rw[wrap64 (by omega) (by omega)]
 have tl : ∀ H1, Chg (fun y => oc = some y) H H1 → H1.next = H.next → ∃ H2, H1.cell ⟨g, 2, some 0⟩ = some ev ∧ H1.cell ⟨q, o, some k⟩ = some (.int .i64 ends[s]) ∧
     H1.write ⟨q, o, some k⟩ [.int .i64 (ends[s] + 1)] = some H2 ∧ Buf H2 1 ev ((ends.set s (ends[s] + 1)).map fun n => [.int .i64 n]) oe ∧ Chg (fun y => oe = some y ∨ oc = some y) H H2 ∧ Chg (fun y => oe = some y) H1 H2 ∧ H2.next = H.next := by
   intro H1 hch hnx;have he1 := he.chg hw hch fun y h1 h2 => hec y h1 h2;obtain⟨q1, o1, k1, hia1, hcs, hcc⟩ := he1.toSl.at Tryz.underlying71 A1c (i := s) (x := [.int .i64 ends[s]]) (by simp[hs]) .i64;have hy := hcc 0 _ rfl;simp only[Nat.add_zero]at hy;obtain⟨pe, H2, ia1, e1, b1, c1, n1⟩ := Buf.set (P := Tryz.prog) he1 hch.wf (i := s) (x := [.int .i64 (ends[s] + 1)]) (by simpa using hs) rfl;have ia := ia1 Tryz.underlying71 A1c (j := .i64);rw[hia1]at ia;injection ia with ia;injection ia with ia;injection ia with ia;subst ia
   rw[hia]at hia1;injection hia1 with ib;injection ib with ib;injection ib with ib;rw[←ib]at hy e1
   have hg1 := hg.keep (hch.old g (hg.lt hw) hgc);exact⟨H2, hg1.cell 2, hy, e1, by simpa only[List.map_set] using b1, (hch.weak fun _ h => Or.inr h).trans (c1.weak fun _ h => Or.inl h), c1, by rw[n1, hnx]⟩
 have st:∀(H:AH) (a:Addr) (n:Int),A7d Tryz.prog 3 H (.int .i64 n) (.pointer (some a))=H.write a [.int .i64 n]:=fun H a n=>A9b A1c rfl;have lastC:∀H1 H2,Buf H1 1 cv ((costs.set s x).map fun n=>[.int .i64 n]) oc→Wf H1→Chg (fun y=>oe=some y) H1 H2→(ends[s]=0∨x<costs[s])→Buf H2 1 cv ((costs.set s (A1t ends[s] costs[s] x)).map fun n=>[.int .i64 n]) oc:=by
  intro H1 H2 hb hw1 hch h;unfold A1t;rw[if_pos h];exact hb.chg hw1 hch fun y h1 h2=>hec y h2 h1
 obtain⟨pc,C1,ia2,f1,d1,g1,m1⟩:=Buf.set (P:=Tryz.prog) hc hw (i:=s) (x:=[.int .i64 x]) (by simpa using hs') rfl;have ia:=ia2 Tryz.underlying71 A1c (j:=.i64);rw[hia']at ia;injection ia with ia;injection ia with ia;injection ia with ia;subst ia
 have d1':Buf C1 1 cv ((costs.set s x).map fun n=>[.int .i64 n]) oc:=by simpa only[List.map_set] using d1
 by_cases hz:ends[s]=0
 ·have d:decide (ends[s]=0)=true:=by simp[hz]
  obtain⟨H2,j2,j3,j4,j5,j6,j7,j8⟩:=tl C1 g1 m1;simp only[↓Sh.dn,sx,reduceCtorEq,Nat.reduceEqDiff,hn,hm,hia,hy,hia',d,st,f1,j2,j3,j4,wu,hres];exact⟨j6,j8,j5,lastC _ _ d1' g1.wf j7 (Or.inl hz)⟩
 ·have d:decide (ends[s]=0)=false:=by simp[hz]
  by_cases hx:x<costs[s]
  ·have d':decide (x<costs[s])=true:=by simp[hx]
   obtain⟨H2,j2,j3,j4,j5,j6,j7,j8⟩:=tl C1 g1 m1;simp only[↓Sh.dn,sx,reduceCtorEq,Nat.reduceEqDiff,hn,hm,hia,hy,hia',hy',d,d',st,f1,j2,j3,j4,wu,hres];exact⟨j6,j8,j5,lastC _ _ d1' g1.wf j7 (Or.inr hx)⟩
  ·have d':decide (x<costs[s])=false:=by simp[hx]
   obtain⟨H2,j2,j3,j4,j5,j6,j7,j8⟩:=tl H (Chg.refl hw) rfl;simp only[↓Sh.dn,sx,reduceCtorEq,Nat.reduceEqDiff,hn,hm,hia,hy,hia',hy',d,d',st,j4,wu,hres];refine⟨j6,j8,j5,?_⟩;have e:costs.set s (A1t ends[s] costs[s] x)=costs:=by
    unfold A1t;rw[if_neg (by simp[hz,hx])];exact List.set_getElem_self hs'
   rw[e];exact hc.chg hw j7 fun y h1 h2=>hec y h2 h1
theorem C5l{H:AH}{X:Nat→Prop}{g:Nat}{sigma:List ByteArray}{rows:List (List (List Value))}{ends costs:List Int}{s:Nat}{r:List (List Value)}{x0 x1 x2 x3:Int}
  (h:GrX H X g sigma rows ends costs) (hr:rows[s]?=some r) (hl:r.length≤17179869183) (hw:Wf H):
  Sh.Call Tryz.prog (knows 7) 63 [.pointer (some ⟨g,0,some 0⟩),.int .i64 (s:Int),.int .i64 x0,.int .i64 x1,.int .i64 x2,.int .i64 x3] H (fun _ H'=>Chg X H H'∧GrX H' (fun y=>X y∨H.next≤y) g sigma (rows.set s (r++[[.int .i64 x0,.int .i64 x1,.int .i64 x2,.int .i64 x3]])) ends costs):=by
 obtain⟨sv,av,ev,cv,os,ot,oe,oc,vals,obs,h,ho⟩:=h;refine(C7g h.arr h.jag h.gj hr hl hw).mono ?_;rintro _ H' ⟨hc,vals',obs',hj,hin⟩;have hg:=h.arr.lt hw;refine⟨hc.weak fun y hy=>ho y (.inr (.inr (.inl hy))),sv,av,ev,cv,os,ot,oe,oc,vals',obs',?_,?_⟩
 ·exact{ h with
  arr:=h.arr.keep (hc.old g hg h.gj)
  sg:=h.sg.chg hw hc h.sj
  jag:=hj
  en:=h.en.chg hw hc h.je
  co:=h.co.chg hw hc h.jc
  fj:=fun _ _=>Nat.zero_le _
  gj:=fun hy=>by
   rcases hin g hy with h1|h1
   ·exact h.gj h1
   ·omega
  sj:=fun y hy hy2=>by
   rcases hin y hy2 with h1|h1
   ·exact h.sj y hy h1
   ·have:=h.sg.lt hw y hy;omega
  je:=fun y hy hy2=>by
   rcases hin y hy2 with h1|h1
   ·exact h.je y hy h1
   ·have:=h.en.lt hw y hy;omega
  jc:=fun y hy hy2=>by
   rcases hin y hy2 with h1|h1
   ·exact h.jc y hy h1
   ·have:=h.co.lt hw y hy;omega }
 ·rintro y (hy|hy|hy|hy|hy)
  ·exact .inl (ho y (.inl hy))
  ·exact .inl (ho y (.inr (.inl hy)))
  ·rcases hin y hy with h1|h1
   ·exact .inl (ho y (.inr (.inr (.inl h1))))
   ·exact .inr h1
  ·exact .inl (ho y (.inr (.inr (.inr (.inl hy)))))
  ·exact .inl (ho y (.inr (.inr (.inr (.inr hy)))))
theorem grEndX{H:AH}{X:Nat→Prop}{g:Nat}{sigma:List ByteArray}{rows:List (List (List Value))}{ends costs:List Int}{s:Nat}{x:Int}
  (h:GrX H X g sigma rows ends costs) (hs:s<ends.length) (hs':s<costs.length) (hw:Wf H) (h0:0≤ends[s]) (h1:ends[s]≤1048576):
  Sh.Call Tryz.prog (knows 7) 62 [.pointer (some ⟨g,0,some 0⟩),.int .i64 (s:Int),.int .i64 x] H (fun _ H'=>Chg X H H'∧GrX H' X g sigma rows (ends.set s (ends[s]+1)) (costs.set s (A1t ends[s] costs[s] x))):=by
 obtain⟨sv,av,ev,cv,os,ot,oe,oc,vals,obs,h,ho⟩:=h;refine(C7m h.arr h.en h.co h.ge h.gc h.ec hs hs' hw h0 h1).mono ?_;rintro _ H' ⟨hc,hn,he,hcc⟩;refine⟨hc.weak fun y hy=>?_,sv,av,ev,cv,os,ot,oe,oc,vals,obs,{ h with arr:=h.arr.keep (hc.old g (h.arr.lt hw) ?_),sg:=h.sg.chg hw hc ?_,jag:=h.jag.chg hw hc ?_,en:=he,co:=hcc },ho⟩
 ·rcases hy with hy|hy
  ·exact ho y (.inr (.inr (.inr (.inl hy))))
  ·exact ho y (.inr (.inr (.inr (.inr hy))))
 ·rintro(hy|hy)
  ·exact h.ge hy
  ·exact h.gc hy
 ·rintro y hy (hy2|hy2)
  ·exact h.se y hy hy2
  ·exact h.sc y hy hy2
 ·rintro y hy (hy2|hy2)
  ·exact h.je y hy2 hy
  ·exact h.jc y hy2 hy
theorem B7v{H H2:AH}{s:Nat}{vals:List Value}(hv:veqs vals vals=true)(he:H2.objs.get H.next=(H.new s vals).2.objs.get H.next):C6y H.next (H.new s vals).2 H2:=by
 intro x hx;have:=Sh.Obj.new (H:=H) s vals;unfold Sh.Obj at this;rw[he];refine⟨hx,?_⟩;rw[this]at hx;injection hx with hx
 subst hx;simp[B2a,C7w,hv]
theorem grState{H:AH}{X:Nat→Prop}{g:Nat}{sigma:List ByteArray}{rows:List (List (List Value))}{ends costs:List Int}
  (h:GrX H X g sigma rows ends costs) (hl:rows.length≤1048576) (he:ends.length=rows.length) (hc:costs.length=rows.length) (hw:Wf H):
  Sh.Call Tryz.prog (knows 7) 61 [.pointer (some ⟨g,0,some 0⟩)] H (fun r H'=>Chg X H H'∧r=.int .i64 (rows.length:Int)∧GrX H' (fun y=>X y∨H.next≤y) g sigma (rows++[[]]) (ends++[0]) (costs++[0])):=by
 refine A5a rfl Tryz.func61 rfl (Nat.le_of_ble_eq_true rfl) ?_;have hres:Tryz.f61.results.toList=[.tmp 2]:=rfl;obtain⟨sv,av,ev,cv,os,ot,oe,oc,vals,obs,h,ho⟩:=h;have hg:=h.arr.lt hw;have b1:=C5s (H:=H) (x:=.slice none 0 0) rfl rfl;have k1:=Kept.new hw 1 [.slice none 0 0];have q1:Buf (H.new 1 [.slice none 0 0]).2 1 (.slice (some ⟨H.next,0,some 0⟩) 1 1) [[.slice none 0 0]] (some H.next):=Buf.fresh (H:=H) (s:=1) (xs:=[[.slice none 0 0]]) hw (by simp) (by simp) 1 rfl;have m1:=fun H2=>B7v (H:=H) (H2:=H2) (s:=1) (vals:=[.slice none 0 0]) (by simp[A1k,A7m,A5l]);have n1:(H.new 1 [.slice none 0 0]).2.next=H.next+1:=rfl;obtain⟨K1,hK1⟩:∃K,(H.new 1 [.slice none 0 0]).2=K:=⟨_,rfl⟩
 simp only[A6a]at b1;rw[hK1]at b1 k1 q1 m1 n1;have b2:=A3o (H:=K1) (x:=.int .i64 0) rfl rfl;have k2:=Kept.new k1.wf 1 [.int .i64 0];have q2:Buf (K1.new 1 [.int .i64 0]).2 1 (.slice (some ⟨K1.next,0,some 0⟩) 1 1) [[.int .i64 0]] (some K1.next):=Buf.fresh (H:=K1) (s:=1) (xs:=[[.int .i64 0]]) k1.wf (by simp) (by simp) 1 rfl;have m2:=fun H2=>B7v (H:=K1) (H2:=H2) (s:=1) (vals:=[.int .i64 0]) (by simp[A1k,A7m,A3h]);have n2:(K1.new 1 [.int .i64 0]).2.next=K1.next+1:=rfl;obtain⟨K2,hK2⟩:∃K,(K1.new 1 [.int .i64 0]).2=K:=⟨_,rfl⟩
 simp only[A6a]at b2;rw[hK2]at b2 k2 q2 m2 n2;have b3:=A3o (H:=K2) (x:=.int .i64 0) rfl rfl;have k3:=Kept.new k2.wf 1 [.int .i64 0];have q3:Buf (K2.new 1 [.int .i64 0]).2 1 (.slice (some ⟨K2.next,0,some 0⟩) 1 1) [[.int .i64 0]] (some K2.next):=Buf.fresh (H:=K2) (s:=1) (xs:=[[.int .i64 0]]) k2.wf (by simp) (by simp) 1 rfl;have m3:=fun H2=>B7v (H:=K2) (H2:=H2) (s:=1) (vals:=[.int .i64 0]) (by simp[A1k,A7m,A3h]);have n3:(K2.new 1 [.int .i64 0]).2.next=K2.next+1:=rfl;obtain⟨K3,hK3⟩:∃K,(K2.new 1 [.int .i64 0]).2=K:=⟨_,rfl⟩
 simp only[A6a]at b3;rw[hK3]at b3 k3 q3 m3 n3;have k12:=k1.trans k2;have k13:=k12.trans k3;have h3:GrB K3 0 g sv av ev cv os ot oe oc vals obs sigma rows ends costs:=h.chg hw (k13.chg (X:=none')) fun _ _ h=>h;have hg3:=h3.arr.lt k3.wf;obtain⟨a1,c1,av',A1,ot',rfl,e1,hj1,g1,i1,in1⟩:=h3.jag.addRow k3.wf;have q1a:=(q1.kept k1.wf (k2.trans k3)).toSl;have ap1:=app_101 (base:=a1) (len:=rows.length) (cap:=c1) (q1a.srcKind Tryz.underlying101) q1a.newCells (by simp;omega);have hfl1:flat [[Value.slice none 0 0]]=[.slice none 0 0]:=by simp[flat]
 have hfl2:flat [[Value.int .i64 0]]=[.int .i64 0]:=by simp[flat]
 simp only[List.length_singleton,hfl1]at ap1;rw[e1]at ap1;have otK:∀y,ot=some y→y<H.next:=fun y hy=>h.jag.top.lt hw y hy;have jK:∀y,JIn ot obs y→y<H.next:=fun y hy=>h.jag.lt hw y hy;have oeK:∀y,oe=some y→y<H.next:=fun y hy=>h.en.lt hw y hy;have ocK:∀y,oc=some y→y<H.next:=fun y hy=>h.co.lt hw y hy;have x1:=g1.next;have en1:=h3.en.chg k3.wf g1 fun y hy hyt=>h3.je y hy (.inl hyt);have co1:=h3.co.chg k3.wf g1 fun y hy hyt=>h3.jc y hy (.inl hyt);have q2a:=(q2.kept k2.wf k3).chg k3.wf g1 fun y hy hyt=>by have:=otK y hyt;have:=Option.some.inj hy;omega
 have q3a:=q3.chg k3.wf g1 fun y hy hyt=>by have:=otK y hyt;have:=Option.some.inj hy;omega
 obtain⟨a2,c2,hev⟩:=en1.shape;rw[List.length_map]at hev;subst hev;obtain⟨ev',A2,oe',e2,hj2,g2,ne2⟩:=en1.append g1.wf (xs:=[[.int .i64 0]]) (by simp);have ap2:=C9h (base:=a2) (len:=ends.length) (cap:=c2) (q2a.toSl.srcKind Tryz.underlying71) q2a.toSl.newCells (by simp;omega);simp only[List.length_singleton,hfl2]at ap2 e2;rw[e2]at ap2;have x2:=g2.next;have co2:=co1.chg g1.wf g2 fun y hy hye=>h3.ec y hye hy;have q3b:=q3a.chg g1.wf g2 fun y hy hye=>by have:=oeK y hye;have:=Option.some.inj hy;omega
 obtain⟨a3,c3,hcv⟩:=co2.shape;rw[List.length_map]at hcv;subst hcv;obtain⟨cv',A3,oc',e3,hj3,g3,ne3⟩:=co2.append g2.wf (xs:=[[.int .i64 0]]) (by simp);have ap3:=C9h (base:=a3) (len:=costs.length) (cap:=c3) (q3b.toSl.srcKind Tryz.underlying71) q3b.toSl.newCells (by simp;omega);simp only[List.length_singleton,hfl2]at ap3 e3;rw[e3]at ap3;have x3:=g3.next;have arr1:=h3.arr.keep (g1.old g hg3 fun hy=>h3.gj (.inl hy));have arr2:=arr1.keep (g2.old g (Nat.lt_of_lt_of_le hg3 x1) h3.ge);have arr3:=arr2.keep (g3.old g (Nat.lt_of_lt_of_le hg3 (Nat.le_trans x1 x2)) h3.gc);obtain⟨S1,w1,ar1,v1,z1⟩:=arr3.write g3.wf (i:=1) (vs:=[av']) (by simp);have sc1:setCells [sv,.slice a1 rows.length c1,.slice a2 ends.length c2,.slice a3 costs.length c3] 1 [av']=[sv,av',.slice a2 ends.length c2,.slice a3 costs.length c3]:=rfl;rw[sc1]at ar1;obtain⟨S2,w2,ar2,v2,z2⟩:=ar1.write z1.wf (i:=2) (vs:=[ev']) (by simp);have sc2:setCells [sv,av',.slice a2 ends.length c2,.slice a3 costs.length c3] 2 [ev']=[sv,av',ev',.slice a3 costs.length c3]:=rfl;rw[sc2]at ar2;obtain⟨S3,w3,ar3,v3,z3⟩:=ar2.write z2.wf (i:=3) (vs:=[cv']) (by simp);have sc3:setCells [sv,av',ev',.slice a3 costs.length c3] 3 [cv']=[sv,av',ev',cv']:=rfl;rw[sc3]at ar3;have ih1:=hj1.top.isCell;have ih2:=hj2.isCell;have ih3:=hj3.isCell;have st1:A7d Tryz.prog 101 A3 av' (.pointer (some ⟨g,1,some 0⟩))=some S1:=by rw[A9b C5g ih1,w1]
 have st2:A7d Tryz.prog 71 S1 ev' (.pointer (some ⟨g,2,some 0⟩))=some S2:=by rw[A9b A6s ih2,w2]
 have st3:A7d Tryz.prog 71 S2 cv' (.pointer (some ⟨g,3,some 0⟩))=some S3:=by rw[A9b A6s ih3,w3]
 have l1:=h.arr.cell 1;have l2:K1.cell ⟨g,2,some 0⟩=some (.slice a2 ends.length c2):=(h.arr.keep (k1.old g hg)).cell 2;have l3:K2.cell ⟨g,3,some 0⟩=some (.slice a3 costs.length c3):=(h.arr.keep (k12.old g hg)).cell 3;have r2:A1.cell ⟨g,2,some 0⟩=some (.slice a2 ends.length c2):=arr1.cell 2;have r3:A1.cell ⟨g,3,some 0⟩=some (.slice a3 costs.length c3):=arr1.cell 3;have r4:A2.cell ⟨g,3,some 0⟩=some (.slice a3 costs.length c3):=arr2.cell 3;have u1:C6y K1.next K2 A1:=m2 A1 ((g1.old K1.next (by omega) fun hy=>by have:=otK _ hy;omega).trans (k3.old K1.next (by omega)));have u2:C6y K2.next K3 A1:=m3 A1 (g1.old K2.next (by omega) fun hy=>by have:=otK _ hy;omega);have u3:C6y K2.next K3 A2:=m3 A2 ((g2.old K2.next (by omega) fun hy=>by have:=oeK _ hy;omega).trans (g1.old K2.next (by omega) fun hy=>by have:=otK _ hy;omega));have hlenA:∀H',A3a Tryz.prog .len [101] [av'] H'=some (.int .i64 ((rows.length+1:Nat):Int),H'):=fun H'=>by
  rw[hj1.top.toSl.len Tryz.underlying101];simp[h.jag.len1]
 have wl:IntKind.wrap .i64 (((rows.length+1:Nat):Int)-1)=(rows.length:Int):=by rw[wrap64 (by omega) (by omega)];omega
 have lf:S3.cell ⟨g,1,some 0⟩=some av':=ar3.cell 1;simp only[↓Sh.dn,sx];refine wp_made (fl:=[(0,[],[],[]),(1,[],[],[]),(2,[],[],[]),(3,[],[],[]),(4,[],[],[]),(5,[],[],[]),(6,[],[],[]),(7,[],[],[]),(9,[],[],[]),(10,[],[],[]),(11,[],[],[]),(12,[],[],[]),(13,[],[],[]),(15,[],[],[]),(16,[],[],[]),(17,[],[],[]),(18,[],[],[]),(19,[],[],[]),(8,[18,12],[true,true,false],[true,true,false]),(14,[18],[true,false],[true,false]),(20,[],[false],[false]),(21,[],[],[]),(22,[],[],[]),(23,[],[],[]),(24,[],[],[]),(25,[],[],[]),(26,[],[],[]),(27,[],[],[]),(28,[],[],[]),(29,[],[],[])]) (by kernel_rfl) (by kernel_rfl) (by kernel_rfl) ?_;simp only[↓Sh.dn,sx,reduceCtorEq,Nat.reduceEqDiff,wpm,B02,C28,B7i,again,isEff,A2d,A5l,forall_eq',l1,l2,l3,b1,b2,b3,ap1,ap2,ap3,r2,r3,r4,u1,u2,u3,st1,st2,st3,lf,hlenA,wl,hres];have hX:∀y,(ot=some y∨oe=some y∨oc=some y∨y=g)→X y:=by
  rintro y (hy|hy|hy|hy)
  ·exact ho y (.inr (.inr (.inl (.inl hy))))
  ·exact ho y (.inr (.inr (.inr (.inl hy))))
  ·exact ho y (.inr (.inr (.inr (.inr hy))))
  ·exact ho y (.inl hy)
 have tot:Chg X H S3:=((((((k13.chg (X:=X)).trans (g1.weak fun y hy=>hX y (.inl hy))).trans (g2.weak fun y hy=>hX y (.inr (.inl hy)))).trans (g3.weak fun y hy=>hX y (.inr (.inr (.inl hy))))).trans (z1.weak fun y hy=>hX y (.inr (.inr (.inr hy))))).trans (z2.weak fun y hy=>hX y (.inr (.inr (.inr hy))))).trans (z3.weak fun y hy=>hX y (.inr (.inr (.inr hy))));refine⟨tot,sv,av',ev',cv',os,ot',oe',oc',vals++[.slice none 0 0],obs++[none],?_,?_⟩
 ·have hen:(ends++[0]).map intC=ends.map intC++[[.int .i64 0]]:=by simp[intC]
  have hco:(costs++[0]).map intC=costs.map intC++[[.int .i64 0]]:=by simp[intC]
  have jn:∀y,JIn ot' (obs++[none]) y→JIn ot obs y∨K3.next≤y∧y<A1.next:=fun y hy=>(in1 y hy).imp id fun h=>⟨h,hj1.lt g1.wf y hy⟩
  have en':∀y,oe'=some y→oe=some y∨y=A1.next∧A1.next<A2.next:=fun y hy=>by
   rcases ne2 with h4|⟨h4,h5⟩
   ·exact .inl (by rw[←h4];exact hy)
   ·rw[h4]at hy;exact .inr ⟨(Option.some.inj hy).symm,h5⟩
  have cn':∀y,oc'=some y→oc=some y∨y=A2.next:=fun y hy=>by
   rcases ne3 with h4|⟨h4,h5⟩
   ·exact .inl (by rw[←h4];exact hy)
   ·rw[h4]at hy;exact .inr (Option.some.inj hy).symm
  have osK:∀y,os=some y→y<H.next:=fun y hy=>h.sg.lt hw y hy;have gtot:∀{B:AH},Chg (fun y=>y=g) A3 B→True:=fun _=>trivial;have z12:=z1.trans (z2.trans z3);have kS:=(z1.trans z2).trans z3;refine{ arr:=ar3,sg:=?_,jag:=?_,en:=?_,co:=?_,fg:=Nat.zero_le _,fs:=fun _ _=>Nat.zero_le _,fj:=fun _ _=>Nat.zero_le _,fe:=fun _ _=>Nat.zero_le _,fc:=fun _ _=>Nat.zero_le _,gs:=h.gs,gj:=?_,ge:=?_,gc:=?_,sj:=?_,se:=?_,sc:=?_,je:=?_,jc:=?_,ec:=?_ }
  ·exact(((h3.sg.chg k3.wf g1 fun y hy hyt=>h3.sj y hy (.inl hyt)).chg g1.wf g2 fun y hy hye=>h3.se y hy hye).chg g2.wf g3 fun y hy hyc=>h3.sc y hy hyc).chg g3.wf kS fun y hy hyg=>h.gs (by rw[hy,hyg])
  ·refine((hj1.chg g1.wf g2 fun y hy hye=>?_).chg g2.wf g3 fun y hy hyc=>?_).chg g3.wf kS fun y hy hyg=>?_
   ·rcases jn y hy with h1|h1
    ·exact h3.je y hye h1
    ·have:=oeK y hye;omega
   ·rcases jn y hy with h1|h1
    ·exact h3.jc y hyc h1
    ·have:=ocK y hyc;omega
   ·rcases jn y hy with h1|h1
    ·exact h.gj (hyg ▸ h1)
    ·omega
  ·rw[hen]
   refine(hj2.chg g2.wf g3 fun y hy hyc=>?_).chg g3.wf kS fun y hy hyg=>?_
   ·rcases en' y hy with h1|⟨h1,_⟩
    ·exact h3.ec y h1 hyc
    ·have:=ocK y hyc;omega
   ·rcases en' y hy with h1|⟨h1,_⟩
    ·exact h.ge (hyg ▸ h1)
    ·omega
  ·rw[hco]
   refine hj3.chg g3.wf kS fun y hy hyg=>?_;rcases cn' y hy with h1|h1
   ·exact h.gc (hyg ▸ h1)
   ·omega
  ·intro hy
   rcases jn g hy with h1|h1
   ·exact h.gj h1
   ·omega
  ·intro hy
   rcases en' g hy with h1|⟨h1,_⟩
   ·exact h.ge h1
   ·omega
  ·intro hy
   rcases cn' g hy with h1|h1
   ·exact h.gc h1
   ·omega
  ·intro y hy hy2
   rcases jn y hy2 with h1|h1
   ·exact h.sj y hy h1
   ·have:=osK y hy;omega
  ·intro y hy hy2
   rcases en' y hy2 with h1|⟨h1,_⟩
   ·exact h.se y hy h1
   ·have:=osK y hy;omega
  ·intro y hy hy2
   rcases cn' y hy2 with h1|h1
   ·exact h.sc y hy h1
   ·have:=osK y hy;omega
  ·intro y hy hy2
   rcases en' y hy with h1|⟨h1,h5⟩
   ·rcases jn y hy2 with h2|h2
    ·exact h.je y h1 h2
    ·have:=oeK y h1;omega
   ·rcases jn y hy2 with h2|h2
    ·have:=jK y h2;omega
    ·omega
  ·intro y hy hy2
   rcases cn' y hy with h1|h1
   ·rcases jn y hy2 with h2|h2
    ·exact h.jc y h1 h2
    ·have:=ocK y h1;omega
   ·rcases jn y hy2 with h2|h2
    ·have:=jK y h2;omega
    ·omega
  ·intro y hy hy2
   rcases en' y hy with h1|⟨h1,h5⟩
   ·rcases cn' y hy2 with h2|h2
    ·exact h.ec y h1 h2
    ·have:=oeK y h1;omega
   ·rcases cn' y hy2 with h2|h2
    ·have:=ocK y h2;omega
    ·omega
 ·rintro y (hy|hy|hy|hy|hy)
  ·exact .inl (ho y (.inl hy))
  ·exact .inl (ho y (.inr (.inl hy)))
  ·rcases in1 y hy with h1|h1
   ·exact .inl (ho y (.inr (.inr (.inl h1))))
   ·exact .inr (by omega)
  ·rcases ne2 with h4|⟨h4,h5⟩
   ·exact .inl (ho y (.inr (.inr (.inr (.inl (by rw[←h4];exact hy))))))
   ·rw[h4]at hy;have:=Option.some.inj hy;exact .inr (by omega)
  ·rcases ne3 with h4|⟨h4,h5⟩
   ·exact .inl (ho y (.inr (.inr (.inr (.inr (by rw[←h4];exact hy))))))
   ·rw[h4]at hy;have:=Option.some.inj hy;exact .inr (by omega)
theorem GrX.steady{H:AH}{X Y:Nat→Prop}{g:Nat}{sigma:List ByteArray}{rows:List (List (List Value))}{ends costs:List Int}(h:GrX H Y g sigma rows ends costs)(hw:Wf H)(hd:∀y,Y y→¬X y):
  ∃sv av ev cv vals,∀H',Chg X H H'→GrR H' g sv av ev cv vals sigma rows ends costs:=by
 obtain⟨sv,av,ev,cv,os,ot,oe,oc,vals,obs,h,ho⟩:=h;refine⟨sv,av,ev,cv,vals,fun H' hc=>⟨h.arr.keep (hc.old g (h.arr.lt hw) (hd g (ho g (.inl rfl)))),(h.sg.chg hw hc fun y hy=>hd y (ho y (.inr (.inl hy)))).toSl,(h.jag.chg hw hc fun y hy=>hd y (ho y (.inr (.inr (.inl hy))))).read,(h.en.chg hw hc fun y hy=>hd y (ho y (.inr (.inr (.inr (.inl hy)))))).toSl,(h.co.chg hw hc fun y hy=>hd y (ho y (.inr (.inr (.inr (.inr hy)))))).toSl⟩⟩
theorem GrX.setEC{H:AH}{X:Nat→Prop}{g:Nat}{sigma:List ByteArray}{rows:List (List (List Value))}{ends costs:List Int}{s:Nat}(h:GrX H X g sigma rows ends costs)(hw:Wf H)(hs:s<ends.length)(hs':s<costs.length)(x y:Int):
  ∃ev cv p1 p2 H1 H2,H.cell ⟨g,2,some 0⟩=some ev∧H.cell ⟨g,3,some 0⟩=some cv∧H1.cell ⟨g,3,some 0⟩=some cv∧veq cv cv=true∧A4b Tryz.prog 71 ev (.int .i64 (s:Int))=some (.pointer (some p1))∧A4b Tryz.prog 71 cv (.int .i64 (s:Int))=some (.pointer (some p2))∧
   A7d Tryz.prog 3 H (.int .i64 x) (.pointer (some p1))=some H1∧A7d Tryz.prog 3 H1 (.int .i64 y) (.pointer (some p2))=some H2∧Chg X H H1∧Chg X H H2∧GrX H2 X g sigma rows (ends.set s x) (costs.set s y):=by
 obtain⟨sv,av,ev,cv,os,ot,oe,oc,vals,obs,h,ho⟩:=h;obtain⟨p1,H1,i1,e1,b1,c1,n1⟩:=Buf.set (P:=Tryz.prog) h.en hw (i:=s) (x:=intC x) (by simpa using hs) rfl;have hco1:=h.co.chg hw c1 fun y hy hye=>h.ec y hye hy;obtain⟨p2,H2,i2,e2,b2,c2,n2⟩:=Buf.set (P:=Tryz.prog) hco1 c1.wf (i:=s) (x:=intC y) (by simpa using hs') rfl;have a1:=h.arr.keep (c1.old g (h.arr.lt hw) h.ge);have hX1:Chg X H H1:=c1.weak fun y hy=>ho y (.inr (.inr (.inr (.inl hy))));have hX2:Chg X H1 H2:=c2.weak fun y hy=>ho y (.inr (.inr (.inr (.inr hy))));have c12:Chg (fun y=>oe=some y∨oc=some y) H H2:=(c1.weak fun y hy=>.inl hy).trans (c2.weak fun y hy=>.inr hy);refine⟨ev,cv,p1,p2,H1,H2,h.arr.cell 2,h.arr.cell 3,a1.cell 3,h.co.toSl.veq,i1 Tryz.underlying71 A1c,i2 Tryz.underlying71 A1c,by rw[A9b A1c rfl];exact e1,by rw[A9b A1c rfl];exact e2,hX1,hX1.trans hX2,sv,av,ev,cv,os,ot,oe,oc,vals,obs,{ h with arr:=h.arr.keep (c12.old g (h.arr.lt hw) ?_),sg:=h.sg.chg hw c12 ?_,jag:=h.jag.chg hw c12 ?_,en:=?_,co:=?_ },ho⟩
 ·rintro(hy|hy)
  ·exact h.ge hy
  ·exact h.gc hy
 ·rintro y hy (hy2|hy2)
  ·exact h.se y hy hy2
  ·exact h.sc y hy hy2
 ·rintro y hy (hy2|hy2)
  ·exact h.je y hy2 hy
  ·exact h.jc y hy2 hy
 ·rw[List.map_set];exact b1.chg c1.wf c2 fun y hy hyc=>h.ec y hy hyc
 ·rw[List.map_set];exact b2
theorem objNew{H:AH}{s:Nat}{vals:List Value}(h:veqs vals vals=true):∀x,(H.new s vals).2.objs.get H.next=some x→B2a x x=true:=by
 intro x hx;have:=Obj.new (H:=H) s vals;unfold Obj at this;rw[this]at hx;injection hx with hx
 subst hx;simp[B2a,C7w,h]
theorem C19{H:AH}{n:Nat}{z:Value}(hz:veq z z=true):∀x,(H.new 1 (List.replicate n z)).2.objs.get H.next=some x→B2a x x=true:=
 objNew (B0m fun x hx=>by rw[(List.mem_replicate.1 hx).2];exact hz)
theorem A42{H:AH}{v:Value}{l:List ByteArray}{n:Nat}(hs:Sl H v 1 (l.map A6b))(hl:l.length≤1048576)(hn:n≤1048576)(hw:Wf H):
  Sh.Call Tryz.prog (knows 7) 59 [v,.int .i64 (n:Int)] H (fun r H'=>Kept H H'∧∃g,r=.pointer (some ⟨g,0,some 0⟩)∧Gr H' H.next g l (List.replicate n []) (List.replicate n 0) (List.replicate n 0)):=by
 refine A5a rfl Tryz.func59 rfl (Nat.le_of_ble_eq_true rfl) ?_;have hres:Tryz.f59.results.toList=[.tmp 4]:=rfl;have m1:=mk_101 (H:=H) (l:=n) (c:=n) (Nat.le_refl _) (by omega);obtain⟨K1,hK1⟩:∃K,(H.new 1 (List.replicate n (.slice none 0 0))).2=K:=⟨_,rfl⟩
 have k1:=Kept.new hw 1 (List.replicate n (.slice none 0 0));have jg:=Jag.make hw 4 (n:=n) (by omega);rw[hK1]at m1 k1 jg;have m2:=mk_71 (H:=K1) (l:=n) (c:=n) (Nat.le_refl _) (by omega);have k2:=Kept.new k1.wf 1 (List.replicate n (.int .i64 0));have f2:=Buf.fill k1.wf (.int .i64 0) (c:=n) (by omega);obtain⟨K2,hK2⟩:∃K,(K1.new 1 (List.replicate n (.int .i64 0))).2=K:=⟨_,rfl⟩
 rw[hK2]at m2 k2 f2;have m3:=mk_71 (H:=K2) (l:=n) (c:=n) (Nat.le_refl _) (by omega);have k3:=Kept.new k2.wf 1 (List.replicate n (.int .i64 0));have f3:=Buf.fill k2.wf (.int .i64 0) (c:=n) (by omega);obtain⟨K3,hK3⟩:∃K,(K2.new 1 (List.replicate n (.int .i64 0))).2=K:=⟨_,rfl⟩
 rw[hK3]at m3 k3 f3;have x1:H.next<K1.next:=by rw[←hK1];exact Nat.lt_succ_self _
 have x2:K1.next<K2.next:=by rw[←hK2];exact Nat.lt_succ_self _
 have x3:K2.next<K3.next:=by rw[←hK3];exact Nat.lt_succ_self _
 have k123:=(k1.trans k2).trans k3;obtain⟨r,H1,hd,hk,b,hb,hf⟩:=C7f (hs.grow (k123.grow hw)) (by simpa using hl) k123.wf;have o1:=C19 (H:=H) (n:=n) (z:=.slice none 0 0) rfl;have o2:=C19 (H:=K1) (n:=n) (z:=.int .i64 0) A3h;have o3:=C19 (H:=K2) (n:=n) (z:=.int .i64 0) A3h;rw[hK1]at o1;rw[hK2]at o2;rw[hK3]at o3;simp only[↓Sh.wp_seq];simp only[↓Sh.dn,sx];refine A6u (fl:=[(0,true),(2,true),(3,false),(4,true),(5,false),(6,true),(7,false),(1,false),(8,true),(9,false),(10,true)]) (by kernel_rfl) (by kernel_rfl) hw ?_;simp only[↓Sh.dn,sx,reduceCtorEq,Nat.reduceEqDiff,wpg,B7m,isEff,A2d,isRead,forall_eq',m1,m2,m3];refine⟨o1,o2,o3,_,_,hd,hk.wf,hk.grow k123.wf,?_⟩;have nw:∀(H:AH) (a b c d:Value),isCell a=true→isCell b=true→isCell c=true→isCell d=true→anew Tryz.prog 103 H (.agg #[a,b,c,d])=some (.pointer (some ⟨H.next,0,some 0⟩),(H.new 4 [a,b,c,d]).2):=
  fun H a b c d ha hb hc hd=>A2r C0o rfl (by simp[ha,hb,hc,hd])
 have bl:∀a b c d:Value,isCell a=true→isCell b=true→isCell c=true→isCell d=true→A9n Tryz.prog 103 [(0,a),(1,b),(2,c),(3,d)]=some (.agg #[a,b,c,d]):=by
  intro a b c d ha hb hc hd;have va:∀xs:Array Value,A6a (.agg xs)=xs.toList:=fun _=>rfl;refine A5j (pl:=[(0,1),(1,1),(2,1),(3,1)]) Tryz.underlying103 B6v (by kernel_rfl) ?_;simp[A3w,A7a ha,A7a hb,A7a hc,A7a hd,va,ha,hb,hc,hd,setCells,A0c]
 have cr:=hb.isCell;have q:=nw H1 r (.slice (some ⟨H.next,0,some 0⟩) n n) (.slice (some ⟨K1.next,0,some 0⟩) n n) (.slice (some ⟨K2.next,0,some 0⟩) n n) cr rfl rfl rfl;have oq:=Obj.new (H:=H1) 4 [r,.slice (some ⟨H.next,0,some 0⟩) n n,.slice (some ⟨K1.next,0,some 0⟩) n n,.slice (some ⟨K2.next,0,some 0⟩) n n];have ee:veqs [r,.slice (some ⟨H.next,0,some 0⟩) n n,.slice (some ⟨K1.next,0,some 0⟩) n n,.slice (some ⟨K2.next,0,some 0⟩) n n] [r,.slice (some ⟨H.next,0,some 0⟩) n n,.slice (some ⟨K1.next,0,some 0⟩) n n,.slice (some ⟨K2.next,0,some 0⟩) n n]=true:=by
  refine B0m fun x hx=>?_;simp only[List.mem_cons,List.not_mem_nil,or_false]at hx;rcases hx with rfl|rfl|rfl|rfl
  ·exact hb.toSl.veq
  ·exact A5l
  ·exact A5l
  ·exact A5l
 have o4:=objNew (H:=H1) (s:=4) ee;have k4:=Kept.new hk.wf 4 [r,.slice (some ⟨H.next,0,some 0⟩) n n,.slice (some ⟨K1.next,0,some 0⟩) n n,.slice (some ⟨K2.next,0,some 0⟩) n n];have bq:=bl r (.slice (some ⟨H.next,0,some 0⟩) n n) (.slice (some ⟨K1.next,0,some 0⟩) n n) (.slice (some ⟨K2.next,0,some 0⟩) n n) cr rfl rfl rfl;simp only[sx,bq,q,hres];have hbs:∀g,b=some g→K3.next≤g:=hf;have if1:∀{m y:Nat},(if n=0 then none else some m)=some y→y=m:=by
  intro m y h;by_cases hn0:n=0
  ·rw[if_pos hn0]at h;cases h
  ·rw[if_neg hn0]at h;exact(Option.some.inj h).symm
 have jin:∀y,JIn (if n=0 then none else some H.next) (List.replicate n none) y→y=H.next:=by
  rintro y (h|⟨i,h⟩)
  ·exact if1 h
  ·rw[List.getElem?_replicate]at h
   split at h<;>cases h
 have hn:=hk.next;have c1:=(((jg.kept k1.wf k2).kept k2.wf k3).kept k3.wf hk).kept hk.wf k4;have c2:=((f2.kept k2.wf k3).kept k3.wf hk).kept hk.wf k4;have c3:=(f3.kept k3.wf hk).kept hk.wf k4;have rp:∀m:Int,(List.replicate n m).map intC=List.replicate n [.int .i64 m]:=fun m=>by simp[intC]
 have hlt:=fun y (h:b=some y)=>hb.lt hk.wf y h;refine⟨o4,k123.trans (hk.trans k4),_,rfl,_,_,_,_,b,_,_,_,_,_,⟨oq.arr,hb.kept hk.wf k4,c1,by rw[rp];exact c2,by rw[rp];exact c3,?_,?_,?_,?_,?_,?_,?_,?_,?_,?_,?_,?_,?_,?_,?_⟩⟩
 ·omega
 ·intro y h;have:=hbs y h;omega
 ·intro y h;rw[jin y h];exact Nat.le_refl _
 ·intro y h;rw[if1 h];omega
 ·intro y h;rw[if1 h];omega
 ·intro h;have:=hlt _ h;omega
 ·intro h;have:=jin _ h;omega
 ·intro h;have:=if1 h;omega
 ·intro h;have:=if1 h;omega
 ·intro y h h2;have:=hbs y h;have:=jin y h2;omega
 ·intro y h h2;have:=hbs y h;have:=if1 h2;omega
 ·intro y h h2;have:=hbs y h;have:=if1 h2;omega
 ·intro y h h2;have:=if1 h;have:=jin y h2;omega
 ·intro y h h2;have:=if1 h;have:=jin y h2;omega
 ·intro y h h2;have:=if1 h;have:=if1 h2;omega
theorem GrB.arced{H H':AH}{base g:Nat}{sv av ev cv:Value}{os ot oe oc:Option Nat}{vals vals':List Value}{obs obs':List (Option Nat)}{sigma:List ByteArray}{rows rows':List (List (List Value))}{ends costs:List Int}
  (h:GrB H base g sv av ev cv os ot oe oc vals obs sigma rows ends costs) (hw:Wf H) (hc:Chg (JIn ot obs) H H') (hj:Jag H' av ot 4 vals' rows' obs') (hin:∀y,JIn ot obs' y→JIn ot obs y∨H.next≤y):
  Chg (fun y=>base≤y) H H'∧Gr H' base g sigma rows' ends costs:=by
 have hg:=h.arr.lt hw;refine⟨hc.weak h.fj,sv,av,ev,cv,os,ot,oe,oc,vals',obs',?_⟩;exact{ h with
  arr:=h.arr.keep (hc.old g hg h.gj)
  sg:=h.sg.chg hw hc h.sj
  jag:=hj
  en:=h.en.chg hw hc h.je
  co:=h.co.chg hw hc h.jc
  fj:=fun y hy=>by
   rcases hin y hy with h1|h1
   ·exact h.fj y h1
   ·have:=h.fg;omega
  gj:=fun hy=>by
   rcases hin g hy with h1|h1
   ·exact h.gj h1
   ·omega
  sj:=fun y hy hy2=>by
   rcases hin y hy2 with h1|h1
   ·exact h.sj y hy h1
   ·have:=h.sg.lt hw y hy;omega
  je:=fun y hy hy2=>by
   rcases hin y hy2 with h1|h1
   ·exact h.je y hy h1
   ·have:=h.en.lt hw y hy;omega
  jc:=fun y hy hy2=>by
   rcases hin y hy2 with h1|h1
   ·exact h.jc y hy h1
   ·have:=h.co.lt hw y hy;omega }
theorem grArc{H:AH}{base g:Nat}{sigma:List ByteArray}{rows:List (List (List Value))}{ends costs:List Int}{s:Nat}{r:List (List Value)}{x0 x1 x2 x3:Int}
  (h:Gr H base g sigma rows ends costs) (hr:rows[s]?=some r) (hl:r.length≤17179869183) (hw:Wf H):
  Sh.Call Tryz.prog (knows 7) 63 [.pointer (some ⟨g,0,some 0⟩),.int .i64 (s:Int),.int .i64 x0,.int .i64 x1,.int .i64 x2,.int .i64 x3] H (fun _ H'=>Chg (fun y=>base≤y) H H'∧Gr H' base g sigma (rows.set s (r++[[.int .i64 x0,.int .i64 x1,.int .i64 x2,.int .i64 x3]])) ends costs):=by
 obtain⟨sv,av,ev,cv,os,ot,oe,oc,vals,obs,h⟩:=h;refine(C7g h.arr h.jag h.gj hr hl hw).mono ?_;rintro _ H' ⟨hc,vals',obs',hj,hin⟩;exact GrB.arced h hw hc hj hin
theorem grEnd{H:AH}{base g:Nat}{sigma:List ByteArray}{rows:List (List (List Value))}{ends costs:List Int}{s:Nat}{x:Int}
  (h:Gr H base g sigma rows ends costs) (hs:s<ends.length) (hs':s<costs.length) (hw:Wf H) (h0:0≤ends[s]) (h1:ends[s]≤1048576):
  Sh.Call Tryz.prog (knows 7) 62 [.pointer (some ⟨g,0,some 0⟩),.int .i64 (s:Int),.int .i64 x] H (fun _ H'=>Chg (fun y=>base≤y) H H'∧Gr H' base g sigma rows (ends.set s (ends[s]+1)) (costs.set s (A1t ends[s] costs[s] x))):=by
 obtain⟨sv,av,ev,cv,os,ot,oe,oc,vals,obs,h⟩:=h;refine(C7m h.arr h.en h.co h.ge h.gc h.ec hs hs' hw h0 h1).mono ?_;rintro _ H' ⟨hc,hn,he,hcc⟩;refine⟨hc.weak fun y hy=>?_,sv,av,ev,cv,os,ot,oe,oc,vals,obs,{ h with arr:=h.arr.keep (hc.old g (h.arr.lt hw) ?_),sg:=h.sg.chg hw hc ?_,jag:=h.jag.chg hw hc ?_,en:=he,co:=hcc }⟩
 ·rcases hy with hy|hy
  ·exact h.fe y hy
  ·exact h.fc y hy
 ·rintro(hy|hy)
  ·exact h.ge hy
  ·exact h.gc hy
 ·rintro y hy (hy2|hy2)
  ·exact h.se y hy hy2
  ·exact h.sc y hy hy2
 ·rintro y hy (hy2|hy2)
  ·exact h.je y hy2 hy
  ·exact h.jc y hy2 hy
def badByte(u:UInt8):Bool:=decide (u.toNat<33)||decide (126<u.toNat)||decide (u.toNat=60)||decide (u.toNat=62)
def A92(s:ByteArray):Bool:=!s.data.toList.any badByte&&decide (1≤s.size)&&decide (s.size≤16)
theorem isSymbol{H:AH}{x:ByteArray}(hl:x.size≤1048576)(hw:Wf H):
  Sh.Call Tryz.prog (knows 7) 87 [.string x] H (fun r H'=>H'=H∧r=.bool (A92 x)):=by
 refine A5a rfl Tryz.func87 rfl (Nat.le_of_ble_eq_true rfl) ?_;have hres:Tryz.f87.results.toList=[.tmp 2]:=rfl;have hsz:x.data.toList.length=x.size:=by rw[Array.length_toList];rfl
 simp only[↓Sh.dn,sx];refine B8v x.size (fun i F H'=>H'=H∧F.get 0=some (.string x)∧F.get 3=some (.int .i64 (i:Int))∧(x.data.toList.take i).any badByte=false) (Nat.zero_le _) ⟨rfl,by simp only[sx,reduceCtorEq],by simp only[sx];rfl,rfl⟩ ?_;rintro i F H' hi ⟨rfl,f0,f3,hall⟩ k;by_cases hlt:i<x.size
 ·obtain⟨u,hu⟩:∃u,x.data.toList[i]?=some u:=⟨x.data.toList[i]'(by omega),List.getElem?_eq_getElem (by omega)⟩
  have hix:=B1m (P:=Tryz.prog) (j:=.i64) Tryz.underlying9 hu;have e33:decide ((u.toNat:Int)<33)=decide (u.toNat<33):=by by_cases h:u.toNat<33<;>simp[h]<;>omega
  have e126:decide (126<(u.toNat:Int))=decide (126<u.toNat):=by by_cases h:126<u.toNat<;>simp[h]<;>omega
  have e60:decide ((u.toNat:Int)=60)=decide (u.toNat=60):=by by_cases h:u.toNat=60<;>simp[h];omega
  have e62:decide ((u.toNat:Int)=62)=decide (u.toNat=62):=by by_cases h:u.toNat=62<;>simp[h];omega
  have hstep:badByte u=false→(x.data.toList.take (i+1)).any badByte=false:=by
   intro h;rw[List.take_add_one,hu];simp only[Option.toList,List.any_append,hall,Bool.false_or,List.any_cons,List.any_nil,Bool.or_false];exact h
  have hbad:badByte u=true→A92 x=false:=by
   intro h;have:x.data.toList.any badByte=true:=List.any_eq_true.2 ⟨_,List.mem_of_getElem? hu,h⟩;simp[A92,this]
  have hgo:badByte u=(decide (u.toNat<33)||decide (126<u.toNat)||decide (u.toNat=60)||decide (u.toNat=62)):=rfl;have five:∀a b c d:Bool,a=true∨(a=false∧b=true)∨(a=false∧b=false∧c=true)∨(a=false∧b=false∧c=false∧d=true)∨(a=false∧b=false∧c=false∧d=false):=by decide
  rcases five (decide (u.toNat<33)) (decide (126<u.toNat)) (decide (u.toNat=60)) (decide (u.toNat=62)) with h1|⟨h1,h2⟩|⟨h1,h2,h3⟩|⟨h1,h2,h3,h4⟩|⟨h1,h2,h3,h4⟩<;>simp only[*,Bool.or_true,Bool.or_false,Bool.true_or]at hgo
  ·simp only[↓Sh.dn,sx,reduceCtorEq,Nat.reduceEqDiff,f0,f3,hix,A2a,hlt,e33,h1,decide_true,hres,hbad hgo]
  ·simp only[↓Sh.dn,sx,reduceCtorEq,Nat.reduceEqDiff,f0,f3,hix,A2a,hlt,e33,e126,h1,h2,decide_true,hres,hbad hgo]
  ·simp only[↓Sh.dn,sx,reduceCtorEq,Nat.reduceEqDiff,f0,f3,hix,A2a,hlt,e33,e126,e60,h1,h2,h3,decide_true,hres,hbad hgo]
  ·simp only[↓Sh.dn,sx,reduceCtorEq,Nat.reduceEqDiff,f0,f3,hix,A2a,hlt,e33,e126,e60,e62,h1,h2,h3,h4,decide_true,hres,hbad hgo]
  ·simp only[↓Sh.dn,sx,reduceCtorEq,Nat.reduceEqDiff,f0,f3,hix,A2a,hlt,e33,e126,e60,e62,h1,h2,h3,h4,decide_true,hres]
   exact k _ _ hlt ⟨rfl,by simp only[sx,reduceCtorEq,f0],by simp only[sx,wrap_succ hlt hl],hstep hgo⟩
 ·have hin:i=x.size:=by omega
  subst hin;rw[←hsz,List.take_length]at hall;have e1:decide ((1:Int)≤((x.size:Nat):Int))=decide (1≤x.size):=by by_cases h:1≤x.size<;>simp[h]<;>omega
  have e16:decide (((x.size:Nat):Int)≤16)=decide (x.size≤16):=by by_cases h:x.size≤16<;>simp[h]<;>omega
  cases h1:decide (1≤x.size) <;>
   simp only[↓Sh.dn,sx,reduceCtorEq,Nat.reduceEqDiff,f0,f3,A2a,hlt,e1,e16,h1,decide_false,reduceCtorEq,hres] <;>
   simp[A92,hall,h1]
def ascB:List ByteArray→Bool
 | x :: y :: l=>A9r x y&&ascB (y :: l)
 | _=>true
theorem B9d:∀{l:List ByteArray},ascB l=true↔∀(i:Nat) x y,l[i]?=some x→l[i+1]?=some y→A9r x y=true
 | []=>by simp[ascB]
 | [a]=>by simp[ascB]
 | a :: b :: l=>by
  simp only[ascB,Bool.and_eq_true,B9d (l:=b :: l)];constructor
  ·rintro⟨h1,h2⟩ i x y hx hy
   cases i with
   | zero=>simp only[List.getElem?_cons_zero,List.getElem?_cons_succ,Option.some.injEq]at hx hy;subst hx hy;exact h1
   | succ i=>exact h2 i x y (by simpa using hx) (by simpa using hy)
  ·intro h
   exact⟨h 0 a b rfl rfl,fun i x y hx hy=>h (i+1) x y (by simpa using hx) (by simpa using hy)⟩
theorem asc_of{l:List ByteArray}(h:ascB l=true):Asc l:=by
 rw[B9d]at h;intro i j x y hij hx hy;obtain⟨d,rfl⟩:∃d,j=i+1+d:=⟨j-i-1,by omega⟩
 induction d generalizing y with
 | zero=>exact h i x y hx hy
 | succ d ih=>
  have hjl:=(List.getElem?_eq_some_iff.1 hy).1;have hz:l[i+1+d]?=some (l[i+1+d]'(by omega)):=List.getElem?_eq_getElem (by omega);exact A34 (ih _ (by omega) hz) (h _ _ _ hz hy)
def A8r(l:List ByteArray):Bool:=l.any fun s=>decide (16<s.size)
def A0k(l:List ByteArray):Int:=if (decide (40<l.length)||A8r l)=true then 3 else if (l.all A92&&ascB l)=true then 0 else 1
theorem half(a b:Nat)(h:a+b<2097152):A4j false .u64 (IntKind.wrap .u64 (IntKind.wrap .i64 ((a:Int)+(b:Int)))) 1=some (.int .u64 (((a+b)/2:Nat):Int)):=by
 rw[wrap64 (by omega) (by omega)];have e:IntKind.wrap .u64 ((a:Int)+(b:Int))=((a+b:Nat):Int):=by
  simp only[IntKind.wrap];simp[IntKind.bits,IntKind.signed];omega
 rw[e];simp only[A4j,A7k];simp[IntKind.bits,Int.fdiv_eq_ediv]
theorem search{H:AH}{n fid:Nat}{caps:List Value}(p:Nat→Bool)(hn:n≤1048576)(hp:∀i,i<n→Sh.Call Tryz.prog (knows 7) fid (.int .i64 (i:Int) :: caps) H (fun r H'=>r=.bool (p i)∧H'=H))(hm:∀a b,a≤b→b<n→p a=true→p b=true)(hw:Wf H):
  Sh.Call Tryz.prog (knows 7) 125 [.int .i64 (n:Int),.func (.func fid) #[] caps.toArray] H (fun r H'=>H'=H∧∃k:Nat,r=.int .i64 (k:Int)∧k≤n∧(∀i,i<k→p i=false)∧(∀i,k≤i→i<n→p i=true)):=by
 refine A5a rfl Tryz.func125 rfl (Nat.le_of_ble_eq_true rfl) ?_;have hres:Tryz.f125.results.toList=[.tmp 4]:=rfl;simp only[↓Sh.dn,sx,reduceCtorEq,Nat.reduceEqDiff];refine A8d (fun m F H'=>H'=H∧∃a b:Nat,m=b-a∧a≤b∧b≤n∧F.get 5=some (.int .i64 (a:Int))∧F.get 6=some (.int .i64 (b:Int))∧F.get 1=some (.func (.func fid) #[] caps.toArray)∧(∀i,i<a→p i=false)∧(∀i,b≤i→i<n→p i=true)) (m:=n) ⟨rfl,0,n,by omega,by omega,by omega,by simp only[sx,Nat.reduceEqDiff];rfl,by simp only[sx],by simp only[sx,Nat.reduceEqDiff],fun i h=>by omega,fun i h1 h2=>by omega⟩ ?_;rintro m F H' ⟨rfl,a,b,rfl,hab,hbn,f5,f6,f1,hlo,hhi⟩ k;by_cases hlt:a<b
 ·obtain⟨r,H1,hd,rfl,rfl⟩:=hp ((a+b)/2) (by omega)
  have hw2:IntKind.wrap .i64 (((a+b)/2:Nat):Int)=(((a+b)/2:Nat):Int):=wrap64 (by omega) (by omega);simp only[↓Sh.dn,sx,Nat.reduceEqDiff,f5,f6,f1,A2a,hlt,decide_true,C76,half a b (by omega),hw2];refine⟨_,_,hd,?_⟩;cases hpv:p ((a+b)/2) with
  | false=>
   have hw3:IntKind.wrap .i64 ((((a+b)/2:Nat):Int)+1)=(((a+b)/2+1:Nat):Int):=wrap_succ (n:=n) (by omega) hn;simp only[↓Sh.dn,sx,Nat.reduceEqDiff,hw3];refine k (b-((a+b)/2+1)) _ _ (by omega) ⟨rfl,(a+b)/2+1,b,rfl,by omega,hbn,by simp only[sx],by simp only[sx,Nat.reduceEqDiff,f6],by simp only[sx,Nat.reduceEqDiff,f1],fun i hi=>?_,hhi⟩;cases hpi:p i with
   | false=>rfl
   | true=>rw[hm i ((a+b)/2) (by omega) (by omega) hpi]at hpv;cases hpv
  | true=>
   simp only[↓Sh.dn,sx,Nat.reduceEqDiff];exact k ((a+b)/2-a) _ _ (by omega) ⟨rfl,a,(a+b)/2,rfl,by omega,by omega,by simp only[sx,Nat.reduceEqDiff,f5],by simp only[sx],by simp only[sx,Nat.reduceEqDiff,f1],hlo,fun i h1 h2=>hm _ i h1 h2 hpv⟩
 ·have hab':a=b:=by omega
  subst hab';simp only[↓Sh.dn,sx,Nat.reduceEqDiff,f5,f6,A2a,hlt,decide_false,hres];exact⟨a,rfl,hbn,hlo,hhi⟩
def A8z(N:NetD)(s:ByteArray):Bool:=!decide (s=⟨#[]⟩)&&!A7r N.sigma s
def A4q(N:NetD)(a:ArcD):Bool:=decide (a.fr<0)||decide (N.states≤a.fr)||decide (a.to<0)||decide (N.states≤a.to)||A8z N a.inn||A8z N a.out
def A20(N:NetD)(e:EndD):Bool:=decide (e.state<0)||decide (N.states≤e.state)
def A7t(N:NetD):Bool:=decide (3000<N.states)||decide (60000<N.arcs.length)||decide (60000<N.ends.length)
def A0m(N:NetD):Int:=if A7t N=true then 3 else if A0k N.sigma≠0 then A0k N.sigma else if N.states<1 then 1 else if N.arcs.any (A4q N)=true then 1 else if N.ends.any (A20 N)=true then 1 else 0
theorem B1a{l:List ByteArray}(h:A0k l=0):Asc l:=by
 unfold A0k at h;split at h
 ·cases h
 ·split at h
  ·rename_i h1
   simp only[Bool.and_eq_true]at h1;exact asc_of h1.2
  ·cases h
def NetD.free(N:NetD):Bool:=N.arcs.all (fun a=>decide (a.cost=0))&&N.ends.all (fun a=>decide (a.cost=0))
structure A0n(N:NetD):Prop where
 st1:1≤N.states
 st2:N.states≤3000
 ar:N.arcs.length≤60000
 en:N.ends.length≤60000
 sig:A0k N.sigma=0
 asc:Asc N.sigma
 sym:∀x∈N.sigma,A92 x=true
 arc:∀a∈N.arcs,0≤a.fr∧a.fr<N.states∧0≤a.to∧a.to<N.states∧(a.inn=⟨#[]⟩∨a.inn∈N.sigma)∧(a.out=⟨#[]⟩∨a.out∈N.sigma)
 fin:∀e∈N.ends,0≤e.state∧e.state<N.states
theorem netOk{N:NetD}(h:A0m N=0):A0n N:=by
 unfold A0m at h;split at h
 ·cases h
 rename_i h1;split at h
 ·rename_i h2;exact absurd h h2
 rename_i h2;split at h
 ·cases h
 rename_i h3;split at h
 ·cases h
 rename_i h4;split at h
 ·cases h
 rename_i h5;simp only[ne_eq,Decidable.not_not]at h2;simp only[A7t,Bool.or_eq_true,decide_eq_true_eq,not_or,Int.not_lt,Nat.not_lt]at h1 h3;have sy:∀x,A8z N x=false→x=⟨#[]⟩∨x∈N.sigma:=by
  intro x hx;simp only[A8z,Bool.and_eq_false_iff,Bool.not_eq_false',decide_eq_true_eq]at hx;rcases hx with h|h
  ·exact .inl h
  ·exact .inr (A9g.1 h)
 have hsym:∀x∈N.sigma,A92 x=true:=by
  have:=h2;unfold A0k at this;split at this
  ·cases this
  split at this
  ·rename_i h6
   rw[Bool.and_eq_true]at h6;exact List.all_eq_true.1 h6.1
  ·cases this
 refine⟨h3,h1.1.1,h1.1.2,h1.2,h2,B1a h2,hsym,fun a ha=>?_,fun e he=>?_⟩
 ·have:¬(A4q N a=true):=fun hb=>h4 (List.any_eq_true.2 ⟨a,ha,hb⟩)
  simp only[A4q,Bool.or_eq_true,decide_eq_true_eq,not_or,Int.not_lt,Int.not_le,Bool.not_eq_true]at this;obtain⟨⟨⟨⟨⟨k1,k2⟩,k3⟩,k4⟩,k5⟩,k6⟩:=this;exact⟨k1,k2,k3,k4,sy _ k5,sy _ k6⟩
 ·have:¬(A20 N e=true):=fun hb=>h5 (List.any_eq_true.2 ⟨e,he,hb⟩)
  simp only[A20,Bool.or_eq_true,decide_eq_true_eq,not_or,Int.not_lt,Int.not_le]at this;exact this
theorem C7a{H:AH}{x:ByteArray}:Sh.Call Tryz.prog (knows 7) 129 [Value.string x] H (fun r H'=>H'=H∧r=.bool false):=by
 refine A5a rfl Tryz.func129 rfl (Nat.le_of_ble_eq_true rfl) ?_;have hres:Tryz.f129.results.toList=[.tmp 2]:=rfl;simp only[↓Sh.dn,sx,reduceCtorEq,Nat.reduceEqDiff,hres,decide_true]
theorem C1u{H:AH}{x y:ByteArray}:Sh.Call Tryz.prog (knows 7) 117 [Value.string x,Value.string y] H (fun r H'=>H'=H∧r=.bool (A9r x y)):=by
 refine A5a rfl Tryz.func117 rfl (Nat.le_of_ble_eq_true rfl) ?_;have hres:Tryz.f117.results.toList=[.tmp 4]:=rfl;obtain⟨r,H1,hd,rfl,rfl⟩:=C7a (H:=H) (x:=x);simp only[↓Sh.dn,sx,reduceCtorEq];refine⟨_,_,hd,?_⟩;simp only[↓Sh.dn,sx,reduceCtorEq,Nat.reduceEqDiff,hres]
 try rfl
section
variable {H:AH} {g k n m cap i:Nat} {l:List ByteArray}
end
theorem isNaNStr{H:AH}{x:ByteArray}:Sh.Call Tryz.prog (knows 7) 118 [.string x] H (fun r H'=>H'=H∧r=.bool false):=by
 refine A5a rfl Tryz.func118 rfl (Nat.le_of_ble_eq_true rfl) ?_;have hres:Tryz.f118.results.toList=[.tmp 2]:=rfl;simp only[↓Sh.dn,sx,reduceCtorEq,Nat.reduceEqDiff,hres,decide_true]
theorem B7c{H:AH}{v:Value}{x:ByteArray}{l:List ByteArray}(hs:Sl H v 1 (l.map A6b))(ha:Asc l)(hl:l.length≤1048576):
  Sh.Call Tryz.prog (knows 7) 94 [v,.string x] H (fun r H'=>H'=H∧∃k:Nat,r=.tuple #[.int .i64 (k:Int),.bool (A7r l x)]∧k≤l.length∧(l[k]?=some x↔x∈l)):=by
 refine A5a rfl Tryz.func94 rfl (Nat.le_of_ble_eq_true rfl) ?_;have hres:Tryz.f94.results.toList=[.tmp 4,.tmp 5]:=rfl;have hlen:=hs.len Tryz.underlying22 H;simp only[↓Sh.dn,sx,reduceCtorEq,Nat.reduceEqDiff,hlen,List.length_map];refine A8d (fun m F H'=>H'=H∧∃a b:Nat,m=b-a∧a≤b∧b≤l.length∧F.get 7=some (.int .i64 (a:Int))∧F.get 8=some (.int .i64 (b:Int))∧F.get 0=some v∧F.get 1=some (.string x)∧F.get 6=some (.int .i64 (l.length:Int))∧
  (∀(i:Nat) y,i<a→l[i]?=some y→A9r y x=true)∧(∀(i:Nat) y,b≤i→l[i]?=some y→A9r y x=false)) (m:=l.length)
  ⟨rfl,0,l.length,by omega,by omega,by omega,by simp only[sx,Nat.reduceEqDiff];rfl,by simp only[sx],by simp only[sx,reduceCtorEq],by simp only[sx,Nat.reduceEqDiff],by simp only[sx,Nat.reduceEqDiff],fun i y h=>by omega,fun i y h1 h2=>by have:=(List.getElem?_eq_some_iff.1 h2).1;omega⟩ ?_
 rintro m F H' ⟨rfl,a,b,rfl,hab,hbn,f7,f8,f0,f1,f6,hlo,hhi⟩ k;by_cases hlt:a<b
 ·have hm:(a+b)/2<l.length:=by omega
  have hw2:IntKind.wrap .i64 (((a+b)/2:Nat):Int)=(((a+b)/2:Nat):Int):=wrap64 (by omega) (by omega);obtain⟨g,o,kk,hia,hc,hcc⟩:=hs.at Tryz.underlying22 A6r (i:=(a+b)/2) (x:=A6b l[(a+b)/2]) (by simp[hm]) .i64;have hy:=hcc 0 _ rfl;simp only[Nat.add_zero]at hy;obtain⟨r,H1,hd,rfl,rfl⟩:=C1u (H:=H') (x:=l[(a+b)/2]) (y:=x);have hget:l[(a+b)/2]?=some l[(a+b)/2]:=List.getElem?_eq_getElem hm;simp only[↓Sh.dn,sx,reduceCtorEq,Nat.reduceEqDiff,f0,f1,f7,f8,A2a,hlt,decide_true,C76,half a b (by omega),hw2,hia,hy,reduceCtorEq];refine⟨_,_,hd,?_⟩;cases hpv:A9r l[(a+b)/2] x with
  | true=>
   have hw3:IntKind.wrap .i64 ((((a+b)/2:Nat):Int)+1)=(((a+b)/2+1:Nat):Int):=wrap_succ (n:=l.length) (by omega) hl;simp only[↓Sh.dn,sx,Nat.reduceEqDiff,hw3];refine k (b-((a+b)/2+1)) _ _ (by omega) ⟨rfl,(a+b)/2+1,b,rfl,by omega,hbn,by simp only[sx],by simp only[sx,Nat.reduceEqDiff,f8],by simp only[sx,reduceCtorEq,f0],by simp only[sx,Nat.reduceEqDiff,f1],by simp only[sx,Nat.reduceEqDiff,f6],fun i y hi hy=>?_,hhi⟩;by_cases he:i=(a+b)/2
   ·subst he;rw[hget]at hy;rw[←Option.some.inj hy];exact hpv
   ·exact A34 (ha _ _ _ _ (by omega) hy hget) hpv
  | false=>
   simp only[↓Sh.dn,sx,Nat.reduceEqDiff];refine k ((a+b)/2-a) _ _ (by omega) ⟨rfl,a,(a+b)/2,rfl,by omega,by omega,by simp only[sx,Nat.reduceEqDiff,f7],by simp only[sx],by simp only[sx,reduceCtorEq,f0],by simp only[sx,Nat.reduceEqDiff,f1],by simp only[sx,Nat.reduceEqDiff,f6],hlo,fun i y h1 hy=>?_⟩;by_cases he:i=(a+b)/2
   ·subst he;rw[hget]at hy;rw[←Option.some.inj hy];exact hpv
   ·cases hlt2:A9r y x with
    | false=>rfl
    | true=>rw[A34 (ha _ _ _ _ (by omega) hget hy) hlt2]at hpv;cases hpv
 ·have hab':a=b:=by omega
  subst hab';have hp:=C46 ha x hlo hhi;by_cases hla:a<l.length
  ·obtain⟨g,o,kk,hia,hc,hcc⟩:=hs.at Tryz.underlying22 A6r (i:=a) (x:=A6b l[a]) (by simp[hla]) .i64
   have hy:=hcc 0 _ rfl;simp only[Nat.add_zero]at hy;have hget:l[a]?=some l[a]:=List.getElem?_eq_getElem hla;by_cases hex:l[a]=x
   ·have hin:A7r l x=true:=A9g.2 (hp.1 (by rw[hget,hex]))
    simp only[↓Sh.dn,sx,reduceCtorEq,Nat.reduceEqDiff,f0,f1,f6,f7,f8,A2a,hlt,hla,hia,hy,hex,decide_true,decide_false,hres,hin,reduceCtorEq];exact⟨a,rfl,hbn,hp⟩
   ·have hin : A7r l x = false := by
      cases h : A7r l x with
      | false => rfl
      | true => have := hp.2 (A9g.1 h);rw[hget]at this;exact absurd (Option.some.inj this) hex
    obtain⟨r, H1, hd, rfl, rfl⟩ := isNaNStr (H := H') (x := l[a]);simp only[↓Sh.dn, sx, reduceCtorEq, Nat.reduceEqDiff, f0, f1, f6, f7, f8, A2a, hlt, hla, hia, hy, hex, decide_true, decide_false, hres, hin, reduceCtorEq];refine⟨_, _, hd, ?_⟩;simp only[↓Sh.dn, sx, Nat.reduceEqDiff];exact⟨a, rfl, hbn, hp⟩
  ·have hin : A7r l x = false := by
     cases h : A7r l x with
     | false => rfl
     | true => have := hp.2 (A9g.1 h);rw[List.getElem?_eq_none (by omega)]at this;cases this
   simp only[↓Sh.dn, sx, Nat.reduceEqDiff, f6, f7, f8, A2a, hlt, hla, decide_false, hres, hin];exact⟨a, rfl, hbn, hp⟩
theorem place{H:AH}{v:Value}{x:ByteArray}{l:List ByteArray}(hs:Sl H v 1 (l.map A6b))(ha:Asc l)(hl:l.length≤1048576):
  Sh.Call Tryz.prog (knows 7) 64 [v,.string x] H (fun r H'=>H'=H∧r=.int .i64 (A1l l x)):=by
 refine A5a rfl Tryz.func64 rfl (Nat.le_of_ble_eq_true rfl) ?_;have hres:Tryz.f64.results.toList=[.tmp 4]:=rfl;obtain⟨r,H1,hd,rfl,k,rfl,_,hk⟩:=B7c (x:=x) hs ha hl;simp only[↓Sh.dn,sx,reduceCtorEq,Nat.reduceEqDiff];refine⟨_,_,hd,?_⟩;cases hin:A7r l x with
 | true=>
  have:=A4w ha (hk.2 (A9g.1 hin));simp only[↓Sh.dn,sx,Nat.reduceEqDiff,hres,this]
 | false=>
  have:=B0s (l:=l) (x:=x) (fun h=>by rw[A9g.2 h]at hin;cases hin);simp only[↓Sh.dn,sx,hres,this]
theorem B3f{l:List ByteArray}{x:ByteArray}(ha:Asc l):decide (A1l l x<0)=!A7r l x:=by
 cases hin:A7r l x with
 | true=>
  obtain⟨k,hk⟩:=List.mem_iff_getElem?.1 (A9g.1 hin);rw[A4w ha hk];simp
 | false=>
  rw[B0s (fun h=>by rw[A9g.2 h]at hin;cases hin)];rfl
def C2g(l:List ByteArray)(s:ByteArray):List Value:=[.int .i64 (A1l l s)]
theorem B9g{H:AH}{v u:Value}{l w:List ByteArray}(hs:Sl H v 1 (l.map A6b))(ha:Asc l)(hl:l.length≤1048576)(hu:Sl H u 1 (w.map A6b))(hlw:w.length≤1048576)(hw:Wf H):
  Sh.Call Tryz.prog (knows 7) 33 [v,u] H (fun r H'=>Kept H H'∧∃z,r=.tuple #[z,.bool (w.all (A7r l))]∧(w.all (A7r l)=true→∃b,Buf H' 1 z (w.map (C2g l)) b∧∀g,b=some g→H.next≤g)):=by
 refine A5a rfl Tryz.func33 rfl (Nat.le_of_ble_eq_true rfl) ?_;have hres:Tryz.f33.results.toList=[.tmp 4,.tmp 5]:=rfl;have hlen:=hu.len Tryz.underlying22;rw[List.length_map]at hlen;have hmk:=mk_71 (H:=H) (l:=0) (c:=w.length) (Nat.zero_le _) (by omega);have hk1:Kept H (H.new 1 (List.replicate w.length (.int .i64 0))).2:=Kept.new hw 1 _;have hb1:=Buf.room hw (.int .i64 0) (c:=w.length) (by omega);have e0:((0:Nat):Int)=0:=rfl;rw[e0]at hmk;simp only[↓Sh.dn,sx,Nat.reduceEqDiff,hlen,hmk];have hfar:∀g,(if w.length=0 then none else some H.next)=some g→H.next≤g:=by
  intro g h;split at h
  ·cases h
  ·injection h with h;omega
 generalize (H.new 1 (List.replicate w.length (.int .i64 0))).2=H1 at hk1 hb1 ⊢;refine A0d w.length 15 (List.range' 15 14++[6,8,9]) (fun i F H'=>Kept H H'∧(w.take i).all (A7r l)=true∧∃z b,F.get 6=some z∧Buf H' 1 z ((w.take i).map (C2g l)) b∧∀g,b=some g→H.next≤g) (by simp only[sx]) ⟨hk1,rfl,.slice (some ⟨H.next,0,some 0⟩) 0 w.length,_,by simp only[sx,Nat.reduceEqDiff],by simpa using hb1,hfar⟩ ?_ ?_
 ·rintro i F H' hlt hF f15 ⟨hk,hall,z,b,f6,hb,hbf⟩ k
  have f0:=hF 0 rfl;have f13:=hF 13 rfl;have f14:=hF 14 rfl;simp only[sx,reduceCtorEq,Nat.reduceEqDiff]at f0 f13 f14;have hs':=hs.grow (hk.grow hw);have hu':=hu.grow (hk.grow hw);obtain⟨g,o,kk,hia,hc,hcc⟩:=hu'.at Tryz.underlying22 A6r (i:=i) (x:=A6b w[i]) (by simp[hlt]) .i64;have hy:=hcc 0 _ rfl;simp only[Nat.add_zero]at hy;have htake:w.take (i+1)=w.take i++[w[i]]:=by rw[List.take_add_one,List.getElem?_eq_getElem hlt];rfl
  obtain⟨r,H2,hd,rfl,rfl⟩:=place (x:=w[i]) hs' ha hl;simp only[↓Sh.dn,sx,reduceCtorEq,Nat.reduceEqDiff,f0,f13,f14,f15,A2a,hlt,decide_true,hia,hy];refine⟨_,_,hd,?_⟩;cases hin:A7r l w[i] with
  | false=>
   have hno:w.all (A7r l)=false:=List.all_eq_false.2 ⟨_,List.getElem_mem hlt,by rw[hin];simp⟩;simp only[↓Sh.dn,sx,Nat.reduceEqDiff,B3f ha,hin,hres,hno];exact⟨hk,_,rfl⟩
  | true=>
   obtain⟨a,cap,rfl⟩:=hb.shape;have hk3:=hk.news 1 [.int .i64 (A1l l w[i])];have hb3:=hb.kept hk.wf (Kept.new hk.wf 1 [.int .i64 (A1l l w[i])]);have hbld:=A3o (H:=H2) (x:=.int .i64 (A1l l w[i])) rfl rfl;have hnew:Sl (H2.new 1 [.int .i64 (A1l l w[i])]).2 (.slice (some ⟨H2.next,0,some 0⟩) 1 1) 1 [[.int .i64 (A1l l w[i])]]:=
    (Buf.fresh (H:=H2) (s:=1) (xs:=[[.int .i64 (A1l l w[i])]]) hk.wf (by simp) (by simp) 1 rfl).toSl
   have happ:=C9h (H:=(H2.new 1 [.int .i64 (A1l l w[i])]).2) (base:=a) (len:=((w.take i).map (C2g l)).length) (cap:=cap) (hnew.srcKind Tryz.underlying71) hnew.newCells (by simp;omega);obtain⟨z',H4,b',e1,e2,e3,e4⟩:=hb3.append hk3.wf (xs:=[[.int .i64 (A1l l w[i])]]) (by simp);rw[e1]at happ
   have hk4 : Kept H H4 := ⟨fun y hy => by
       rw[e3.old y (Nat.lt_of_lt_of_le hy hk3.next) (fun hyb => by have := hbf y hyb;omega)];exact hk3.old y hy, Nat.le_trans hk3.next e3.next, e3.wf⟩
   simp only[↓Sh.dn,sx,Nat.reduceEqDiff,B3f ha,hin,f6,f15,hbld,A6a,happ,wrap_succ hlt hlw];refine k _ _ (by repeat (first|refine Same.put ?_ rfl|exact Same.rfl' _)) (by simp only[sx]) ⟨hk4,?_,z',b',by simp only[sx,Nat.reduceEqDiff],?_,fun g hg=>?_⟩
   ·rw[htake,List.all_append,hall];simp[hin]
   ·rw[htake,List.map_append];exact e2
   ·rcases e4 with h4|⟨h4,_⟩
    ·exact hbf g (by rw[←h4,hg])
    ·rw[h4]at hg;injection hg with hg
     have:=hk3.next;omega
 ·rintro F H' hF f15 ⟨hk,hall,z,b,f6,hb,hbf⟩
  have f14:=hF 14 rfl;simp only[sx,Nat.reduceEqDiff]at f14;rw[List.take_length]at hall hb;simp only[↓Sh.dn,sx,Nat.reduceEqDiff,f14,f15,f6,A2a,Nat.lt_irrefl,decide_false,hres,hall];exact⟨hk,z,rfl,b,hb,hbf⟩
theorem B1x{H:AH}{v:Value}{N:NetD}(h:A6v H v N)(hok:A0n N)(hsm:A0f N)(hw:Wf H):
  Sh.Call Tryz.prog (knows 7) 29 [v] H (fun r H'=>Kept H H'∧∃g,r=.pointer (some ⟨g,0,some 0⟩)∧∃base,H.next≤base∧Gr H' base g N.sigma (B9c N N.arcs) (A1h N N.ends) (A9i N N.ends)):=by
 refine A5a rfl Tryz.func29 rfl (Nat.le_of_ble_eq_true rfl) ?_;have hres:Tryz.f29.results.toList=[.tmp 2]:=rfl;obtain⟨sg,ar,en,rfl,hsg,har,hen⟩:=h;have hb1:=NetBox.of (N:=N) hw hsg har hen;have hk1:Kept H (H.new 4 [sg,.int .i64 N.states,ar,en]).2:=Kept.new hw 4 _;have h1:=hok.st1;have h2:=hok.st2;obtain⟨n,hn⟩:∃n:Nat,N.states=(n:Int):=⟨N.states.toNat,by omega⟩
 have hnn:N.states.toNat=n:=by omega
 simp only[↓Sh.dn,sx,Nat.reduceEqDiff,A9y hsg.isCell har.isCell hen.isCell];have hnx:H.next<(H.new 4 [sg,.int .i64 N.states,ar,en]).2.next:=Nat.lt_succ_self _;generalize H.next=gg at hb1 hnx ⊢;generalize (H.new 4 [sg,.int .i64 N.states,ar,en]).2=H1 at hb1 hk1 hnx ⊢;obtain⟨r,H2,hd2,hk2,g,rfl,hgr⟩:=A42 (n:=n) hb1.hsg (by simpa using hsm.sg) (by omega) hk1.wf;simp only[sx,hb1.c0,hb1.c1,hn];refine⟨_,_,hd2,?_⟩;have hb2:=hb1.kept hk1.wf hk2;simp only[sx,hb2.c2,A3r hb2];have hz:∀f:List Int→Int,f []=0→(rowsOf EndD.state EndD.cost N.states.toNat []).map f=List.replicate n 0:=by
  intro f hf;rw[B3k,hnn,List.map_replicate,hf]
 refine A0d N.arcs.length 16 (List.range' 16 37++[5]) (fun i F H'=>Kept H1 H'∧Gr H' H1.next g N.sigma (B9c N (N.arcs.take i)) (A1h N []) (A9i N [])) (by simp only[sx]) ⟨hk2,by
  rw[List.take_zero];unfold B9c A1h A9i;rw[B3k,hz _ rfl,hz _ rfl,hnn];exact hgr⟩ ?_ ?_
 ·rintro i F H' hlt hF f16 ⟨hk,hg⟩ k
  have f1:=hF 1 rfl;have f3:=hF 3 rfl;have f14:=hF 14 rfl;have f15:=hF 15 rfl;simp only[sx,Nat.reduceEqDiff]at f1 f3 f14 f15;have hb':=hb1.kept hk1.wf hk;obtain⟨q,o,kk,hia,hc,hcc⟩:=hb'.har.at Tryz.underlying23 A6x (i:=i) (x:=N.arcs[i].cells) (by simp[hlt]) .i64;clear hcc;have htake:N.arcs.take (i+1)=N.arcs.take i++[N.arcs[i]]:=by rw[List.take_add_one,List.getElem?_eq_getElem hlt];rfl
  obtain⟨k0,k1,k2,k3,k4,k5⟩:=hok.arc _ (List.getElem_mem hlt);have hb3:=hb'.new hk.wf 5 (N.arcs[i].cells);have hk3:=hk.news 5 (N.arcs[i].cells);generalize N.arcs[i]=a at hb3 hk3 hc htake k0 k1 k2 k3 k4 k5;obtain⟨s,hs⟩:∃s:Nat,a.fr=(s:Int):=⟨a.fr.toNat,by omega⟩
  have hsn:s<N.states.toNat:=by omega
  obtain⟨r1,K1,hd1,rfl,rfl⟩:=place (x:=a.inn) hb3.hsg hok.asc hsm.sg;obtain⟨r2,K2,hd2,rfl,rfl⟩:=place (x:=a.out) hb3.hsg hok.asc hsm.sg;have hrow:=A2k (key:=ArcD.fr) (f:=C1b N.sigma) (l:=N.arcs.take i) hsn;have hrl:=A37 hrow;have hsmA:=hsm.ar;have htl:(N.arcs.take i).length≤1048576:=by rw[List.length_take];omega
  obtain⟨sv,av,ev,cv,os,ot,oe,oc,vals,obs,hG0⟩:=hg;have hG:=hG0.chg hk.wf ((Kept.new hk.wf 5 a.cells).chg (X:=none')) fun _ _ h=>h;have hnj:¬JIn ot obs H'.next:=fun h=>by have:=hG0.jag.lt hk.wf _ h;omega
  have hn:=hG.arr.cell 1;obtain⟨ba,cap,w',H4,H5,o',p,e1,e2,e3,e4,e5,e6,e7,e8,e9⟩:=hG.jag.pushAt Tryz.underlying101 A9p hk3.wf hrow (x:=C1b N.sigma a) rfl;rw[←hs]at e2;have bl:=bld_81 (v0:=.int .i64 a.to) (v1:=.int .i64 (A1l N.sigma a.inn)) (v2:=.int .i64 (A1l N.sigma a.out)) (v3:=.int .i64 a.cost) rfl rfl rfl rfl;have hbs:=B6q (H:=(H'.new 5 a.cells).2) (x:=.agg (C1b N.sigma a).toArray) rfl rfl;have ha:=C0k (H:=(H'.new 5 a.cells).2) (base:=ba) (len:=_) (cap:=cap) (x:=C1b N.sigma a) rfl (Nat.le_trans hrl (by omega));rw[e1]at ha;have hn4:=(hG.arr.keep (e7.old g (hG.arr.lt hk3.wf) hG.gj)).cell 1;have c4:=((Obj.new (H:=H') 5 a.cells).arr.keep (e7.old H'.next (Nat.lt_succ_self _) hnj)).cell 0;have c4':(a.cells)[0]?=some (.int .i64 a.fr):=rfl;rw[c4']at c4;have st:A7d Tryz.prog 111 H4 w' (.pointer (some p))=some H5:=by rw[A9b A9p e8,e4]
  have va:∀xs:Array Value,A6a (.agg xs)=xs.toList:=fun _=>rfl;have hav:=hG.jag.top.veq;simp only[va]at hbs;obtain⟨z1,z2⟩:=GrB.arced hG hk3.wf e6 e5 e9;simp only[↓Sh.dn,sx,Nat.reduceEqDiff,B39,B7u,C4a,f14,f15,f16,A2a,hlt,decide_true,hia,hc];refine A8n (fl:=[(0,[]),(1,[]),(2,[]),(3,[]),(4,[]),(5,[]),(6,[]),(7,[]),(8,[]),(9,[]),(10,[]),(11,[]),(12,[]),(13,[]),(14,[]),(15,[]),(16,[]),(17,[]),(18,[]),(19,[]),(21,[]),(22,[]),(23,[]),(24,[]),(26,[]),(27,[]),(20,[27,24,22,15,13,11,9,5,3]),(25,[27,15,13,11,9,5,3]),(28,[]),(29,[]),(30,[5,3]),(31,[]),(32,[])]) (by kernel_rfl) (by kernel_rfl) (by kernel_rfl) ?_;simp only[↓Sh.dn,sx,Nat.reduceEqDiff,wpr,again,A2d,A3h,veq_str,A5l,forall_eq',hb3.c0,arc0,arc1,arc2,arc3,arc4,f1,f3,hn,e2,e3];refine⟨_,_,hd1,?_⟩;simp only[sx,hb3.c0,arc0,arc2,arc3,arc4,hn,e3,hav,hsg.veq];refine⟨_,_,hd2,?_⟩;have bl':A9n Tryz.prog 81 [(0,.int .i64 a.to),(1,.int .i64 (A1l N.sigma a.inn)),(2,.int .i64 (A1l N.sigma a.out)),(3,.int .i64 a.cost)]=some (.agg (C1b N.sigma a).toArray):=bl;simp only[sx,arc0,arc3,arc4,hn,e3,bl',hbs,ha,hn4,st,c4,f16,wrap_succ hlt hsm.ar];refine k _ _ (by repeat (first|refine Same.put ?_ rfl|exact Same.rfl' _)) (by simp only[sx]) ⟨hk3.then (Nat.le_refl _) z1,?_⟩;rw[htake];unfold B9c;rw[A94 hsn hs];exact z2
 ·rintro F H' hF f16 ⟨hk,hg⟩
  have f1:=hF 1 rfl;have f3:=hF 3 rfl;have f15:=hF 15 rfl;simp only[sx,Nat.reduceEqDiff]at f1 f3 f15;rw[List.take_length]at hg;have hb':=hb1.kept hk1.wf hk;simp only[↓Sh.dn,sx,Nat.reduceEqDiff,hb'.c3,B4g hb',f1,f15,f16,A2a,Nat.lt_irrefl,decide_false];refine A0d N.ends.length 56 (List.range' 56 11++[7]) (fun i F H'=>Kept H1 H'∧Gr H' H1.next g N.sigma (B9c N N.arcs) (A1h N (N.ends.take i)) (A9i N (N.ends.take i))) (by simp only[sx]) ⟨hk,hg⟩ ?_ ?_
  ·rintro i F' H' hlt hF' f56 ⟨hk,hg⟩ k
   have g1:=hF' 1 rfl;have g3:=hF' 3 rfl;have f54:=hF' 54 rfl;have f55:=hF' 55 rfl;simp only[sx,Nat.reduceEqDiff,f1,f3]at g1 g3 f54 f55;have hb':=hb1.kept hk1.wf hk;obtain⟨q,o,kk,hia,hc,hcc⟩:=hb'.hen.at Tryz.underlying24 A6z (i:=i) (x:=N.ends[i].cells) (by simp[hlt]) .i64;clear hcc;have htake:N.ends.take (i+1)=N.ends.take i++[N.ends[i]]:=by rw[List.take_add_one,List.getElem?_eq_getElem hlt];rfl
   obtain⟨k0,k1⟩:=hok.fin _ (List.getElem_mem hlt);have hk3:=hk.news 2 (N.ends[i].cells);have hg3:=hg.kept hk.wf (Kept.new hk.wf 2 (N.ends[i].cells));generalize N.ends[i]=e at hk3 hg3 hc htake k0 k1;obtain⟨s,hs⟩:∃s:Nat,e.state=(s:Int):=⟨e.state.toNat,by omega⟩
   have hsn:s<N.states.toNat:=by omega
   have hrow:=A2k (key:=EndD.state) (f:=EndD.cost) (l:=N.ends.take i) hsn;have hrl:=A37 hrow;have htl:(N.ends.take i).length≤60000:=by rw[List.length_take];have:=hok.en;omega
   have l1:s<(A1h N (N.ends.take i)).length:=by unfold A1h;rw[List.length_map,A2e];exact hsn
   have l2:s<(A9i N (N.ends.take i)).length:=by unfold A9i;rw[List.length_map,A2e];exact hsn
   have v1:(A1h N (N.ends.take i))[s]=((((N.ends.take i).filter fun a=>decide (a.state=(s:Int))).map EndD.cost).length:Int):=by
    apply Option.some.inj;rw[←List.getElem?_eq_getElem l1];unfold A1h;rw[List.getElem?_map,hrow];rfl
   have v2:(A9i N (N.ends.take i))[s]=leastOf (((N.ends.take i).filter fun a=>decide (a.state=(s:Int))).map EndD.cost):=by
    apply Option.some.inj;rw[←List.getElem?_eq_getElem l2];unfold A9i;rw[List.getElem?_map,hrow];rfl
   obtain⟨r,H5,hd5,hc5,hg5⟩:=grEnd (x:=e.cost) hg3 l1 l2 hk3.wf (by rw[v1];omega) (by rw[v1];omega);rw[v1,v2]at hg5;rw[←hs]at hd5;simp only[↓Sh.dn,sx,Nat.reduceEqDiff,C1d,B0v,C5b,end0,end1,g3,f54,f55,f56,A2a,hlt,decide_true,hia,hc];refine⟨_,_,hd5,?_⟩;have hen:=hsm.en;simp only[wrap_succ hlt hen];refine k _ _ (by repeat (first|refine Same.put ?_ rfl|exact Same.rfl' _)) (by simp only[sx]) ⟨hk3.then (Nat.le_refl _) hc5,?_⟩;rw[htake];have e1:A1h N (N.ends.take i++[e])=(A1h N (N.ends.take i)).set s (((((N.ends.take i).filter fun a=>decide (a.state=(s:Int))).map EndD.cost).length:Int)+1):=by
    unfold A1h;rw[A94 hsn hs,List.map_set]
    congr 1
    rw[List.length_append];simp
   have e2:A9i N (N.ends.take i++[e])=(A9i N (N.ends.take i)).set s (A1t ((((N.ends.take i).filter fun a=>decide (a.state=(s:Int))).map EndD.cost).length:Int) (leastOf (((N.ends.take i).filter fun a=>decide (a.state=(s:Int))).map EndD.cost)) e.cost):=by
    unfold A9i;rw[A94 hsn hs,List.map_set]
    congr 1
    rw[B34];unfold A1t;have:((((N.ends.take i).filter fun a=>decide (a.state=(s:Int))).map EndD.cost).length:Int)=0↔((N.ends.take i).filter fun a=>decide (a.state=(s:Int))).map EndD.cost=[]:=by
     rw[←List.length_eq_zero_iff];omega
    simp only[this]
   rw[e1,e2];exact hg5
  ·rintro F' H' hF' f56 ⟨hk,hg⟩
   have g3:=hF' 3 rfl;have f55:=hF' 55 rfl;simp only[sx,Nat.reduceEqDiff,f3]at g3 f55;rw[List.take_length]at hg;simp only[↓Sh.dn,sx,Nat.reduceEqDiff,g3,f55,f56,A2a,Nat.lt_irrefl,decide_false,hres];exact⟨hk1.trans hk,_,rfl,_,Nat.le_of_lt hnx,hg⟩
def A8f(N:NetD):List (List (Nat×Int×Int×Int)):=rowsOf ArcD.fr (fun a=>(a.to.toNat,A1l N.sigma a.inn,A1l N.sigma a.out,a.cost)) N.states.toNat N.arcs
theorem A1u{N:NetD}(hok:A0n N):A8b (A8f N)=B9c N N.arcs:=by
 unfold A8b A8f B9c rowsOf;rw[List.map_map];refine List.map_congr_left fun s _=>?_;simp only[Function.comp,List.map_map];refine List.map_congr_left fun a ha=>?_;have:=hok.arc a (List.mem_filter.1 ha).1;simp only[Function.comp,A9a,C1b];rw[show ((a.to.toNat:Nat):Int)=a.to by omega]
theorem C1m{l:List ByteArray}{x:ByteArray}(ha:Asc l):A1l l x<0↔x∉l:=by
 have:=B3f (x:=x) ha;rw[←A9g];cases h:A7r l x with
 | true=>rw[h]at this;simpa using this
 | false=>rw[h]at this;simpa using this
theorem C0u{N:NetD}(hok:A0n N):A4n∉N.sigma:=by
 intro h;have:=hok.sym _ h;have h0:A92 A4n=false:=rfl;rw[h0]at this;cases this
theorem B0u{N:NetD}(hok:A0n N)(t:Nat):0<(A1h N N.ends).getD t 0↔N.isEnd t:=by
 unfold NetD.isEnd A1h;rw[List.getD_eq_getElem?_getD,List.getElem?_map];by_cases ht:t<N.states.toNat
 ·rw[A2k ht]
  simp only[Option.map_some,Option.getD_some,List.length_map];rw[show (0:Int)<((N.ends.filter fun a=>decide (a.state=(t:Int))).length:Int)↔0<(N.ends.filter fun a=>decide (a.state=(t:Int))).length by omega,List.length_pos_iff_exists_mem];simp only[List.mem_filter,decide_eq_true_eq]
 ·rw[List.getElem?_eq_none (by rw[A2e];omega)]
  simp only[Option.map_none,Option.getD_none,Int.lt_irrefl,false_iff,not_exists,not_and];intro e he h;have:=hok.fin e he;omega
theorem Gr.pg{H:AH}{base g:Nat}{N:NetD}(hok:A0n N)(h:Gr H base g N.sigma (B9c N N.arcs) (A1h N N.ends) (A9i N N.ends)):
  ∃sv av ev cv vals,PG H g N.states.toNat 60000 (A8f N) (A1h N N.ends) sv av ev cv vals N.sigma (A9i N N.ends):=by
 obtain⟨sv,av,ev,cv,vals,hR⟩:=h.read;rw[←A1u hok]at hR;have h1:=hok.st1;have h2:=hok.st2;refine⟨sv,av,ev,cv,vals,hR,by unfold A8f;rw[A2e],by unfold A1h;rw[List.length_map,A2e],by omega,by omega,fun s r hr=>⟨Nat.le_trans (A37 hr) hok.ar,fun e he=>?_⟩⟩;obtain⟨a,ha,_,rfl⟩:=(A1s hr e).1 he;have:=hok.arc a ha;show a.to.toNat<_;omega
def ixN(sigma:List ByteArray)(x:ByteArray):Nat:=(A1l sigma x).toNat
theorem B4s{sigma:List ByteArray}(ha:Asc sigma){x:ByteArray}(hx:x∈sigma):∃k:Nat,sigma[k]?=some x∧A1l sigma x=(k:Int)∧ixN sigma x=k:=by
 obtain⟨k,hk⟩:=List.mem_iff_getElem?.1 hx;have:=A4w ha hk;exact⟨k,hk,this,by unfold ixN;rw[this];rfl⟩
theorem B7g{sigma:List ByteArray}(ha:Asc sigma)(x y:ByteArray)(hx:x∈sigma)(hy:y∈sigma)(h:ixN sigma x=ixN sigma y):x=y:=by
 obtain⟨k,h1,_,h2⟩:=B4s ha hx;obtain⟨j,h3,_,h4⟩:=B4s ha hy;rw[h2,h4]at h;rw[h,h3]at h1;exact(Option.some.inj h1).symm
theorem B3w{sigma:List ByteArray}(ha:Asc sigma){w:List ByteArray}(hw:∀x∈w,x∈sigma):w.map (C2g sigma)=(w.map (ixN sigma)).map natC:=by
 rw[List.map_map];refine List.map_congr_left fun x hx=>?_;obtain⟨k,_,h1,h2⟩:=B4s ha (hw x hx);show [Value.int .i64 (A1l sigma x)]=[.int .i64 ((ixN sigma x:Nat):Int)]
 rw[h1,h2]
theorem C5q{sigma:List ByteArray}(h:A0k sigma=0):A4n∉sigma:=by
 intro hx;unfold A0k at h;split at h
 ·cases h
 ·split at h
  ·rename_i h1
   rw[Bool.and_eq_true,List.all_eq_true]at h1;have:=h1.1 _ hx
   revert this
   decide
  ·cases h
end Go.Proofs.YtjjgodccecehlaaGreat
