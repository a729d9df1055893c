/- A part of the proof: GraphComp, CompRows, GraphCompose, CompPair, RelTwo, RelWide, RelEither, RelCompose, ChainedP, LawRelChained. -/
import Derived.Test.YtjjgodccecehlaaGreatMClose2RelChained16
import Derived.Test.YtjjgodccecehlaaGreatMClose2RelChained12
import Derived.Test.YtjjgodccecehlaaGreatMClose2RelChained25
import Derived.Test.YtjjgodccecehlaaGreatMClose2RelChained14
import Derived.Test.YtjjgodccecehlaaGreatMClose2RelChained9
import Derived.Test.YtjjgodccecehlaaGreatMClose2RelChained24
set_option linter.unusedVariables false
set_option linter.unusedSimpArgs false
/- graph.Compose: what is owned while it runs;its closure `to`. -/
set_option maxHeartbeats 4000000
set_option maxRecDepth 20000
namespace Go.Proofs.YtjjgodccecehlaaGreat
open Go Go.Proofs Go.Proofs.Sh
theorem held_cp:Tryz.prog.stoodInHeld 105=false:=by kernel_rfl
theorem cp_eq{d:Nat}(a b:Nat×Nat):eqT Tryz.prog (d+1+1) 105 (.agg (A7f a).toArray) (.agg (A7f b).toArray)=some (decide (a=b)):=by
 obtain⟨a0,a1⟩:=a;obtain⟨b0,b1⟩:=b;rw[eqT.eq_def];have s1:("p" == "_")=false:=rfl;have s2:("q" == "_")=false:=rfl;simp only[A7f,Tryz.underlying105,held_cp,cond_false,eqFields,apart,C17,List.getElem?_cons_zero,List.getElem?_cons_succ,Option.bind_some,C1c,s1,s2,natI,Prod.mk.injEq];by_cases h0:a0=b0
 ·by_cases h1:a1=b1
  ·simp[h0,h1]
  ·simp[h0,h1]
 ·simp[h0]
theorem C3y(a b:Nat×Nat):eqT Tryz.prog A1g 105 (B7d A7f a) (B7d A7f b)=some (decide (a=b)):=cp_eq (d:=18) a b
theorem C6a(a:Nat×Nat):A9l Tryz.prog 105 (B7d A7f a)=true:=by
 unfold A9l;rw[Bool.and_eq_true];refine⟨rfl,?_⟩;show keyT Tryz.prog (18+1+1) _ _=true;rw[keyT.eq_def];simp only[B7d,A7f,Tryz.underlying105,List.all_cons,List.all_nil,apart,C17,List.getElem?_cons_zero,List.getElem?_cons_succ,keyT_nat,Bool.or_true,Bool.and_self]
theorem cpNew{a b:Nat}:A9n Tryz.prog 105 [(0,.int .i64 (a:Int)),(1,.int .i64 (b:Int))]=some (.agg (A7f (a,b)).toArray):=by
 have va:∀xs:Array Value,A6a (.agg xs)=xs.toList:=fun _=>rfl;have hi:∀n:Int,isCell (.int .i64 n)=true:=fun _=>rfl;refine A5j (pl:=[(0,1),(1,1)]) Tryz.underlying105 A32 (by kernel_rfl) ?_;simp[A3w,va,A7a (hi _),hi,setCells,A7f,A1b,A0c]
theorem cpNew0:A9n Tryz.prog 105 [(0,.int .i64 0),(1,.int .i64 0)]=some (.agg (A7f (0,0)).toArray):=cpNew (a:=0) (b:=0)
section
variable {H:AH} {q:Nat×Nat}
theorem cpBox:anew Tryz.prog 105 H (.agg (A7f q).toArray)=some (.pointer (some ⟨H.next,0,some 0⟩),(H.new 2 (A7f q)).2):=A2r (vs:=A7f q) A6w rfl rfl
theorem cpZero:anew Tryz.prog 105 H (.agg #[.int .i64 0,.int .i64 0])=some (.pointer (some ⟨H.next,0,some 0⟩),(H.new 2 [.int .i64 0,.int .i64 0]).2):=A2r (vs:=[.int .i64 0,.int .i64 0]) A6w rfl rfl
theorem cpStore{a:Addr}:A7d Tryz.prog 105 H (.agg (A7f q).toArray) (.pointer (some a))=H.write a (A7f q):=A9s A6w rfl rfl
theorem cpOver{x y:Value}:(H.new 2 [x,y]).2.write ⟨H.next,0,some 0⟩ (A7f q)=some (H.new 2 (A7f q)).2:=A3l rfl
theorem D1a:A4a Tryz.prog 107 1 [(0,.agg (A7f q).toArray)] H=some (.slice (some ⟨H.next,0,some 0⟩) 1 1,(H.new 2 (A7f q)).2):=C7r (H:=H) (x:=.agg (A7f q).toArray) rfl rfl
theorem cp0:(H.new 2 (A7f q)).2.cell ⟨H.next,0,some 0⟩=some (.int .i64 (q.1:Int)):=A9h _ _ _
theorem cp1:(H.new 2 (A7f q)).2.cell ⟨H.next,1,some 0⟩=some (.int .i64 (q.2:Int)):=A9h _ _ _
theorem cpAll:(H.new 2 (A7f q)).2.cells ⟨H.next,0,some 0⟩ 2=some (A7f q):=(Sh.Obj.new (H:=H) 2 (A7f q)).cells (i:=0) (n:=2) (by simp[A7f])
end
def idxM(k:Nat)(T:List (Nat×Nat)):List ((Nat×Nat)×Value):=(T.zipIdx k).map fun p=>(p.1,.int .i64 (p.2:Int))
theorem C64(T:List (Nat×Nat))(x:Nat×Nat):idxM 0 (T++[x])=idxM 0 T++[(x,.int .i64 (T.length:Int))]:=by
 unfold idxM;rw[List.zipIdx_append,List.map_append];simp
theorem B8u:∀(T:List (Nat×Nat)) (k:Nat) (x:Nat×Nat),A7q (idxM k T) x=if x∈T then some (.int .i64 ((k+ixOf T x:Nat):Int)) else none
 | [],k,x=>rfl
 | y :: T,k,x=>by
  have ih:=B8u T (k+1) x;unfold idxM A7q at ih ⊢;simp only[List.zipIdx_cons,List.map_cons,List.find?_cons];by_cases h:x=y
  ·subst h
   rw[ix_head];simp
  ·simp only[decide_eq_false h]
   rw[ih];by_cases hx:x∈T
   ·rw[if_pos hx,if_pos (List.mem_cons_of_mem _ hx),ix_tail h]
    congr 3
    omega
   ·rw[if_neg hx,if_neg (by simp[h,hx])]
structure CompS(H:AH)(Z:Nat→Prop)(g5 g6 g7 gm g:Nat)(X:Nat→Prop)(z:Value)(ob:Option Nat)(sigma:List ByteArray)(T:List (Nat×Nat))(rows:List (List (List Value)))(ends costs:List Int):Prop where
 c5:H.cell ⟨g5,0,some 0⟩=some (.pointer (some ⟨g,0,some 0⟩))
 c6:H.cell ⟨g6,0,some 0⟩=some (.map (some gm))
 c7:Arr H g7 0 1 [z]
 td:Buf H 2 z (T.map A7f) ob
 mp:MapIs H gm (B7d A7f) (idxM 0 T)
 gr:GrX H X g sigma rows ends costs
 sx:∀y,X y→y<H.next∧Z y∧y≠g5∧y≠g6∧y≠g7∧y≠gm∧ob≠some y
 so:∀y,ob=some y→Z y∧y≠g5∧y≠g6∧y≠g7∧y≠gm
 z7:Z g7
 zm:Z gm
 n57:g5≠g7∧g6≠g7∧gm≠g5∧gm≠g6∧gm≠g7
 l5:g5<H.next∧g6<H.next
 nw:∀y,H.next≤y→Z y
def CO(X:Nat→Prop)(g7 gm:Nat)(ob:Option Nat)(y:Nat):Prop:=X y∨y=g7∨y=gm∨ob=some y
section
variable {H H':AH} {Z X:Nat→Prop} {g5 g6 g7 gm g:Nat} {z:Value} {ob:Option Nat} {sigma:List ByteArray} {T:List (Nat×Nat)} {rows:List (List (List Value))} {ends costs:List Int}
theorem CompS.lt(h:CompS H Z g5 g6 g7 gm g X z ob sigma T rows ends costs)(hw:Wf H):∀y,CO X g7 gm ob y→y<H.next:=by
 rintro y (hy|rfl|rfl|hy)
 ·exact(h.sx y hy).1
 ·exact h.c7.lt hw
 ·exact h.mp.lt hw
 ·exact h.td.lt hw y hy
theorem CompS.own(h:CompS H Z g5 g6 g7 gm g X z ob sigma T rows ends costs):∀y,CO X g7 gm ob y→Z y:=by
 rintro y (hy|rfl|rfl|hy)
 ·exact(h.sx y hy).2.1
 ·exact h.z7
 ·exact h.zm
 ·exact(h.so y hy).1
theorem A2j{a:Addr}{v:Value}(e:H.cell a=some v)(h:H'.objs.get a.block=H.objs.get a.block):H'.cell a=some v:=by
 rw[←e];unfold AH.cell AH.row?;rw[h]
theorem B1q{a:Addr}{n:Nat}(h:H'.objs.get a.block=H.objs.get a.block):H'.cells a n=H.cells a n:=by
 unfold AH.cells AH.row?;rw[h]
theorem CompS.kept(h:CompS H Z g5 g6 g7 gm g X z ob sigma T rows ends costs)(hw:Wf H)(hk:Kept H H'):CompS H' Z g5 g6 g7 gm g X z ob sigma T rows ends costs:=
 { h with
  c5:=A2b (hk.grow hw) h.c5
  c6:=A2b (hk.grow hw) h.c6
  c7:=h.c7.keep (hk.old g7 (h.c7.lt hw))
  td:=h.td.kept hw hk
  mp:=h.mp.keep (hk.old gm (h.mp.lt hw))
  gr:=h.gr.kept hw hk
  sx:=fun y hy=>⟨Nat.lt_of_lt_of_le (h.sx y hy).1 hk.next,(h.sx y hy).2⟩
  l5:=⟨Nat.lt_of_lt_of_le h.l5.1 hk.next,Nat.lt_of_lt_of_le h.l5.2 hk.next⟩
  nw:=fun y hy=>h.nw y (Nat.le_trans hk.next hy) }
theorem CompS.less(h:CompS H Z g5 g6 g7 gm g X z ob sigma T rows ends costs){b:Nat}(hb:¬CO X g7 gm ob b)(hl:b<H.next):CompS H (fun y=>Z y∧y≠b) g5 g6 g7 gm g X z ob sigma T rows ends costs:=
 { h with
  sx:=fun y hy=>⟨(h.sx y hy).1,⟨(h.sx y hy).2.1,fun e=>hb (e ▸ .inl hy)⟩,(h.sx y hy).2.2⟩
  so:=fun y hy=>⟨⟨(h.so y hy).1,fun e=>hb (e ▸ .inr (.inr (.inr hy)))⟩,(h.so y hy).2⟩
  z7:=⟨h.z7,fun e=>hb (e ▸ .inr (.inl rfl))⟩
  zm:=⟨h.zm,fun e=>hb (e ▸ .inr (.inr (.inl rfl)))⟩
  nw:=fun y hy=>⟨h.nw y hy,by omega⟩ }
theorem CompS.more(h:CompS H Z g5 g6 g7 gm g X z ob sigma T rows ends costs){Z':Nat→Prop}(hz:∀y,Z y→Z' y):CompS H Z' g5 g6 g7 gm g X z ob sigma T rows ends costs:=
 { h with
  sx:=fun y hy=>⟨(h.sx y hy).1,hz y (h.sx y hy).2.1,(h.sx y hy).2.2⟩
  so:=fun y hy=>⟨hz y (h.so y hy).1,(h.so y hy).2⟩
  z7:=hz _ h.z7
  zm:=hz _ h.zm
  nw:=fun y hy=>hz y (h.nw y hy) }
theorem CompS.graph(h:CompS H Z g5 g6 g7 gm g X z ob sigma T rows ends costs)(hw:Wf H)(hc:Chg X H H'){rows':List (List (List Value))}{ends' costs':List Int}(hG:GrX H' (fun y=>X y∨H.next≤y) g sigma rows' ends' costs'):CompS H' Z g5 g6 g7 gm g (fun y=>(X y∨H.next≤y)∧y<H'.next) z ob sigma T rows' ends' costs':=by
 have hob:=h.td.lt hw;have hm:=h.mp.lt hw;have h7:=h.c7.lt hw;obtain⟨l5,l6⟩:=h.l5;exact{ h with
  c5:=A2j h.c5 (hc.old g5 l5 fun hx=>(h.sx g5 hx).2.2.1 rfl)
  c6:=A2j h.c6 (hc.old g6 l6 fun hx=>(h.sx g6 hx).2.2.2.1 rfl)
  c7:=h.c7.keep (hc.old g7 h7 fun hx=>(h.sx g7 hx).2.2.2.2.1 rfl)
  td:=h.td.chg hw hc fun y hy hx=>(h.sx y hx).2.2.2.2.2.2 hy
  mp:=h.mp.keep (hc.old gm hm fun hx=>(h.sx gm hx).2.2.2.2.2.1 rfl)
  gr:=C24 hG hc.wf
  sx:=fun y hy=>by
   refine⟨hy.2,?_⟩;rcases hy.1 with hx|hx
   ·exact(h.sx y hx).2
   ·exact⟨h.nw y hx,by omega,by omega,by omega,by omega,fun e=>by have:=hob y e;omega⟩
  l5:=⟨Nat.lt_of_lt_of_le l5 hc.next,Nat.lt_of_lt_of_le l6 hc.next⟩
  nw:=fun y hy=>h.nw y (Nat.le_trans hc.next hy) }
theorem CompS.note(h:CompS H Z g5 g6 g7 gm g X z ob sigma T rows ends costs)(hw:Wf H){x:Nat×Nat}(hx:x∉T)(hl:T.length≤17179869183):
  ∃H1 b cap z' H3 ob' H4,A3g Tryz.prog 106 (.map (some gm)) (.agg (A7f x).toArray) (.int .i64 (T.length:Int)) H=some H1∧Chg (fun y=>y=gm) H H1∧z=.slice b T.length cap∧
   A3a Tryz.prog .append [107,107] [.slice b T.length cap,.slice (some ⟨H1.next,0,some 0⟩) 1 1] (H1.new 2 (A7f x)).2=some (z',H3)∧H3.cell ⟨g7,0,some 0⟩=some z∧
   A7d Tryz.prog 107 H3 z' (.pointer (some ⟨g7,0,some 0⟩))=some H4∧Chg (CO X g7 gm ob) H H4∧CompS H4 Z g5 g6 g7 gm g X z' ob' sigma (T++[x]) rows ends costs:=by
 have hgm:=h.mp.lt hw;have h7:=h.c7.lt hw;obtain⟨l5,l6⟩:=h.l5;obtain⟨n1,n2,n3,n4,n5⟩:=h.n57;have hob:=h.td.lt hw;obtain⟨H1,a1,a2,a3,a4⟩:=MapIs.add Tryz.underlying106 C6a C3y h.mp hw (a:=x) (by rw[B8u,if_neg hx]) (.int .i64 (T.length:Int));have t1:Buf H1 2 z (T.map A7f) ob:=h.td.chg hw a3 fun y hy e=>(h.so y hy).2.2.2.2 e;obtain⟨b,cap,z',H3,ob',e1,e2,e3,e4,e5⟩:=t1.push a3.wf (x:=A7f x) rfl;rw[List.length_map]at e1 e2;have ha:=app1_107 (H:=H1) (base:=b) (len:=T.length) (cap:=cap) (x:=A7f x) rfl hl;rw[e2]at ha;have c7':Arr H3 g7 0 1 [z]:=(h.c7.keep (a3.old g7 h7 fun e=>n5 e.symm)).keep (e4.old g7 (by omega) fun e=>(h.so g7 e).2.2.2.1 rfl);obtain⟨H4,w1,w2,w3,w4⟩:=c7'.write e4.wf (i:=0) (vs:=[z']) (by simp);have st:A7d Tryz.prog 107 H3 z' (.pointer (some ⟨g7,0,some 0⟩))=some H4:=by rw[A9b C6i e3.isCell,w1]
 have m3:=e4.next;have m4:=w4.next;have o':∀y,ob'=some y→(ob=some y∨H.next≤y)∧y<H3.next:=fun y hy=>⟨(e5 y hy).imp id fun h=>by omega,e3.lt e4.wf y hy⟩
 have tot:Chg (CO X g7 gm ob) H H4:=((a3.weak fun y hy=>.inr (.inr (.inl hy))).trans (e4.weak fun y hy=>.inr (.inr (.inr hy)))).trans (w4.weak fun y hy=>.inr (.inl hy));refine⟨H1,b,cap,z',H3,ob',H4,a1,a3,e1,ha,c7'.cell 0,st,tot,?_⟩;have hG1:=h.gr.chg hw a3 fun y hy e=>(h.sx y hy).2.2.2.2.2.1 e;have hG3:=hG1.chg a3.wf e4 fun y hy e=>(h.sx y hy).2.2.2.2.2.2 e;have hG4:=hG3.chg e4.wf w4 fun y hy e=>(h.sx y hy).2.2.2.2.1 e;have nco:∀{y},y<H.next→y≠g7→y≠gm→¬X y→ob≠some y→H4.objs.get y=H.objs.get y:=fun{y} hy i1 i2 i3 i4=>tot.old y hy fun hco=>by
  rcases hco with h|h|h|h
  ·exact i3 h
  ·exact i1 h
  ·exact i2 h
  ·exact i4 h
 exact{ h with
  c5:=A2j h.c5 (nco l5 n1 (fun e=>n3 e.symm) (fun hX=>(h.sx g5 hX).2.2.1 rfl) fun e=>(h.so g5 e).2.1 rfl)
  c6:=A2j h.c6 (nco l6 n2 (fun e=>n4 e.symm) (fun hX=>(h.sx g6 hX).2.2.2.1 rfl) fun e=>(h.so g6 e).2.2.1 rfl)
  c7:=w2
  td:=by
   rw[List.map_append];exact e3.chg e4.wf w4 fun y hy e=>by
    rcases(o' y hy).1 with h1|h1
    ·exact(h.so y h1).2.2.2.1 e
    ·omega
  mp:=by
   rw[C64];refine(a2.keep (e4.old gm (by omega) fun e=>(h.so gm e).2.2.2.2 rfl)).keep (w4.old gm (by omega) fun e=>n5 e)
  gr:=hG4
  sx:=fun y hy=>by
   obtain⟨s1,s2,s3,s4,s5,s6,s7⟩:=h.sx y hy;exact⟨by omega,s2,s3,s4,s5,s6,fun e=>by
    rcases(o' y e).1 with h1|h1
    ·exact s7 h1
    ·omega⟩
  so:=fun y hy=>by
   rcases(o' y hy).1 with h1|h1
   ·exact h.so y h1
   ·exact⟨h.nw y h1,by omega,by omega,by omega,by omega⟩
  l5:=⟨by omega,by omega⟩
  nw:=fun y hy=>h.nw y (by omega) }
theorem CO_graph{H H':AH}{y:Nat}(h:CO (fun y=>(X y∨H.next≤y)∧y<H'.next) g7 gm ob y):CO X g7 gm ob y∨H.next≤y:=by
 rcases h with⟨h|h,_⟩|h|h|h
 ·exact .inl (.inl h)
 ·exact .inr h
 ·exact .inl (.inr (.inl h))
 ·exact .inl (.inr (.inr (.inl h)))
 ·exact .inl (.inr (.inr (.inr h)))
theorem compTo{x:Nat×Nat}(h:CompS H Z g5 g6 g7 gm g X z ob sigma T rows ends costs)(hlr:rows.length=T.length)(hle:ends.length=T.length)(hlc:costs.length=T.length)(hl:T.length≤1048575)(hw:Wf H):
  Sh.Call Tryz.prog (knows 7) 60 [.agg (A7f x).toArray,.pointer (some ⟨g6,0,some 0⟩),.pointer (some ⟨g5,0,some 0⟩),.pointer (some ⟨g7,0,some 0⟩)] H (fun r H'=>Chg (CO X g7 gm ob) H H'∧r=.int .i64 ((ixOf (A5m T x) x:Nat):Int)∧∃X' z' ob',CompS H' Z g5 g6 g7 gm g X' z' ob' sigma (A5m T x) (rows++List.replicate ((A5m T x).length-T.length) []) (ends++List.replicate ((A5m T x).length-T.length) 0) (costs++List.replicate ((A5m T x).length-T.length) 0)):=by
 refine A5a rfl Tryz.func60 rfl (Nat.le_of_ble_eq_true rfl) ?_;have hres:Tryz.f60.results.toList=[.tmp 5]:=rfl;have kn:=Kept.new hw 2 (A7f x);have h1:=h.kept hw kn;have hgb:H.next<(H.new 2 (A7f x)).2.next:=Nat.lt_succ_self _;have hcb:(H.new 2 (A7f x)).2.cells ⟨H.next,0,some 0⟩ 2=some (A7f x):=cpAll;have hlk:=MapIs.look (ok:=true) Tryz.underlying106 A10 C6a C3y h1.mp x;rw[B8u]at hlk;have hcO:=h.lt hw;simp only[↓Sh.dn,sx,Nat.reduceBEq,reduceCtorEq,Nat.reduceEqDiff,cpBox];obtain⟨gb,hgb'⟩:∃gb,H.next=gb:=⟨_,rfl⟩
 rw[hgb']at hgb hcb hcO ⊢;generalize (H.new 2 (A7f x)).2=H1 at kn h1 hgb hcb hlk ⊢;have c6:=h1.c6;have c5:=h1.c5;unfold B7d at hlk;simp only[↓Sh.dn,sx,Nat.reduceBEq,reduceCtorEq,Nat.reduceEqDiff,c6,hcb,Option.map_some,hlk];by_cases hx:x∈T
 ·have eg:A5m T x=T:=by unfold A5m;rw[if_pos hx]
  have e0:(0+ixOf T x:Nat)=ixOf T x:=Nat.zero_add _;simp only[↓Sh.dn,sx,Nat.reduceBEq,reduceCtorEq,Nat.reduceEqDiff,hx,if_true,Option.getD_some,Option.isSome_some,cond_true,e0,hres,eg,Nat.sub_self,List.replicate_zero,List.append_nil];exact⟨kn.chg,X,z,ob,h1⟩
 ·have eg:A5m T x=T++[x]:=by unfold A5m;rw[if_neg hx]
  have ei:ixOf (T++[x]) x=T.length:=ix_new hx;have el:(T++[x]).length-T.length=1:=by simp
  obtain⟨r2,H2,hd2,hc2,rfl,hG2⟩:=grState h1.gr (by omega) (by rw[hle,hlr]) (by rw[hlc,hlr]) kn.wf;have h2:=h1.graph kn.wf hc2 hG2;have hcb2:H2.cells ⟨gb,0,some 0⟩ 2=some (A7f x):=by
   rw[←hcb];exact B1q (hc2.old gb hgb fun hX=>by have:=hcO gb (.inl hX);omega)
  have c62:=h2.c6;have hlT:=hlr;obtain⟨H3,b,cap,z',H4,ob',H5,n1,n2,rfl,n4,n5,n6,n7,h5⟩:=h2.note hc2.wf hx (by omega);have hcb3:H3.cells ⟨gb,0,some 0⟩ 2=some (A7f x):=by
   rw[←hcb2];exact B1q (n2.old gb (by have:=hc2.next;omega) fun e=>by have:=hcO gm (.inr (.inr (.inl rfl)));omega)
  have c73:H3.cell ⟨g7,0,some 0⟩=some (.slice b T.length cap):=(h2.c7.keep (n2.old g7 (h2.c7.lt hc2.wf) fun e=>h2.n57.2.2.2.2 e.symm)).cell 0;simp only[↓Sh.dn,sx,Nat.reduceBEq,reduceCtorEq,Nat.reduceEqDiff,hx,if_false,Option.getD_none,Option.isSome_none,cond_true,c5];refine⟨_,_,hd2,?_⟩;simp only[↓Sh.dn,sx,Nat.reduceBEq,reduceCtorEq,Nat.reduceEqDiff,c62,hcb2,Option.map_some,n1,c73,hcb3,D1a,n4,n6,hres,eg,ei,el,hlT];refine⟨?_,_,_,_,h5⟩;refine(kn.chg.trans (hc2.weak fun y hy=>.inl hy)).then n7 fun y hy hl=>?_;rcases CO_graph hy with h9|h9
  ·exact h9
  ·have:=kn.next
   omega
end
abbrev Cand:=(Nat×Nat)×Int×Int×Int
def A43(p:Nat)(c:GE):List Cand:=if c.2.1<0 then [((p,c.1),(-1,c.2.2.1,c.2.2.2))] else []
def A2w(p:Nat)(B:List GE):List Cand:=B.flatMap (A43 p)
def A03(c d:GE):List Cand:=if d.2.1=c.2.2.1 then [((c.1,d.1),(c.2.1,d.2.2.1,c.2.2.2+d.2.2.2))] else []
def B4i(c:GE)(B:List GE):List Cand:=B.flatMap (A03 c)
def A7y(q:Nat)(B:List GE)(c:GE):List Cand:=if c.2.2.1<0 then [((c.1,q),(c.2.1,-1,c.2.2.2))] else B4i c B
def A1z(q:Nat)(B A:List GE):List Cand:=A.flatMap (A7y q B)
def A1m(EA EB:List (List GE))(x:Nat×Nat):List Cand:=A2w x.1 (EB.getD x.2 [])++A1z x.2 (EB.getD x.2 []) (EA.getD x.1 [])
def fsts(L:List Cand):List (Nat×Nat):=L.map Prod.fst
theorem B9w(L M:List Cand):fsts (L++M)=fsts L++fsts M:=by simp[fsts]
def A5o(T0:List (Nat×Nat))(R0:List (List GE))(i:Nat)(L:List Cand):List (List GE):=(R0++List.replicate ((A9e T0 (fsts L)).length-T0.length) []).set i (A6m (A9e T0 (fsts L)) L)
def A0p(T0:List (Nat×Nat))(l:List Int)(L:List Cand):List Int:=l++List.replicate ((A9e T0 (fsts L)).length-T0.length) 0
section
variable {T0:List (Nat×Nat)} {R0:List (List GE)} {i:Nat} {L:List Cand} {l:List Int}
theorem A5y(T l:List (Nat×Nat)):T.length≤(A9e T l).length:=by
 obtain⟨U,hU⟩:=B3i l T;rw[hU,List.length_append];omega
theorem B84(h:R0.length=T0.length):(A5o T0 R0 i L).length=(A9e T0 (fsts L)).length:=by
 have:=A5y T0 (fsts L);unfold A5o;rw[List.length_set,List.length_append,List.length_replicate];omega
theorem A67(h:l.length=T0.length):(A0p T0 l L).length=(A9e T0 (fsts L)).length:=by
 have:=A5y T0 (fsts L);unfold A0p;rw[List.length_append,List.length_replicate];omega
theorem B7z{α:Type}(a b c:Nat)(x:α)(h1:a≤b)(h2:b≤c):List.replicate (b-a) x++List.replicate (c-b) x=List.replicate (c-a) x:=by
 rw[List.replicate_append_replicate]
 congr 1
 omega
theorem set_over{α:Type}{A B:List α}{i:Nat}(h:i<A.length)(x y:α):(A.set i x++B).set i y=(A++B).set i y:=by
 rw[List.set_append_left _ _ (by rw[List.length_set];exact h),List.set_set,List.set_append_left _ _ h]
theorem B6r(h:l.length=T0.length)(c:Cand):A0p T0 l (L++[c])=A0p T0 l L++List.replicate ((A5m (A9e T0 (fsts L)) c.1).length-(A9e T0 (fsts L)).length) 0:=by
 have h1:=A5y T0 (fsts L);obtain⟨U,hU⟩:=A88 (A9e T0 (fsts L)) c.1;unfold A0p;rw[B9w,show fsts [c]=[c.1] from rfl,A22,List.append_assoc,B7z _ _ _ _ h1 (by rw[hU,List.length_append];omega)]
theorem B22(h:R0.length=T0.length)(hi:i<T0.length):(A5o T0 R0 i L)[i]?=some (A6m (A9e T0 (fsts L)) L):=by
 have:=A5y T0 (fsts L);unfold A5o;rw[List.getElem?_set,if_pos rfl,if_pos (by rw[List.length_append];omega)]
theorem C3t(h:R0.length=T0.length)(hi:i<T0.length)(c:Cand):A5o T0 R0 i (L++[c])=(A5o T0 R0 i L++List.replicate ((A5m (A9e T0 (fsts L)) c.1).length-(A9e T0 (fsts L)).length) []).set i (A6m (A9e T0 (fsts L)) L++[(ixOf (A5m (A9e T0 (fsts L)) c.1) c.1,c.2)]):=by
 have h1:=A5y T0 (fsts L);obtain⟨U,hU⟩:=A88 (A9e T0 (fsts L)) c.1;have h2:=C8c (T:=T0) (l:=L) c;unfold A5o;rw[set_over (by rw[List.length_append];omega),List.append_assoc,B7z _ _ _ _ h1 (by rw[hU,List.length_append];omega)];have e:fsts (L++[c])=(L++[c]).map Prod.fst:=rfl;rw[e,h2,←e,B9w,show fsts [c]=[c.1] from rfl,A22];have e3:L.map Prod.fst=fsts L:=rfl;rw[e3]
end
theorem A58{T:List (Nat×Nat)}{R:List (List GE)}{j:Nat}(h:∀r,R[j]?=some r→r=[]):A5o T R j []=R:=by
 unfold A5o;rw[show A9e T (fsts [])=T from rfl,Nat.sub_self,List.replicate_zero,List.append_nil];refine List.ext_getElem? fun k=>?_;rw[List.getElem?_set];split
 ·rename_i hj
  subst hj;cases hr':R[j]? with
  | none=>rw[if_neg (by have:=List.getElem?_eq_none_iff.1 hr';omega)]
  | some r=>rw[if_pos (List.getElem?_eq_some_iff.1 hr').1,h r hr'];rfl
 ·rfl
structure CompI(EA EB:List (List GE))(ea eb ca cb:List Int)(n1 n2:Nat)(T:List (Nat×Nat))(i:Nat)(R:List (List GE))(es cs:List Int):Prop where
 nd:T.Nodup
 h0:T[0]?=some (0,0)
 inb:∀x∈T,x.1<n1∧x.2<n2
 lr:R.length=T.length
 le:es.length=T.length
 lc:cs.length=T.length
 iT:i≤T.length
 row:∀j x,j<i→T[j]?=some x→R[j]?=some (A6m T (A1m EA EB x))∧(∀c∈A1m EA EB x,c.1∈T)∧es[j]?=some (if 0<ea.getD x.1 0∧0<eb.getD x.2 0 then 1 else 0)∧cs[j]?=some (if 0<ea.getD x.1 0∧0<eb.getD x.2 0 then ca.getD x.1 0+cb.getD x.2 0 else 0)
 non:∀j,i≤j→j<T.length→R[j]?=some []∧es[j]?=some 0∧cs[j]?=some 0
theorem CompI.start(EA EB:List (List GE))(ea eb ca cb:List Int){n1 n2:Nat}(h1:0<n1)(h2:0<n2):CompI EA EB ea eb ca cb n1 n2 [(0,0)] 0 [[]] [0] [0]:=
 ⟨by simp,rfl,fun x hx=>by rw[List.mem_singleton.1 hx];exact⟨h1,h2⟩,rfl,rfl,rfl,Nat.zero_le _,fun j x hj=>absurd hj (Nat.not_lt_zero j),fun j _ hj=>by
  have:j=0:=by simp at hj;exact hj
  subst this;exact⟨rfl,rfl,rfl⟩⟩
section
variable {EA EB:List (List GE)} {ea eb ca cb:List Int} {n1 n2 i:Nat} {T:List (Nat×Nat)} {R:List (List GE)} {es cs:List Int}
theorem C7o(hA:∀r∈EA,∀e∈r,e.1<n1)(hB:∀r∈EB,∀e∈r,e.1<n2){x:Nat×Nat}(hx:x.1<n1∧x.2<n2):∀c∈A1m EA EB x,c.1.1<n1∧c.1.2<n2:=by
 have ga:∀e∈EA.getD x.1 [],e.1<n1:=fun e he=>by
  rw[List.getD_eq_getElem?_getD]at he;cases h:EA[x.1]? with
  | none=>rw[h]at he;cases he
  | some r=>rw[h]at he;exact hA r (List.mem_of_getElem? h) e he
 have gb:∀e∈EB.getD x.2 [],e.1<n2:=fun e he=>by
  rw[List.getD_eq_getElem?_getD]at he;cases h:EB[x.2]? with
  | none=>rw[h]at he;cases he
  | some r=>rw[h]at he;exact hB r (List.mem_of_getElem? h) e he
 intro c hc;rcases List.mem_append.1 hc with h|h
 ·obtain⟨e,he,h2⟩:=List.mem_flatMap.1 h
  unfold A43 at h2;split at h2
  ·rw[List.mem_singleton.1 h2];exact⟨hx.1,gb e he⟩
  ·cases h2
 ·obtain⟨e,he,h2⟩:=List.mem_flatMap.1 h
  unfold A7y at h2;split at h2
  ·rw[List.mem_singleton.1 h2];exact⟨ga e he,hx.2⟩
  ·obtain⟨d,hd,h3⟩:=List.mem_flatMap.1 h2
   unfold A03 at h3;split at h3
   ·rw[List.mem_singleton.1 h3];exact⟨ga e he,gb d hd⟩
   ·cases h3
theorem CompI.grown(h:CompI EA EB ea eb ca cb n1 n2 T i R es cs){L:List Cand}(hL:∀c∈L,c.1.1<n1∧c.1.2<n2):(A9e T (fsts L)).Nodup∧∀x∈A9e T (fsts L),x.1<n1∧x.2<n2:=
 ⟨B6f h.nd,fun x hx=>by
  rcases A56.1 hx with h1|h1
  ·exact h.inb x h1
  ·obtain⟨c,hc,rfl⟩:=List.mem_map.1 h1
   exact hL c hc⟩
theorem CompI.step(h:CompI EA EB ea eb ca cb n1 n2 T i R es cs)(hA:∀r∈EA,∀e∈r,e.1<n1)(hB:∀r∈EB,∀e∈r,e.1<n2){x:Nat×Nat}(hx:T[i]?=some x){es' cs':List Int}
  (he:es'=es.set i (if 0<ea.getD x.1 0∧0<eb.getD x.2 0 then 1 else 0)) (hc:cs'=cs.set i (if 0<ea.getD x.1 0∧0<eb.getD x.2 0 then ca.getD x.1 0+cb.getD x.2 0 else 0)):
  CompI EA EB ea eb ca cb n1 n2 (A9e T (fsts (A1m EA EB x))) (i+1) (A5o T R i (A1m EA EB x)) (A0p T es' (A1m EA EB x)) (A0p T cs' (A1m EA EB x)):=by
 have hi:i<T.length:=(List.getElem?_eq_some_iff.1 hx).1;have hle:es'.length=T.length:=by rw[he,List.length_set];exact h.le
 have hlc:cs'.length=T.length:=by rw[hc,List.length_set];exact h.lc
 have hxm:=h.inb x (List.mem_of_getElem? hx);obtain⟨g1,g2⟩:=h.grown (C7o hA hB hxm);obtain⟨U,hU⟩:=B3i (fsts (A1m EA EB x)) T;have get:∀{j:Nat},j<T.length→(A9e T (fsts (A1m EA EB x)))[j]?=T[j]?:=fun{j} hj=>by rw[hU,List.getElem?_append_left hj]
 have num:∀{l:List Int} {j:Nat},l.length=T.length→j<T.length→(A0p T l (A1m EA EB x))[j]?=l[j]?:=fun{l j} hl hj=>by unfold A0p;rw[List.getElem?_append_left (by omega)]
 have num0:∀{l:List Int} {j:Nat},l.length=T.length→T.length≤j→j<(A9e T (fsts (A1m EA EB x))).length→(A0p T l (A1m EA EB x))[j]?=some 0:=fun{l j} hl h1 h2=>by
  unfold A0p;rw[List.getElem?_append_right (by omega),List.getElem?_replicate,if_pos (by omega)]
 have hlen:=A5y T (fsts (A1m EA EB x));refine⟨g1,by rw[get (by omega)];exact h.h0,g2,B84 h.lr,A67 hle,A67 hlc,by omega,fun j y hj hy=>?_,fun j hj hjl=>?_⟩
 ·have hjT:j<T.length:=by omega
  rw[get hjT]at hy;rw[num hle hjT,num hlc hjT];by_cases hji:j=i
  ·subst hji
   rw[hx]at hy;have e:=Option.some.inj hy;subst e;have hs:∀(l:List Int) (v:Int),l.length=T.length→(l.set j v)[j]?=some v:=fun l v hl=>by rw[List.getElem?_set,if_pos rfl,if_pos (by omega)]
   rw[B22 h.lr hi,he,hc,hs _ _ h.le,hs _ _ h.lc];exact⟨rfl,fun c hc=>A56.2 (.inr (List.mem_map.2 ⟨c,hc,rfl⟩)),rfl,rfl⟩
  ·obtain⟨h1,h2,h3,h4⟩:=h.row j y (by omega) hy
   refine⟨?_,fun c hc=>?_,?_,?_⟩
   ·unfold A5o
    rw[List.getElem?_set,if_neg (fun e=>hji e.symm),List.getElem?_append_left (by rw[h.lr];omega),h1,hU,B2n h2]
   ·rw[hU];exact List.mem_append_left _ (h2 c hc)
   ·rw[he,List.getElem?_set,if_neg (fun e=>hji e.symm)];exact h3
   ·rw[hc,List.getElem?_set,if_neg (fun e=>hji e.symm)];exact h4
 ·rcases Nat.lt_or_ge j T.length with h1|h1
  ·obtain⟨h2,h3,h4⟩:=h.non j (by omega) h1
   rw[num hle h1,num hlc h1,he,hc,List.getElem?_set,if_neg (by omega),List.getElem?_set,if_neg (by omega)];refine⟨?_,h3,h4⟩;unfold A5o;rw[List.getElem?_set,if_neg (by omega),List.getElem?_append_left (by rw[h.lr];omega)];exact h2
  ·rw[num0 hle h1 hjl,num0 hlc h1 hjl]
   refine⟨?_,rfl,rfl⟩;unfold A5o;rw[List.getElem?_set,if_neg (by omega),List.getElem?_append_right (by rw[h.lr];omega),List.getElem?_replicate,if_pos (by rw[h.lr];omega)]
end
section
variable {H:AH} {Z X:Nat→Prop} {g5 g6 g7 gm g:Nat} {z:Value} {ob:Option Nat} {sigma:List ByteArray}
def CompAt(H:AH)(Z:Nat→Prop)(g5 g6 g7 gm g:Nat)(sigma:List ByteArray)(T0:List (Nat×Nat))(R0:List (List GE))(es cs:List Int)(i:Nat)(L:List Cand):Prop:=
 ∃(X:Nat→Prop) (z:Value) (ob:Option Nat),CompS H Z g5 g6 g7 gm g X z ob sigma (A9e T0 (fsts L)) (A8b (A5o T0 R0 i L)) (A0p T0 es L) (A0p T0 cs L)
theorem CompAt.box{H':AH}{T0:List (Nat×Nat)}{R0:List (List GE)}{es cs:List Int}{i:Nat}{L:List Cand}(h:CompAt H Z g5 g6 g7 gm g sigma T0 R0 es cs i L)(hw:Wf H)(hk:Kept H H')(hl:H.next<H'.next):CompAt H' (fun y=>Z y∧y≠H.next) g5 g6 g7 gm g sigma T0 R0 es cs i L:=by
 obtain⟨X,z,ob,h⟩:=h;exact⟨X,z,ob,(h.kept hw hk).less (fun hc=>by have:=h.lt hw _ hc;omega) hl⟩
theorem CompAt.more{Z':Nat→Prop}{T0:List (Nat×Nat)}{R0:List (List GE)}{es cs:List Int}{i:Nat}{L:List Cand}(h:CompAt H Z g5 g6 g7 gm g sigma T0 R0 es cs i L)(hz:∀y,Z y→Z' y):CompAt H Z' g5 g6 g7 gm g sigma T0 R0 es cs i L:=by
 obtain⟨X,z,ob,h⟩:=h;exact⟨X,z,ob,h.more hz⟩
theorem CompAt.next{T0:List (Nat×Nat)}{R0:List (List GE)}{es cs:List Int}{i:Nat}{L:List Cand}(h:CompAt H Z g5 g6 g7 gm g sigma T0 R0 es cs i L)(hn:∀r,(A5o T0 R0 i L)[i+1]?=some r→r=[]):CompAt H Z g5 g6 g7 gm g sigma (A9e T0 (fsts L)) (A5o T0 R0 i L) (A0p T0 es L) (A0p T0 cs L) (i+1) []:=by
 obtain⟨X,z,ob,h⟩:=h;refine⟨X,z,ob,?_⟩;have e1:A9e (A9e T0 (fsts L)) (fsts [])=A9e T0 (fsts L):=rfl;have e2:∀l:List Int,A0p (A9e T0 (fsts L)) l []=l:=fun l=>by unfold A0p;rw[e1,Nat.sub_self,List.replicate_zero,List.append_nil]
 have e3:A5o (A9e T0 (fsts L)) (A5o T0 R0 i L) (i+1) []=A5o T0 R0 i L:=A58 hn;rw[e1,e2,e2,e3];exact h
theorem CompAt.first{T0:List (Nat×Nat)}{R0:List (List GE)}{es cs:List Int}{i:Nat}(h:CompAt H Z g5 g6 g7 gm g sigma T0 R0 es cs i [])(hr:R0[i]?=some []):∃(X:Nat→Prop) (z:Value) (ob:Option Nat),CompS H Z g5 g6 g7 gm g X z ob sigma T0 (A8b R0) es cs:=by
 obtain⟨X,z,ob,h⟩:=h;refine⟨X,z,ob,?_⟩;have e1:A9e T0 (fsts [])=T0:=rfl;have e2:∀l:List Int,A0p T0 l []=l:=fun l=>by unfold A0p;rw[e1,Nat.sub_self,List.replicate_zero,List.append_nil]
 have e3:A5o T0 R0 i []=R0:=A58 fun r h=>by rw[hr]at h;exact(Option.some.inj h).symm
 rw[e1,e2,e2,e3]at h;exact h
theorem CompAt.of{T0:List (Nat×Nat)}{R0:List (List GE)}{es cs:List Int}{i:Nat}{X:Nat→Prop}{z:Value}{ob:Option Nat}(h:CompS H Z g5 g6 g7 gm g X z ob sigma T0 (A8b R0) es cs)(hr:∀r,R0[i]?=some r→r=[]):CompAt H Z g5 g6 g7 gm g sigma T0 R0 es cs i []:=by
 refine⟨X,z,ob,?_⟩;have e1:A9e T0 (fsts [])=T0:=rfl;have e2:∀l:List Int,A0p T0 l []=l:=fun l=>by unfold A0p;rw[e1,Nat.sub_self,List.replicate_zero,List.append_nil]
 have e3:A5o T0 R0 i []=R0:=A58 hr;rw[e1,e2,e2,e3];exact h
theorem C9e{T0:List (Nat×Nat)}{R0:List (List GE)}{es cs:List Int}{i:Nat}{L:List Cand}(c:Cand)(h:CompAt H Z g5 g6 g7 gm g sigma T0 R0 es cs i L)(hr:R0.length=T0.length)(he:es.length=T0.length)(hc:cs.length=T0.length)(hi:i<T0.length)(hl:(A9e T0 (fsts L)).length≤1048575)(hL:L.length≤17179869183)(hw:Wf H):
  ∃k:Nat,∃H1,Does Tryz.prog (knows 7) 60 [.agg (A7f c.1).toArray,.pointer (some ⟨g6,0,some 0⟩),.pointer (some ⟨g5,0,some 0⟩),.pointer (some ⟨g7,0,some 0⟩)] H (.int .i64 (k:Int)) H1∧Wf H1∧Chg Z H H1∧H1.cell ⟨g5,0,some 0⟩=some (.pointer (some ⟨g,0,some 0⟩))∧
   ∃rr H2,Does Tryz.prog (knows 7) 63 [.pointer (some ⟨g,0,some 0⟩),.int .i64 (i:Int),.int .i64 (k:Int),.int .i64 c.2.1,.int .i64 c.2.2.1,.int .i64 c.2.2.2] H1 rr H2∧Wf H2∧Chg Z H H2∧CompAt H2 Z g5 g6 g7 gm g sigma T0 R0 es cs i (L++[c]):=by
 obtain⟨X,z,ob,h⟩:=h;have hlr:(A8b (A5o T0 R0 i L)).length=(A9e T0 (fsts L)).length:=by unfold A8b;rw[List.length_map,B84 hr]
 obtain⟨r1,H1,hd1,hc1,rfl,X',z',ob',h1⟩:=compTo (x:=c.1) h hlr (A67 he) (A67 hc) hl hw;have hz1:Chg Z H H1:=hc1.weak h.own;have hrow:(A8b (A5o T0 R0 i L)++List.replicate ((A5m (A9e T0 (fsts L)) c.1).length-(A9e T0 (fsts L)).length) [])[i]?=some ((A6m (A9e T0 (fsts L)) L).map A9a):=by
  have:=A5y T0 (fsts L);rw[List.getElem?_append_left (by omega)];unfold A8b;rw[List.getElem?_map,B22 hr hi];rfl
 obtain⟨rr,H2,hd2,hc2,hG2⟩:=C5l (x0:=((ixOf (A5m (A9e T0 (fsts L)) c.1) c.1:Nat):Int)) (x1:=c.2.1) (x2:=c.2.2.1) (x3:=c.2.2.2) h1.gr hrow (by rw[List.length_map];unfold A6m;rw[List.length_map];exact hL) hz1.wf;have h2:=h1.graph hz1.wf hc2 hG2;refine⟨_,H1,hd1,hz1.wf,hz1,h1.c5,rr,H2,hd2,hc2.wf,hz1.trans (hc2.weak fun y hy=>(h1.sx y hy).2.1),?_⟩;unfold CompAt;have e1:A9e T0 (fsts (L++[c]))=A5m (A9e T0 (fsts L)) c.1:=by rw[B9w,show fsts [c]=[c.1] from rfl,A22]
 rw[e1,B6r he,B6r hc,C3t hr hi]
 have e2 : A8b ((A5o T0 R0 i L ++ List.replicate ((A5m (A9e T0 (fsts L)) c.1).length - (A9e T0 (fsts L)).length) []).set i (A6m (A9e T0 (fsts L)) L ++ [(ixOf (A5m (A9e T0 (fsts L)) c.1) c.1, c.2)])) =
     (A8b (A5o T0 R0 i L) ++ List.replicate ((A5m (A9e T0 (fsts L)) c.1).length-(A9e T0 (fsts L)).length) []).set i ((A6m (A9e T0 (fsts L)) L).map A9a ++ [[Value.int .i64 ((ixOf (A5m (A9e T0 (fsts L)) c.1) c.1 : Nat) : Int), .int .i64 c.2.1, .int .i64 c.2.2.1, .int .i64 c.2.2.2]]) := by
   unfold A8b;rw[List.map_set, List.map_append, List.map_append, List.map_replicate];rfl
 rw[e2];exact⟨_,_,_,h2⟩
end
theorem B7e(p:Nat):∀B:List GE,(A2w p B).length≤B.length
 | []=>by simp[A2w]
 | e :: B=>by
  have ih:=B7e p B;have h1:(A43 p e).length≤1:=by unfold A43;split<;>simp
  unfold A2w at ih ⊢;rw[List.flatMap_cons,List.length_append,List.length_cons];omega
theorem B8x(c:GE):∀B:List GE,(B4i c B).length≤B.length
 | []=>by simp[B4i]
 | e :: B=>by
  have ih:=B8x c B;have h1:(A03 c e).length≤1:=by unfold A03;split<;>simp
  unfold B4i at ih ⊢;rw[List.flatMap_cons,List.length_append,List.length_cons];omega
theorem B7w(q:Nat)(B:List GE):∀A:List GE,(A1z q B A).length≤A.length*(B.length+1)
 | []=>by simp[A1z]
 | e :: A=>by
  have ih:=B7w q B A;have h1:(A7y q B e).length≤B.length+1:=by
   unfold A7y;split
   ·simp
   ·have:=B8x e B;omega
  unfold A1z at ih ⊢;rw[List.flatMap_cons,List.length_append,List.length_cons,Nat.succ_mul];omega
theorem B9p(p:Nat)(B:List GE)(e:GE):A2w p (B++[e])=A2w p B++A43 p e:=by simp[A2w]
theorem B1s(c:GE)(B:List GE)(e:GE):B4i c (B++[e])=B4i c B++A03 c e:=by simp[B4i]
theorem B4o(q:Nat)(B A:List GE)(e:GE):A1z q B (A++[e])=A1z q B A++A7y q B e:=by simp[A1z]
theorem PG.steadyRow{H:AH}{Z:Nat→Prop}{g n rb:Nat}{E:List (List GE)}{ends:List Int}{sv av ev cv:Value}{vals:List Value}{sigma:List ByteArray}{costs:List Int}(h:∀{H':AH},Chg Z H H'→PG H' g n rb E ends sv av ev cv vals sigma costs)(hw:Wf H){s:Nat}{r:List GE}(hr:E[s]?=some r):
  ∃p w,A4b Tryz.prog 101 av (.int .i64 (s:Int))=some (.pointer (some p))∧(∀H',A3a Tryz.prog .len [111] [w] H'=some (.int .i64 (r.length:Int),H'))∧∀{H':AH},Chg Z H H'→H'.cell p=some w∧Sl H' w 4 (r.map A9a):=by
 have h0:=h (Chg.refl hw);obtain⟨pr,wr,hiar,hcr,hsr,hlr⟩:=PG.row h0 hr;have hvl:s<vals.length:=by
  have:=(List.getElem?_eq_some_iff.1 hr).1;rw[h0.gr.jag.len];unfold A8b;rw[List.length_map];omega
 have key:∀{Hx wx},Chg Z H Hx→Hx.cell pr=some wx→wx=vals[s]:=by
  intro Hx wx hcx hx;obtain⟨p',h1,h2⟩:=Sl.elem (s:=1) Tryz.underlying101 A9p (h hcx).gr.jag.sl (i:=s) (u:=vals[s]) (by rw[List.getElem?_map,List.getElem?_eq_getElem hvl];rfl);rw[hiar]at h1;have e1:=Option.some.inj h1;injection e1 with e1;injection e1 with e1
  subst e1;rw[hx]at h2;exact Option.some.inj h2
 refine⟨pr,wr,hiar,fun H'=>hsr.len Tryz.underlying111 H' |>.trans (by rw[List.length_map]),fun{H'} hc=>?_⟩;obtain⟨pr2,wr2,hia2,hcr2,hsr2,_⟩:=PG.row (h hc) hr;rw[hiar]at hia2;have e1:=Option.some.inj hia2;injection e1 with e1;injection e1 with e1
 subst e1;have hwr:wr2=wr:=(key hc hcr2).trans (key (Chg.refl hw) hcr).symm;subst hwr;exact⟨hcr2,hsr2⟩
theorem B5e{l:List Int}{i:Nat}{x:Int}(h:l[i]?=some x):l.set i x=l:=by
 refine List.ext_getElem? fun j=>?_;rw[List.getElem?_set];split
 ·rename_i hj
  subst hj;rw[h,if_pos (List.getElem?_eq_some_iff.1 h).1]
 ·rfl
theorem B9z{H:AH}{Y1 Y2:Nat→Prop}{g1 g2 n1 n2:Nat}{sigma sigma2:List ByteArray}{EA EB:List (List GE)}{ea eb ca cb:List Int}(h1:GrX H Y1 g1 sigma (A8b EA) ea ca)(h2:GrX H Y2 g2 sigma2 (A8b EB) eb cb)
  (hl1:EA.length=n1) (he1:ea.length=n1) (hc1:ca.length=n1) (hp1:1≤n1) (hq1:n1≤3000) (hl2:EB.length=n2) (he2:eb.length=n2) (hc2:cb.length=n2) (hp2:1≤n2) (hq2:n2≤3000) (hnn:n1*n2≤1000000) (hsl:sigma.length≤1048576)
  (ht1:∀r∈EA,r.length≤60000∧∀e∈r,e.1<n1) (ht2:∀r∈EB,r.length≤60000∧∀e∈r,e.1<n2) (hpr:∀r∈EA,∀q∈EB,r.length*(q.length+1)≤100000000)
  (hk1:∀r∈EA,∀e∈r,0≤e.2.2.2∧e.2.2.2≤1099511627776) (hk2:∀r∈EB,∀e∈r,0≤e.2.2.2∧e.2.2.2≤1099511627776) (hk3:∀c∈ca,0≤c∧c≤1099511627776) (hk4:∀c∈cb,0≤c∧c≤1099511627776) (hw:Wf H):
  Sh.Call Tryz.prog (knows 7) 28 [.pointer (some ⟨g1,0,some 0⟩),.pointer (some ⟨g2,0,some 0⟩)] H (fun r H'=>Kept H H'∧∃g,r=.pointer (some ⟨g,0,some 0⟩)∧∃(X:Nat→Prop) (T:List (Nat×Nat)) (R:List (List GE)) (es cs:List Int),GrX H' X g sigma (A8b R) es cs∧CompI EA EB ea eb ca cb n1 n2 T T.length R es cs):=by
 refine A5a rfl Tryz.func28 rfl (Nat.le_of_ble_eq_true rfl) ?_;have hres:Tryz.f28.results.toList=[.tmp 4]:=rfl;obtain⟨Z,hZ⟩:∃Z:Nat→Prop,(fun y=>H.next≤y)=Z:=⟨_,rfl⟩
 have hZi:∀{y},Z y↔H.next≤y:=fun{y}=>by rw[←hZ]
 obtain⟨sv1,av1,ev1,cv1,vals1,hst1⟩:=GrX.steady (X:=Z) (C24 h1 hw) hw fun y hy h=>by
  have:=hy.2;rw[hZi]at h;omega
 obtain⟨sv2,av2,ev2,cv2,vals2,hst2⟩:=GrX.steady (X:=Z) (C24 h2 hw) hw fun y hy h=>by
  have:=hy.2;rw[hZi]at h;omega
 have hkz:∀{H'},Chg Z H H'→Kept H H':=fun hc=>(Kept.refl hw).then (Nat.le_refl _) (hc.weak fun y hy=>hZi.1 hy);have hR1:=hst1 H (Chg.refl hw);have c0:=hR1.arr.cell 0;obtain⟨r3,H3,hd3,hk3',g,rfl,hG3⟩:=A42 (n:=1) hR1.sg hsl (by decide) hw;simp only[↓Sh.dn,sx,reduceCtorEq,Nat.reduceEqDiff,c0];refine⟨_,_,hd3,?_⟩;have bx:∀{t:Nat} {H:AH} {z x:Value},A5b Tryz.prog t=some 1→isCell z=true→isCell x=true→anew Tryz.prog t H z=some (.pointer (some ⟨H.next,0,some 0⟩),(H.new 1 [z]).2)∧A7d Tryz.prog t (H.new 1 [z]).2 x (.pointer (some ⟨H.next,0,some 0⟩))=some (H.new 1 [x]).2:=fun hs hz hx=>⟨A4x hs hz,by rw[A9b hs hx];exact A3l rfl⟩
 have b5:=bx (H:=H3) (z:=.pointer none) (x:=.pointer (some ⟨g,0,some 0⟩)) B9x rfl rfl;have k4:=Kept.new hk3'.wf 1 [.pointer (some ⟨g,0,some 0⟩)];have e5:(H3.new 1 [.pointer (some ⟨g,0,some 0⟩)]).2.cell ⟨H3.next,0,some 0⟩=some (.pointer (some ⟨g,0,some 0⟩)):=A9h _ _ _;have n4:(H3.new 1 [.pointer (some ⟨g,0,some 0⟩)]).2.next=H3.next+1:=rfl;simp only[sx,b5.1,b5.2,cpNew0];obtain⟨g5,hg5⟩:∃k,H3.next=k:=⟨_,rfl⟩
 rw[hg5]at e5 n4 ⊢;generalize (H3.new 1 [.pointer (some ⟨g,0,some 0⟩)]).2=H4 at k4 e5 n4 ⊢;have kp:=Kept.push k4.wf (.map []);have n5:(H4.push (.map [])).2.next=H4.next+1:=rfl;have m0:MapIs (H4.push (.map [])).2 H4.next (B7d A7f) ([]:List ((Nat×Nat)×Value)):=MapIs.new;obtain⟨gm,hgm⟩:∃k,H4.next=k:=⟨_,rfl⟩
 rw[hgm]at m0 n5 ⊢;generalize (H4.push (.map [])).2=H5 at kp m0 n5 ⊢;obtain⟨H6,a1,a2,a3,a4⟩:=MapIs.add Tryz.underlying106 C6a C3y m0 kp.wf (a:=(0,0)) rfl (.int .i64 0);have a1':A3g Tryz.prog 106 (.map (some gm)) (.agg (A7f (0,0)).toArray) (.int .i64 0) H5=some H6:=a1;have k46:Kept H4 H6:=kp.then (Nat.le_refl _) (a3.weak fun y hy=>by omega);have b6:=bx (H:=H6) (z:=.map none) (x:=.map (some gm)) size_106 rfl rfl;have k7:=Kept.new a3.wf 1 [.map (some gm)];have e6:(H6.new 1 [.map (some gm)]).2.cell ⟨H6.next,0,some 0⟩=some (.map (some gm)):=A9h _ _ _;have n7:(H6.new 1 [.map (some gm)]).2.next=H6.next+1:=rfl;simp only[sx,a1',b6.1,b6.2,D1a];obtain⟨g6,hg6⟩:∃k,H6.next=k:=⟨_,rfl⟩
 rw[hg6]at e6 n7 ⊢;generalize (H6.new 1 [.map (some gm)]).2=H7 at k7 e6 n7 ⊢;have k8:=Kept.new k7.wf 2 (A7f (0,0));have n8:(H7.new 2 (A7f (0,0))).2.next=H7.next+1:=rfl;have t8:Buf (H7.new 2 (A7f (0,0))).2 2 (.slice (some ⟨H7.next,0,some 0⟩) 1 1) [A7f (0,0)] (some H7.next):=Buf.fresh (H:=H7) (s:=2) (xs:=[A7f (0,0)]) k7.wf (by simp[A7f]) (by simp) 1 rfl;obtain⟨gt,hgt⟩:∃k,H7.next=k:=⟨_,rfl⟩
 rw[hgt]at t8 n8 ⊢;generalize (H7.new 2 (A7f (0,0))).2=H8 at k8 t8 n8 ⊢;have b7:=bx (H:=H8) (z:=.slice none 0 0) (x:=.slice (some ⟨gt,0,some 0⟩) 1 1) C6i rfl rfl;have k9:=Kept.new k8.wf 1 [.slice (some ⟨gt,0,some 0⟩) 1 1];have n9:(H8.new 1 [.slice (some ⟨gt,0,some 0⟩) 1 1]).2.next=H8.next+1:=rfl;have e7:Arr (H8.new 1 [.slice (some ⟨gt,0,some 0⟩) 1 1]).2 H8.next 0 1 [.slice (some ⟨gt,0,some 0⟩) 1 1]:=(Sh.Obj.new (H:=H8) 1 _).arr;simp only[sx,b7.1,b7.2];obtain⟨g7,hg7⟩:∃k,H8.next=k:=⟨_,rfl⟩
 rw[hg7]at e7 n9 ⊢;generalize (H8.new 1 [.slice (some ⟨gt,0,some 0⟩) 1 1]).2=H9 at k9 e7 n9 ⊢;have k49:=((k46.trans k7).trans k8).trans k9;have k39:=k4.trans k49;have hn3:=hk3'.next;have hS:CompAt H9 Z g5 g6 g7 gm g sigma [(0,0)] [[]] [0] [0] 0 []:=by
  refine⟨fun y=>H.next≤y∧y<H3.next,.slice (some ⟨gt,0,some 0⟩) 1 1,some gt,?_⟩;have hu:A9e [((0,0):Nat×Nat)] (fsts [])=[(0,0)]:=rfl;have hgr:GrX H3 (fun y=>H.next≤y∧y<H3.next) g sigma (A8b [[]]) [0] [0]:=by simpa [A8b] using hG3.own hk3'.wf
  exact{
   c5:=A2b (k49.grow k4.wf) e5
   c6:=A2b ((k8.trans k9).grow k7.wf) e6
   c7:=e7
   td:=t8.kept k8.wf k9
   mp:=(MapIs.keep a2 (((k7.trans k8).trans k9).old gm (by omega)))
   gr:=hgr.kept hk3'.wf k39
   sx:=fun y hy=>⟨by omega,hZi.2 hy.1,by omega,by omega,by omega,by omega,fun e=>by have:=Option.some.inj e;omega⟩
   so:=fun y hy=>by
    have:=Option.some.inj hy;exact⟨hZi.2 (by omega),by omega,by omega,by omega,by omega⟩
   z7:=hZi.2 (by omega)
   zm:=hZi.2 (by omega)
   n57:=⟨by omega,by omega,by omega,by omega,by omega⟩
   l5:=⟨by omega,by omega⟩
   nw:=fun y hy=>hZi.2 (by omega) }
 have hc9:Chg Z H H9:=(hk3'.trans k39).chg;obtain⟨fv,hfv⟩:∃fv,Value.func (.func 60) #[] #[.pointer (some ⟨g6,0,some 0⟩),.pointer (some ⟨g5,0,some 0⟩),.pointer (some ⟨g7,0,some 0⟩)]=fv:=⟨_,rfl⟩
 have hC0:=CompI.start EA EB ea eb ca cb hp1 hp2;clear a1 a1' a2 a3 a4 b5 b6 b7 e5 e6 e7 k4 kp k46 k7 k8 k9 k49 k39 n4 n5 n7 n8 n9 t8 m0 hG3;have hpg1:∀{H'},Chg Z H H'→PG H' g1 n1 60000 EA ea sv1 av1 ev1 cv1 vals1 sigma ca:=fun hc=>⟨hst1 _ hc,hl1,he1,hp1,Nat.le_trans hq1 (by decide),fun s r hr=>ht1 r (List.mem_of_getElem? hr)⟩
 have hpg2:∀{H'},Chg Z H H'→PG H' g2 n2 60000 EB eb sv2 av2 ev2 cv2 vals2 sigma2 cb:=fun hc=>⟨hst2 _ hc,hl2,he2,hp2,Nat.le_trans hq2 (by decide),fun s r hr=>ht2 r (List.mem_of_getElem? hr)⟩
 have hA:∀r∈EA,∀e∈r,e.1<n1:=fun r hr=>(ht1 r hr).2;have hB:∀r∈EB,∀e∈r,e.1<n2:=fun r hr=>(ht2 r hr).2;refine A8d (m:=1000001) (fun m F H'=>∃i T R es cs,m+i=1000001∧F.get 9=some (.int .i64 (i:Int))∧F.get 0=some (.pointer (some ⟨g1,0,some 0⟩))∧F.get 1=some (.pointer (some ⟨g2,0,some 0⟩))∧F.get 5=some (.pointer (some ⟨g5,0,some 0⟩))∧F.get 7=some (.pointer (some ⟨g7,0,some 0⟩))∧F.get 8=some fv∧Chg Z H H'∧CompI EA EB ea eb ca cb n1 n2 T i R es cs∧CompAt H' Z g5 g6 g7 gm g sigma T R es cs i [])
  ⟨0,_,_,_,_,rfl,by simp only[sx];rfl,by simp only[sx,reduceCtorEq],by simp only[sx,Nat.reduceEqDiff],by simp only[sx,Nat.reduceEqDiff],by simp only[sx,Nat.reduceEqDiff],by simp only[sx,Nat.reduceEqDiff,hfv],hc9,hC0,hS⟩ ?_
 clear hc9 hC0 hS hn3 hg5 hgm hg6 hgt hg7 hd3 hk3';clear H3 H4 H5 H6 H7 H8 H9;rintro m F H' ⟨i,T,R,es,cs,hmi,f9,f0,f1,f5,f7,f8,hc,hI,hS⟩ k;have hTl:T.length≤1000000:=Nat.le_trans (B3u hI.nd hI.inb) hnn;by_cases hi:i<T.length
 ·obtain⟨hnR,hne,hnc⟩:=hI.non i (Nat.le_refl _) hi
  obtain⟨X,z,ob,hS0⟩:=hS.first hnR;have hx:T[i]?=some T[i]:=List.getElem?_eq_getElem hi;obtain⟨hxa,hxb⟩:=hI.inb _ (List.getElem_mem hi);generalize T[i]=x at hx hxa hxb;have c7:=hS0.c7.cell 0;have hlenT:A3a Tryz.prog .len [107] [z] H'=some (.int .i64 (T.length:Int),H'):=by rw[hS0.td.toSl.len Tryz.underlying107,List.length_map]
  obtain⟨q,o,kk,ia,iq,_⟩:=hS0.td.toSl.at Tryz.underlying107 A6w (i:=i) (x:=A7f x) (by simp[hx]) .i64;simp only[↓Sh.dn,sx,reduceCtorEq,Nat.reduceEqDiff,f7,f9,c7,hlenT,A2a,hi,decide_true,ia,iq,cpZero,cpStore,cpOver];have kn:=Kept.new hc.wf 2 (A7f x);have hSb:=hS.box hc.wf kn (Nat.lt_succ_self _);have x0:(H'.new 2 (A7f x)).2.cell ⟨H'.next,0,some 0⟩=some (.int .i64 (x.1:Int)):=cp0;have x1:(H'.new 2 (A7f x)).2.cell ⟨H'.next,1,some 0⟩=some (.int .i64 (x.2:Int)):=cp1;have xl:H'.next<(H'.new 2 (A7f x)).2.next:=Nat.lt_succ_self _;have hcb:=hc.trans (kn.chg (X:=Z));obtain⟨bx0,hbx⟩:∃b,H'.next=b:=⟨_,rfl⟩
  have hbZ:Z bx0:=by rw[←hbx];exact hZi.2 hc.next
  rw[hbx]at hSb x0 x1 xl ⊢;obtain⟨Z',hZ'⟩:∃Z':Nat→Prop,(fun y=>Z y∧y≠bx0)=Z':=⟨_,rfl⟩
  have hZZ:∀{y},Z' y→Z y:=fun{y} h=>by rw[←hZ']at h;exact h.1
  have hZb:¬Z' bx0:=fun h=>by rw[←hZ']at h;exact h.2 rfl
  rw[hZ']at hSb;clear hS hS0 c7 hlenT ia iq;generalize (H'.new 2 (A7f x)).2=Hb at kn hSb x0 x1 xl hcb ⊢;obtain⟨X,z,ob,hS1⟩:=hSb.first hnR;have hR1:=hst1 Hb hcb;have hR2:=hst2 Hb hcb;have y12:=hR1.arr.cell 2;have y13:=hR1.arr.cell 3;have y22:=hR2.arr.cell 2;have y23:=hR2.arr.cell 3;have hea:ea[x.1]?=some (ea.getD x.1 0):=by rw[List.getD_eq_getElem?_getD,List.getElem?_eq_getElem (by omega)];rfl
  have heb:eb[x.2]?=some (eb.getD x.2 0):=by rw[List.getD_eq_getElem?_getD,List.getElem?_eq_getElem (by omega)];rfl
  have hca:ca[x.1]?=some (ca.getD x.1 0):=by rw[List.getD_eq_getElem?_getD,List.getElem?_eq_getElem (by omega)];rfl
  have hcbx:cb[x.2]?=some (cb.getD x.2 0):=by rw[List.getD_eq_getElem?_getD,List.getElem?_eq_getElem (by omega)];rfl
  obtain⟨p1,i1,v1⟩:=Sl.elem (s:=1) Tryz.underlying71 A1c hR1.en (i:=x.1) (u:=.int .i64 (ea.getD x.1 0)) (by rw[List.getElem?_map,hea];rfl);obtain⟨p2,i2,v2⟩:=Sl.elem (s:=1) Tryz.underlying71 A1c hR2.en (i:=x.2) (u:=.int .i64 (eb.getD x.2 0)) (by rw[List.getElem?_map,heb];rfl);obtain⟨p3,i3,v3⟩:=Sl.elem (s:=1) Tryz.underlying71 A1c hR1.co (i:=x.1) (u:=.int .i64 (ca.getD x.1 0)) (by rw[List.getElem?_map,hca];rfl);obtain⟨p4,i4,v4⟩:=Sl.elem (s:=1) Tryz.underlying71 A1c hR2.co (i:=x.2) (u:=.int .i64 (cb.getD x.2 0)) (by rw[List.getElem?_map,hcbx];rfl);obtain⟨q1,q2⟩:=hk3 _ (List.mem_of_getElem? hca);obtain⟨q3,q4⟩:=hk4 _ (List.mem_of_getElem? hcbx);have w1:IntKind.wrap .i64 (ca.getD x.1 0+cb.getD x.2 0)=ca.getD x.1 0+cb.getD x.2 0:=wrap64 (by omega) (by omega);obtain⟨M,hM⟩:∃M:Fr→AH→Prop,M=fun F2 H2=>F2.get 9=some (.int .i64 (i:Int))∧F2.get 0=some (.pointer (some ⟨g1,0,some 0⟩))∧F2.get 1=some (.pointer (some ⟨g2,0,some 0⟩))∧F2.get 5=some (.pointer (some ⟨g5,0,some 0⟩))∧F2.get 7=some (.pointer (some ⟨g7,0,some 0⟩))∧F2.get 8=some fv∧F2.get 10=some (.pointer (some ⟨bx0,0,some 0⟩))∧Chg Z' Hb H2∧CompAt H2 Z' g5 g6 g7 gm g sigma T R (es.set i (if 0<ea.getD x.1 0∧0<eb.getD x.2 0 then 1 else 0)) (cs.set i (if 0<ea.getD x.1 0∧0<eb.getD x.2 0 then ca.getD x.1 0+cb.getD x.2 0 else 0)) i []:=⟨_,rfl⟩
  simp only[sx,f0,x0,y12,i1,v1];refine wpo_two M (by rfl) ?_ ?_
  ·by_cases hA0:0<ea.getD x.1 0
   ·by_cases hB0:0<eb.getD x.2 0
    ·have hee:es[i]'(by rw[hI.le];exact hi)=0:=by have:=hne;rw[List.getElem?_eq_getElem (by rw[hI.le];exact hi)]at this;exact Option.some.inj this
     obtain⟨rr,H2,hd2,hc2,hG2⟩:=grEndX (s:=i) (x:=ca.getD x.1 0+cb.getD x.2 0) hS1.gr (by rw[hI.le];exact hi) (by rw[hI.lc];exact hi) hcb.wf (by rw[hee];decide) (by rw[hee];decide);have hS2:=hS1.graph hcb.wf hc2 (hG2.mono fun y hy=>.inl hy);rw[hee]at hS2;have hec:A1t 0 (cs[i]'(by rw[hI.lc];exact hi)) (ca.getD x.1 0+cb.getD x.2 0)=ca.getD x.1 0+cb.getD x.2 0:=by unfold A1t;rw[if_pos (.inl rfl)]
     rw[hec]at hS2;have c5:=hS1.c5;simp only[↓Sh.dn,sx,Nat.reduceEqDiff,f1,x1,y22,i2,v2,hA0,hB0,decide_true]
     first|refine(A7c (by kernel_rfl)).2 ?_|skip
     simp only[↓Sh.dn,sx,reduceCtorEq,Nat.reduceEqDiff,f0,f1,f5,f9,x0,x1,y13,y23,i3,v3,i4,v4,w1,c5];refine⟨_,_,hd2,?_⟩;simp only[sx,reduceCtorEq,Nat.reduceEqDiff,hM,f0,f1,f5,f7,f8,f9,hA0,hB0,and_self];exact⟨hc2.weak fun y hy=>(hS1.sx y hy).2.1,CompAt.of hS2 fun r hr=>by rw[hnR]at hr;exact(Option.some.inj hr).symm⟩
    ·simp only[↓Sh.dn,sx,Nat.reduceEqDiff,f1,x1,y22,i2,v2,hA0,hB0,decide_true,decide_false]
     simp only[sx,reduceCtorEq,Nat.reduceEqDiff,hM,f0,f1,f5,f7,f8,f9,hA0,hB0,and_false,B5e hne,B5e hnc];exact⟨Chg.refl hcb.wf,hSb⟩
   ·simp only[↓Sh.dn,sx,Nat.reduceEqDiff,hA0,decide_false]
    simp only[sx,reduceCtorEq,Nat.reduceEqDiff,hM,f0,f1,f5,f7,f8,f9,hA0,false_and,B5e hne,B5e hnc];exact⟨Chg.refl hcb.wf,hSb⟩
  ·clear f9 f0 f1 f5 f7 f8 hS1 hSb i1 v1 i2 v2 i3 v3 i4 v4 y12 y13 y22 y23 hR1 hR2
   rintro F2 H2 hm;rw[hM]at hm;obtain⟨f9,f0,f1,f5,f7,f8,f10,hc2,hS2⟩:=hm;clear hM M;obtain⟨es1,hes1⟩:∃l,l=es.set i (if 0<ea.getD x.1 0∧0<eb.getD x.2 0 then 1 else 0):=⟨_,rfl⟩
   obtain⟨cs1,hcs1⟩:∃l,l=cs.set i (if 0<ea.getD x.1 0∧0<eb.getD x.2 0 then ca.getD x.1 0+cb.getD x.2 0 else 0):=⟨_,rfl⟩
   rw[←hes1,←hcs1]at hS2;have hle1:es1.length=T.length:=by rw[hes1,List.length_set];exact hI.le
   have hlc1:cs1.length=T.length:=by rw[hcs1,List.length_set];exact hI.lc
   have hcz:∀{H3},Chg Z' Hb H3→Chg Z H H3:=fun h=>hcb.trans (h.weak fun y hy=>hZZ hy);have hxk:∀{H3},Chg Z' Hb H3→H3.cell ⟨bx0,0,some 0⟩=some (.int .i64 (x.1:Int))∧H3.cell ⟨bx0,1,some 0⟩=some (.int .i64 (x.2:Int)):=fun h=>⟨A2j x0 (h.old bx0 xl hZb),A2j x1 (h.old bx0 xl hZb)⟩
   have hrB:EB[x.2]?=some (EB.getD x.2 []):=by rw[List.getD_eq_getElem?_getD,List.getElem?_eq_getElem (by omega)];rfl
   have hrA:EA[x.1]?=some (EA.getD x.1 []):=by rw[List.getD_eq_getElem?_getD,List.getElem?_eq_getElem (by omega)];rfl
   obtain⟨lB,hBe⟩:=ht2 _ (List.mem_of_getElem? hrB);obtain⟨lA,hAe⟩:=ht1 _ (List.mem_of_getElem? hrA);have kA:=hk1 _ (List.mem_of_getElem? hrA);have kB:=hk2 _ (List.mem_of_getElem? hrB);have hprx:=hpr _ (List.mem_of_getElem? hrA) _ (List.mem_of_getElem? hrB);obtain⟨pB,wB,hiB,hlB,hwB⟩:=PG.steadyRow (Z:=Z) hpg2 hw hrB;obtain⟨pA,wA,hiA,hlA,hwA⟩:=PG.steadyRow (Z:=Z) hpg1 hw hrA;have hcin:=C7o hA hB ⟨hxa,hxb⟩;have hcd:A1m EA EB x=A2w x.1 (EB.getD x.2 [])++A1z x.2 (EB.getD x.2 []) (EA.getD x.1 []):=rfl;have hfin:∀{L},CompAt L Z g5 g6 g7 gm g sigma T R es1 cs1 i (A1m EA EB x)→CompI EA EB ea eb ca cb n1 n2 (A9e T (fsts (A1m EA EB x))) (i+1) (A5o T R i (A1m EA EB x)) (A0p T es1 (A1m EA EB x)) (A0p T cs1 (A1m EA EB x))∧CompAt L Z g5 g6 g7 gm g sigma (A9e T (fsts (A1m EA EB x))) (A5o T R i (A1m EA EB x)) (A0p T es1 (A1m EA EB x)) (A0p T cs1 (A1m EA EB x)) (i+1) []:=fun h=>by
    have hI2:=hI.step hA hB hx hes1 hcs1;refine⟨hI2,h.next fun r hr=>?_⟩;have h1:=(List.getElem?_eq_some_iff.1 hr).1;rw[hI2.lr]at h1;rw[(hI2.non (i+1) (Nat.le_refl _) h1).1]at hr;exact(Option.some.inj hr).symm
   have bnd:∀{L:List Cand},(∀c∈L,c∈A1m EA EB x)→(A9e T (fsts L)).length≤1048575:=fun{L} hL=>by
    obtain⟨g1',g2'⟩:=hI.grown (L:=L) fun c hc=>hcin c (hL c hc)
    have:=B3u g1' g2';omega
   have hlr:=hI.lr;have hwi:IntKind.wrap .i64 ((i:Int)+1)=((i+1:Nat):Int):=by rw[wrap64 (by omega) (by omega)];omega
   rw[hcd]at hfin hcin bnd;clear hes1 hcs1 hcd hca hcbx hea heb hk1 hk2 hk3 hk4 q1 q2 q3 q4 w1 hnR hne hnc ht1 ht2 hpr kn;generalize EB.getD x.2 []=B at *;generalize EA.getD x.1 []=A at *;obtain⟨xa,xb⟩:=x;simp only at *;obtain⟨z1,z2⟩:=hxk hc2;have yB:=(hst2 H2 (hcz hc2)).arr.cell 1;have tB:=(hwB (hcz hc2)).1
   first|refine(A7c (by kernel_rfl)).2 ?_|skip
   simp only[↓Sh.dn,sx,Nat.reduceEqDiff,f1,f10,z2,yB,hiB,tB,hlB];clear z1 z2 yB tB;refine A0d B.length 87 (List.range' 87 22++[12]) (fun j F3 H3=>Chg Z' Hb H3∧CompAt H3 Z' g5 g6 g7 gm g sigma T R es1 cs1 i (A2w xa (B.take j))) (by simp only[sx]) ⟨hc2,by simpa [A2w] using hS2⟩ ?_ ?_
   ·rintro j F3 H3 hj hF3 u87 ⟨hc3,hS3⟩ k3
    have u5:=hF3 5 rfl;have u8:=hF3 8 rfl;have u9:=hF3 9 rfl;have u10:=hF3 10 rfl;have u85:=hF3 85 rfl;have u86:=hF3 86 rfl;simp only[sx,Nat.reduceEqDiff,f5,f8,f9,f10]at u5 u8 u9 u10 u85 u86;rw[←hfv]at u8;obtain⟨pe,hiae,hce⟩:=PG.edge (hwB (hcz hc3)).2 hj;have hmem:B[j]∈B:=List.getElem_mem hj;have htk:B.take (j+1)=B.take j++[B[j]]:=by rw[List.take_add_one,List.getElem?_eq_getElem hj];rfl
    have hsub:∀c∈A2w xa (B.take j),c∈A2w xa B++A1z xb B A:=fun c hc=>by
     obtain⟨d,hd,h2⟩:=List.mem_flatMap.1 hc;exact List.mem_append_left _ (List.mem_flatMap.2 ⟨d,List.mem_of_mem_take hd,h2⟩)
    generalize B[j]=e at hce hmem htk;have kn:=Kept.new hc3.wf 4 (A9a e);have hS4:=hS3.box hc3.wf kn (Nat.lt_succ_self _);have hc4:Chg Z' Hb (H3.new 4 (A9a e)).2:=hc3.trans (kn.chg (X:=Z'));obtain⟨z1,z2⟩:=hxk hc4;have hlt:H3.next<(H3.new 4 (A9a e)).2.next:=Nat.lt_succ_self _;simp only[↓Sh.dn,sx,Nat.reduceEqDiff,u85,u86,u87,A2a,hj,decide_true,hiae,hce,A8q,A9k,A9q,ge1];by_cases hneg:e.2.1<0
    ·have hlen:=B7e xa (B.take j)
     rw[List.length_take]at hlen;have c5:(H3.new 4 (A9a e)).2.cell ⟨g5,0,some 0⟩=some (.pointer (some ⟨g,0,some 0⟩)):=by
      obtain⟨X,z,ob,h⟩:=hS4;exact h.c5
     obtain⟨kx,H5,hd5,hw5,hc5,c55,rr,H6,hd6,hw6,hc6,hS6⟩:=C9e (((xa,e.1),(-1,e.2.2.1,e.2.2.2)):Cand) hS4 hlr hle1 hlc1 hi (bnd hsub) (by omega) kn.wf;have v2:H5.cell ⟨H3.next,2,some 0⟩=some (.int .i64 e.2.2.1):=A2j ge2 (hc5.old H3.next hlt fun h=>h.2 rfl);have v3:H5.cell ⟨H3.next,3,some 0⟩=some (.int .i64 e.2.2.2):=A2j ge3 (hc5.old H3.next hlt fun h=>h.2 rfl);simp only[↓Sh.dn,sx,hneg,decide_true];refine A8n (fl:=[(0,[]),(1,[]),(2,[]),(3,[]),(4,[]),(5,[]),(6,[]),(7,[]),(9,[]),(10,[]),(11,[]),(12,[]),(8,[12,10,0]),(13,[])]) (by kernel_rfl) (by kernel_rfl) (by kernel_rfl) ?_;simp only[↓Sh.dn,sx,Nat.reduceEqDiff,wpr,again,A2d,C7e,A3h,forall_eq',u5,u8,u9,u10,c5,z1,ge0,ge2,ge3,cpNew];refine⟨_,_,hd5,?_⟩;simp only[sx,c55,v2,v3];refine⟨_,_,hd6,?_⟩;simp only[sx,u87,A1a hj (Nat.le_trans lB (by decide))];refine k3 _ _ (by repeat (first|refine Same.put ?_ rfl|exact Same.rfl' _)) (by simp only[sx]) ⟨hc4.trans (hc6.weak fun y hy=>hy.1),?_⟩;rw[htk,B9p];unfold A43;rw[if_pos hneg];exact hS6.more fun y hy=>hy.1
    ·simp only[↓Sh.dn,sx,Nat.reduceEqDiff,hneg,decide_false,u87,A1a hj (Nat.le_trans lB (by decide))]
     refine k3 _ _ (by repeat (first|refine Same.put ?_ rfl|exact Same.rfl' _)) (by simp only[sx]) ⟨hc4,?_⟩;rw[htk,B9p];unfold A43;rw[if_neg hneg,List.append_nil];exact hS4.more fun y hy=>hy.1
   ·rintro F3 H3 hF3 u87 ⟨hc3,hS3⟩
    rw[List.take_length]at hS3;have u0:=hF3 0 rfl;have u1:=hF3 1 rfl;have u5:=hF3 5 rfl;have u7:=hF3 7 rfl;have u8:=hF3 8 rfl;have u9:=hF3 9 rfl;have u10:=hF3 10 rfl;have u86:=hF3 86 rfl;simp only[sx,reduceCtorEq,Nat.reduceEqDiff,f0,f1,f5,f7,f8,f9,f10]at u0 u1 u5 u7 u8 u9 u10 u86;obtain⟨z1,z2⟩:=hxk hc3;have yA:=(hst1 H3 (hcz hc3)).arr.cell 1;have tA:=(hwA (hcz hc3)).1;simp only[↓Sh.dn,sx,Nat.reduceBEq,reduceCtorEq,Nat.reduceEqDiff,u86,u87,A2a,Nat.lt_irrefl,decide_false]
    first|refine(A7c (by kernel_rfl)).2 ?_|skip
    simp only[sx,u0,u10,z1,yA,hiA,tA,hlA];clear f0 f1 f5 f7 f8 f9 f10 z1 z2 yA tA hS2 hc2 u86 u87;refine A0d A.length 118 (List.range' 118 60++[14,16]) (fun j F4 H4=>Chg Z' Hb H4∧CompAt H4 Z' g5 g6 g7 gm g sigma T R es1 cs1 i (A2w xa B++A1z xb B (A.take j))) (by simp only[sx]) ⟨hc3,by simpa [A1z] using hS3⟩ ?_ ?_
    ·rintro j F4 H4 hj hF4 f118 ⟨hc4,hS4⟩ k4
     have f1:=hF4 1 rfl;have f5:=hF4 5 rfl;have f8:=hF4 8 rfl;have f9:=hF4 9 rfl;have f10:=hF4 10 rfl;have f116:=hF4 116 rfl;have f117:=hF4 117 rfl;simp only[sx,Nat.reduceEqDiff,u1,u5,u8,u9,u10]at f1 f5 f8 f9 f10 f116 f117;rw[←hfv]at f8;obtain⟨pe,hiae,hce⟩:=PG.edge (hwA (hcz hc4)).2 hj;have hmem:A[j]∈A:=List.getElem_mem hj;have htk:A.take (j+1)=A.take j++[A[j]]:=by rw[List.take_add_one,List.getElem?_eq_getElem hj];rfl
     have hsub:∀c∈A2w xa B++A1z xb B (A.take j),c∈A2w xa B++A1z xb B A:=fun c hc=>by
      rcases List.mem_append.1 hc with h|h
      ·exact List.mem_append_left _ h
      ·obtain⟨d,hd,h2⟩:=List.mem_flatMap.1 h
       exact List.mem_append_right _ (List.mem_flatMap.2 ⟨d,List.mem_of_mem_take hd,h2⟩)
     have hlen:(A2w xa B++A1z xb B (A.take j)).length≤100060000:=by
      have h1:=B7e xa B;have h2:=B7w xb B (A.take j);have h3:(A.take j).length*(B.length+1)≤A.length*(B.length+1):=Nat.mul_le_mul_right _ (by rw[List.length_take];omega);rw[List.length_append];omega
     generalize A[j]=c at hce hmem htk;have kn:=Kept.new hc4.wf 4 (A9a c);have hS5:=hS4.box hc4.wf kn (Nat.lt_succ_self _);have hc5:Chg Z' Hb (H4.new 4 (A9a c)).2:=hc4.trans (kn.chg (X:=Z'));obtain⟨z1,z2⟩:=hxk hc5;have hlt:H4.next<(H4.new 4 (A9a c)).2.next:=Nat.lt_succ_self _;simp only[↓Sh.dn,sx,Nat.reduceEqDiff,f116,f117,f118,A2a,hj,decide_true,hiae,hce,A8q,A9k,A9q,ge2];by_cases hneg:c.2.2.1<0
     ·have c5 : (H4.new 4 (A9a c)).2.cell ⟨g5, 0, some 0⟩ = some (.pointer (some ⟨g, 0, some 0⟩)) := by
        obtain⟨X, z, ob, h⟩ := hS5;exact h.c5
      obtain⟨kx, H5, hd5, hw5, hc6, c55, rr, H6, hd6, hw6, hc7, hS6⟩ := C9e (((c.1, xb), (c.2.1, -1, c.2.2.2)) : Cand) hS5 hlr hle1 hlc1 hi (bnd hsub) (by omega) kn.wf;have v1 : H5.cell ⟨H4.next, 1, some 0⟩ = some (.int .i64 c.2.1) := A2j ge1 (hc6.old H4.next hlt fun h => h.2 rfl);have v3 : H5.cell ⟨H4.next, 3, some 0⟩ = some (.int .i64 c.2.2.2) := A2j ge3 (hc6.old H4.next hlt fun h => h.2 rfl);simp only[↓Sh.dn, sx, hneg, decide_true];refine A8n (fl := [(0, []), (1, []), (2, []), (3, []), (4, []), (5, []), (6, []), (7, []), (9, []), (10, []), (11, []), (12, []), (8, [12, 10, 0]), (13, [])]) (by kernel_rfl) (by kernel_rfl) (by kernel_rfl) ?_;simp only[↓Sh.dn, sx, Nat.reduceBEq, Nat.reduceEqDiff, wpr, again, A2d, C7e, A3h, forall_eq', f5, f8, f9, f10, c5, z2, ge0, ge1, ge3, cpNew];refine⟨_, _, hd5, ?_⟩;simp only[sx, c55, v1, v3];refine⟨_, _, hd6, ?_⟩;simp only[sx, f118, A1a hj (Nat.le_trans lA (by decide))];refine k4 _ _ (by repeat (first|refine Same.put ?_ rfl|exact Same.rfl' _)) (by simp only[sx]) ⟨hc5.trans (hc7.weak fun y hy => hy.1), ?_⟩;rw[htk, B4o, ←List.append_assoc];unfold A7y;rw[if_pos hneg];exact hS6.more fun y hy => hy.1
     ·have yB:=(hst2 _ (hcz hc5)).arr.cell 1
      have tB:=(hwB (hcz hc5)).1;simp only[↓Sh.dn,sx,Nat.reduceEqDiff,hneg,decide_false]
      first|refine(A7c (by kernel_rfl)).2 ?_|skip
      simp only[sx,f1,f10,z2,yB,hiB,tB,hlB];clear z1 z2 yB tB;have hlc:H4.next<(H4.new 4 (A9a c)).2.next:=hlt;have e0:(H4.new 4 (A9a c)).2.cell ⟨H4.next,0,some 0⟩=some (.int .i64 (c.1:Int)):=ge0;have e1:(H4.new 4 (A9a c)).2.cell ⟨H4.next,1,some 0⟩=some (.int .i64 c.2.1):=ge1;have e2:(H4.new 4 (A9a c)).2.cell ⟨H4.next,2,some 0⟩=some (.int .i64 c.2.2.1):=ge2;have e3:(H4.new 4 (A9a c)).2.cell ⟨H4.next,3,some 0⟩=some (.int .i64 c.2.2.2):=ge3;obtain⟨Z2,hZ2⟩:∃Z2:Nat→Prop,(fun y=>Z' y∧y≠H4.next)=Z2:=⟨_,rfl⟩
      have hZ2i:∀{y},Z2 y→Z' y:=fun{y} h=>by rw[←hZ2]at h;exact h.1
      have hZ2b:¬Z2 H4.next:=fun h=>by rw[←hZ2]at h;exact h.2 rfl
      rw[hZ2]at hS5;generalize H4.next=bc at hlt hlc e0 e1 e2 e3 hZ2 hZ2b ⊢;generalize (H4.new 4 (A9a c)).2=Hc at kn hS5 hc5 hlt hlc e0 e1 e2 e3 ⊢;have hck:∀{H5 o v},Chg Z2 Hc H5→Hc.cell ⟨bc,o,some 0⟩=some v→H5.cell ⟨bc,o,some 0⟩=some v:=fun h e=>A2j e (h.old bc hlc hZ2b);have hcc:∀{H5},Chg Z2 Hc H5→Chg Z' Hb H5:=fun h=>hc5.trans (h.weak fun y hy=>hZ2i hy);refine A0d B.length 148 (List.range' 148 29++[16]) (fun q F5 H5=>Chg Z2 Hc H5∧CompAt H5 Z2 g5 g6 g7 gm g sigma T R es1 cs1 i ((A2w xa B++A1z xb B (A.take j))++B4i c (B.take q))) (by simp only[sx]) ⟨Chg.refl kn.wf,by simpa [B4i] using hS5⟩ ?_ ?_
      ·rintro q F5 H5 hq hF5 v148 ⟨hd1,hS6⟩ k5
       have v5:=hF5 5 rfl;have v8:=hF5 8 rfl;have v9:=hF5 9 rfl;have v10:=hF5 10 rfl;have v14:=hF5 14 rfl;have v146:=hF5 146 rfl;have v147:=hF5 147 rfl;simp only[sx,Nat.reduceEqDiff,f5,f8,f9,f10]at v5 v8 v9 v10 v14 v146 v147;obtain⟨pd,hiad,hcd⟩:=PG.edge (hwB (hcz (hcc hd1))).2 hq;have hmd:B[q]∈B:=List.getElem_mem hq;have htd:B.take (q+1)=B.take q++[B[q]]:=by rw[List.take_add_one,List.getElem?_eq_getElem hq];rfl
       have hsubd:∀d∈(A2w xa B++A1z xb B (A.take j))++B4i c (B.take q),d∈A2w xa B++A1z xb B A:=fun d hd=>by
        rcases List.mem_append.1 hd with h|h
        ·exact hsub d h
        ·refine List.mem_append_right _ (List.mem_flatMap.2 ⟨c,hmem,?_⟩)
         unfold A7y;rw[if_neg hneg];obtain⟨d',hd',h2⟩:=List.mem_flatMap.1 h;exact List.mem_flatMap.2 ⟨d',List.mem_of_mem_take hd',h2⟩
       have hlend:((A2w xa B++A1z xb B (A.take j))++B4i c (B.take q)).length≤17179869183:=by
        have h1:=B8x c (B.take q);rw[List.length_take]at h1;rw[List.length_append];omega
       generalize B[q]=d at hcd hmd htd;have km:=Kept.new hd1.wf 4 (A9a d);have hS7:=hS6.box hd1.wf km (Nat.lt_succ_self _);have hd2:Chg Z2 Hc (H5.new 4 (A9a d)).2:=hd1.trans (km.chg (X:=Z2));obtain⟨z1,z2⟩:=hxk (hcc hd2);have hltd:H5.next<(H5.new 4 (A9a d)).2.next:=Nat.lt_succ_self _;have y0:=hck hd2 e0;have y1:=hck hd2 e1;have y2:=hck hd2 e2;have y3:=hck hd2 e3;simp only[↓Sh.dn,sx,Nat.reduceEqDiff,v14,v146,v147,v148,A2a,hq,decide_true,hiad,hcd,A8q,A9k,A9q,ge1,y2];by_cases heq:d.2.1=c.2.2.1
       ·have c5 : (H5.new 4 (A9a d)).2.cell ⟨g5, 0, some 0⟩ = some (.pointer (some ⟨g, 0, some 0⟩)) := by
          obtain⟨X, z, ob, h⟩ := hS7;exact h.c5
        obtain⟨kx, H6, hd6, hw6, hc6, c55, rr, H7, hd7, hw7, hc7, hS8⟩ := C9e (((c.1, d.1), (c.2.1, d.2.2.1, c.2.2.2 + d.2.2.2)) : Cand) hS7 hlr hle1 hlc1 hi (bnd hsubd) hlend km.wf;have hc6' : Chg Z2 (H5.new 4 (A9a d)).2 H6 := hc6.weak fun y hy => hy.1;have t1 := hck (hd2.trans hc6') e1;have t3 := hck (hd2.trans hc6') e3;have s2 : H6.cell ⟨H5.next, 2, some 0⟩ = some (.int .i64 d.2.2.1) := A2j ge2 (hc6.old H5.next hltd fun h => h.2 rfl);have s3 : H6.cell ⟨H5.next, 3, some 0⟩ = some (.int .i64 d.2.2.2) := A2j ge3 (hc6.old H5.next hltd fun h => h.2 rfl);have hkc := kA c hmem;have hkd := kB d hmd;have ws : IntKind.wrap .i64 (c.2.2.2 + d.2.2.2) = c.2.2.2 + d.2.2.2 := wrap64 (by omega) (by omega);simp only[↓Sh.dn, sx, heq, decide_true];refine A8n (fl := [(0, []), (1, []), (2, []), (3, []), (4, []), (5, []), (6, []), (7, []), (9, []), (10, []), (11, []), (12, []), (13, []), (14, []), (15, []), (16, []), (17, []), (8, [16, 14, 12, 10, 0]), (18, [])]) (by kernel_rfl) (by kernel_rfl) (by kernel_rfl) ?_;simp only[↓Sh.dn, sx, Nat.reduceEqDiff, wpr, again, A2d, C7e, A3h, forall_eq', v5, v8, v9, v14, c5, y0, y1, y3, ge0, ge2, ge3, cpNew, ws];refine⟨_, _, hd6, ?_⟩;simp only[sx, c55, t1, t3, s2, s3];refine⟨_, _, hd7, ?_⟩;simp only[sx, v148, A1a hq (Nat.le_trans lB (by decide))];refine k5 _ _ (by repeat (first|refine Same.put ?_ rfl|exact Same.rfl' _)) (by simp only[sx]) ⟨hd2.trans (hc7.weak fun y hy => hy.1), ?_⟩;rw[htd, B1s, ←List.append_assoc];unfold A03;rw[if_pos heq];exact hS8.more fun y hy => hy.1
       ·simp only[↓Sh.dn,sx,Nat.reduceEqDiff,heq,decide_false,v148,A1a hq (Nat.le_trans lB (by decide))]
        refine k5 _ _ (by repeat (first|refine Same.put ?_ rfl|exact Same.rfl' _)) (by simp only[sx]) ⟨hd2,?_⟩;rw[htd,B1s];unfold A03;rw[if_neg heq,List.append_nil];exact hS7.more fun y hy=>hy.1
      ·rintro F5 H5 hF5 v148 ⟨hd1,hS6⟩
       rw[List.take_length]at hS6;have v118:=hF5 118 rfl;have v147:=hF5 147 rfl;simp only[sx,Nat.reduceEqDiff,f118]at v118 v147;simp only[↓Sh.dn,sx,Nat.reduceBEq,Nat.reduceEqDiff,v118,v147,v148,A2a,Nat.lt_irrefl,decide_false,A1a hj (Nat.le_trans lA (by decide))];refine k4 _ _ ?_ (by simp only[sx]) ⟨hcc hd1,?_⟩
       ·repeat refine Same.put ?_ rfl
        exact Same.trans (by repeat (first|refine Same.put ?_ rfl|exact Same.rfl' _)) (hF5.sub rfl)
       ·rw[htk,B4o,←List.append_assoc]
        unfold A7y;rw[if_neg hneg];exact hS6.more fun y hy=>hZ2i hy
    ·rintro F4 H4 hF4 f118 ⟨hc4,hS4⟩
     rw[List.take_length]at hS4;have f0:=hF4 0 rfl;have f1:=hF4 1 rfl;have f5:=hF4 5 rfl;have f7:=hF4 7 rfl;have f8:=hF4 8 rfl;have f9:=hF4 9 rfl;have f117:=hF4 117 rfl;simp only[sx,reduceCtorEq,Nat.reduceEqDiff,u0,u1,u5,u7,u8,u9]at f0 f1 f5 f7 f8 f9 f117;obtain⟨hI2,hS5⟩:=hfin (hS4.more fun y hy=>hZZ hy);simp only[↓Sh.dn,sx,Nat.reduceBEq,Nat.reduceEqDiff,f9,f117,f118,A2a,Nat.lt_irrefl,decide_false,hwi];exact k (m-1) _ _ (by omega) ⟨i+1,_,_,_,_,by omega,by simp only[sx],by simp only[sx,reduceCtorEq,f0],by simp only[sx,Nat.reduceEqDiff,f1],by simp only[sx,Nat.reduceEqDiff,f5],by simp only[sx,Nat.reduceEqDiff,f7],by simp only[sx,Nat.reduceEqDiff,f8],hcz hc4,hI2,hS5⟩
 ·have c7 : ∃ z, H'.cell ⟨g7, 0, some 0⟩ = some z ∧ A3a Tryz.prog .len [107] [z] H' = some (.int .i64 (T.length : Int), H') ∧ H'.cell ⟨g5, 0, some 0⟩ = some (.pointer (some ⟨g, 0, some 0⟩)) ∧ ∃ X : Nat → Prop, GrX H' X g sigma (A8b R) es cs := by
    have hiT : i = T.length := by have := hI.iT;omega
    obtain⟨X, z, ob, hS0⟩ := hS;have e1 : A9e T (fsts []) = T := rfl;have e2 : ∀l : List Int, A0p T l [] = l := fun l => by unfold A0p;rw[e1, Nat.sub_self, List.replicate_zero, List.append_nil]
    have e3 : A5o T R i [] = R := A58 fun r hr => by
      have := (List.getElem?_eq_some_iff.1 hr).1;have := hI.lr;omega
    rw[e1, e2, e2, e3]at hS0;exact⟨z, hS0.c7.cell 0, by rw[hS0.td.toSl.len Tryz.underlying107, List.length_map], hS0.c5, X, hS0.gr⟩
  obtain⟨z, c7, hlenT, c5, X, hG⟩ := c7;have hiT : i = T.length := by have := hI.iT;omega
  simp only[↓Sh.dn, sx, Nat.reduceEqDiff, f5, f7, f9, c7, hlenT, A2a, hi, decide_false, c5, hres];rw[hiT]at hI;exact⟨hkz hc, g, rfl, X, T, R, es, cs, hG, hI⟩
theorem A68{k:Int}:labN k=none↔k<0:=by
 unfold labN;split<;>simp_all
theorem B5g{k:Int}{m:Nat}:labN k=some m↔k=(m:Int):=by
 unfold labN;split
 ·constructor
  ·intro h;cases h
  ·intro h;omega
 ·rw[Option.some.injEq]
  omega
section
variable {EA EB:List (List GE)} {ea eb ca cb:List Int} {n1 n2:Nat} {T:List (Nat×Nat)} {R:List (List GE)} {es cs:List Int}
theorem B1e{E:List (List GE)}{s:Nat}{e:GE}:e∈E.getD s []↔∃r,E[s]?=some r∧e∈r:=by
 rw[List.getD_eq_getElem?_getD];cases h:E[s]? with
 | none=>simp
 | some r=>simp
theorem C7u{E:List (List GE)}{s:Nat}{a b:Option Nat}{t:Nat}:A5f E s a b t↔∃e∈E.getD s [],e.1=t∧labN e.2.1=a∧labN e.2.2.1=b:=by
 unfold A5f;constructor
 ·rintro⟨r,h1,e,h2,h3⟩;exact⟨e,B1e.2 ⟨r,h1,h2⟩,h3⟩
 ·rintro⟨e,h1,h2⟩
  obtain⟨r,h3,h4⟩:=B1e.1 h1;exact⟨r,h3,e,h4,h2⟩
def labC(l:Int×Int×Int):Option Nat×Option Nat:=(labN l.1,labN l.2.1)
theorem C8q(x:Nat×Nat)(a b:Option Nat)(y:Nat×Nat):A2z (A5f EA) (A5f EB) x a b y↔∃c∈A1m EA EB x,c.1=y∧labC c.2=(a,b):=by
 have l1:labN (-1)=none:=rfl;unfold A2z labC;simp only[C7u];constructor
 ·rintro(⟨h1,rfl,e,he,h2,h3,h4⟩|⟨⟨e,he,h2,h3,h4⟩,h1,rfl⟩|⟨k,⟨e,he,h2,h3,h4⟩,d,hd,h5,h6,h7⟩)
  ·refine⟨((x.1,e.1),(-1,e.2.2.1,e.2.2.2)),List.mem_append_left _ (List.mem_flatMap.2 ⟨e,he,?_⟩),by rw[h1,h2],by simp only[l1,h4]⟩
   unfold A43;rw[if_pos (A68.1 h3)];exact List.mem_singleton.2 rfl
  ·refine⟨((e.1,x.2),(e.2.1,-1,e.2.2.2)),List.mem_append_right _ (List.mem_flatMap.2 ⟨e,he,?_⟩),by rw[h1,h2],by simp only[l1,h3]⟩
   unfold A7y;rw[if_pos (A68.1 h4)];exact List.mem_singleton.2 rfl
  ·refine⟨((e.1,d.1),(e.2.1,d.2.2.1,e.2.2.2+d.2.2.2)),List.mem_append_right _ (List.mem_flatMap.2 ⟨e,he,?_⟩),by rw[h2,h5],by simp only[h3,h7]⟩
   have e1:=B5g.1 h4;have e2:=B5g.1 h6;unfold A7y;rw[if_neg (by omega)];refine List.mem_flatMap.2 ⟨d,hd,?_⟩;unfold A03;rw[if_pos (by omega)];exact List.mem_singleton.2 rfl
 ·rintro⟨c,hc,rfl,h2⟩
  simp only[Prod.mk.injEq]at h2;rcases List.mem_append.1 hc with h|h
  ·obtain⟨e,he,h3⟩:=List.mem_flatMap.1 h
   unfold A43 at h3;split at h3
   ·rename_i h4
    have e1:=List.mem_singleton.1 h3;subst e1;exact .inl ⟨rfl,by rw[←h2.1,l1],e,he,rfl,A68.2 h4,h2.2⟩
   ·cases h3
  ·obtain⟨e,he,h3⟩:=List.mem_flatMap.1 h
   unfold A7y at h3;split at h3
   ·rename_i h4
    have e1:=List.mem_singleton.1 h3;subst e1;exact .inr (.inl ⟨⟨e,he,rfl,h2.1,A68.2 h4⟩,rfl,by rw[←h2.2,l1]⟩)
   ·rename_i h4
    obtain⟨d,hd,h5⟩:=List.mem_flatMap.1 h3;unfold A03 at h5;split at h5
    ·rename_i h6
     have e1:=List.mem_singleton.1 h5;subst e1;have h7:labN e.2.2.1=some e.2.2.1.toNat:=B5g.2 (by omega);exact .inr (.inr ⟨_,⟨e,he,rfl,h2.1,h7⟩,d,hd,rfl,by rw[h6];exact h7,h2.2⟩)
    ·cases h5
theorem CompI.rows(h:CompI EA EB ea eb ca cb n1 n2 T T.length R es cs):R=T.map (fun x=>A6m T (A1m EA EB x)):=by
 refine List.ext_getElem? fun j=>?_;rw[List.getElem?_map];cases hj:T[j]? with
 | none=>rw[List.getElem?_eq_none (by have:=List.getElem?_eq_none_iff.1 hj;have:=h.lr;omega)];rfl
 | some x=>exact(h.row j x (List.getElem?_eq_some_iff.1 hj).1 hj).1
theorem CompI.closed(h:CompI EA EB ea eb ca cb n1 n2 T T.length R es cs):∀x∈T,∀c∈A1m EA EB x,c.1∈T:=fun x hx=>by
 obtain⟨j,hj⟩:=List.mem_iff_getElem?.1 hx;exact(h.row j x (List.getElem?_eq_some_iff.1 hj).1 hj).2.1
theorem CompI.fin(h:CompI EA EB ea eb ca cb n1 n2 T T.length R es cs)(j:Nat):endP es j↔∃t,T[j]?=some t∧endP ea t.1∧endP eb t.2:=by
 unfold endP;cases hj:T[j]? with
 | none=>
  rw[List.getD_eq_getElem?_getD,List.getElem?_eq_none (by have:=List.getElem?_eq_none_iff.1 hj;have:=h.le;omega)];simp
 | some x=>
  rw[List.getD_eq_getElem?_getD,(h.row j x (List.getElem?_eq_some_iff.1 hj).1 hj).2.2.1];constructor
  ·intro h1
   by_cases h2:0<ea.getD x.1 0∧0<eb.getD x.2 0
   ·exact⟨x,rfl,h2⟩
   ·rw[if_neg h2]at h1;exact absurd h1 (by decide)
  ·rintro⟨t,ht,h2⟩
   have e:=Option.some.inj ht;subst e;rw[if_pos h2];decide
theorem comp_rel(h:CompI EA EB ea eb ca cb n1 n2 T T.length R es cs)(u v:List Nat):RelP (A5f R) (endP es) u v↔∃t:Nat×Nat,(endP ea t.1∧endP eb t.2)∧Sh.Way (A2z (A5f EA) (A5f EB)) (0,0) u v t:=by
 refine idx_way (T:=T) (x0:=(0,0)) (C:=A1m EA EB) (lab:=labC) h.h0 h.closed (fun i a b j=>?_) (fun x a b y _=>C8q x a b y) h.fin u v;rw[h.rows];unfold A5f;constructor
 ·rintro⟨r,h1,e,h2,h3,h4,h5⟩
  rw[List.getElem?_map]at h1;obtain⟨x,h6,rfl⟩:=Option.map_eq_some_iff.1 h1;obtain⟨c,h7,rfl⟩:=List.mem_map.1 h2;exact⟨x,h6,c,h7,h3,by unfold labC;rw[←h4,←h5]⟩
 ·rintro⟨x,h1,c,h2,h3,h4⟩
  refine⟨_,by rw[List.getElem?_map,h1];rfl,(ixOf T c.1,c.2),List.mem_map.2 ⟨c,h2,rfl⟩,h3,?_⟩;unfold labC at h4;simp only[Prod.mk.injEq]at h4;exact h4
theorem D0d(x:Nat×Nat):(A1m EA EB x).length≤(EB.getD x.2 []).length+(EA.getD x.1 []).length+(EA.getD x.1 []).length*(EB.getD x.2 []).length:=by
 have h1:=B7e x.1 (EB.getD x.2 []);have h2:=B7w x.2 (EB.getD x.2 []) (EA.getD x.1 []);unfold A1m;rw[List.length_append];rw[Nat.mul_succ]at h2;omega
theorem B07:∀(E:List (List GE)),((List.range E.length).map fun p=>(E.getD p []).length).sum=(E.map List.length).sum:=fun E=>by
 congr 1
 refine List.ext_getElem? fun j=>?_;rw[List.getElem?_map,List.getElem?_map];by_cases h:j<E.length
 ·rw[List.getElem?_range h,List.getElem?_eq_getElem h]
  simp[List.getD_eq_getElem?_getD,List.getElem?_eq_getElem h]
 ·rw[List.getElem?_eq_none (by simp;omega),List.getElem?_eq_none (by omega)];rfl
theorem comp_sum(h:CompI EA EB ea eb ca cb n1 n2 T T.length R es cs)(h1:EA.length=n1)(h2:EB.length=n2):(R.map List.length).sum≤n1*(EB.map List.length).sum+n2*(EA.map List.length).sum+(EA.map List.length).sum*(EB.map List.length).sum:=by
 have h3:=D8c h.nd h.inb (fun p=>(EA.getD p []).length) (fun q=>(EB.getD q []).length);have e1:=B07 EA;have e2:=B07 EB;rw[h1]at e1;rw[h2]at e2;rw[e1,e2]at h3;refine Nat.le_trans ?_ h3;rw[h.rows,List.map_map];clear h h3
 induction T with
 | nil=>simp
 | cons x T ih=>
  have key:∀U:List (Nat×Nat),∀V:List (Nat×Nat),(V.map (List.length∘fun x=>A6m U (A1m EA EB x))).sum≤(V.map fun x=>(EB.getD x.2 []).length+(EA.getD x.1 []).length+(EA.getD x.1 []).length*(EB.getD x.2 []).length).sum:=fun U V=>by
   induction V with
   | nil=>simp
   | cons y V ihV=>
    have:=D0d (EA:=EA) (EB:=EB) y;rw[List.map_cons,List.map_cons,List.sum_cons,List.sum_cons];have e:(List.length∘fun x=>A6m U (A1m EA EB x)) y=(A1m EA EB y).length:=by simp[A6m]
    rw[e];omega
  exact key (x :: T) (x :: T)
theorem comp_to(h:CompI EA EB ea eb ca cb n1 n2 T T.length R es cs){m:Int}(hm:0≤m)(hA:∀r∈EA,∀e∈r,e.2.1<m∧e.2.2.1<m∧e.2.2.2=0)(hB:∀r∈EB,∀e∈r,e.2.1<m∧e.2.2.1<m∧e.2.2.2=0):
  ∀r∈R,∀e∈r,e.1<T.length∧e.2.1<m∧e.2.2.1<m∧e.2.2.2=0:=by
 rw[h.rows];intro r hr e he;obtain⟨x,hx,rfl⟩:=List.mem_map.1 hr;obtain⟨c,hc,rfl⟩:=List.mem_map.1 he;have h1:=List.idxOf_lt_length_of_mem (h.closed x hx c hc);refine⟨?_,?_⟩
 ·have:=B99 (h.closed x hx c hc)
  exact(List.getElem?_eq_some_iff.1 this).1
 ·have ga : ∀ e ∈ EA.getD x.1 [], e.2.1 < m ∧ e.2.2.1 < m ∧ e.2.2.2 = 0 := fun e he => by
    obtain⟨r, h1, h2⟩ := B1e.1 he;exact hA r (List.mem_of_getElem? h1) e h2
  have gb : ∀e ∈ EB.getD x.2 [], e.2.1<m ∧ e.2.2.1<m ∧ e.2.2.2 = 0 := fun e he => by
    obtain⟨r, h1, h2⟩ := B1e.1 he;exact hB r (List.mem_of_getElem? h1) e h2
  have hm1 : (-1 : Int)<m := by omega
  rcases List.mem_append.1 hc with h|h
  · obtain⟨e0, he0, h3⟩ := List.mem_flatMap.1 h
    unfold A43 at h3;split at h3
    · have e1 := List.mem_singleton.1 h3
      subst e1;exact⟨hm1, (gb e0 he0).2.1, (gb e0 he0).2.2⟩
    · cases h3
  · obtain⟨e0, he0, h3⟩ := List.mem_flatMap.1 h
    unfold A7y at h3;split at h3
    · have e1 := List.mem_singleton.1 h3
      subst e1;exact⟨(ga e0 he0).1, hm1, (ga e0 he0).2.2⟩
    · obtain⟨d, hd, h5⟩ := List.mem_flatMap.1 h3
      unfold A03 at h5;split at h5
      · have e1 := List.mem_singleton.1 h5
        subst e1;exact⟨(ga e0 he0).1, (gb d hd).2.1, by simp only[(ga e0 he0).2.2, (gb d hd).2.2];rfl⟩
      · cases h5
theorem C10(h:CompI EA EB ea eb ca cb n1 n2 T T.length R es cs)(hA:∀c∈ca,c=0)(hB:∀c∈cb,c=0)(s:Nat):cs.getD s 0=0:=by
 rw[List.getD_eq_getElem?_getD];cases hj:T[s]? with
 | none=>rw[List.getElem?_eq_none (by have:=List.getElem?_eq_none_iff.1 hj;have:=h.lc;omega)];rfl
 | some x=>
  rw[(h.row s x (List.getElem?_eq_some_iff.1 hj).1 hj).2.2.2,B2j hA,B2j hB];simp
end
def C0v(A B:NetD)(x y:List ByteArray):Prop:=∃t:Nat×Nat,(A.isEnd t.1∧B.isEnd t.2)∧Sh.Way (A2z (B7b A) (B7b B)) (0,0) x y t
section
variable {A B:NetD}
theorem A72(hok:A0n A){s:Nat}{a b:Option ByteArray}{t:Nat}(h:B7b A s a b t):(∀z,a=some z→z∈A.sigma)∧∀z,b=some z→z∈A.sigma:=by
 obtain⟨c,hc,_,rfl,rfl,_⟩:=h;obtain⟨_,_,_,_,h6,h7⟩:=hok.arc c hc;exact⟨(B2d hok h6).2,(B2d hok h7).2⟩
theorem prod_sym(okA:A0n A)(okB:A0n B)(hs:A.sigma=B.sigma)(s:Nat×Nat)(a b:Option ByteArray)(t:Nat×Nat)(h:A2z (B7b A) (B7b B) s a b t):(∀z,a=some z→z∈A.sigma)∧∀z,b=some z→z∈A.sigma:=by
 rcases h with⟨_,rfl,h⟩|⟨h,_,rfl⟩|⟨c,h1,h2⟩
 ·exact⟨fun z hz=>(by cases hz),by rw[hs];exact(A72 okB h).2⟩
 ·exact⟨(A72 okA h).1,fun z hz=>(by cases hz)⟩
 ·exact⟨(A72 okA h1).1,by rw[hs];exact(A72 okB h2).2⟩
theorem C6p(okA:A0n A)(okB:A0n B)(hs:A.sigma=B.sigma)(s:Nat×Nat)(a b:Option Nat)(t:Nat×Nat):A2z (A5f (A8f A)) (A5f (A8f B)) s a b t↔∃c d,A2z (B7b A) (B7b B) s c d t∧a=c.map (ixN A.sigma)∧b=d.map (ixN A.sigma):=by
 unfold A2z;simp only[A50 okA,A50 okB,←hs];have hn:∀{o:Option ByteArray},none=o.map (ixN A.sigma)→o=none:=fun{o} h=>by cases o with
  | none=>rfl
  | some z=>cases h
 have hsm:∀{o:Option ByteArray} {k:Nat},some k=o.map (ixN A.sigma)→∃z,o=some z∧ixN A.sigma z=k:=fun{o k} h=>by cases o with
  | none=>cases h
  | some z=>exact⟨z,rfl,(Option.some.inj h).symm⟩
 constructor
 ·rintro(⟨h1,rfl,c,d,h2,h3,rfl⟩|⟨⟨c,d,h2,rfl,h3⟩,h1,rfl⟩|⟨k,⟨c,d,h2,rfl,h3⟩,c',d',h4,h5,rfl⟩)
  ·have:=hn h3
   subst this;exact⟨none,d,.inl ⟨h1,rfl,h2⟩,rfl,rfl⟩
  ·have:=hn h3
   subst this;exact⟨c,none,.inr (.inl ⟨h2,h1,rfl⟩),rfl,rfl⟩
  ·obtain⟨z,rfl,e1⟩:=hsm h3
   obtain⟨z',rfl,e2⟩:=hsm h5;have:z=z':=B7g okA.asc z z' ((A72 okA h2).2 z rfl) (by rw[hs];exact(A72 okB h4).1 z' rfl) (by rw[e1,e2]);subst this;exact⟨c,d',.inr (.inr ⟨z,h2,h4⟩),rfl,rfl⟩
 ·rintro⟨c,d,⟨h1,rfl,h2⟩|⟨h2,h1,rfl⟩|⟨z,h2,h3⟩,rfl,rfl⟩
  ·exact .inl ⟨h1,rfl,none,d,h2,rfl,rfl⟩
  ·exact .inr (.inl ⟨⟨c,none,h2,rfl,rfl⟩,h1,rfl⟩)
  ·exact .inr (.inr ⟨ixN A.sigma z,⟨c,some z,h2,rfl,rfl⟩,some z,d,h3,rfl,rfl⟩)
theorem C41{M:NetD}(hA:A9f A=0)(hB:A9f B=0)(hs:A.sigma=B.sigma){n1 n2:Nat}{ca cb:List Int}{T:List (Nat×Nat)}{R:List (List GE)}{es cs:List Int}(hI:CompI (A8f A) (A8f B) (A1h A A.ends) (A1h B B.ends) ca cb n1 n2 T T.length R es cs)
  (hM:C6r A.sigma R es cs T.length M) (hR:B9r A.sigma R es cs T.length) (x y:List ByteArray):A3j M x y↔C0v A B x y:=by
 obtain⟨okA,_,_⟩:=A7h hA;obtain⟨okB,_,_⟩:=A7h hB;rw[C3u hM hR okA.sig,comp_rel hI];unfold C0v;have hsy:=prod_sym okA okB hs;have he:∀t:Nat×Nat,(endP (A1h A A.ends) t.1∧endP (A1h B B.ends) t.2)↔(A.isEnd t.1∧B.isEnd t.2):=fun t=>and_congr (B0u okA t.1) (B0u okB t.2);constructor
 ·rintro⟨⟨h1,h2⟩,t,h3,h4⟩
  exact⟨t,(he t).1 h3,(D0a (ixN A.sigma) (B7g okA.asc) (C6p okA okB hs) hsy h1 h2 _ _).1 h4⟩
 ·rintro⟨t,h3,h4⟩
  obtain⟨h1,h2⟩:=way_in hsy h4;exact⟨⟨h1,h2⟩,t,(he t).2 h3,(D0a (ixN A.sigma) (B7g okA.asc) (C6p okA okB hs) hsy h1 h2 _ _).2 h4⟩
end
theorem C8b{H:AH}{v u:Value}{l m:List ByteArray}(hl:Sl H v 1 (l.map A6b))(hm:Sl H u 1 (m.map A6b))(hll:l.length≤1048576)(hml:m.length≤1048576)(hw:Wf H):
  Sh.Call Tryz.prog (knows 7) 58 [v,u] H (fun r H'=>H'=H∧r=.bool (decide (l=m))):=by
 refine A5a rfl Tryz.func58 rfl (Nat.le_of_ble_eq_true rfl) ?_;have hres:Tryz.f58.results.toList=[.tmp 4]:=rfl;have l1:=fun H'=>hl.len Tryz.underlying22 H';have l2:=fun H'=>hm.len Tryz.underlying22 H';simp only[List.length_map]at l1 l2;by_cases hlen:l.length=m.length
 case neg=>
  have:¬l=m:=fun h=>hlen (by rw[h]);simp only[↓Sh.dn,sx,reduceCtorEq,Nat.reduceEqDiff,l1,l2,nat_eq,hlen,decide_false,hres,this]
 simp only[↓Sh.dn,sx,reduceCtorEq,Nat.reduceEqDiff,l1,l2,hlen,decide_true];rw[←hlen];refine A0d l.length 13 (List.range' 13 13++[5]) (fun i F H'=>H'=H∧l.take i=m.take i) (by simp only[sx]) ⟨rfl,rfl⟩ ?_ ?_
 ·rintro i F H' hi hF f13 ⟨rfl,heq⟩ k
  have f0:=hF 0 rfl;have f1:=hF 1 rfl;have f12:=hF 12 rfl;simp only[sx,reduceCtorEq,Nat.reduceEqDiff,hlen]at f0 f1 f12;rw[←hlen]at f12;have him:i<m.length:=by omega
  obtain⟨p1,i1,c1⟩:=Sl.elem (s:=1) Tryz.underlying22 A6r hl (i:=i) (u:=.string l[i]) (by rw[List.getElem?_map,List.getElem?_eq_getElem hi];rfl);obtain⟨p2,i2,c2⟩:=Sl.elem (s:=1) Tryz.underlying22 A6r hm (i:=i) (u:=.string m[i]) (by rw[List.getElem?_map,List.getElem?_eq_getElem him];rfl);have t1:l.take (i+1)=l.take i++[l[i]]:=by rw[List.take_add_one,List.getElem?_eq_getElem hi];rfl
  have t2:m.take (i+1)=m.take i++[m[i]]:=by rw[List.take_add_one,List.getElem?_eq_getElem him];rfl
  by_cases hx:l[i]=m[i]
  ·simp only[↓Sh.dn,sx,reduceCtorEq,Nat.reduceEqDiff,f0,f1,f12,f13,A2a,hi,decide_true,i1,c1,i2,c2,hx,A1a hi (by omega)]
   exact k _ _ (by repeat (first|refine Same.put ?_ rfl|exact Same.rfl' _)) (by simp only[sx]) ⟨rfl,by rw[t1,t2,heq,hx]⟩
  ·have:¬l=m:=fun h=>hx (by subst h;rfl)
   simp only[↓Sh.dn,sx,reduceCtorEq,Nat.reduceEqDiff,f0,f1,f12,f13,A2a,hi,decide_true,i1,c1,i2,c2,hx,decide_false,hres,this]
 ·rintro F H' hF f13 ⟨rfl,heq⟩
  have f12:=hF 12 rfl;simp only[sx,Nat.reduceEqDiff,hlen]at f12;rw[←hlen]at f12;have:l=m:=by
   rw[List.take_length,hlen,List.take_length]at heq;exact heq
  simp only[↓Sh.dn,sx,f12,f13,A2a,Nat.lt_irrefl,decide_false,hres,this,decide_true]
structure TwoNets(H:AH)(g:Nat)(sgA arA enA sgB arB enB:Value)(A B:NetD):Prop where
 ar:Arr H g 0 4 [sgA,.int .i64 A.states,arA,enA,sgB,.int .i64 B.states,arB,enB]
 a1:Sl H sgA 1 (A.sigma.map A6b)
 a2:Sl H arA 5 (A.arcs.map ArcD.cells)
 a3:Sl H enA 2 (A.ends.map EndD.cells)
 b1:Sl H sgB 1 (B.sigma.map A6b)
 b2:Sl H arB 5 (B.arcs.map ArcD.cells)
 b3:Sl H enB 2 (B.ends.map EndD.cells)
theorem TwoNets.kept{H H':AH}{g:Nat}{sgA arA enA sgB arB enB:Value}{A B:NetD}(h:TwoNets H g sgA arA enA sgB arB enB A B)(hw:Wf H)(hk:Kept H H'):TwoNets H' g sgA arA enA sgB arB enB A B:=
 ⟨h.ar.keep (hk.old g (h.ar.lt hw)),h.a1.grow (hk.grow hw),h.a2.grow (hk.grow hw),h.a3.grow (hk.grow hw),h.b1.grow (hk.grow hw),h.b2.grow (hk.grow hw),h.b3.grow (hk.grow hw)⟩
theorem TwoNets.get{H:AH}{g:Nat}{sgA arA enA sgB arB enB:Value}{A B:NetD}(h:TwoNets H g sgA arA enA sgB arB enB A B){i:Nat}(hi:i<2):
  ∃(N:NetD) (sg ar en:Value),N=(if i=0 then A else B)∧H.cells ⟨g,0+i*4,some 0⟩ 4=some [sg,.int .i64 N.states,ar,en]∧Sl H sg 1 (N.sigma.map A6b)∧Sl H ar 5 (N.arcs.map ArcD.cells)∧Sl H en 2 (N.ends.map EndD.cells):=by
 match i,hi with
 | 0,_=>exact⟨A,sgA,arA,enA,rfl,h.ar.cells (i:=0) (n:=4) (by simp),h.a1,h.a2,h.a3⟩
 | 1,_=>exact⟨B,sgB,arB,enB,rfl,h.ar.cells (i:=4) (n:=4) (by simp),h.b1,h.b2,h.b3⟩
theorem twoBuild{H:AH}{sgA arA enA sgB arB enB:Value}{A B:NetD}(hw:Wf H)(a1:Sl H sgA 1 (A.sigma.map A6b))(a2:Sl H arA 5 (A.arcs.map ArcD.cells))(a3:Sl H enA 2 (A.ends.map EndD.cells))(b1:Sl H sgB 1 (B.sigma.map A6b))(b2:Sl H arB 5 (B.arcs.map ArcD.cells))(b3:Sl H enB 2 (B.ends.map EndD.cells)):
  ∃H',A4a Tryz.prog 43 2 [(0,.agg #[sgA,.int .i64 A.states,arA,enA]),(1,.agg #[sgB,.int .i64 B.states,arB,enB])] H=some (.slice (some ⟨H.next,0,some 0⟩) 2 2,H')∧Kept H H'∧TwoNets H' H.next sgA arA enA sgB arB enB A B∧H.next<H'.next:=by
 have k:=Kept.new hw 4 [sgA,.int .i64 A.states,arA,enA,sgB,.int .i64 B.states,arB,enB];refine⟨(H.new 4 [sgA,.int .i64 A.states,arA,enA,sgB,.int .i64 B.states,arB,enB]).2,?_,k,⟨(Sh.Obj.new (H:=H) 4 _).arr,a1.grow (k.grow hw),a2.grow (k.grow hw),a3.grow (k.grow hw),b1.grow (k.grow hw),b2.grow (k.grow hw),b3.grow (k.grow hw)⟩,Nat.lt_succ_self _⟩;unfold A4a;have va:∀xs:Array Value,A6a (.agg xs)=xs.toList:=fun _=>rfl;have hi:∀n:Int,isCell (.int .i64 n)=true:=fun _=>rfl;have hn:(H.new 4 [sgA,.int .i64 A.states,arA,enA,sgB,.int .i64 B.states,arB,enB]).1=⟨H.next,0,some 0⟩:=rfl;simp only[Tryz.underlying43,A2p,A14,Option.bind_some,va];simp[repl,A3w,va,a1.isCell,a2.isCell,a3.isCell,b1.isCell,b2.isCell,b3.isCell,hi,setCells,A0c,hn]
def A1o(A B:NetD):Int:=if A9f A≠0 then A9f A else if A9f B≠0 then A9f B else if A.sigma=B.sigma then 0 else 10
theorem B4k{A B:NetD}(h:A1o A B=0):A9f A=0∧A9f B=0∧A.sigma=B.sigma:=by
 unfold A1o at h;split at h
 ·rename_i h1;exact absurd h h1
 rename_i h1;split at h
 ·rename_i h2;exact absurd h h2
 rename_i h2;split at h
 ·rename_i h3;exact⟨by simpa using h1,by simpa using h2,h3⟩
 ·cases h
theorem slice1{H:AH}{g:Nat}{vs:List Value}(h:Arr H g 0 4 vs):A7s Tryz.prog 43 H (.slice (some ⟨g,0,some 0⟩) 2 2) (some (.int .i64 1)) none none=some (.slice (some ⟨g,4,some 0⟩) 1 1):=by
 have e:=h.esz 0;have c1:A5p 2=2:=rfl;have c2:A9w 2=true:=rfl;have b1:bound 0 (some (.int .i64 1))=some 1:=rfl;unfold A7s;simp only[Tryz.underlying43,A2p,Option.bind_some,bound,c1,c2,e];rfl
theorem C1v{H:AH}{g:Nat}{sgA arA enA sgB arB enB:Value}{A B:NetD}(h:TwoNets H g sgA arA enA sgB arB enB A B)(hA:A0f A)(hB:A0f B)(hw:Wf H):
  Sh.Call Tryz.prog (knows 7) 26 [.slice (some ⟨g,0,some 0⟩) 2 2] H (fun r H'=>Kept H H'∧r=.int .i64 (A1o A B)):=by
 refine A5a rfl Tryz.func26 rfl (Nat.le_of_ble_eq_true rfl) ?_;have hres:Tryz.f26.results.toList=[.tmp 2]:=rfl;have hN:∀i:Nat,A0f (if i=0 then A else B):=fun i=>by split;exact hA;exact hB
 simp only[↓Sh.dn,sx,reduceCtorEq];refine A0d 2 10 (List.range' 10 10++[4,5]) (fun i F H'=>Kept H H'∧∀j,j<i→A9f (if j=0 then A else B)=0) (by simp only[sx]) ⟨Kept.refl hw,fun j hj=>absurd hj (Nat.not_lt_zero j)⟩ ?_ ?_
 ·rintro i F H' hi hF f10 ⟨hk,hall⟩ k
  have f8:=hF 8 rfl;have f9:=hF 9 rfl;simp only[sx,Nat.reduceEqDiff]at f8 f9;obtain⟨N,sg,ar,en,hNe,hc,s1,s2,s3⟩:=(h.kept hw hk).get hi;have hia:=ia_43 (g:=g) (o:=0) (k:=0) (n:=2) (c:=2) (j:=.i64) hi;rw[Nat.zero_add]at hc hia;have kn:=Kept.new hk.wf 4 [sg,.int .i64 N.states,ar,en];have hsm:A0f N:=by rw[hNe];exact hN i
  have hb:=NetBox.of (N:=N) hk.wf s1 s2 s3;obtain⟨r,H4,hd4,hk4,rfl⟩:=A35 hb.netAt hsm kn.wf;simp only[↓Sh.dn,sx,Nat.reduceEqDiff,f8,f9,f10,A2a,hi,decide_true,hia,hc,A44,A51 s1.isCell s2.isCell s3.isCell,B5v,hb.ca];refine⟨_,_,hd4,?_⟩;by_cases hE:A9f N=0
  ·simp only[↓Sh.dn,sx,Nat.reduceEqDiff,hE,decide_true,f10,A1a hi (by decide)]
   refine k _ _ (by repeat (first|refine Same.put ?_ rfl|exact Same.rfl' _)) (by simp only[sx]) ⟨(hk.trans kn).trans hk4,fun j hj=>?_⟩;by_cases hji:j=i
   ·subst hji;rw[←hNe];exact hE
   ·exact hall j (by omega)
  ·have e1 : A1o A B = A9f N := by
     unfold A1o
     match i, hi, hNe, hall with
     | 0, _, hNe, _ => rw[hNe]at hE ⊢;exact if_pos hE
     | 1, _, hNe, hall =>
       have := hall 0 (by omega);simp only[if_true]at this;rw[hNe]at hE ⊢;rw[if_neg (by simpa using this)];exact if_pos hE
   simp only[↓Sh.dn, sx, Nat.reduceEqDiff, hE, decide_false, hres, e1];exact(hk.trans kn).trans hk4
 ·rintro F H' hF f10 ⟨hk,hall⟩
  have f0:=hF 0 rfl;have f9:=hF 9 rfl;simp only[sx,reduceCtorEq,Nat.reduceEqDiff]at f0 f9;have h0:=hall 0 (by omega);have h1:=hall 1 (by omega);simp only[if_true,Nat.one_ne_zero,if_false]at h0 h1;have h':=h.kept hw hk;have hsl:=slice1 h'.ar;have hlz:∀H',A3a Tryz.prog .len [43] [.slice (some ⟨g,4,some 0⟩) 1 1] H'=some (.int .i64 ((1:Nat):Int),H'):=fun H'=>D2c;simp only[↓Sh.dn,sx,reduceCtorEq,f0,f9,f10,A2a,Nat.lt_irrefl,decide_false,hsl,hlz];have he:A1o A B=if A.sigma=B.sigma then 0 else 10:=by
   unfold A1o;rw[if_neg (by simpa using h0),if_neg (by simpa using h1)]
  refine A0d 1 23 (List.range' 23 13++[7]) (fun i F H2=>Kept H H2∧(0<i→A.sigma=B.sigma)) (by simp only[sx]) ⟨hk,fun hi=>absurd hi (Nat.lt_irrefl 0)⟩ ?_ ?_
  ·rintro i F2 H2 hi hF2 f23 ⟨hk2,_⟩ k2
   have hi0:i=0:=by omega
   subst hi0;have g0:=hF2 0 rfl;have g21:=hF2 21 rfl;have g22:=hF2 22 rfl;simp only[sx,reduceCtorEq,Nat.reduceEqDiff,f0]at g0 g21 g22;have h2:=h.kept hw hk2;have hia:=ia_43 (g:=g) (o:=4) (k:=0) (n:=1) (c:=1) (j:=.i64) hi;have hia0:A4b Tryz.prog 43 (.slice (some ⟨g,0,some 0⟩) 2 2) (.int .i64 0)=some (.pointer (some ⟨g,0,some 0⟩)):=ia_43 (i:=0) (g:=g) (o:=0) (k:=0) (n:=2) (c:=2) (j:=.i64) (by decide);have hc:H2.cells ⟨g,4+0*4,some 0⟩ 4=some [sgB,.int .i64 B.states,arB,enB]:=h2.ar.cells (i:=4) (n:=4) (by simp);have kn:=Kept.new hk2.wf 4 [sgB,.int .i64 B.states,arB,enB];have hb:=NetBox.of (N:=B) hk2.wf h2.b1 h2.b2 h2.b3;have h3:=h2.kept hk2.wf kn;have hc0:(H2.new 4 [sgB,.int .i64 B.states,arB,enB]).2.cell ⟨g,0,some 0⟩=some sgA:=h3.ar.cell 0;obtain⟨r,H4,hd4,rfl,rfl⟩:=C8b hb.hsg h3.a1 hB.sg hA.sg kn.wf;simp only[↓Sh.dn,sx,Nat.reduceEqDiff,g21,g22,f23,A2a,hi,decide_true,hia,hc,A44,A51 h2.b1.isCell h2.b2.isCell h2.b3.isCell,B5v]
   first|refine(A7c (by kernel_rfl)).2 ?_|skip
   simp only[↓Sh.dn,sx,reduceCtorEq,Nat.reduceEqDiff,g0,hb.c0,hia0,hc0];refine⟨_,_,hd4,?_⟩;by_cases hs:A.sigma=B.sigma
   ·simp only[↓Sh.dn,sx,Nat.reduceEqDiff,hs,decide_true,f23]
    exact k2 _ _ (by repeat (first|refine Same.put ?_ rfl|exact Same.rfl' _)) (by simp only[sx];rfl) ⟨hk2.trans kn,fun _=>hs⟩
   ·have hs':¬B.sigma=A.sigma:=fun h=>hs h.symm
    rw[if_neg hs]at he;simp only[↓Sh.dn,sx,hs',decide_false,hres,he];exact hk2.trans kn
  ·rintro F2 H2 hF2 f23 ⟨hk2,hs⟩
   have g22:=hF2 22 rfl;simp only[sx,Nat.reduceEqDiff]at g22;rw[if_pos (hs Nat.one_pos)]at he;simp only[↓Sh.dn,sx,g22,f23,A2a,Nat.lt_irrefl,decide_false,hres,he];exact hk2
def C9r(A B:NetD):Bool:=decide (1000<A.states*B.states)||decide (8000<(A.arcs.length:Int)*(B.arcs.length:Int))||decide (4000<(A.arcs.length:Int)*B.states)||decide (4000<(B.arcs.length:Int)*A.states)
theorem C2n{a b x y:Int}(ha:0≤a)(hb:0≤b)(h1:a≤x)(h2:b≤y)(hxy:x*y≤4000000000):IntKind.wrap .i64 (a*b)=a*b:=by
 have h3:a*b≤x*y:=Int.mul_le_mul h1 h2 hb (by omega);have h4:0≤a*b:=Int.mul_nonneg ha hb;exact wrap64 (by omega) (by omega)
theorem C6v{H:AH}{va vb:Value}{A B:NetD}(ha:A6v H va A)(hb:A6v H vb B)(okA:A0n A)(okB:A0n B)(hw:Wf H):
  Sh.Call Tryz.prog (knows 7) 27 [va,vb] H (fun r H'=>Kept H H'∧r=.bool (C9r A B)):=by
 refine A5a rfl Tryz.func27 rfl (Nat.le_of_ble_eq_true rfl) ?_;have hres:Tryz.f27.results.toList=[.tmp 4]:=rfl;obtain⟨sgA,arA,enA,rfl,s1,s2,s3⟩:=ha;obtain⟨sgB,arB,enB,rfl,t1,t2,t3⟩:=hb;have bA:=NetBox.of (N:=A) hw s1 s2 s3;have k1:=Kept.new hw 4 [sgA,.int .i64 A.states,arA,enA];have bB:=NetBox.of (N:=B) k1.wf (t1.grow (k1.grow hw)) (t2.grow (k1.grow hw)) (t3.grow (k1.grow hw));have k2:=k1.news 4 [sgB,.int .i64 B.states,arB,enB];have bA2:=bA.new k1.wf 4 [sgB,.int .i64 B.states,arB,enB];simp only[↓Sh.dn,sx,Nat.reduceEqDiff,A9y s1.isCell s2.isCell s3.isCell,A9y t1.isCell t2.isCell t3.isCell];obtain⟨H1,hH1⟩:∃K,(H.new 4 [sgA,.int .i64 A.states,arA,enA]).2=K:=⟨_,rfl⟩
 simp only[hH1]at k1 bB bA k2 bA2 ⊢;obtain⟨H2,hH2⟩:∃K,(H1.new 4 [sgB,.int .i64 B.states,arB,enB]).2=K:=⟨_,rfl⟩
 simp only[hH2]at bB k2 bA2 ⊢;generalize H.next=gA at bA2 ⊢;generalize H1.next=gB at bB ⊢;have a1:=okA.st1;have a2:=okA.st2;have a3:=okA.ar;have b1:=okB.st1;have b2:=okB.st2;have b3:=okB.ar;have w1:=C2n (a:=A.states) (b:=B.states) (x:=3000) (y:=3000) (by omega) (by omega) (by omega) (by omega) (by decide);have w2:=C2n (a:=(A.arcs.length:Int)) (b:=(B.arcs.length:Int)) (x:=60000) (y:=60000) (by omega) (by omega) (by omega) (by omega) (by decide);have w3:=C2n (a:=(A.arcs.length:Int)) (b:=B.states) (x:=60000) (y:=3000) (by omega) (by omega) (by omega) (by omega) (by decide);have w4:=C2n (a:=(B.arcs.length:Int)) (b:=A.states) (x:=60000) (y:=3000) (by omega) (by omega) (by omega) (by omega) (by decide);have lA:=fun H'=>bA2.har.len Tryz.underlying23 H';have lB:=fun H'=>bB.har.len Tryz.underlying23 H';simp only[List.length_map]at lA lB;unfold C9r;cases p1:decide (1000<A.states*B.states) with
 | true=>
  simp only[Bool.true_or];simp only[↓Sh.dn,sx,Nat.reduceEqDiff,bA2.c1,bB.c1,w1,p1,hres]<;>exact k2
 | false=>
 cases p2:decide (8000<(A.arcs.length:Int)*(B.arcs.length:Int)) with
 | true=>
  simp only[Bool.true_or,Bool.false_or];simp only[↓Sh.dn,sx,Nat.reduceEqDiff,bA2.c1,bA2.c2,A3r bA2,bB.c1,bB.c2,A3r bB,w1,p1,w2,p2,hres]<;>exact k2
 | false=>
 cases p3:decide (4000<(A.arcs.length:Int)*B.states) with
 | true=>
  simp only[Bool.true_or,Bool.false_or];simp only[↓Sh.dn,sx,Nat.reduceEqDiff,bA2.c1,bA2.c2,A3r bA2,bB.c1,bB.c2,A3r bB,w1,p1,w2,p2,w3,p3,hres]<;>exact k2
 | false=>
  simp only[Bool.false_or];simp only[↓Sh.dn,sx,Nat.reduceEqDiff,bA2.c1,bA2.c2,A3r bA2,bB.c1,bB.c2,A3r bB,w1,p1,w2,p2,w3,p3,w4,hres]<;>exact k2
def A4k(A B:NetD):Int:=if A1o A B≠0 then A1o A B else if C9r A B=true then 3 else 0
theorem wide_nat{A B:NetD}(okA:A0n A)(okB:A0n B)(h:C9r A B=false):A.states.toNat*B.states.toNat≤1000∧A.arcs.length*B.arcs.length≤8000∧B.states.toNat*A.arcs.length≤4000∧A.states.toNat*B.arcs.length≤4000:=by
 simp only[C9r,Bool.or_eq_false_iff,decide_eq_false_iff_not,Int.not_lt]at h;obtain⟨⟨⟨h1,h2⟩,h3⟩,h4⟩:=h;have a1:=okA.st1;have b1:=okB.st1;have ea:A.states=(A.states.toNat:Int):=by omega
 have eb:B.states=(B.states.toNat:Int):=by omega
 rw[ea,eb]at h1;rw[eb]at h3;rw[ea]at h4;rw[←Int.natCast_mul]at h1 h2 h3 h4;refine⟨by omega,by omega,?_,?_⟩
 ·rw[Nat.mul_comm];omega
 ·rw[Nat.mul_comm];omega
theorem C8r{H:AH}{va vb:Value}{A B:NetD}(ha:A6v H va A)(hb:A6v H vb B)(hA:A0f A)(hB:A0f B)(hw:Wf H):
  Sh.Call Tryz.prog (knows 7) 13 [va,vb] H (fun r H'=>JoinOut H H' A.sigma (A4k A B) (fun x y=>C0v A B x y) r):=by
 refine A5a rfl Tryz.func13 rfl (Nat.le_of_ble_eq_true rfl) ?_;have hres:Tryz.f13.results.toList=[.cell 4 26,.tmp 5]:=rfl;obtain⟨sgA,arA,enA,rfl,s1,s2,s3⟩:=ha;obtain⟨sgB,arB,enB,rfl,t1,t2,t3⟩:=hb;have bA:=NetBox.of (N:=A) hw s1 s2 s3;have k1:=Kept.new hw 4 [sgA,.int .i64 A.states,arA,enA];have bB:=NetBox.of (N:=B) k1.wf (t1.grow (k1.grow hw)) (t2.grow (k1.grow hw)) (t3.grow (k1.grow hw));have k2:=k1.news 4 [sgB,.int .i64 B.states,arB,enB];have bA2:=bA.new k1.wf 4 [sgB,.int .i64 B.states,arB,enB];simp only[↓Sh.dn,sx,Nat.reduceEqDiff,A9y s1.isCell s2.isCell s3.isCell,A9y t1.isCell t2.isCell t3.isCell,A44];obtain⟨H1,hH1⟩:∃K,(H.new 4 [sgA,.int .i64 A.states,arA,enA]).2=K:=⟨_,rfl⟩
 simp only[hH1]at k1 bB bA k2 bA2 ⊢;obtain⟨H2,hH2⟩:∃K,(H1.new 4 [sgB,.int .i64 B.states,arB,enB]).2=K:=⟨_,rfl⟩
 simp only[hH2]at bB k2 bA2 ⊢;generalize H.next=gA at bA2 ⊢;generalize H1.next=gB at bB ⊢;have sl:Slot (H2.new 4 [.slice none 0 0,.int .i64 0,.slice none 0 0,.slice none 0 0]).2 H2.next:=Slot.new;have k3:=k2.news 4 [.slice none 0 0,.int .i64 0,.slice none 0 0,.slice none 0 0];have bA3:=bA2.new k2.wf 4 [.slice none 0 0,.int .i64 0,.slice none 0 0,.slice none 0 0];have bB3:=bB.new k2.wf 4 [.slice none 0 0,.int .i64 0,.slice none 0 0,.slice none 0 0];have gol:H.next≤H2.next:=k2.next;generalize H2.next=go at sl gol ⊢;generalize (H2.new 4 [.slice none 0 0,.int .i64 0,.slice none 0 0,.slice none 0 0]).2=H3 at sl k3 bA3 bB3 ⊢;clear bA bA2 bB k1 k2 hH1 hH2 H1 H2 s1 s2 s3 t1 t2 t3;obtain⟨H4,hb4,k4,tn4,n4⟩:=twoBuild k3.wf bA3.hsg bA3.har bA3.hen bB3.hsg bB3.har bB3.hen;obtain⟨r5,H5,hd5,k5,rfl⟩:=C1v tn4 hA hB k4.wf;simp only[sx,bA3.ca,bB3.ca,hb4];refine⟨_,_,hd5,?_⟩;have k35:=k4.trans k5;have bA5:=bA3.kept k3.wf k35;have bB5:=bB3.kept k3.wf k35;by_cases hE:A1o A B=0
 case neg=>
  have e1:A4k A B=A1o A B:=by unfold A4k;rw[if_pos hE]
  obtain⟨Hz,sz,cz,zz,_⟩:=sl.put k35 (a:=.slice none 0 0) (b:=.int .i64 0) (c:=.slice none 0 0) (d:=.slice none 0 0) rfl rfl rfl rfl;simp only[↓Sh.dn,sx,Nat.reduceEqDiff,hE,decide_false,netZ,sz,hres,cz,e1];exact JoinOut.bad ((k3.trans k35).then gol (zz.weak fun y hy=>by omega)) hE
 obtain⟨hrA,hrB,hsg⟩:=B4k hE;obtain⟨okA,_,_⟩:=A7h hrA;obtain⟨okB,_,_⟩:=A7h hrB;obtain⟨r7,H7,hd7,k7,rfl⟩:=C6v bA5.netAt bB5.netAt okA okB (k3.trans k35).wf;simp only[↓Sh.dn,sx,Nat.reduceEqDiff,hE,decide_true,bA5.ca,bB5.ca];refine⟨_,_,hd7,?_⟩;have k37:=k35.trans k7;have bA7:=bA3.kept k3.wf k37;have bB7:=bB3.kept k3.wf k37;cases hg:C9r A B with
 | true=>
  have e1:A4k A B=3:=by unfold A4k;rw[if_neg (by simpa using hE),if_pos hg]
  obtain⟨Hz,sz,cz,zz,_⟩:=sl.put k37 (a:=.slice none 0 0) (b:=.int .i64 0) (c:=.slice none 0 0) (d:=.slice none 0 0) rfl rfl rfl rfl;simp only[↓Sh.dn,sx,Nat.reduceEqDiff,netZ,sz,hres,cz,e1];exact JoinOut.bad ((k3.trans k37).then gol (zz.weak fun y hy=>by omega)) (by decide)
 | false=>
 have e1:A4k A B=0:=by unfold A4k;rw[if_neg (by simpa using hE),if_neg (by rw[hg];simp)]
 simp only[↓Sh.dn,sx];obtain⟨r8,H8,hd8,k8,g1,rfl,base1,hbase1,hG1⟩:=B1x bA7.netAt okA hA k37.wf;have bB8:=bB7.kept k37.wf k8;obtain⟨r9,H9,hd9,k9,g2,rfl,base2,hbase2,hG2⟩:=B1x bB8.netAt okB hB k8.wf;rw[←A1u okA]at hG1;rw[←A1u okB]at hG2;have hX1:=(hG1.own k8.wf).kept k8.wf k9;have hX2:=hG2.own k9.wf;have a1:=okA.st1;have a2:=okA.st2;have b1:=okB.st1;have b2:=okB.st2;have n1:H8.next≤H9.next:=k9.next;obtain⟨q1,q2,q3,q4⟩:=wide_nat okA okB hg;have sA:=A59 hrA;have sB:=A59 hrB;have rowle:∀{E:List (List GE)} {r:List GE},r∈E→r.length≤(E.map List.length).sum:=fun{E r} h=>by
  induction E with
  | nil=>cases h
  | cons q E ih=>
   rw[List.map_cons,List.sum_cons];rcases List.mem_cons.1 h with h|h
   ·rw[h];omega
   ·have:=ih h;omega
 have zA:∀r∈A8f A,∀e∈r,0≤e.2.2.2∧e.2.2.2≤1099511627776:=fun r hr e he=>by rw[(A8s hrA r hr e he).2.2.2];decide
 have zB:∀r∈A8f B,∀e∈r,0≤e.2.2.2∧e.2.2.2≤1099511627776:=fun r hr e he=>by rw[(A8s hrB r hr e he).2.2.2];decide
 have zc:∀{l:List Int},(∀c∈l,c=0)→∀c∈l,0≤c∧c≤1099511627776:=fun h c hc=>by rw[h c hc];decide
 have hpr:∀r∈A8f A,∀q∈A8f B,r.length*(q.length+1)≤100000000:=fun r hr q hq=>by
  have h1:=rowle hr;have h2:=rowle hq;rw[sA]at h1;rw[sB]at h2;have h3:r.length*q.length≤A.arcs.length*B.arcs.length:=Nat.mul_le_mul h1 h2;have h4:=okA.ar;rw[Nat.mul_succ];omega
 obtain⟨r11,H11,hd11,k11,g,rfl,X,T,R,es,cs,hX,hI⟩:=B9z (n1:=A.states.toNat) (n2:=B.states.toNat) hX1 hX2 (A3s A) (A4s A) (A0t A) (by omega) (by omega) (A3s B) (A4s B) (A0t B) (by omega) (by omega) (by omega) hA.sg (A71 hrA) (A71 hrB) hpr zA zB (zc (A5v hrA)) (zc (A5v hrB)) k9.wf;have hEA:∀r∈A8f A,∀e∈r,e.2.1<(A.sigma.length:Int)∧e.2.2.1<(A.sigma.length:Int)∧e.2.2.2=0:=fun r hr e he=>(A8s hrA r hr e he).2;have hEB:∀r∈A8f B,∀e∈r,e.2.1<(A.sigma.length:Int)∧e.2.2.1<(A.sigma.length:Int)∧e.2.2.2=0:=by rw[hsg];exact fun r hr e he=>(A8s hrB r hr e he).2
 have hTl:=B3u hI.nd hI.inb;have hT1:0<T.length:=(List.getElem?_eq_some_iff.1 hI.h0).1;have hsum:=comp_sum hI (A3s A) (A3s B);rw[sA,sB]at hsum;have hRO:B9r A.sigma R es cs T.length:=⟨hI.lr,hI.le,hI.lc,hT1,by omega,comp_to hI (Int.natCast_nonneg _) hEA hEB,by omega,C10 hI (A5v hrA) (A5v hrB)⟩
 obtain⟨r12,H12,hd12,k12,M,hM,m1,m2,m3,m4,m5,m6⟩:=graphNet hX hRO.le hRO.ln hRO.lc hRO.n1 hRO.n2 hA.sg (fun r hr e he=>⟨(hRO.to r hr e he).1,(hRO.to r hr e he).2.1,(hRO.to r hr e he).2.2.1⟩) (by have:=hRO.sum;omega) k11.wf;have hNO:C6r A.sigma R es cs T.length M:=⟨m1,m2,m3,m4,m5,m6⟩
 have k812:=((k8.trans k9).trans k11).trans k12;have k312:=k37.trans k812;obtain⟨⟨sgM,arM,enM,rfl,z1,z2,z3⟩⟩:=hM H12 fun y _=>rfl
 obtain⟨H13,s13,c13,z13,x13⟩:=sl.put k312 z1.isCell (show isCell (.int .i64 M.states)=true from rfl) z2.isCell z3.isCell;have hvqA:veq (.agg #[sgA,.int .i64 A.states,arA,enA]) (.agg #[sgA,.int .i64 A.states,arA,enA])=true:=A0x (by simp only[A1k,A7m,A3h,bA3.hsg.veq,bA3.har.veq,bA3.hen.veq,Bool.and_self]);have hvqB:veq (.agg #[sgB,.int .i64 B.states,arB,enB]) (.agg #[sgB,.int .i64 B.states,arB,enB])=true:=A0x (by simp only[A1k,A7m,A3h,bB3.hsg.veq,bB3.har.veq,bB3.hen.veq,Bool.and_self]);refine A6u (fl:=[(0,false),(2,false),(1,false),(3,true),(4,true),(5,true),(6,true),(7,true)]) (by kernel_rfl) (by kernel_rfl) k37.wf ?_;simp only[↓Sh.dn,sx,reduceCtorEq,Nat.reduceEqDiff,wpg,B7m,isEff,A2d,isRead,forall_eq',bA7.ca,bB7.ca,hvqA,hvqB];refine⟨_,_,hd8,k8.wf,k8.grow k37.wf,?_⟩;refine⟨_,_,hd9,k9.wf,?_⟩;refine⟨_,_,hd11,k11.wf,?_⟩;refine⟨_,_,hd12,k12.wf,?_⟩;simp only[sx,Nat.reduceEqDiff,s13,hres,c13,z13.wf,e1];refine⟨(k3.trans k312).then gol (z13.weak fun y hy=>by omega),_,rfl,fun h=>absurd rfl h,fun _=>⟨M,fun H14 h14=>hM H14 fun y hy=>(h14 y (by have:=sl.lt;have:=(k37.trans ((k8.trans k9).trans k11)).next;omega)).trans ?_,C4c hNO hRO hA.sg hA.sx,B9u hNO hRO okA.sig,m1,C41 hrA hrB hsg hI hNO hRO⟩⟩;have hgl:=sl.lt;have hn:=(k37.trans ((k8.trans k9).trans k11)).next;by_cases hyl:y<H12.next
 ·exact z13.old y hyl (by omega)
 ·have q1:=B9e k12.wf (y:=y) (by omega)
  have q2:=B9e z13.wf (y:=y) (by omega);rw[q1,q2]
theorem B6t{A B:NetD}(h:A4k A B=0):A9f A=0∧A9f B=0∧A.sigma=B.sigma:=by
 unfold A4k at h;split at h
 ·rename_i h1;exact absurd h h1
 ·rename_i h1;exact B4k (by simpa using h1)
theorem C1n{A B:NetD}{x y:List ByteArray}:C0v A B x y↔∃z,A3j A x z∧A3j B z y:=by
 unfold C0v A3j RelP;constructor
 ·rintro⟨⟨p,q⟩,⟨h1,h2⟩,h3⟩
  obtain⟨z,h4,h5⟩:=C1j.1 h3;exact⟨z,⟨p,h1,h4⟩,q,h2,h5⟩
 ·rintro⟨z,⟨p,h1,h4⟩,q,h2,h5⟩
  exact⟨(p,q),⟨h1,h2⟩,C1j.2 ⟨z,h4,h5⟩⟩
theorem word_ok{N:NetD}(hok:A0n N){w:List ByteArray}(hl:w.length≤60)(hw:∀x∈w,x∈N.sigma):A2h w=0:=by
 have h:=hok.sig;unfold A0k at h;split at h
 ·cases h
 ·rename_i h1
  simp only[Bool.or_eq_true,decide_eq_true_eq,not_or]at h1;have h2:A8r w=false:=by
   rw[Bool.eq_false_iff];intro h3;obtain⟨x,hx,h4⟩:=List.any_eq_true.1 h3;exact h1.2 (List.any_eq_true.2 ⟨x,hw x hx,h4⟩)
  unfold A2h;rw[if_neg (by rw[h2];simp;omega),if_pos (List.all_eq_true.2 fun x hx=>hok.sym x (hw x hx))]
section
variable {N:NetD} {x:List ByteArray} {most:Int} {S:List ByteArray→Prop}
theorem B20{all:List (List ByteArray)}{P:Prop}{m:Nat}{w:List ByteArray}(h:w∈(A4g all P m).1):w∈all:=by
 unfold A4g at h;split at h
 ·exact List.mem_of_mem_take h
 ·split at h
  ·split at h
   ·cases h
   ·exact h
  ·exact h
theorem A74{w:List ByteArray}(h:w∈(A5c N x most S).1):(w.length≤60∧∀z∈w,z∈N.sigma)∧S w:=by
 unfold A5c at h;split at h
 ·cases h
 ·split at h
  ·cases h
  ·split at h
   ·cases h
   ·split at h
    ·cases h
    ·exact A4z.1 (B20 h)
theorem C2b(h:(A5c N x most S).2.2≠0):(A5c N x most S).1=[]:=by
 unfold A5c at h ⊢;split
 ·rfl
 ·split
  ·rfl
  ·split
   ·rfl
   ·split
    ·rfl
    ·rename_i h1 h2 h3 h4
     rw[if_neg h1,if_neg h2,if_neg h3,if_neg h4]at h;unfold A4g at h ⊢;split
     ·rename_i h5;rw[if_pos h5]at h;exact absurd rfl h
     ·rename_i h5
      rw[if_neg h5]at h;split
      ·rename_i h6
       rw[if_pos h6]at h;split
       ·rfl
       ·rename_i h7;rw[if_neg h7]at h;exact absurd rfl h
      ·rename_i h6;rw[if_neg h6]at h;exact absurd rfl h
theorem A11(h:(A5c N x most S).2.2=0):A2h x=0∧¬(most<1∨200<most)∧A5c N x most S=A4g (A7p N S) (A9t N S) most.toNat:=by
 unfold A5c at h ⊢;split
 ·rename_i h1;rw[if_pos h1]at h;exact absurd h h1
 ·rename_i h1
  rw[if_neg h1]at h;split
  ·rename_i h2;rw[if_pos h2]at h;exact absurd h h2
  ·rename_i h2
   rw[if_neg h2]at h;split
   ·rename_i h3;rw[if_pos h3]at h;cases h
   ·rename_i h3
    rw[if_neg h3]at h;split
    ·rename_i h4;rw[if_pos h4]at h;cases h
    ·exact⟨by simpa using h2,h3,rfl⟩
theorem C5e(h:(A5c N x most S).2.2=0)(hm:(A5c N x most S).2.1=false):(A5c N x most S).1=A7p N S∧¬A9t N S:=by
 obtain⟨_,_,h1⟩:=A11 h;rw[h1]at hm h ⊢;unfold A4g at hm h ⊢;split
 ·rename_i h2;rw[if_pos h2]at hm;cases hm
 ·rename_i h2
  rw[if_neg h2]at hm h;split
  ·rename_i h3
   rw[if_pos h3]at hm h;split
   ·rename_i h4;rw[if_pos h4]at h;cases h
   ·rename_i h4;rw[if_neg h4]at hm;cases hm
  ·rename_i h3
   exact⟨rfl,fun h4=>h3 (A4u.2 h4)⟩
theorem B9y(h:(A5c N x most S).2.2=0)(hl:(A5c N x most S).1=[]):A7p N S=[]:=by
 obtain⟨_,h0,h1⟩:=A11 h;have hmo:1≤most.toNat:=by omega
 rw[h1]at hl h;unfold A4g at hl h;split at hl
 ·rename_i h2
  rw[List.take_eq_nil_iff]at hl;rcases hl with h3|h3
  ·omega
  ·exact h3
 ·rename_i h2
  rw[if_neg h2]at h;split at hl
  ·rename_i h3
   rw[if_pos h3]at h;split at hl
   ·rename_i h4;rw[if_pos h4]at h;cases h
   ·exact hl
  ·exact hl
end
theorem B72{A B M:NetD}{x:List ByteArray}{o3:List (List ByteArray)×Bool×Int}(okA:A0n A)(okB:A0n B)(hs:A.sigma=B.sigma)(hM:∀x y,A3j M x y↔C0v A B x y)
  (h1:(A5c A x 6 (A3j A x)).2.2=0) (h2:(A5c A x 6 (A3j A x)).2.1=false) (h3:∀z∈(A5c A x 6 (A3j A x)).1,(A5c B z 4 (A3j B z)).2.2=0∧(A5c B z 4 (A3j B z)).1=[]):(A5c M x 1 (A3j M x)).1=[]:=by
 obtain⟨h4,h5⟩:=C5e h1 h2;refine List.eq_nil_iff_forall_not_mem.2 fun y hy=>?_;obtain⟨⟨h6,_⟩,h7⟩:=A74 hy;obtain⟨z,h8,h9⟩:=C1n.1 ((hM x y).1 h7);have h10:=(A5s okA h8).2;have hz:z∈A7p A (A3j A x):=A4z.2 ⟨⟨by
  rcases Nat.lt_or_ge 60 z.length with h|h
  ·exact absurd ⟨z,h,h10,h8⟩ h5
  ·exact h,h10⟩,h8⟩
 rw[←h4]at hz;obtain⟨h11,h12⟩:=h3 z hz;have h13:=B9y h11 h12;have hy2:y∈A7p B (A3j B z):=A4z.2 ⟨⟨h6,(A5s okB h9).2⟩,h9⟩;rw[h13]at hy2;cases hy2
theorem B1u{H:AH}{A B:NetD}{x y:List ByteArray}{sgA arA enA sgB arB enB ux uy:Value}(h:TwoAt H A B x y sgA arA enA sgB arB enB ux uy)(hA:A0f A)(hB:A0f B)(hxl:x.length≤1048576)(hxx:∀z∈x,z.size≤1048576)(hw:Wf H):
  Sh.Call Tryz.prog (knows 7) 4 [.agg (twoV A B sgA arA enA sgB arB enB ux uy).toArray] H (fun r _=>r=.bool true):=by
 refine A5a rfl Tryz.func4 rfl (Nat.le_of_ble_eq_true rfl) ?_;have hres:Tryz.f4.results.toList=[.tmp 2]:=rfl;have t1:=TBox.new h hw;have k1:Kept H (H.new 10 (twoV A B sgA arA enA sgB arB enB ux uy)).2:=Kept.new hw 10 _;simp only[↓Sh.dn,sx,Nat.reduceEqDiff,twoNew h];generalize H.next=g at t1 ⊢;generalize (H.new 10 (twoV A B sgA arA enA sgB arB enB ux uy)).2=H1 at t1 k1 ⊢;obtain⟨H2,hb2,k2,sl2,row2⟩:=two_nets k1.wf t1.at' hA hB;obtain⟨r,H3,hd3,rfl,b,rfl⟩:=lawOver sl2 (by simp) row2;have t2:=t1.kept k1.wf k2;have k12:=k1.trans k2;simp only[sx,t1.cA,t1.cB,hb2];refine⟨_,_,hd3,?_⟩;generalize (Value.slice (some ⟨H1.next,0,some 0⟩) 2 2)=lv at hd3 ⊢;cases b with
 | true=>
  obtain⟨r,H4,hd4,rfl,rfl⟩:=A5w (H:=H3);simp only[↓Sh.dn,sx,Nat.reduceEqDiff];refine⟨_,_,hd4,?_⟩;simp only[sx,hres]
 | false=>
 have hbs:=C1x (H:=H3) t2.at'.x.isCell;have hJ:=one_jag t2.at'.x k12.wf;have km:=Kept.new k12.wf 1 [ux];obtain⟨r,K2,hd2,rfl,rfl⟩:=lawLong hJ (by simp);simp only[↓Sh.dn,sx,Nat.reduceEqDiff,t2.c8,hbs];refine⟨_,_,hd2,?_⟩;have t3:=t2.kept k12.wf km;have k13:=k12.trans km;generalize (H3.new 1 [ux]).2=H4 at km t3 k13 ⊢;cases hlg:[x].any fun w=>decide (240<w.length) with
 | true=>
  obtain⟨r,H5,hd4,rfl,rfl⟩:=A5w (H:=H4);simp only[↓Sh.dn,sx];refine⟨_,_,hd4,?_⟩;simp only[sx,hres]
 | false=>
 obtain⟨r5,H5,hd5,k5,mv,rfl,hbad,hok⟩:=C8r t3.nA t3.nB hA hB k13.wf;simp only[↓Sh.dn,sx,Nat.reduceEqDiff,t3.cA,t3.cB];refine⟨_,_,hd5,?_⟩;have t5:=t3.kept k13.wf k5;have k15:=k13.trans k5;by_cases hE:A4k A B=0
 case neg=>
  have hz:=hbad hE;unfold C4b at hz;subst hz;obtain⟨r9,H9,hd9,rfl,rfl⟩:=A5w (H:=(H5.new 4 [.slice none 0 0,.int .i64 0,.slice none 0 0,.slice none 0 0]).2);simp only[↓Sh.dn,sx,A44,A51 (H:=(H5.new 4 [.slice none 0 0,.int .i64 0,.slice none 0 0,.slice none 0 0]).2) (sg:=.slice none 0 0) (ar:=.slice none 0 0) (en:=.slice none 0 0) rfl rfl rfl,B5v,hE,decide_false];refine⟨_,_,hd9,?_⟩;simp only[sx,hres]
 obtain⟨eA,eB,eS⟩:=B6t hE;obtain⟨okA,_,_⟩:=A7h eA;obtain⟨okB,_,_⟩:=A7h eB;obtain⟨M,hM,m1,m2,m3,m4⟩:=hok hE;obtain⟨⟨sgM,arM,enM,rfl,z1,z2,z3⟩⟩:=hM H5 fun _ _=>rfl
 have k6:=Kept.new k15.wf 4 [sgM,.int .i64 M.states,arM,enM];have hb6:=NetBox.of (N:=M) k15.wf z1 z2 z3;simp only[sx,A44,A51 z1.isCell z2.isCell z3.isCell,B5v];have t6:=t5.kept k15.wf k6;have k16:=k15.trans k6;generalize H5.next=gn at hb6 ⊢;generalize (H5.new 4 [sgM,.int .i64 M.states,arM,enM]).2=H6 at hb6 t6 k6 k16 ⊢;obtain⟨r7,H7,hd7,k7,l7,rfl,vs,hJ7⟩:=C2e (most:=6) t6.nA hA t6.at'.x hxl hxx k16.wf;simp only[↓Sh.dn,sx,Nat.reduceEqDiff,hE,decide_true,t6.cA,t6.c8];refine⟨_,_,hd7,?_⟩;have hb7:=hb6.kept k16.wf k7;have t7:=t6.kept k16.wf k7;have k17:=k16.trans k7;by_cases hD:(A5c A x 6 (A3j A x)).2.2=0
 case neg=>
  obtain⟨r9,H9,hd9,rfl,rfl⟩:=A5w (H:=H7);simp only[↓Sh.dn,sx,hD,decide_false];refine⟨_,_,hd9,?_⟩;simp only[sx,hres]
 have hxe:=(A11 hD).1;have hmem:=fun w (hw:w∈(A5c A x 6 (A3j A x)).1)=>A74 hw;have hfin:=B72 (o3:=([],false,0)) okA okB eS m4 hD;have hLl:=(A78 (N:=A) (x:=x) (most:=6) (S:=A3j A x)).1;generalize (A5c A x 6 (A3j A x)).1=L at hJ7 hmem hfin hLl ⊢;generalize (A5c A x 6 (A3j A x)).2.1=mb at hfin ⊢;have hlen:∀{H'},Kept H7 H'→∀H'',A3a Tryz.prog .len [30] [l7] H''=some (.int .i64 (L.length:Int),H''):=fun hk H''=>by
  rw[hJ7.sl.len Tryz.underlying30,List.length_map,hJ7.len,List.length_map]
 simp only[↓Sh.dn,sx,Nat.reduceEqDiff,hD,decide_true];refine A0d L.length 9 (List.range' 8 8++List.range' 56 49) (fun i F H'=>Kept H7 H'∧∃b,F.get 8=some (.bool b)∧(b=false→mb=false∧∀z∈L.take i,(A5c B z 4 (A3j B z)).2.2=0∧(A5c B z 4 (A3j B z)).1=[])) (by simp only[sx]) ⟨Kept.refl k17.wf,mb,by simp only[sx,Nat.reduceEqDiff],fun h=>⟨h,by simp⟩⟩ ?_ ?_
 ·rintro i F H' hi hF f9 ⟨hk,b,f8,hall⟩ k
  have f1:=hF 1 rfl;have f3:=hF 3 rfl;have f5:=hF 5 rfl;simp only[sx,Nat.reduceEqDiff]at f1 f3 f5;have t':=t7.kept k17.wf hk;have hb':=hb7.kept k17.wf hk;have k':=k17.trans hk;obtain⟨g1,o1,q1,w1,i1,c1,s1⟩:=(hJ7.grow (hk.grow k17.wf)).at Tryz.underlying30 A4t (i:=i) (r:=strRow L[i]) (by rw[List.getElem?_map,List.getElem?_eq_getElem hi];rfl);have htk:L.take (i+1)=L.take i++[L[i]]:=by rw[List.take_add_one,List.getElem?_eq_getElem hi];rfl
  obtain⟨⟨z1',z2'⟩,z3'⟩:=hmem _ (List.getElem_mem hi);generalize L[i]=z at s1 htk z1' z2' z3';obtain⟨r8,H8,hd8,k8,lw,rfl,ws,hJ8⟩:=C2e (most:=4) (x:=z) t'.nB hB s1 (by omega) (fun u hu=>hA.sx u (z2' u hu)) k'.wf;have t8:=t'.kept k'.wf k8;have hb8:=hb'.kept k'.wf k8;have k'8:=k'.trans k8;have hmem2:=fun w (hw:w∈(A5c B z 4 (A3j B z)).1)=>A74 hw;have hbad2:=C2b (N:=B) (x:=z) (most:=4) (S:=A3j B z);have hl2:=(A78 (N:=B) (x:=z) (most:=4) (S:=A3j B z)).1;obtain⟨o,ho⟩:∃o,A5c B z 4 (A3j B z)=o:=⟨_,rfl⟩
  rw[ho]at hd8 hJ8 hmem2 hbad2 hl2;have hlen2:∀H'',A3a Tryz.prog .len [30] [lw] H''=some (.int .i64 (o.1.length:Int),H''):=fun H''=>by
   rw[hJ8.sl.len Tryz.underlying30,List.length_map,hJ8.len,List.length_map]
  have hvqB:veq (.agg #[sgB,.int .i64 B.states,arB,enB]) (.agg #[sgB,.int .i64 B.states,arB,enB])=true:=A0x (by simp only[A1k,A7m,A3h,t'.at'.b1.veq,t'.at'.b2.veq,t'.at'.b3.veq,Bool.and_self]);have hvw:=s1.veq;simp only[↓Sh.dn,sx,Nat.reduceEqDiff,f5,f9,hlen hk,A2a,hi,decide_true];refine A6u (fl:=[(0,true),(1,false),(2,true),(3,true),(4,true),(5,false),(6,true),(7,true),(8,true),(9,true),(10,true),(11,true),(12,true),(13,true)]) (by kernel_rfl) (by kernel_rfl) hk.wf ?_;simp only[↓Sh.dn,sx,reduceCtorEq,Nat.reduceEqDiff,wpg,B7m,isEff,A2d,isRead,forall_eq',f1,f5,f9,i1,c1,t'.cB,hvqB,hvw];refine⟨_,_,hd8,k8.wf,?_⟩;simp only[sx];refine A0d o.1.length 13 (8 :: List.range' 13 3++List.range' 73 27) (fun m F H'=>Kept H8 H'∧∃b',F.get 8=some (.bool b')∧(b'=false→b=false∧m=0)) (by simp only[sx]) ⟨Kept.refl k8.wf,b,by simp only[sx,Nat.reduceEqDiff,f8],fun h=>⟨h,rfl⟩⟩ ?_ ?_
  ·rintro m F2 H9 hm hF2 f13 ⟨hk9,b',f8',hb'⟩ k2
   have g1':=hF2 1 rfl;have g3:=hF2 3 rfl;have g10:=hF2 10 rfl;have g12:=hF2 12 rfl;simp only[sx,Nat.reduceEqDiff,f1,f3]at g1' g3 g10 g12;have he:o.2.2=0:=Classical.byContradiction fun h=>by rw[hbad2 h]at hm;cases hm
   have t9:=t8.kept k'8.wf hk9;have hb9:=hb8.kept k'8.wf hk9;have k9':=k'8.trans hk9;obtain⟨g2,o2,q2,w2,i2,c2,s2⟩:=(hJ8.grow (hk9.grow k8.wf)).at Tryz.underlying30 A4t (i:=m) (r:=strRow o.1[m]) (by rw[List.getElem?_map,List.getElem?_eq_getElem hm];rfl);obtain⟨⟨y1,y2⟩,y3⟩:=hmem2 _ (List.getElem_mem hm);generalize o.1[m]=u at s2 y1 y2 y3;have hp:A3j M x u:=(m4 x u).2 (C1n.2 ⟨z,z3',y3⟩);have hHe:A8p M x u=0:=by
    unfold A8p;rw[if_neg (by simpa using m2),if_neg (by simpa using hxe)];exact word_ok okB y1 y2
   have hHb:holdsB M x u=true:=A4u.2 ⟨hHe,hp⟩;obtain⟨r10,H10,hd10,k10,rfl⟩:=relHolds hb9.netAt m1 t9.at'.x s2 hxl (by omega) hxx (fun v hv=>hB.sx v (y2 v hv)) k9'.wf;rw[hHe,hHb]at hd10;have hvqM:veq (.agg #[sgM,.int .i64 M.states,arM,enM]) (.agg #[sgM,.int .i64 M.states,arM,enM])=true:=A0x (by simp only[A1k,A7m,A3h,z1.veq,z2.veq,z3.veq,Bool.and_self]);have hvx:=t9.at'.x.veq;have hvu:=s2.veq;have d0:decide ((0:Int)=0)=true:=rfl;simp only[↓Sh.dn,sx,Nat.reduceEqDiff,f13,g10,g12,he,hlen2,A2a,hm,decide_true];refine A6u (fl:=[(0,false),(1,true),(2,false),(3,true),(4,true),(5,true),(6,false),(7,true),(8,true),(9,true),(10,true),(11,true),(12,true)]) (by kernel_rfl) (by kernel_rfl) k9'.wf ?_;simp only[↓Sh.dn,sx,reduceCtorEq,Nat.reduceEqDiff,wpg,B7m,isEff,A2d,isRead,forall_eq',f13,g1',g3,g10,i2,c2,t9.c8,hb9.ca,hvqM,hvx,hvu];refine⟨_,_,hd10,k10.wf,?_⟩;simp only[↓Sh.dn,sx,Nat.reduceEqDiff,eq_self,decide_true,f13,A1a hm (by omega)];exact k2 _ _ (by repeat (first|refine Same.put ?_ rfl|exact Same.rfl' _)) (by simp only[sx]) ⟨hk9.trans k10,true,by simp only[sx,Nat.reduceEqDiff],fun h=>by cases h⟩
  ·rintro F2 H9 hF2 f13 ⟨hk9,b',f8',hb'⟩
   have g10:=hF2 10 rfl;have g12:=hF2 12 rfl;have g9:=hF2 9 rfl;simp only[sx,Nat.reduceEqDiff,f9]at g9 g10 g12;cases b' with
   | true=>
    simp only[↓Sh.dn,sx,Nat.reduceBEq,Nat.reduceEqDiff,f13,f8',g9,g10,hlen2,A2a,Nat.lt_irrefl,decide_false,A1a hi (by omega)];refine k _ _ ?_ (by simp only[sx]) ⟨hk.trans (k8.trans hk9),true,by simp only[sx,Nat.reduceEqDiff],fun h=>by cases h⟩
    repeat refine Same.put ?_ rfl
    exact Same.trans (by repeat (first|refine Same.put ?_ rfl|exact Same.rfl' _)) (hF2.sub rfl)
   | false=>
    obtain⟨hb0,hn0⟩:=hb' rfl;obtain⟨hmb,hz0⟩:=hall hb0;simp only[↓Sh.dn,sx,Nat.reduceBEq,Nat.reduceEqDiff,f13,f8',g9,g10,g12,hlen2,A2a,Nat.lt_irrefl,decide_false,A1a hi (by omega)];by_cases he:o.2.2=0
    ·simp only[sx,he,decide_true]
     refine k _ _ ?_ (by simp only[sx]) ⟨hk.trans (k8.trans hk9),false,by simp only[sx,Nat.reduceEqDiff],fun _=>⟨hmb,fun z' hz'=>?_⟩⟩
     ·repeat refine Same.put ?_ rfl
      exact Same.trans (by repeat (first|refine Same.put ?_ rfl|exact Same.rfl' _)) (hF2.sub rfl)
     ·rw[htk]at hz'
      rcases List.mem_append.1 hz' with h1|h1
      ·exact hz0 z' h1
      ·rw[List.mem_singleton.1 h1,ho]
       exact⟨he,List.length_eq_zero_iff.1 hn0⟩
    ·simp only[sx,he,decide_false]
     refine k _ _ ?_ (by simp only[sx]) ⟨hk.trans (k8.trans hk9),true,by simp only[sx,Nat.reduceEqDiff],fun h=>by cases h⟩
     repeat refine Same.put ?_ rfl
     exact Same.trans (by repeat (first|refine Same.put ?_ rfl|exact Same.rfl' _)) (hF2.sub rfl)
 ·rintro F H' hF f9 ⟨hk,b,f8,hall⟩
  have f1:=hF 1 rfl;have f3:=hF 3 rfl;have f5:=hF 5 rfl;simp only[sx,Nat.reduceEqDiff]at f1 f3 f5;have t':=t7.kept k17.wf hk;have hb':=hb7.kept k17.wf hk;have k':=k17.trans hk;rw[List.take_length]at hall;cases b with
  | true=>
   obtain⟨r9,H9,hd9,rfl,rfl⟩:=A5w (H:=H');simp only[↓Sh.dn,sx,Nat.reduceEqDiff,f5,f8,f9,hlen hk,A2a,Nat.lt_irrefl,decide_false];refine⟨_,_,hd9,?_⟩;simp only[sx,hres]
  | false=>
   obtain⟨hmb,hz⟩:=hall rfl;have h0:=hfin hmb hz;obtain⟨r8,H8,hd8,k8,lw,rfl,ws,hJ8⟩:=C2e (most:=1) hb'.netAt m1 t'.at'.x hxl hxx k'.wf;rw[h0]at hJ8;have hlen2:∀H'',A3a Tryz.prog .len [30] [lw] H''=some (.int .i64 0,H''):=fun H''=>by
    rw[hJ8.sl.len Tryz.underlying30,List.length_map,hJ8.len];rfl
   obtain⟨r9,H9,hd9,rfl,rfl⟩:=A5w (H:=H8);have d0:decide ((0:Int)<0)=false:=rfl;simp only[↓Sh.dn,sx,Nat.reduceEqDiff,f1,f3,f5,f8,f9,hlen hk,A2a,Nat.lt_irrefl,decide_false,hb'.ca,t'.c8];refine⟨_,_,hd8,?_⟩;by_cases he:(A5c M x 1 (A3j M x)).2.2=0
   ·simp only[↓Sh.dn,sx,Nat.reduceEqDiff,he,decide_true,hlen2,d0]
    refine⟨_,_,hd9,?_⟩;simp only[sx,hres]
   ·simp only[↓Sh.dn,sx,Nat.reduceEqDiff,he,decide_false]
    refine⟨_,_,hd9,?_⟩;simp only[sx,hres]
theorem lawMain{H:AH}{avs:List Value}{K:Type}{ds:List (DataW K)}(hb:Rows.uptoBulkAll ds≤1048576)(hw:Wf H)(hr:RDs Tryz.prog H [37] avs ds)(hfl:Flat Tryz.prog [37] avs):
  Sh.Call Tryz.prog (knows 7) 4 avs H (fun r _=>r=.bool true):=by
 obtain⟨v,vs,d,ds,rfl,rfl,⟨f,h1⟩,h2⟩:=hr.cons_inv;obtain⟨rfl,rfl⟩:=h2.nil_inv;simp only[Rows.uptoBulkAll,Nat.add_zero]at hb;obtain⟨A,B,x,y,_,_,_,_,_,_,_,_,rfl,h,hA,hB,⟨hxl,hxx⟩,_⟩:=two_in2 h1 (by omega);exact B1u h hA hB hxl hxx hw
end Go.Proofs.YtjjgodccecehlaaGreat
