/- A part of the proof: TwoBox, TwoIn, JagOne, GraphEither, Sides, SideFns, TurnRows, RelTurned, GraphImage, CloneInt, GraphBack, GraphFrom. -/
import Derived.Test.YtjjgodccecehlaaGreatMClose2RelChained14
import Derived.Test.YtjjgodccecehlaaGreatMClose2RelChained15
import Derived.ProofKit
import Derived.Test.YtjjgodccecehlaaGreatMClose2RelChained2
import Derived.Test.YtjjgodccecehlaaGreatMClose2RelChained1
import Derived.Test.YtjjgodccecehlaaGreatMClose2RelChained8
import Derived.Test.YtjjgodccecehlaaGreatMClose2RelChained6
set_option linter.unusedVariables false
set_option linter.unusedSimpArgs false
/- Two nets and two lists, in a box. -/
set_option maxHeartbeats 4000000
set_option maxRecDepth 20000
namespace Go.Proofs.YtjjgodccecehlaaGreat
open Go Go.Proofs Go.Proofs.Sh
theorem A5w{H:AH}:Sh.Call Tryz.prog (knows 7) 7 [] H (fun r H'=>H'=H∧r=.bool true):=⟨_,_,⟨0,rfl⟩,rfl,rfl⟩
def twoV(A B:NetD)(sgA arA enA sgB arB enB ux uy:Value):List Value:=[sgA,.int .i64 A.states,arA,enA,sgB,.int .i64 B.states,arB,enB,ux,uy]
structure TwoAt(H:AH)(A B:NetD)(x y:List ByteArray)(sgA arA enA sgB arB enB ux uy:Value):Prop where
 a1:Sl H sgA 1 (A.sigma.map A6b)
 a2:Sl H arA 5 (A.arcs.map ArcD.cells)
 a3:Sl H enA 2 (A.ends.map EndD.cells)
 b1:Sl H sgB 1 (B.sigma.map A6b)
 b2:Sl H arB 5 (B.arcs.map ArcD.cells)
 b3:Sl H enB 2 (B.ends.map EndD.cells)
 x:Sl H ux 1 (x.map A6b)
 y:Sl H uy 1 (y.map A6b)
section
variable {H H':AH} {A B:NetD} {x y:List ByteArray} {sgA arA enA sgB arB enB ux uy:Value}
theorem TwoAt.kept(h:TwoAt H A B x y sgA arA enA sgB arB enB ux uy)(hw:Wf H)(hk:Kept H H'):TwoAt H' A B x y sgA arA enA sgB arB enB ux uy:=
 ⟨h.a1.grow (hk.grow hw),h.a2.grow (hk.grow hw),h.a3.grow (hk.grow hw),h.b1.grow (hk.grow hw),h.b2.grow (hk.grow hw),h.b3.grow (hk.grow hw),h.x.grow (hk.grow hw),h.y.grow (hk.grow hw)⟩
structure TBox(H:AH)(g:Nat)(A B:NetD)(x y:List ByteArray)(sgA arA enA sgB arB enB ux uy:Value):Prop where
 ar:Arr H g 0 10 (twoV A B sgA arA enA sgB arB enB ux uy)
 at':TwoAt H A B x y sgA arA enA sgB arB enB ux uy
theorem TBox.kept{g:Nat}(h:TBox H g A B x y sgA arA enA sgB arB enB ux uy)(hw:Wf H)(hk:Kept H H'):TBox H' g A B x y sgA arA enA sgB arB enB ux uy:=
 ⟨h.ar.keep (hk.old g (h.ar.lt hw)),h.at'.kept hw hk⟩
theorem TBox.new(h:TwoAt H A B x y sgA arA enA sgB arB enB ux uy)(hw:Wf H):TBox (H.new 10 (twoV A B sgA arA enA sgB arB enB ux uy)).2 H.next A B x y sgA arA enA sgB arB enB ux uy:=
 ⟨(Sh.Obj.new (H:=H) 10 _).arr,h.kept hw (Kept.new hw 10 _)⟩
theorem TBox.cA{g:Nat}(h:TBox H g A B x y sgA arA enA sgB arB enB ux uy):H.cells ⟨g,0,some 0⟩ 4=some [sgA,.int .i64 A.states,arA,enA]:=h.ar.cells (i:=0) (n:=4) (by simp[twoV])
theorem TBox.cB{g:Nat}(h:TBox H g A B x y sgA arA enA sgB arB enB ux uy):H.cells ⟨g,4,some 0⟩ 4=some [sgB,.int .i64 B.states,arB,enB]:=h.ar.cells (i:=4) (n:=4) (by simp[twoV])
theorem TBox.c0{g:Nat}(h:TBox H g A B x y sgA arA enA sgB arB enB ux uy):H.cell ⟨g,0,some 0⟩=some sgA:=h.ar.cell 0
theorem TBox.c8{g:Nat}(h:TBox H g A B x y sgA arA enA sgB arB enB ux uy):H.cell ⟨g,8,some 0⟩=some ux:=h.ar.cell 8
theorem TBox.c9{g:Nat}(h:TBox H g A B x y sgA arA enA sgB arB enB ux uy):H.cell ⟨g,9,some 0⟩=some uy:=h.ar.cell 9
def TBox.nA{g:Nat}(h:TBox H g A B x y sgA arA enA sgB arB enB ux uy):A6v H (.agg #[sgA,.int .i64 A.states,arA,enA]) A:=⟨sgA,arA,enA,rfl,h.at'.a1,h.at'.a2,h.at'.a3⟩
def TBox.nB{g:Nat}(h:TBox H g A B x y sgA arA enA sgB arB enB ux uy):A6v H (.agg #[sgB,.int .i64 B.states,arB,enB]) B:=⟨sgB,arB,enB,rfl,h.at'.b1,h.at'.b2,h.at'.b3⟩
theorem C8t(h:TwoAt H A B x y sgA arA enA sgB arB enB ux uy):(twoV A B sgA arA enA sgB arB enB ux uy).all isCell=true:=by
 have hi:∀n:Int,isCell (.int .i64 n)=true:=fun _=>rfl;simp[twoV,h.a1.isCell,h.a2.isCell,h.a3.isCell,h.b1.isCell,h.b2.isCell,h.b3.isCell,h.x.isCell,h.y.isCell,hi]
theorem twoNew(h:TwoAt H A B x y sgA arA enA sgB arB enB ux uy):anew Tryz.prog 37 H (.agg (twoV A B sgA arA enA sgB arB enB ux uy).toArray)=some (.pointer (some ⟨H.next,0,some 0⟩),(H.new 10 (twoV A B sgA arA enA sgB arB enB ux uy)).2):=
 A2r (vs:=twoV A B sgA arA enA sgB arB enB ux uy) C63 rfl (C8t h)
theorem two_nets(hw:Wf H)(h:TwoAt H A B x y sgA arA enA sgB arB enB ux uy)(hA:A0f A)(hB:A0f B):
  ∃H',A4a Tryz.prog 43 2 [(0,.agg #[sgA,.int .i64 A.states,arA,enA]),(1,.agg #[sgB,.int .i64 B.states,arB,enB])] H=some (.slice (some ⟨H.next,0,some 0⟩) 2 2,H')∧Kept H H'∧
   Sl H' (.slice (some ⟨H.next,0,some 0⟩) 2 2) 4 [[sgA,.int .i64 A.states,arA,enA],[sgB,.int .i64 B.states,arB,enB]]∧∀r∈[[sgA,.int .i64 A.states,arA,enA],[sgB,.int .i64 B.states,arB,enB]],NetRow H' r:=by
 have k:=Kept.new hw 4 [sgA,.int .i64 A.states,arA,enA,sgB,.int .i64 B.states,arB,enB];refine⟨(H.new 4 [sgA,.int .i64 A.states,arA,enA,sgB,.int .i64 B.states,arB,enB]).2,?_,k,(Buf.fresh (H:=H) (s:=4) (xs:=[[sgA,.int .i64 A.states,arA,enA],[sgB,.int .i64 B.states,arB,enB]]) hw (by
  intro x hx;simp only[List.mem_cons,List.not_mem_nil,or_false]at hx;rcases hx with rfl|rfl<;>rfl) (by simp) 2 rfl).toSl,fun r hr=>?_⟩
 ·unfold A4a
  have va:∀xs:Array Value,A6a (.agg xs)=xs.toList:=fun _=>rfl;have hi:∀n:Int,isCell (.int .i64 n)=true:=fun _=>rfl;have hn:(H.new 4 [sgA,.int .i64 A.states,arA,enA,sgB,.int .i64 B.states,arB,enB]).1=⟨H.next,0,some 0⟩:=rfl;simp only[Tryz.underlying43,A2p,A14,Option.bind_some,va];simp[repl,A3w,va,h.a1.isCell,h.a2.isCell,h.a3.isCell,h.b1.isCell,h.b2.isCell,h.b3.isCell,hi,setCells,A0c,hn]
 ·simp only[List.mem_cons,List.not_mem_nil,or_false]at hr
  have h':=h.kept hw k;rcases hr with rfl|rfl
  ·exact⟨A,sgA,arA,enA,rfl,h'.a1,h'.a2,h'.a3,hA⟩
  ·exact⟨B,sgB,arB,enB,rfl,h'.b1,h'.b2,h'.b3,hB⟩
end
theorem ten{c:List Value}(h:c.length=10):∃a b x y z a' b' x' y' z',c=[a,b,x,y,z,a',b',x',y',z']:=by
 match c,h with
 | [a,b,x,y,z,a',b',x',y',z'],_=>exact⟨a,b,x,y,z,a',b',x',y',z',rfl⟩
theorem two_in2{K:Type}{H:AH}{f:Nat}{v:Value}{d:DataW K}(h:RD Tryz.prog H f 37 (A6a v) d)(hb:Rows.uptoBulk d≤1048576):
  ∃(A B:NetD) (x y:List ByteArray) (sgA arA enA sgB arB enB ux uy:Value),v=.agg (twoV A B sgA arA enA sgB arB enB ux uy).toArray∧TwoAt H A B x y sgA arA enA sgB arB enB ux uy∧A0f A∧A0f B∧(x.length≤1048576∧∀z∈x,z.size≤1048576)∧y.length≤1048576∧∀z∈y,z.size≤1048576:=by
 obtain⟨f',ds,rfl,h1,h2,h3⟩:=RD.struct Tryz.underlying37 h;rw[cells_37]at h1;obtain⟨c0,c1,c2,c3,c4,c5,c6,c7,c8,c9,hv⟩:=ten h1;rw[hv]at h3;have h2':ds.length=4:=h2;obtain⟨d0,e0⟩:=A7j h2' (i:=0) (by omega);obtain⟨d1,e1⟩:=A7j h2' (i:=1) (by omega);obtain⟨d2,e2⟩:=A7j h2' (i:=2) (by omega);obtain⟨d3,e3⟩:=A7j h2' (i:=3) (by omega);have g0:=h3 0 _ _ rfl e0;have g1:=h3 1 _ _ rfl e1;have g2:=h3 2 _ _ rfl e2;have g3:=h3 3 _ _ rfl e3;simp only[C3m,C5j,List.drop_zero,List.drop_succ_cons,List.take_succ_cons,List.take_zero,List.getElem_toArray,List.getElem_cons_zero,List.getElem_cons_succ]at g0 g1 g2 g3;have m0:=A8t (List.mem_of_getElem? e0);have m1:=A8t (List.mem_of_getElem? e1);have m2:=A8t (List.mem_of_getElem? e2);have m3:=A8t (List.mem_of_getElem? e3);simp only[Rows.uptoBulk]at hb;obtain⟨A,⟨nA⟩,sA,_⟩:=net_in (v:=.agg #[c0,c1,c2,c3]) g0 (by omega);obtain⟨B,⟨nB⟩,sB,_⟩:=net_in (v:=.agg #[c4,c5,c6,c7]) g1 (by omega);obtain⟨ux,x,qx,sx',bx⟩:=C3e g2;obtain⟨uy,y,qy,sy',by'⟩:=C3e g3;simp only[List.cons.injEq,and_true]at qx qy;subst qx qy;obtain⟨sgA,arA,enA,eA,a1,a2,a3⟩:=nA;obtain⟨sgB,arB,enB,eB,b1,b2,b3⟩:=nB;simp only[Value.agg.injEq,Array.mk.injEq,List.cons.injEq,and_true]at eA eB;obtain⟨rfl,rfl,rfl,rfl⟩:=eA;obtain⟨rfl,rfl,rfl,rfl⟩:=eB;exact⟨A,B,x,y,_,_,_,_,_,_,_,_,agg_of hv,⟨a1,a2,a3,b1,b2,b3,sx',sy'⟩,sA,sB,⟨by omega,fun z hz=>by have:=B1i hz;omega⟩,by omega,fun z hz=>by have:=B1i hz;omega⟩
theorem one_jag{H:AH}{u:Value}{x:List ByteArray}(hu:Sl H u 1 (x.map A6b))(hw:Wf H):JagR (H.new 1 [u]).2 (.slice (some ⟨H.next,0,some 0⟩) 1 1) 1 ([x].map fun w=>w.map A6b) [u]:=by
 have k:=Kept.new hw 1 [u];refine⟨(Buf.fresh (H:=H) (s:=1) (xs:=[[u]]) hw (by intro x hx;rw[List.mem_singleton.1 hx];rfl) (by simp) 1 rfl).toSl,rfl,fun i w' r h1 h2=>?_⟩
 match i with
 | 0=>
  simp only[List.map_cons,List.map_nil,List.getElem?_cons_zero,Option.some.injEq]at h1 h2;subst h1 h2;exact hu.grow (k.grow hw)
 | i+1=>simp at h1
theorem C1x{H:AH}{u:Value}(hu:isCell u=true):A4a Tryz.prog 30 1 [(0,u)] H=some (.slice (some ⟨H.next,0,some 0⟩) 1 1,(H.new 1 [u]).2):=by
 have hbs:=B81 (H:=H) (x:=u) (by rw[A7a hu];rfl) (by rw[A7a hu];simp[hu]);rw[A7a hu]at hbs;exact hbs
theorem B2u{H:AH}{v:Value}(hv:isCell v=true):anew Tryz.prog 52 H (.agg #[v])=some (.pointer (some ⟨H.next,0,some 0⟩),(H.new 1 [v]).2):=A2r (vs:=[v]) C7d rfl (by simp[hv])
theorem C34{H:AH}{v:Value}{p:Addr}(hv:isCell v=true):A7d Tryz.prog 52 H (.agg #[v]) (.pointer (some p))=H.write p [v]:=A9s (vs:=[v]) C7d rfl (by simp[hv])
theorem sideOver{H:AH}{a b:Value}:(H.new 1 [a]).2.write ⟨H.next,0,some 0⟩ [b]=some (H.new 1 [b]).2:=A3l rfl
theorem D1d{v:Value}(hv:isCell v=true):A9n Tryz.prog 52 [(0,v)]=some (.agg #[v]):=bld_52 hv
def B1n(f:GE→Int×Int)(e:GE):GE:=(e.1,(f e).1,(f e).2,e.2.2.2)
def A5q(f:GE→Int×Int)(E:List (List GE)):List (List GE):=E.map fun r=>r.map (B1n f)
theorem C72(f:GE→Int×Int)(E:List (List GE)):(A5q f E).length=E.length:=by unfold A5q;rw[List.length_map]
theorem C60{f:GE→Int×Int}{E:List (List GE)}{n:Nat}(h:∀r∈E,∀e∈r,e.1<n):∀r∈A5q f E,∀e∈r,e.1<n:=by
 intro r hr e he;obtain⟨r0,h1,rfl⟩:=List.mem_map.1 hr;obtain⟨e0,h2,rfl⟩:=List.mem_map.1 he;exact h r0 h1 e0 h2
theorem turn_ok{f:GE→Int×Int}{E:List (List GE)}{n:Nat}{m:Int}(hf:∀e:GE,e.2.1<m→e.2.2.1<m→(f e).1<m∧(f e).2<m)(h:∀r∈E,∀e∈r,e.1<n∧e.2.1<m∧e.2.2.1<m∧e.2.2.2=0):∀r∈A5q f E,∀e∈r,e.1<n∧e.2.1<m∧e.2.2.1<m∧e.2.2.2=0:=by
 intro r hr e he;obtain⟨r0,h1,rfl⟩:=List.mem_map.1 hr;obtain⟨e0,h2,rfl⟩:=List.mem_map.1 he;obtain⟨q1,q2,q3,q4⟩:=h r0 h1 e0 h2;obtain⟨p1,p2⟩:=hf e0 q2 q3;exact⟨q1,p1,p2,q4⟩
theorem turn_sum(f:GE→Int×Int)(E:List (List GE)):((A5q f E).map List.length).sum=(E.map List.length).sum:=by
 unfold A5q;rw[List.map_map]
 congr 1
 exact List.map_congr_left fun r _=>by simp
theorem turn_row{f:GE→Int×Int}{E:List (List GE)}{n k:Nat}(h:∀r∈E,r.length≤k∧∀e∈r,e.1<n):∀r∈A5q f E,r.length≤k∧∀e∈r,e.1<n:=by
 intro r hr;refine⟨?_,C60 (fun r hr=>(h r hr).2) r hr⟩;obtain⟨r0,h1,rfl⟩:=List.mem_map.1 hr;rw[List.length_map];exact(h r0 h1).1
theorem set_mid{α:Type}(A C:List α)(x y:α):(A++x :: C).set A.length y=A++y :: C:=by
 rw[List.set_append_right _ _ (Nat.le_refl _),Nat.sub_self];rfl
theorem C95{α:Type}(A C:List α)(x:α):(A++x :: C)[A.length]?=some x:=by
 rw[List.getElem?_append_right (Nat.le_refl _),Nat.sub_self];rfl
theorem B0f{α:Type}{n i:Nat}(h:i<n)(x:α):List.replicate (n-i) x=x :: List.replicate (n-(i+1)) x:=by
 rw[show n-i=(n-(i+1))+1 by omega];rfl
theorem C4w{H:AH}{Y:Nat→Prop}{g2 n fid:Nat}{sigma:List ByteArray}{E:List (List GE)}{ends costs:List Int}(f:GE→Int×Int)(h2:GrX H Y g2 sigma (A8b E) ends costs)
  (hp:∀{H:AH} (e:GE),Wf H→Sh.Call Tryz.prog (knows 7) fid [.agg (A9a e).toArray] H (fun r H'=>Kept H H'∧r=.tuple #[.int .i64 (f e).1,.int .i64 (f e).2]))
  (hE:E.length=n) (he2:ends.length=n) (hc2:costs.length=n) (hn1:1≤n) (hn:n≤3000) (hsl:sigma.length≤1048576) (hto:∀r∈E,r.length≤60000∧∀e∈r,e.1<n) (hw:Wf H):
  Sh.Call Tryz.prog (knows 7) 39 [.agg #[.func (.func fid) #[] #[]],.pointer (some ⟨g2,0,some 0⟩)] H (fun r H'=>Kept H H'∧∃g,∃X:Nat→Prop,r=.pointer (some ⟨g,0,some 0⟩)∧GrX H' X g sigma (A8b (A5q f E)) ends costs):=by
 refine A5a rfl Tryz.func39 rfl (Nat.le_of_ble_eq_true rfl) ?_;have hres:Tryz.f39.results.toList=[.tmp 4]:=rfl;have hc:isCell (Value.func (.func fid) #[] #[])=true:=rfl;have k1:=Kept.new hw 1 [Value.func (.func fid) #[] #[]];have cs:(H.new 1 [Value.func (.func fid) #[] #[]]).2.cells ⟨H.next,0,some 0⟩ 1=some [Value.func (.func fid) #[] #[]]:=(Sh.Obj.new (H:=H) 1 _).cells (i:=0) (n:=1) (by simp);have cs1:(H.new 1 [Value.func (.func fid) #[] #[]]).2.cell ⟨H.next,0,some 0⟩=some (Value.func (.func fid) #[] #[]):=A9h _ _ _;have h4:=(C24 h2 hw).kept hw k1;have hy1:∀y,Y y∧y<H.next→y<(H.new 1 [Value.func (.func fid) #[] #[]]).2.next:=fun y hy=>Nat.lt_of_lt_of_le hy.2 k1.next;simp only[↓Sh.dn,sx,B2u hc];generalize H.next=gs at cs cs1 h4 hy1 ⊢;generalize (H.new 1 [Value.func (.func fid) #[] #[]]).2=H1 at cs cs1 k1 h4 hy1 ⊢;obtain⟨Z,hZ⟩:∃Z:Nat→Prop,(fun y=>H1.next≤y)=Z:=⟨_,rfl⟩
 have hZi:∀{y},Z y↔H1.next≤y:=fun{y}=>by rw[←hZ]
 obtain⟨sv,av,ev,cv,vals,hst⟩:=GrX.steady (X:=Z) h4 k1.wf fun y hy h=>by
  have:=hy1 y hy;rw[hZi]at h;omega
 have hR0:=hst H1 (Chg.refl k1.wf);have c0:=hR0.arr.cell 0;have c1:=hR0.arr.cell 1;have hlen:∀{H'},Chg Z H1 H'→∀H'',A3a Tryz.prog .len [101] [av] H''=some (.int .i64 (n:Int),H''):=fun hc H''=>by
  rw[(hst _ hc).jag.sl.len Tryz.underlying101,List.length_map,(hst _ hc).jag.len];unfold A8b;rw[List.length_map,hE]
 have hlen1:=hlen (Chg.refl k1.wf) H1;have qv0:=hR0.sg.veq;obtain⟨r3,H3,hd3,hk3,g,rfl,hG3⟩:=A42 (n:=n) hR0.sg hsl (by omega) k1.wf;have hc3:Chg Z H1 H3:=hk3.chg (X:=Z);have c13:=(hst H3 hc3).arr.cell 1;have hlen3:=hlen hc3 H3;have hX3:GrX H3 Z g sigma (List.replicate n []) (List.replicate n 0) (List.replicate n 0):=(hG3.own hk3.wf).mono fun y hy=>hZi.2 hy.1;have hNZ:∀{H'},Chg Z H1 H'→∀y,Z y∨H'.next≤y→Z y:=fun hc y hy=>by
  rcases hy with hy|hy
  ·exact hy
  ·exact hZi.2 (Nat.le_trans hc.next hy)
 have hpg:∀{H'},Chg Z H1 H'→PG H' g2 n 60000 E ends sv av ev cv vals sigma costs:=fun hc=>⟨hst _ hc,hE,he2,hn1,Nat.le_trans hn (by decide),fun s r hr=>hto r (List.mem_of_getElem? hr)⟩
 have hcs:∀{H'},Chg Z H1 H'→H'.cells ⟨gs,0,some 0⟩ 1=some [Value.func (.func fid) #[] #[]]∧H'.cell ⟨gs,0,some 0⟩=some (Value.func (.func fid) #[] #[]):=fun{H'} hc=>by
  have hk:Kept H1 H':=(Kept.refl k1.wf).then (Nat.le_refl _) (hc.weak fun y hy=>hZi.1 hy);exact⟨A8l (hk.grow k1.wf) cs,A2b (hk.grow k1.wf) cs1⟩
 refine(A7c (by kernel_rfl)).2 ?_;simp only[↓Sh.dn,sx,Nat.reduceEqDiff,c0,c1,hlen1];refine⟨_,_,hd3,?_⟩;simp only[sx,c13,hlen3];refine A0d n 27 (List.range' 27 60++[6,7,9,10,11]) (fun i F H'=>Chg Z H1 H'∧GrX H' Z g sigma (A8b (A5q f (E.take i))++List.replicate (n-i) []) (ends.take i++List.replicate (n-i) 0) (costs.take i++List.replicate (n-i) 0)) (by simp only[sx]) ⟨hc3,by simpa [A8b,A5q] using hX3⟩ ?_ ?_
 ·rintro i F H' hi hF f27 ⟨hc,hG⟩ k
  have f1:=hF 1 rfl;have f2:=hF 2 rfl;have f5:=hF 5 rfl;have f25:=hF 25 rfl;have f26:=hF 26 rfl;simp only[sx,Nat.reduceEqDiff]at f1 f2 f5 f25 f26;have hiE:i<E.length:=by omega
  have hr:E[i]?=some E[i]:=List.getElem?_eq_getElem hiE;obtain⟨hrl',hrt⟩:=hto E[i] (List.getElem_mem hiE);have htE:E.take (i+1)=E.take i++[E[i]]:=by rw[List.take_add_one,hr];rfl
  generalize E[i]=r at hr hrl' hrt htE;obtain⟨D,hD⟩:∃D,A8b (A5q f (E.take i))=D:=⟨_,rfl⟩
  have hDl:D.length=i:=by rw[←hD];simp[A8b,A5q];omega
  rw[hD,B0f hi,B0f hi]at hG;have hel':(ends.take i).length=i:=by rw[List.length_take];omega
  have hcl':(costs.take i).length=i:=by rw[List.length_take];omega
  obtain⟨pr,wr,hiar,hcr,hsr,hlr⟩:=PG.row (hpg hc) hr;have hvl:i<vals.length:=by rw[hR0.jag.len];unfold A8b;rw[List.length_map];omega
  have key:∀{Hx wx},Chg Z H1 Hx→Hx.cell pr=some wx→wx=vals[i]:=by
   intro Hx wx hcx hx;obtain⟨p',h1,h2⟩:=Sl.elem (s:=1) Tryz.underlying101 A9p (hst Hx hcx).jag.sl (i:=i) (u:=vals[i]) (by rw[List.getElem?_map,List.getElem?_eq_getElem hvl];rfl);rw[hiar]at h1;have e1:=Option.some.inj h1;injection e1 with e1;injection e1 with e1
   subst e1;rw[hx]at h2;exact Option.some.inj h2
  simp only[↓Sh.dn,sx,Nat.reduceEqDiff,f25,f26,f27,A2a,hi,decide_true,hiar,hcr,hlr];refine A0d r.length 34 (List.range' 34 21++[9,10,11]) (fun q F'' H''=>Chg Z H1 H''∧GrX H'' Z g sigma (D++(((r.take q).map (B1n f)).map A9a) :: List.replicate (n-(i+1)) []) (ends.take i++0 :: List.replicate (n-(i+1)) 0) (costs.take i++0 :: List.replicate (n-(i+1)) 0)) (by simp only[sx]) ⟨hc,by simpa using hG⟩ ?_ ?_
  ·rintro q F'' H'' hq hF'' f34 ⟨hc2,hG2⟩ k2
   have g2':=hF'' 2 rfl;have g5:=hF'' 5 rfl;have g6:=hF'' 6 rfl;have g32:=hF'' 32 rfl;have g33:=hF'' 33 rfl;simp only[sx,Nat.reduceEqDiff,f2,f5]at g2' g5 g6 g32 g33;obtain⟨pr2,wr2,hia2,hcr2,hsr2,hlr2⟩:=PG.row (hpg hc2) hr;rw[hiar]at hia2;have e1:=Option.some.inj hia2;injection e1 with e1;injection e1 with e1
   subst e1;have hwr:wr2=wr:=(key hc2 hcr2).trans (key hc hcr).symm;subst hwr;obtain⟨pe,hiae,hce⟩:=PG.edge hsr2 hq;have hrq:r[q]∈r:=List.getElem_mem hq;have htk:r.take (q+1)=r.take q++[r[q]]:=by rw[List.take_add_one,List.getElem?_eq_getElem hq];rfl
   generalize r[q]=e at hce hrq htk;have kn:=Kept.new hc2.wf 4 (A9a e);have hc3:=hc2.trans (kn.chg (X:=Z));have hG3:=hG2.kept hc2.wf kn;have hga:Sh.Obj (H''.new 4 (A9a e)).2 H''.next 4 (A9a e) true:=Sh.Obj.new (H:=H'') 4 (A9a e);obtain⟨rr,H5,hd5,hk5,rfl⟩:=hp e hc3.wf;have hc5:=hc3.trans (hk5.chg (X:=Z));have hG5:=hG3.kept hc3.wf hk5;have hga5:H5.cell ⟨H''.next,0,some 0⟩=some (.int .i64 (e.1:Int))∧H5.cell ⟨H''.next,3,some 0⟩=some (.int .i64 e.2.2.2):=⟨A2b (hk5.grow hc3.wf) ge0,A2b (hk5.grow hc3.wf) ge3⟩
   have hrow:(D++(((r.take q).map (B1n f)).map A9a) :: List.replicate (n-(i+1)) [])[i]?=some (((r.take q).map (B1n f)).map A9a):=by
    have:=C95 D (List.replicate (n-(i+1)) []) (((r.take q).map (B1n f)).map A9a)
    rwa [hDl]at this
   obtain⟨rr,H6,hd6,hc6,hG6⟩:=C5l (x0:=(e.1:Int)) (x1:=(f e).1) (x2:=(f e).2) (x3:=e.2.2.2) hG5 hrow (by rw[List.length_map,List.length_map,List.length_take];omega) hc5.wf;have hcs3:=hcs hc3;simp only[↓Sh.dn,sx,Nat.reduceEqDiff,f34,g2',g5,g6,g32,g33,hiae,hce,A2a,hq,decide_true,A8q,A9k,A9q,C29,hcs3.2];refine⟨_,_,hd5,?_⟩;simp only[sx,hga5.1,hga5.2];refine⟨_,_,hd6,?_⟩;simp only[A1a hq (Nat.le_trans hrl' (by decide))];refine k2 _ _ (by repeat (first|refine Same.put ?_ rfl|exact Same.rfl' _)) (by simp only[sx]) ⟨hc5.trans hc6,?_⟩;have:=hG6.mono (hNZ hc5);have hs:=set_mid D (List.replicate (n-(i+1)) []) (((r.take q).map (B1n f)).map A9a) ((((r.take q).map (B1n f)).map A9a)++[[.int .i64 (e.1:Int),.int .i64 (f e).1,.int .i64 (f e).2,.int .i64 e.2.2.2]]);rw[hDl]at hs;rw[hs]at this;rw[htk]
   simpa [A9a,B1n] using this
  ·rintro F'' H'' hF'' f34 ⟨hc2,hG2⟩
   rw[List.take_length]at hG2;have g1:=hF'' 1 rfl;have g5:=hF'' 5 rfl;have g6:=hF'' 6 rfl;have g27:=hF'' 27 rfl;have g33:=hF'' 33 rfl;simp only[sx,Nat.reduceEqDiff,f1,f5,f27]at g1 g5 g6 g27 g33;have hi2:i<ends.length:=by omega
   have hi3:i<costs.length:=by omega
   have hR2:=hst H'' hc2;obtain⟨evg,cvg,p1,p2,H6,H7,z1,z2,z3,zq,i1,i2,s1,s2,ch1,ch2,hG3⟩:=GrX.setEC (s:=i) hG2 hc2.wf (by simp[hel']) (by simp[hcl']) ends[i] costs[i];have hR3:=hst H6 (hc2.trans ch1);have y1:=hR2.arr.cell 2;have y2:=hR2.arr.cell 3;have y3:=hR3.arr.cell 3;obtain⟨pa,ia,ca⟩:=Sl.elem (s:=1) Tryz.underlying71 A1c hR2.en (i:=i) (u:=.int .i64 ends[i]) (by rw[List.getElem?_map,List.getElem?_eq_getElem hi2];rfl);obtain⟨pb,ib,cb⟩:=Sl.elem (s:=1) Tryz.underlying71 A1c hR2.co (i:=i) (u:=.int .i64 costs[i]) (by rw[List.getElem?_map,List.getElem?_eq_getElem hi3];rfl);obtain⟨pb',ib',cb'⟩:=Sl.elem (s:=1) Tryz.underlying71 A1c hR3.co (i:=i) (u:=.int .i64 costs[i]) (by rw[List.getElem?_map,List.getElem?_eq_getElem hi3];rfl);rw[ib]at ib';have e1:=Option.some.inj ib';injection e1 with e1;injection e1 with e1
   subst e1;have qv:=hR2.co.veq;simp only[↓Sh.dn,sx,Nat.reduceBEq,f34,g33,A2a,Nat.lt_irrefl,decide_false];refine A8n (fl:=[(0,[]),(1,[]),(2,[]),(3,[]),(4,[]),(5,[]),(6,[]),(7,[]),(8,[]),(9,[]),(10,[]),(11,[]),(12,[]),(13,[]),(14,[]),(15,[]),(16,[]),(17,[]),(18,[]),(19,[]),(20,[]),(21,[]),(22,[]),(23,[]),(24,[]),(25,[]),(26,[]),(27,[])]) (by kernel_rfl) (by kernel_rfl) (by kernel_rfl) ?_;simp only[↓Sh.dn,sx,Nat.reduceEqDiff,wpr,again,g1,g5,g6,g27,z1,z2,i1,i2,s1,s2,y1,y2,ia,ca,ib,cb,A1a hi (Nat.le_trans hn (by decide))];refine k _ _ ?_ (by simp only[sx]) ⟨hc2.trans ch2,?_⟩
   ·repeat refine Same.put ?_ rfl
    exact Same.trans (by repeat (first|refine Same.put ?_ rfl|exact Same.rfl' _)) (hF''.sub rfl)
   ·have t1:ends.take (i+1)=ends.take i++[ends[i]]:=by rw[List.take_add_one,List.getElem?_eq_getElem hi2];rfl
    have t2:costs.take (i+1)=costs.take i++[costs[i]]:=by rw[List.take_add_one,List.getElem?_eq_getElem hi3];rfl
    have s3:=set_mid (ends.take i) (List.replicate (n-(i+1)) 0) 0 ends[i];rw[hel']at s3;have s4:=set_mid (costs.take i) (List.replicate (n-(i+1)) 0) 0 costs[i];rw[hcl']at s4;rw[s3,s4]at hG3;rw[t1,t2,htE];have e2:A8b (A5q f (E.take i++[r]))=D++[(r.map (B1n f)).map A9a]:=by rw[←hD];simp[A8b,A5q]
    rw[e2,List.append_assoc,List.append_assoc,List.append_assoc];exact hG3
 ·rintro F H' hF f27 ⟨hc,hG⟩
  have f5:=hF 5 rfl;have f26:=hF 26 rfl;simp only[sx,Nat.reduceEqDiff]at f5 f26;rw[Nat.sub_self,List.take_of_length_le (by omega),List.take_of_length_le (by omega),List.take_of_length_le (by omega)]at hG;simp only[List.replicate_zero,List.append_nil]at hG;simp only[↓Sh.dn,sx,Nat.reduceEqDiff,f5,f26,f27,A2a,Nat.lt_irrefl,decide_false,hres];exact⟨k1.then k1.next (hc.weak fun y hy=>hZi.1 hy),g,rfl,Z,hG⟩
def A9o(n:Nat)(w:List Nat)(i:Nat)(e:GE):List GE:=
 if e.2.1<0 then [(i*n+e.1,e.2.2.1,e.2.2.1,e.2.2.2)] else if (w[i]?).map (fun k:Nat=>(k:Int))=some e.2.1 then [((i+1)*n+e.1,e.2.2.1,e.2.2.1,e.2.2.2)] else []
def A5n(n:Nat)(w:List Nat)(i:Nat)(r:List GE):List GE:=r.flatMap (A9o n w i)
def C0d(n:Nat)(w:List Nat)(E:List (List GE))(k:Nat):List GE:=A5n n w (k/n) (E.getD (k % n) [])
def imgP(n:Nat)(w:List Nat)(E:List (List GE))(k:Nat):List (List GE):=(List.range k).map (C0d n w E)
def imgE(n:Nat)(w:List Nat)(E:List (List GE)):List (List GE):=imgP n w E ((w.length+1)*n)
theorem C6k(n:Nat)(w:List Nat)(E:List (List GE))(k:Nat):(imgP n w E k).length=k:=by simp[imgP]
theorem B28(n:Nat)(w:List Nat)(E:List (List GE))(k:Nat):imgP n w E (k+1)=imgP n w E k++[C0d n w E k]:=by unfold imgP;rw[List.range_succ,List.map_append];rfl
theorem B2f(n:Nat)(w:List Nat)(i:Nat)(r:List GE)(e:GE):A5n n w i (r++[e])=A5n n w i r++A9o n w i e:=by simp[A5n]
theorem B6h(n:Nat)(w:List Nat)(i:Nat)(r:List GE):(A5n n w i r).length≤r.length:=by
 have h1:∀e,(A9o n w i e).length≤1:=fun e=>by
  unfold A9o;split
  ·simp
  ·split<;>simp
 unfold A5n
 induction r with
 | nil=>simp
 | cons e r ih=>
  have:=h1 e;rw[List.flatMap_cons,List.length_append,List.length_cons];omega
theorem C5v{H:AH}{Y:Nat→Prop}{g2 n:Nat}{sigma:List ByteArray}{E:List (List GE)}{ends costs:List Int}{wv:Value}{w:List Nat}(h2:GrX H Y g2 sigma (A8b E) ends costs)(hwv:Sl H wv 1 (w.map natC))
  (hE:E.length=n) (he2:ends.length=n) (hc2:costs.length=n) (hn1:1≤n) (hn:n≤3000) (hN:(w.length+1)*n≤100000) (hsl:sigma.length≤1048576) (hto:∀r∈E,r.length≤60000∧∀e∈r,e.1<n) (hw:Wf H):
  Sh.Call Tryz.prog (knows 7) 80 [.pointer (some ⟨g2,0,some 0⟩),wv] H (fun r H'=>Kept H H'∧∃g,r=.pointer (some ⟨g,0,some 0⟩)∧∃X:Nat→Prop,GrX H' X g sigma (A8b (imgE n w E)) (List.replicate (w.length*n) 0++ends) (List.replicate (w.length*n) 0++costs)):=by
 refine A5a rfl Tryz.func80 rfl (Nat.le_of_ble_eq_true rfl) ?_;have hres:Tryz.f80.results.toList=[.tmp 4]:=rfl;have h4:=C24 h2 hw;obtain⟨Z,hZ⟩:∃Z:Nat→Prop,(fun y=>H.next≤y)=Z:=⟨_,rfl⟩
 have hZi:∀{y},Z y↔H.next≤y:=fun{y}=>by rw[←hZ]
 obtain⟨sv,av,ev,cv,vals,hst⟩:=GrX.steady (X:=Z) h4 hw fun y hy h=>by
  have:=hy.2;rw[hZi]at h;omega
 have hkz:∀{H'},Chg Z H H'→Kept H H':=fun hc=>(Kept.refl hw).then (Nat.le_refl _) (hc.weak fun y hy=>hZi.1 hy);have hR0:=hst H (Chg.refl hw);have c0:=hR0.arr.cell 0;have c1:=hR0.arr.cell 1;have hlen:∀H'',A3a Tryz.prog .len [101] [av] H''=some (.int .i64 (n:Int),H''):=fun H''=>by
  rw[hR0.jag.sl.len Tryz.underlying101,List.length_map,hR0.jag.len];unfold A8b;rw[List.length_map,hE]
 have hlenw:∀H'',A3a Tryz.prog .len [71] [wv] H''=some (.int .i64 (w.length:Int),H''):=fun H''=>by
  rw[hwv.len Tryz.underlying71,List.length_map]
 obtain⟨N,hNe⟩:∃N,(w.length+1)*n=N:=⟨_,rfl⟩
 rw[hNe]at hN;have hwl:w.length≤100000:=by
  have:(w.length+1)*1≤(w.length+1)*n:=Nat.mul_le_mul_left _ hn1;omega
 have hin:∀{i:Nat},i≤w.length→i*n+n≤N:=fun{i} hi=>by
  rw[←hNe,←Nat.succ_mul];exact Nat.mul_le_mul_right n (by omega)
 obtain⟨r3,H3,hd3,hk3,g,rfl,hG3⟩:=A42 (n:=N) hR0.sg hsl (by omega) hw;have hc3:Chg Z H H3:=hk3.chg (X:=Z);have c13:=(hst H3 hc3).arr.cell 1;have hX3:GrX H3 Z g sigma (List.replicate N []) (List.replicate N 0) (List.replicate N 0):=(hG3.own hk3.wf).mono fun y hy=>hZi.2 hy.1;have hNZ:∀{H'},Chg Z H H'→∀y,Z y∨H'.next≤y→Z y:=fun hc y hy=>by
  rcases hy with hy|hy
  ·exact hy
  ·exact hZi.2 (Nat.le_trans hc.next hy)
 have hpg:∀{H'},Chg Z H H'→PG H' g2 n 60000 E ends sv av ev cv vals sigma costs:=fun hc=>⟨hst _ hc,hE,he2,hn1,Nat.le_trans hn (by decide),fun s r hr=>hto r (List.mem_of_getElem? hr)⟩
 have wa:IntKind.wrap .i64 ((w.length:Int)+1)=((w.length+1:Nat):Int):=by rw[wrap64 (by omega) (by omega)];omega
 have wm:IntKind.wrap .i64 (((w.length+1:Nat):Int)*(n:Int))=(N:Int):=by rw[←Int.natCast_mul,hNe,wrap64 (by omega) (by omega)]
 simp only[↓Sh.dn,sx,reduceCtorEq,Nat.reduceEqDiff,c0,c1,hlen,hlenw,wa,wm];refine⟨_,_,hd3,?_⟩;refine A0d (w.length+1) 31 (List.range' 31 79++[7,8,9,11]) (fun i F H'=>Chg Z H H'∧GrX H' Z g sigma (A8b (imgP n w E (i*n))++List.replicate (N-i*n) []) (List.replicate N 0) (List.replicate N 0)) (by simp only[sx]) ⟨hc3,by simpa [A8b,imgP] using hX3⟩ ?_ ?_
 ·rintro i F H' hi hF f31 ⟨hc,hG⟩ k
  have f0:=hF 0 rfl;have f1:=hF 1 rfl;have f5:=hF 5 rfl;have f6:=hF 6 rfl;have f30:=hF 30 rfl;simp only[sx,reduceCtorEq,Nat.reduceEqDiff]at f0 f1 f5 f6 f30;have hi':i≤w.length:=by omega
  have hiN:=hin hi';have c1':=(hst H' hc).arr.cell 1;simp only[↓Sh.dn,sx,reduceCtorEq,Nat.reduceEqDiff,f0,f30,f31,A2a,hi,decide_true,c1',hlen];refine A0d n 39 (List.range' 39 70++[8,9,11]) (fun s F H'=>Chg Z H H'∧GrX H' Z g sigma (A8b (imgP n w E (i*n+s))++List.replicate (N-(i*n+s)) []) (List.replicate N 0) (List.replicate N 0)) (by simp only[sx]) ⟨hc,by simpa using hG⟩ ?_ ?_
  ·rintro s F2 H2 hs hF2 g39 ⟨hc2,hG2⟩ k2
   have g0:=hF2 0 rfl;have g1:=hF2 1 rfl;have g5:=hF2 5 rfl;have g6:=hF2 6 rfl;have g7:=hF2 7 rfl;have g31:=hF2 31 rfl;have g37:=hF2 37 rfl;have g38:=hF2 38 rfl;simp only[sx,reduceCtorEq,Nat.reduceEqDiff,f0,f1,f5,f6,f31]at g0 g1 g5 g6 g7 g31 g37 g38;have hsE:s<E.length:=by omega
   have hr:E[s]?=some E[s]:=List.getElem?_eq_getElem hsE;obtain⟨hrl',hrt⟩:=hto E[s] (List.getElem_mem hsE);have hat:C0d n w E (i*n+s)=A5n n w i E[s]:=by
    unfold C0d;have e1:(i*n+s)/n=i:=by rw[Nat.mul_comm,Nat.mul_add_div (by omega),Nat.div_eq_of_lt hs];omega
    have e2:(i*n+s) % n=s:=by rw[Nat.mul_comm,Nat.mul_add_mod,Nat.mod_eq_of_lt hs]
    rw[e1,e2,List.getD_eq_getElem?_getD,hr];rfl
   generalize E[s]=r at hr hrl' hrt hat;obtain⟨D,hD⟩:∃D,A8b (imgP n w E (i*n+s))=D:=⟨_,rfl⟩
   have hDl:D.length=i*n+s:=by rw[←hD];unfold A8b;rw[List.length_map,C6k]
   rw[hD,B0f (by omega)]at hG2;obtain⟨pr,wr,hiar,hcr,hsr,hlr⟩:=PG.row (hpg hc2) hr;have hvl:s<vals.length:=by rw[hR0.jag.len];unfold A8b;rw[List.length_map];omega
   have key:∀{Hx wx},Chg Z H Hx→Hx.cell pr=some wx→wx=vals[s]:=by
    intro Hx wx hcx hx;obtain⟨p',h1,h2⟩:=Sl.elem (s:=1) Tryz.underlying101 A9p (hst Hx hcx).jag.sl (i:=s) (u:=vals[s]) (by rw[List.getElem?_map,List.getElem?_eq_getElem hvl];rfl);rw[hiar]at h1;have e1:=Option.some.inj h1;injection e1 with e1;injection e1 with e1
    subst e1;rw[hx]at h2;exact Option.some.inj h2
   simp only[↓Sh.dn,sx,Nat.reduceEqDiff,g37,g38,g39,A2a,hs,decide_true,hiar,hcr,hlr];refine A0d r.length 46 (List.range' 46 62++[11]) (fun q F H'=>Chg Z H H'∧GrX H' Z g sigma (D++((A5n n w i (r.take q)).map A9a) :: List.replicate (N-(i*n+s+1)) []) (List.replicate N 0) (List.replicate N 0)) (by simp only[sx]) ⟨hc2,by simpa [A5n] using hG2⟩ ?_ ?_
   ·rintro q F3 H3 hq hF3 v46 ⟨hc3,hG3⟩ k3
    have v0:=hF3 0 rfl;have v1:=hF3 1 rfl;have v5:=hF3 5 rfl;have v6:=hF3 6 rfl;have v7:=hF3 7 rfl;have v8:=hF3 8 rfl;have v44:=hF3 44 rfl;have v45:=hF3 45 rfl;simp only[sx,reduceCtorEq,Nat.reduceEqDiff,g0,g1,g5,g6,g7]at v0 v1 v5 v6 v7 v8 v44 v45;obtain⟨pr2,wr2,hia2,hcr2,hsr2,hlr2⟩:=PG.row (hpg hc3) hr;rw[hiar]at hia2;have e1:=Option.some.inj hia2;injection e1 with e1;injection e1 with e1
    subst e1;have hwr:wr2=wr:=(key hc3 hcr2).trans (key hc2 hcr).symm;subst hwr;obtain⟨pe,hiae,hce⟩:=PG.edge hsr2 hq;have hrq:r[q]∈r:=List.getElem_mem hq;have htk:r.take (q+1)=r.take q++[r[q]]:=by rw[List.take_add_one,List.getElem?_eq_getElem hq];rfl
    generalize r[q]=e at hce hrq htk;have kn:=Kept.new hc3.wf 4 (A9a e);have hc4:=hc3.trans (kn.chg (X:=Z));have hG4:=hG3.kept hc3.wf kn;have het:=hrt e hrq;have hrow:(D++((A5n n w i (r.take q)).map A9a) :: List.replicate (N-(i*n+s+1)) [])[i*n+s]?=some ((A5n n w i (r.take q)).map A9a):=by
     have:=C95 D (List.replicate (N-(i*n+s+1)) []) ((A5n n w i (r.take q)).map A9a)
     rwa [hDl]at this
    have hrll:((A5n n w i (r.take q)).map A9a).length≤17179869183:=by
     rw[List.length_map];have:=B6h n w i (r.take q);rw[List.length_take]at this;omega
    have w1:IntKind.wrap .i64 ((i:Int)*(n:Int))=((i*n:Nat):Int):=by rw[←Int.natCast_mul,wrap64 (by omega) (by omega)]
    have w2:IntKind.wrap .i64 (((i*n:Nat):Int)+(s:Int))=((i*n+s:Nat):Int):=by rw[←Int.natCast_add,wrap64 (by omega) (by omega)]
    have w3:IntKind.wrap .i64 (((i*n:Nat):Int)+(e.1:Int))=((i*n+e.1:Nat):Int):=by rw[←Int.natCast_add,wrap64 (by omega) (by omega)]
    have put:∀x0:Nat,∃rr H5,Does Tryz.prog (knows 7) 63 [.pointer (some ⟨g,0,some 0⟩),.int .i64 ((i*n+s:Nat):Int),.int .i64 (x0:Int),.int .i64 e.2.2.1,.int .i64 e.2.2.1,.int .i64 e.2.2.2] (H3.new 4 (A9a e)).2 rr H5∧(A9o n w i e=[(x0,e.2.2.1,e.2.2.1,e.2.2.2)]→Chg Z H H5∧GrX H5 Z g sigma (D++((A5n n w i (r.take (q+1))).map A9a) :: List.replicate (N-(i*n+s+1)) []) (List.replicate N 0) (List.replicate N 0)):=fun x0=>by
     obtain⟨rr,H5,hd5,hc5,hG5⟩:=C5l (x0:=(x0:Int)) (x1:=e.2.2.1) (x2:=e.2.2.1) (x3:=e.2.2.2) hG4 hrow hrll hc4.wf;refine⟨rr,H5,hd5,fun he=>⟨hc4.trans hc5,?_⟩⟩;have:=hG5.mono (hNZ hc4);have hs':=set_mid D (List.replicate (N-(i*n+s+1)) []) ((A5n n w i (r.take q)).map A9a) ((A5n n w i (r.take q)).map A9a++[[.int .i64 (x0:Int),.int .i64 e.2.2.1,.int .i64 e.2.2.1,.int .i64 e.2.2.2]]);rw[hDl]at hs';rw[hs']at this;rw[htk,B2f,he]
     simpa [A9a] using this
    have skip:A9o n w i e=[]→Chg Z H (H3.new 4 (A9a e)).2∧GrX (H3.new 4 (A9a e)).2 Z g sigma (D++((A5n n w i (r.take (q+1))).map A9a) :: List.replicate (N-(i*n+s+1)) []) (List.replicate N 0) (List.replicate N 0):=fun he=>⟨hc4,by rw[htk,B2f,he,List.append_nil];exact hG4⟩
    simp only[↓Sh.dn,sx,Nat.reduceEqDiff,v46,v44,v45,hiae,hce,A2a,hq,decide_true,A8q,A9k,A9q,ge1];by_cases hneg:e.2.1<0
    ·obtain⟨rr,H5,hd5,h5⟩:=put (i*n+e.1)
     obtain⟨hc5,hG5⟩:=h5 (by unfold A9o;rw[if_pos hneg]);simp only[↓Sh.dn,sx,Nat.reduceEqDiff,hneg,decide_true,v5,v6,v7,v8,ge0,ge2,ge3,w1,w2,w3];refine⟨_,_,hd5,?_⟩;simp only[sx,v46,A1a hq (Nat.le_trans hrl' (by decide))];exact k3 _ _ (by repeat (first|refine Same.put ?_ rfl|exact Same.rfl' _)) (by simp only[sx]) ⟨hc5,hG5⟩
    ·simp only[↓Sh.dn,sx,Nat.reduceEqDiff,hneg,decide_false]
     by_cases hiw:i<w.length
     ·obtain⟨pw,iw,cw⟩:=B2w (P:=Tryz.prog) Tryz.underlying71 A1c (hwv.grow ((hkz hc4).grow hw)) hiw
      have hget:(w[i]?).map (fun k:Nat=>(k:Int))=some (w[i]:Int):=by rw[List.getElem?_eq_getElem hiw];rfl
      by_cases heq:e.2.1=(w[i]:Int)
      ·obtain⟨rr,H5,hd5,h5⟩:=put ((i+1)*n+e.1)
       obtain⟨hc5,hG5⟩:=h5 (by unfold A9o;rw[if_neg hneg,hget,heq,if_pos rfl]);have hiN2:=hin (i:=i+1) (by omega);have w4:IntKind.wrap .i64 ((i:Int)+1)=((i+1:Nat):Int):=by rw[wrap64 (by omega) (by omega)];omega
       have w5:IntKind.wrap .i64 (((i+1:Nat):Int)*(n:Int))=(((i+1)*n:Nat):Int):=by rw[←Int.natCast_mul,wrap64 (by omega) (by omega)]
       have w6:IntKind.wrap .i64 ((((i+1)*n:Nat):Int)+(e.1:Int))=(((i+1)*n+e.1:Nat):Int):=by rw[←Int.natCast_add,wrap64 (by omega) (by omega)]
       simp only[↓Sh.dn,sx,Nat.reduceEqDiff,v1,v5,v6,v7,v8,hlenw,A2a,hiw,decide_true,ge0,ge1,ge2,ge3,iw,cw,heq,w1,w2,w4,w5,w6];refine⟨_,_,hd5,?_⟩;simp only[sx,v46,A1a hq (Nat.le_trans hrl' (by decide))];exact k3 _ _ (by repeat (first|refine Same.put ?_ rfl|exact Same.rfl' _)) (by simp only[sx]) ⟨hc5,hG5⟩
      ·obtain⟨hc5,hG5⟩:=skip (by unfold A9o;rw[if_neg hneg,hget,if_neg (fun h=>heq (Option.some.inj h).symm)])
       simp only[↓Sh.dn,sx,Nat.reduceEqDiff,v1,v7,hlenw,A2a,hiw,decide_true,ge1,iw,cw,heq,decide_false,v46,A1a hq (Nat.le_trans hrl' (by decide))];exact k3 _ _ (by repeat (first|refine Same.put ?_ rfl|exact Same.rfl' _)) (by simp only[sx]) ⟨hc5,hG5⟩
     ·obtain⟨hc5,hG5⟩:=skip (by unfold A9o;rw[if_neg hneg,List.getElem?_eq_none (by omega)];rfl)
      simp only[↓Sh.dn,sx,Nat.reduceEqDiff,v1,v7,hlenw,A2a,hiw,decide_false,v46,A1a hq (Nat.le_trans hrl' (by decide))];exact k3 _ _ (by repeat (first|refine Same.put ?_ rfl|exact Same.rfl' _)) (by simp only[sx]) ⟨hc5,hG5⟩
   ·rintro F3 H3 hF3 v46 ⟨hc3,hG3⟩
    have v39:=hF3 39 rfl;have v45:=hF3 45 rfl;simp only[sx,Nat.reduceEqDiff,g39]at v39 v45;simp only[↓Sh.dn,sx,Nat.reduceBEq,Nat.reduceEqDiff,v39,v45,v46,A2a,Nat.lt_irrefl,decide_false,A1a hs (Nat.le_trans hn (by decide))];refine k2 _ _ ?_ (by simp only[sx]) ⟨hc3,?_⟩
    ·repeat refine Same.put ?_ rfl
     exact Same.trans (by repeat (first|refine Same.put ?_ rfl|exact Same.rfl' _)) (hF3.sub rfl)
    ·rw[List.take_length]at hG3
     rw[←Nat.add_assoc,B28,hat];have:A8b (imgP n w E (i*n+s)++[A5n n w i r])=D++[(A5n n w i r).map A9a]:=by rw[←hD];simp[A8b]
     rw[this,List.append_assoc];exact hG3
  ·rintro F2 H2 hF2 g39 ⟨hc2,hG2⟩
   have g31:=hF2 31 rfl;have g38:=hF2 38 rfl;simp only[sx,Nat.reduceEqDiff,f31]at g31 g38;have wi:IntKind.wrap .i64 ((i:Int)+1)=((i+1:Nat):Int):=by rw[wrap64 (by omega) (by omega)];omega
   simp only[↓Sh.dn,sx,Nat.reduceBEq,Nat.reduceEqDiff,g31,g38,g39,A2a,Nat.lt_irrefl,decide_false,wi];refine k _ _ ?_ (by simp only[sx]) ⟨hc2,?_⟩
   ·repeat refine Same.put ?_ rfl
    exact Same.trans (by repeat (first|refine Same.put ?_ rfl|exact Same.rfl' _)) (hF2.sub rfl)
   ·rw[Nat.succ_mul];exact hG2
 ·rintro F H' hF f31 ⟨hc,hG⟩
  have f0:=hF 0 rfl;have f1:=hF 1 rfl;have f5:=hF 5 rfl;have f6:=hF 6 rfl;have f30:=hF 30 rfl;simp only[sx,reduceCtorEq,Nat.reduceEqDiff]at f0 f1 f5 f6 f30;obtain⟨B,hB⟩:∃B,w.length*n=B:=⟨_,rfl⟩
  have hBN:B+n=N:=by rw[←hB,←hNe,Nat.succ_mul]
  rw[hNe,Nat.sub_self,List.replicate_zero,List.append_nil]at hG;have hGE:A8b (imgP n w E N)=A8b (imgE n w E):=by unfold imgE;rw[hNe]
  rw[hGE]at hG;rw[hB];simp only[↓Sh.dn,sx,Nat.reduceEqDiff,f5,f30,f31,A2a,Nat.lt_irrefl,decide_false];refine A0d n 111 (List.range' 111 40++[12]) (fun s F H'=>Chg Z H H'∧GrX H' Z g sigma (A8b (imgE n w E)) (List.replicate B 0++(ends.take s++List.replicate (n-s) 0)) (List.replicate B 0++(costs.take s++List.replicate (n-s) 0))) (by simp only[sx]) ⟨hc,by simpa [hBN] using hG⟩ ?_ ?_
  ·rintro s F2 H2 hs hF2 g111 ⟨hc2,hG2⟩ k2
   have g0:=hF2 0 rfl;have g1:=hF2 1 rfl;have g5:=hF2 5 rfl;have g6:=hF2 6 rfl;have g110:=hF2 110 rfl;simp only[sx,reduceCtorEq,Nat.reduceEqDiff,f0,f1,f5,f6]at g0 g1 g5 g6 g110;rw[B0f hs]at hG2;have hi2:s<ends.length:=by omega
   have hi3:s<costs.length:=by omega
   have hel':(ends.take s).length=s:=by rw[List.length_take];omega
   have hcl':(costs.take s).length=s:=by rw[List.length_take];omega
   have hR2:=hst H2 hc2;obtain⟨evg,cvg,p1,p2,H6,H7,z1,z2,z3,zq,i1,i2,s1,s2,ch1,ch2,hG3⟩:=GrX.setEC (s:=B+s) hG2 hc2.wf (by simp[hel']) (by simp[hcl']) ends[s] costs[s];have hR3:=hst H6 (hc2.trans ch1);have y1:=hR2.arr.cell 2;have y2:=hR2.arr.cell 3;obtain⟨pa,ia,ca⟩:=Sl.elem (s:=1) Tryz.underlying71 A1c hR2.en (i:=s) (u:=.int .i64 ends[s]) (by rw[List.getElem?_map,List.getElem?_eq_getElem hi2];rfl);obtain⟨pb,ib,cb⟩:=Sl.elem (s:=1) Tryz.underlying71 A1c hR2.co (i:=s) (u:=.int .i64 costs[s]) (by rw[List.getElem?_map,List.getElem?_eq_getElem hi3];rfl);have y3:=hR3.arr.cell 3;obtain⟨pb',ib',cb'⟩:=Sl.elem (s:=1) Tryz.underlying71 A1c hR3.co (i:=s) (u:=.int .i64 costs[s]) (by rw[List.getElem?_map,List.getElem?_eq_getElem hi3];rfl);rw[ib]at ib';have e1:=Option.some.inj ib';injection e1 with e1;injection e1 with e1
   subst e1;have qv:=hR2.co.veq;have w1:IntKind.wrap .i64 ((w.length:Int)*(n:Int))=(B:Int):=by rw[←Int.natCast_mul,hB,wrap64 (by omega) (by omega)]
   have w2:IntKind.wrap .i64 ((B:Int)+(s:Int))=((B+s:Nat):Int):=by rw[←Int.natCast_add,wrap64 (by omega) (by omega)]
   simp only[↓Sh.dn,sx,Nat.reduceEqDiff,g110,g111,A2a,hs,decide_true];refine A8n (fl:=[(0,[]),(1,[]),(2,[]),(3,[]),(4,[]),(5,[]),(6,[]),(7,[]),(8,[]),(9,[]),(10,[]),(11,[]),(12,[]),(13,[]),(14,[]),(15,[]),(16,[]),(17,[]),(18,[]),(19,[]),(20,[]),(21,[]),(22,[]),(23,[]),(24,[]),(25,[]),(26,[]),(27,[]),(28,[]),(29,[]),(30,[]),(31,[]),(32,[]),(33,[]),(34,[]),(35,[15]),(36,[]),(37,[])]) (by kernel_rfl) (by kernel_rfl) (by kernel_rfl) ?_;simp only[↓Sh.dn,sx,reduceCtorEq,Nat.reduceEqDiff,wpr,again,A2d,A3h,forall_eq',g0,g1,g5,g6,hlenw,w1,w2,g111,z1,z2,i1,i2,s1,s2,y1,y2,ia,ca,ib,cb,A1a hs (Nat.le_trans hn (by decide))];refine k2 _ _ (by repeat (first|refine Same.put ?_ rfl|exact Same.rfl' _)) (by simp only[sx]) ⟨hc2.trans ch2,?_⟩;have t1:ends.take (s+1)=ends.take s++[ends[s]]:=by rw[List.take_add_one,List.getElem?_eq_getElem hi2];rfl
   have t2:costs.take (s+1)=costs.take s++[costs[s]]:=by rw[List.take_add_one,List.getElem?_eq_getElem hi3];rfl
   have s3:=set_mid (List.replicate B 0++ends.take s) (List.replicate (n-(s+1)) 0) 0 ends[s];rw[List.length_append,List.length_replicate,hel',List.append_assoc,List.append_assoc]at s3;have s4:=set_mid (List.replicate B 0++costs.take s) (List.replicate (n-(s+1)) 0) 0 costs[s];rw[List.length_append,List.length_replicate,hcl',List.append_assoc,List.append_assoc]at s4;rw[s3,s4]at hG3;rw[t1,t2,List.append_assoc,List.append_assoc];exact hG3
  ·rintro F2 H2 hF2 g111 ⟨hc2,hG2⟩
   have g6:=hF2 6 rfl;have g110:=hF2 110 rfl;simp only[sx,Nat.reduceEqDiff,f6]at g6 g110;rw[Nat.sub_self,List.take_of_length_le (by omega),List.take_of_length_le (by omega)]at hG2;simp only[List.replicate_zero,List.append_nil]at hG2;simp only[↓Sh.dn,sx,Nat.reduceEqDiff,g6,g110,g111,A2a,Nat.lt_irrefl,decide_false,hres];exact⟨hkz hc2,g,rfl,Z,hG2⟩
theorem B5i{H:AH}{v:Value}{l:List (List Value)}(hs:Sl H v 1 l)(hl:l.length≤17179869183)(hw:Wf H):
  Sh.Call Tryz.prog (knows 7) 105 [v] H (fun r H'=>Kept H H'∧∃b,Buf H' 1 r l b∧∀g,b=some g→H.next≤g):=by
 refine A5a rfl Tryz.func105 rfl (Nat.le_of_ble_eq_true rfl) ?_;have hres:Tryz.f105.results.toList=[.tmp 2]:=rfl;obtain⟨a,cap,rfl,h2,h3,h4⟩:=id hs;cases a with
 | none=>
  obtain⟨rfl,rfl⟩:=h3 rfl;simp only[↓Sh.dn,sx,reduceCtorEq,List.length_nil,Option.isNone_none,hres];exact⟨Kept.refl hw,none,.void none,fun g h=>by cases h⟩
 | some a=>
  have hs1:=hs.grow (HGrow.new hw 1 []);have hk1:Kept H (H.new 1 []).2:=Kept.new hw 1 [];obtain⟨v',H',b',e1,e2,e3,e4⟩:=(Buf.void (H:=(H.new 1 []).2) (s:=1) (some ⟨H.next,0,some 0⟩)).append hk1.wf h2;have happ:=C9h (base:=some ⟨H.next,0,some 0⟩) (len:=0) (cap:=0) (hs1.srcKind Tryz.underlying71) hs1.newCells (by omega);have hk2:Kept (H.new 1 []).2 H':=e3.kept fun g hg h=>by cases h
  simp only[↓Sh.dn,sx,reduceCtorEq,Nat.reduceEqDiff,Option.isNone_some,happ,e1,hres];refine⟨hk1.trans hk2,b',by simpa using e2,fun g hg=>?_⟩;rcases e4 with rfl|⟨rfl,_⟩
  ·cases hg
  ·cases hg;exact Nat.le_succ _
theorem C7k{H:AH}{v:Value}{l:List (List Value)}(hs:Sl H v 1 l)(hl:l.length≤1048576)(hw:Wf H):
  Sh.Call Tryz.prog (knows 7) 105 [v] H (fun r H'=>Kept H H'∧∃b,Buf H' 1 r l b∧∀g,b=some g→H.next≤g):=B5i hs (Nat.le_trans hl (by decide)) hw
theorem B3h{H:AH}{g n:Nat}{E:List (List (Nat×Int×Int×Int))}{ends:List Int}{sv av ev cv:Value}{vals:List Value}{sigma:List ByteArray}{costs:List Int}(h:PG H g n 60000 E ends sv av ev cv vals sigma costs)(hsg:sigma.length≤1048576)(hw:Wf H):
  Sh.Call Tryz.prog (knows 7) 108 [.pointer (some ⟨g,0,some 0⟩)] H (fun r H'=>Kept H H'∧∃g',r=.pointer (some ⟨g',0,some 0⟩)∧∃R base,H.next≤base∧Gr H' base g' sigma (A8b R) (List.replicate n 0) (List.replicate n 0)∧R.length=n∧(∀r∈R,r.length≤6000000000∧∀e∈r,e.1<n)∧∀p t s,A1e R p t s↔A1e E p s t):=by
 refine A5a rfl Tryz.func108 rfl (Nat.le_of_ble_eq_true rfl) ?_;have hres:Tryz.f108.results.toList=[.tmp 2]:=rfl;have hn2:=h.n2;have hc0:=h.gr.arr.cell 0;have hc1:=h.gr.arr.cell 1;have hlenA:∀H',A3a Tryz.prog .len [101] [av] H'=some (.int .i64 (n:Int),H'):=fun H'=>by
  rw[h.gr.jag.sl.len Tryz.underlying101,List.length_map,h.gr.jag.len];unfold A8b;rw[List.length_map,h.le]
 obtain⟨r1,H1,hd1,hk1,g1,rfl,hG1⟩:=A42 (n:=n) h.gr.sg hsg (by omega) hw;simp only[↓Sh.dn,sx];refine A8n (fl:=[(0,[]),(1,[]),(2,[]),(3,[]),(4,[]),(5,[]),(6,[]),(7,[]),(8,[]),(9,[]),(10,[])]) (by kernel_rfl) (by kernel_rfl) (by kernel_rfl) ?_;simp only[↓Sh.dn,sx,reduceCtorEq,Nat.reduceEqDiff,wpr,again,hc0,hc1,hlenA];refine⟨_,_,hd1,?_⟩;have hc1':=A2b (hk1.grow hw) hc1;simp only[sx,hc1',hlenA];have hg0:A8b (List.replicate n ([]:List (Nat×Int×Int×Int)))=List.replicate n []:=by simp[A8b]
 rw[←hg0]at hG1;refine A0d n 23 (List.range' 23 24++[4,5,7]) (fun i F H'=>Kept H H'∧∃R,Gr H' H.next g1 sigma (A8b R) (List.replicate n 0) (List.replicate n 0)∧R.length=n∧(∀r∈R,r.length≤i*60000∧∀e∈r,e.1<n)∧∀p t s,A1e R p t s↔s<i∧A1e E p s t) (by simp only[sx]) ⟨hk1,_,hG1,by simp,fun r hr=>by rw[List.eq_of_mem_replicate hr];simp,fun p t s=>by
  constructor
  ·rintro⟨r,h1,e,h2,_⟩
   rw[List.getElem?_replicate]at h1;split at h1
   ·rw[←Option.some.inj h1]at h2;cases h2
   ·cases h1
  ·rintro⟨h1,_⟩;exact absurd h1 (Nat.not_lt_zero _)⟩ ?_ ?_
 ·rintro i F H' hi hF f23 ⟨hk,R,hG,hRl,hRr,hiff⟩ k
  have f3:=hF 3 rfl;have f21:=hF 21 rfl;have f22:=hF 22 rfl;simp only[sx,Nat.reduceEqDiff]at f3 f21 f22;obtain⟨r,hr⟩:∃r,E[i]?=some r:=⟨E[i]'(by rw[h.le];exact hi),List.getElem?_eq_getElem _⟩
  obtain⟨hrl,hrt⟩:=h.to i r hr;obtain⟨pr,wr,hiar,hcr,hsr,hlr⟩:=PG.row h hr;have q2:=A2b (hk.grow hw) hcr;simp only[↓Sh.dn,sx,Nat.reduceEqDiff,f21,f22,f23,A2a,hi,decide_true,hiar,q2,hlr];refine A0d r.length 30 (List.range' 30 16++[7]) (fun q F'' H''=>Kept H H''∧∃R,Gr H'' H.next g1 sigma (A8b R) (List.replicate n 0) (List.replicate n 0)∧R.length=n∧(∀r∈R,r.length≤i*60000+q∧∀e∈r,e.1<n)∧∀p t s,A1e R p t s↔s<i∧A1e E p s t∨s=i∧∃e∈r.take q,e.1=t∧p e.2.1) (by simp only[sx]) ⟨hk,R,hG,hRl,fun r hr=>⟨Nat.le_trans (hRr r hr).1 (Nat.le_add_right _ _),(hRr r hr).2⟩,fun p t s=>by rw[hiff];simp⟩ ?_ ?_
  ·rintro q F'' H'' hq hF'' f30 ⟨hk'',R,hG,hRl,hRr,hiff⟩ k2
   have g3:=hF'' 3 rfl;have g4:=hF'' 4 rfl;have g28:=hF'' 28 rfl;have g29:=hF'' 29 rfl;simp only[sx,Nat.reduceEqDiff,f3]at g3 g4 g28 g29;obtain⟨pe,hiae,hce⟩:=PG.edge (hsr.grow (hk''.grow hw)) hq;have hrq:r[q]∈r:=List.getElem_mem hq;have htk:r.take (q+1)=r.take q++[r[q]]:=by rw[List.take_add_one,List.getElem?_eq_getElem hq];rfl
   generalize r[q]=e at hce hrq htk;have kn:=Kept.new hk''.wf 4 (A9a e);have hk3:=hk''.trans kn;have hG3:=hG.kept hk''.wf kn;obtain⟨ro,hro2⟩:∃ro,R[e.1]?=some ro:=⟨R[e.1]'(by rw[hRl];exact hrt e hrq),List.getElem?_eq_getElem _⟩
   have hrow:(A8b R)[e.1]?=some (ro.map A9a):=by unfold A8b;rw[List.getElem?_map,hro2];rfl
   obtain⟨hrol,hrot⟩:=hRr ro (List.mem_of_getElem? hro2);obtain⟨rr,H5,hd5,hc5,hG5⟩:=grArc (x0:=(i:Int)) (x1:=e.2.1) (x2:=e.2.2.1) (x3:=e.2.2.2) hG3 hrow (by rw[List.length_map];omega) hk3.wf;simp only[↓Sh.dn,sx,Nat.reduceEqDiff,f30,g3,g4,g28,g29,hiae,hce,A2a,hq,decide_true,A8q,A9k,A9q,ge0,ge1,ge2,ge3];refine⟨_,_,hd5,?_⟩;simp only[A1a hq (Nat.le_trans hrl (by decide))];have hrs:A8b (R.set e.1 (ro++[(i,e.2)]))=(A8b R).set e.1 (ro.map A9a++[[.int .i64 (i:Int),.int .i64 e.2.1,.int .i64 e.2.2.1,.int .i64 e.2.2.2]]):=by unfold A8b;rw[List.map_set];simp[A9a]
   refine k2 _ _ (by repeat (first|refine Same.put ?_ rfl|exact Same.rfl' _)) (by simp only[sx]) ⟨hk3.then (Nat.le_refl _) hc5,R.set e.1 (ro++[(i,e.2)]),by rw[hrs];exact hG5,by rw[List.length_set];exact hRl,fun r' hr'=>?_,fun p t s=>?_⟩
   ·rcases List.mem_or_eq_of_mem_set hr' with h1|h1
    ·have:=hRr r' h1;exact⟨by omega,this.2⟩
    ·rw[h1]
     refine⟨by rw[List.length_append];simp;omega,fun e' he'=>?_⟩;rcases List.mem_append.1 he' with h2|h2
     ·exact hrot e' h2
     ·rw[List.mem_singleton.1 h2];exact hi
   ·rw[C3v hro2,hiff,htk]
    simp only[List.mem_append,List.mem_singleton];constructor
    ·rintro((h1|⟨h1,e',h2,h3⟩)|⟨h1,h2,h3⟩)
     ·exact .inl h1
     ·exact .inr ⟨h1,e',.inl h2,h3⟩
     ·exact .inr ⟨h3,e,.inr rfl,h1.symm,h2⟩
    ·rintro(h1|⟨h1,e',h2|h2,h3,h4⟩)
     ·exact .inl (.inl h1)
     ·exact .inl (.inr ⟨h1,e',h2,h3,h4⟩)
     ·subst h2;exact .inr ⟨h3.symm,h4,h1⟩
  ·rintro F'' H'' hF'' f30 ⟨hk'',R,hG,hRl,hRr,hiff⟩
   have g23:=hF'' 23 rfl;have g29:=hF'' 29 rfl;simp only[sx,Nat.reduceEqDiff,f23]at g23 g29;rw[List.take_length]at hiff;simp only[↓Sh.dn,sx,Nat.reduceBEq,Nat.reduceEqDiff,f30,g23,g29,A2a,Nat.lt_irrefl,decide_false,A1a hi (Nat.le_trans hn2 (by decide))];refine k _ _ ?_ (by simp only[sx]) ⟨hk'',R,hG,hRl,fun r' hr'=>?_,fun p t s=>?_⟩
   ·repeat refine Same.put ?_ rfl
    exact Same.trans (by repeat (first|refine Same.put ?_ rfl|exact Same.rfl' _)) (hF''.sub rfl)
   ·have:=hRr r' hr';exact⟨by omega,this.2⟩
   ·rw[hiff]
    constructor
    ·rintro(⟨h1,h2⟩|⟨h1,e,h2,h3⟩)
     ·exact⟨by omega,h2⟩
     ·exact⟨by omega,r,by rw[h1];exact hr,e,h2,h3⟩
    ·rintro⟨h1,h2⟩
     by_cases hs:s=i
     ·subst hs
      obtain⟨r',h3,e,h4,h5⟩:=h2;rw[hr]at h3;exact .inr ⟨rfl,e,by rw[Option.some.inj h3];exact h4,h5⟩
     ·exact .inl ⟨by omega,h2⟩
 ·rintro F H' hF f23 ⟨hk,R,hG,hRl,hRr,hiff⟩
  have f3:=hF 3 rfl;have f22:=hF 22 rfl;simp only[sx,Nat.reduceEqDiff]at f3 f22;simp only[↓Sh.dn,sx,Nat.reduceEqDiff,f3,f22,f23,A2a,Nat.lt_irrefl,decide_false,hres];refine⟨hk,_,rfl,R,H.next,Nat.le_refl _,hG,hRl,fun r hr=>⟨by have:=(hRr r hr).1;omega,(hRr r hr).2⟩,fun p t s=>?_⟩;rw[hiff];constructor
  ·exact fun h=>h.2
  ·rintro⟨r,h1,h2⟩
   exact⟨by rw[←h.le];exact(List.getElem?_eq_some_iff.1 h1).1,r,h1,h2⟩
def fitP(E:List (List (Nat×Int×Int×Int)))(p:Nat×Int×Int×Int→Bool)(s t:Nat):Prop:=∃r,E[s]?=some r∧∃e∈r,e.1=t∧p e=true
theorem A52{H:AH}{g n rb:Nat}{E:List (List (Nat×Int×Int×Int))}{ends:List Int}{sv av ev cv u:Value}{vals:List Value}{sigma:List ByteArray}{costs:List Int}{L:List Nat}{fid:Nat}{caps:List Value}(p:Nat×Int×Int×Int→Bool)
  (h:PG H g n rb E ends sv av ev cv vals sigma costs) (hrb:rb≤4611686018427387904) (hL:Sl H u 1 (L.map natC)) (hlt:∀t∈L,t<n) (hll:L.length≤100000) (hw:Wf H)
  (hp:∀H',Kept H H'→∀e,Sh.Call Tryz.prog (knows 7) fid (.agg (A9a e).toArray :: caps) H' (fun r H''=>Kept H' H''∧r=.bool (p e))):
  Sh.Call Tryz.prog (knows 7) 110 [.pointer (some ⟨g,0,some 0⟩),u,.func (.func fid) #[] caps.toArray] H (fun r H'=>Kept H H'∧∃B:List Bool,∃o,Buf H' 1 r (B.map A0z) o∧(∀y,o=some y→H.next≤y)∧B.length=n∧∀t:Nat,B[t]?=some true↔Clo (fitP E p) (fun s=>s∈L) t):=by
 refine A5a rfl Tryz.func110 rfl (Nat.le_of_ble_eq_true rfl) ?_;have hres:Tryz.f110.results.toList=[.tmp 6]:=rfl;have hn1:=h.n1;have hn2:=h.n2;have hc1:=h.gr.arr.cell 1;have hlenA:∀H',A3a Tryz.prog .len [101] [av] H'=some (.int .i64 (n:Int),H'):=fun H'=>by
  rw[h.gr.jag.sl.len Tryz.underlying101,List.length_map,h.gr.jag.len];unfold A8b;rw[List.length_map,h.le]
 have hlenL:∀H',A3a Tryz.prog .len [71] [u] H'=some (.int .i64 (L.length:Int),H'):=fun H'=>by
  rw[hL.len Tryz.underlying71,List.length_map]
 have hmk:=mk_58 (H:=H) (l:=n) (c:=n) (Nat.le_refl _) (by omega);have k1:=Kept.new hw 1 (List.replicate n (.bool false));have f1:=Buf.fill hw (.bool false) (c:=n) (by omega);obtain⟨os,hos⟩:∃os,(if n=0 then none else some H.next)=os:=⟨_,rfl⟩
 rw[hos]at f1;have los:∀y,os=some y→y=H.next:=by
  intro y hy;rw[←hos,if_neg (by omega)]at hy;exact(Option.some.inj hy).symm
 have hM1:MB (H.new 1 (List.replicate n (.bool false))).2 H.next n (.slice (some ⟨H.next,0,some 0⟩) n n) os (List.replicate n false) []:=
  ⟨Marks.empty n,by rw[List.map_replicate];exact f1,fun y hy=>by rw[los y hy];exact Nat.le_refl _⟩
 have hx1:H.next<(H.new 1 (List.replicate n (.bool false))).2.next:=Nat.lt_succ_self _;simp only[↓Sh.dn,sx,reduceCtorEq,Nat.reduceEqDiff,hc1,hlenA,hmk];generalize (Value.slice (some ⟨H.next,0,some 0⟩) n n)=mv at hM1 ⊢;generalize (H.new 1 (List.replicate n (.bool false))).2=H1 at k1 hM1 hx1 ⊢;obtain⟨r1,H2,hd2,hk2,tb0,htb0,hft0⟩:=C7k (l:=L.map natC) (hL.grow (k1.grow hw)) (by rw[List.length_map];omega) k1.wf;refine⟨_,_,hd2,?_⟩;have hM2:=hM1.kept k1.wf hk2;have hl2:LB H2 H.next os r1 L tb0:=⟨htb0,fun y hy=>by
  have:=hft0 y hy;exact⟨by omega,fun e=>by have:=los y e;omega⟩⟩
 simp only[sx,hlenL];refine A0d L.length 24 (List.range' 24 8++[10]) (fun i F H'=>Kept H H'∧∃seen out,MB H' H.next n mv os seen out∧LB H' H.next os r1 L tb0∧∀x,x∈out↔x∈L.take i) (by simp only[sx]) ⟨k1.trans hk2,_,_,hM2,hl2,fun x=>by simp⟩ ?_ ?_
 ·rintro i F H' hi hF f24 ⟨hk,seen,out,hM,hl,hiff⟩ k
  have f7:=hF 7 rfl;have f22:=hF 22 rfl;have f23:=hF 23 rfl;simp only[sx,Nat.reduceEqDiff]at f7 f22 f23;obtain⟨pa,hia,hc⟩:=B2w Tryz.underlying71 A1c (hL.grow (hk.grow hw)) hi;have htn:L[i]<n:=hlt _ (List.getElem_mem hi);have htake:L.take (i+1)=L.take i++[L[i]]:=by rw[List.take_add_one,List.getElem?_eq_getElem hi];rfl
  generalize L[i]=t at hc htn htake;obtain⟨p2,H3,seen',out',e1,e2,e3,e4,e5⟩:=hM.put Tryz.underlying58 A5r hk.wf htn;have st:A7d Tryz.prog 4 H' (.bool true) (.pointer (some p2))=some H3:=by rw[A9b A5r rfl];exact e2
  simp only[↓Sh.dn,sx,Nat.reduceEqDiff,f7,f22,f23,f24,A2a,hi,decide_true,hia,hc,e1,st,A1a hi (Nat.le_trans hll (by decide))];refine k _ _ (by repeat (first|refine Same.put ?_ rfl|exact Same.rfl' _)) (by simp only[sx]) ⟨hk.then (Nat.le_refl _) (e4.weak fun y hy=>hM.fr y hy),seen',out',e3,hl.chg hk.wf e4 fun y hy=>hy,fun x=>?_⟩;rw[e5,hiff,htake,List.mem_append,List.mem_singleton]
 ·rintro F H' hF f24 ⟨hk,seen,out,hM,hl,hiff⟩
  have f0:=hF 0 rfl;have f2:=hF 2 rfl;have f7:=hF 7 rfl;have f8:=hF 8 rfl;have f23:=hF 23 rfl;simp only[sx,reduceCtorEq,Nat.reduceEqDiff]at f0 f2 f7 f8 f23;rw[List.take_length]at hiff;simp only[↓Sh.dn,sx,f23,f24,A2a,Nat.lt_irrefl,decide_false];have hout0:=hM.ms.le;refine A8d (m:=(n-out.length)*2+L.length) (fun m F H'=>F.get 0=some (.pointer (some ⟨g,0,some 0⟩))∧F.get 2=some (.func (.func fid) #[] caps.toArray)∧F.get 7=some mv∧Kept H H'∧∃zt,F.get 8=some zt∧∃seen out todo tb,m=(n-out.length)*2+todo.length∧MB H' H.next n mv os seen out∧LB H' H.next os zt todo tb∧(∀t∈todo,t∈out)∧todo.length≤L.length+out.length∧(∀t∈L,t∈out)∧(∀t∈out,Clo (fitP E p) (fun s=>s∈L) t)∧∀s∈out,s∈todo∨∀t,fitP E p s t→t∈out)
   ⟨by simp only[sx,reduceCtorEq,f0],by simp only[sx,Nat.reduceEqDiff,f2],by simp only[sx,Nat.reduceEqDiff,f7],hk,r1,by simp only[sx,Nat.reduceEqDiff,f8],seen,out,L,tb0,rfl,hM,hl,fun t ht=>(hiff t).2 ht,by omega,fun t ht=>(hiff t).2 ht,fun t ht=>.base ((hiff t).1 ht),fun s hs=>.inl ((hiff s).1 hs)⟩ ?_
  clear hk hM hl hiff f0 f2 f7 f8 f23 f24 hF hout0;clear seen out;clear F H';rintro m F H' ⟨f0,f2,f7,hk,zt,f8,seen,out,todo,tb,rfl,hM,hlt',hsub,htl,hLo,hco,hcl⟩ k;have hout:=hM.ms.le;have hlen:=hlt'.bf.toSl.len Tryz.underlying71 H';rw[List.length_map]at hlen;rcases List.eq_nil_or_concat todo with h0|⟨td,s,h0⟩
  ·subst h0
   have h00:decide ((0:Int)<((([]:List Nat).length:Nat):Int))=false:=rfl;simp only[↓Sh.dn,sx,Nat.reduceEqDiff,f7,f8,hlen,h00,hres];refine⟨hk,seen,os,hM.bf,hM.fr,hM.ms.len,fun t=>?_⟩;rw[hM.ms.iff];exact Clo.iff hLo hco (fun s hs t ht=>((hcl s hs).resolve_left (by simp)) t ht) t
  ·rw[List.concat_eq_append]at h0
   subst h0;have hpos:decide ((0:Int)<(((td++[s]).length:Nat):Int))=true:=by simp
   have wl:IntKind.wrap .i64 ((((td++[s]).length:Nat):Int)-1)=(td.length:Int):=by
    rw[List.length_append,List.length_singleton]at htl ⊢;rw[wrap64 (by omega) (by omega)];omega
   obtain⟨p1,hia1,hc1'⟩:=B2w Tryz.underlying71 A1c hlt'.bf.toSl (i:=td.length) (by simp);have hgs:(td++[s])[td.length]'(by simp)=s:=by simp
   rw[hgs]at hc1';have hbp:Buf H' 1 zt (td.map natC++[natC s]) tb:=by have:=hlt'.bf;rwa [List.map_append]at this
   obtain⟨zt2,hsl,hb2⟩:=hbp.pop;have hsl2:=hsl (P:=Tryz.prog) (H':=H') Tryz.underlying71 A1c;rw[List.length_map]at hsl2;have hlt2:LB H' H.next os zt2 td tb:=⟨hb2,hlt'.fr⟩
   have hso:s∈out:=hsub s (by simp);have hsn:s<n:=hM.ms.lt hso;have hts:=hco s hso;obtain⟨r,hr⟩:∃r,E[s]?=some r:=⟨E[s]'(by rw[h.le];exact hsn),List.getElem?_eq_getElem _⟩
   obtain⟨hrl,hrt⟩:=h.to s r hr;obtain⟨pr,wr,hiar,hcr,hsr,hlr⟩:=PG.row h hr;have hpg:∀{H'},Kept H H'→H'.cell ⟨g,1,some 0⟩=some av∧H'.cell pr=some wr∧Sl H' wr 4 (r.map A9a):=fun hk=>⟨A2b (hk.grow hw) hc1,A2b (hk.grow hw) hcr,hsr.grow (hk.grow hw)⟩
   obtain⟨q1,q2,q3⟩:=hpg hk;rw[List.length_append,List.length_singleton]at htl;simp only[↓Sh.dn,sx,reduceCtorEq,Nat.reduceEqDiff,f0,f8,hlen,hpos,wl,hia1,hc1',hsl2,q1,hiar,q2,hlr];refine A0d r.length 54 (List.range' 54 25++[8,13]) (fun q F'' H''=>Kept H H''∧∃zt',F''.get 8=some zt'∧∃seen' out' td' tb',MB H'' H.next n mv os seen' out'∧LB H'' H.next os zt' td' tb'∧(∀t∈td',t∈out')∧td'.length+out.length≤td.length+out'.length∧out.length≤out'.length∧(∀t∈out,t∈out')∧(∀t∈td,t∈td')∧(∀t∈out',Clo (fitP E p) (fun s=>s∈L) t)∧(∀x∈out',x∈out∨x∈td')∧∀e∈r.take q,p e=true→e.1∈out') (by simp only[sx])
    ⟨hk,zt2,by simp only[sx,Nat.reduceEqDiff],seen,out,td,tb,hM,hlt2,fun t ht=>hsub t (List.mem_append_left _ ht),Nat.le_refl _,Nat.le_refl _,fun t ht=>ht,fun t ht=>ht,hco,fun x hx=>.inl hx,fun e he=>by simp at he⟩ ?_ ?_
   ·rintro q F'' H'' hq hF'' f54 ⟨hk'',zt',f8',seen',out',td',tb',hM',hl',hsub',hle',hle2,hoo,htt,hco',hnew,hed⟩ k2
    have g2:=hF'' 2 rfl;have g7:=hF'' 7 rfl;have g52:=hF'' 52 rfl;have g53:=hF'' 53 rfl;simp only[sx,Nat.reduceEqDiff,f2,f7]at g2 g7 g52 g53;obtain⟨q1,q2,q3⟩:=hpg hk'';obtain⟨pe,hiae,hce⟩:=PG.edge q3 hq;have hrq:r[q]∈r:=List.getElem_mem hq;have htake:r.take (q+1)=r.take q++[r[q]]:=by rw[List.take_add_one,List.getElem?_eq_getElem hq];rfl
    generalize r[q]=e at hce hrq htake;have kn:=Kept.new hk''.wf 4 (A9a e);have hk3:=hk''.trans kn;obtain⟨rp,H4,hd4,hk4,rfl⟩:=hp _ hk3 e;have hk34:=hk3.trans hk4;have hM4:=(hM'.kept hk''.wf kn).kept hk3.wf hk4;have hl4:=(hl'.kept hk''.wf kn).kept hk3.wf hk4;have ob:=(Sh.Obj.new (H:=H'') 4 (A9a e)).arr.keep (hk4.old _ (Nat.lt_succ_self _));have c0:H4.cell ⟨H''.next,0,some 0⟩=some (.int .i64 (e.1:Int)):=ob.cell 0;have hgall:(H''.new 4 (A9a e)).2.cells ⟨H''.next,0,some 0⟩ 4=some (A9a e):=C29;have hout':=hM4.ms.le;simp only[↓Sh.dn,sx,Nat.reduceEqDiff,f54,g2,g52,g53,hiae,hce,A2a,hq,decide_true,A8q,A9k,A9q,hgall];have hd4':Does Tryz.prog (knows 7) fid ([]++[.agg (A9a e).toArray]++caps) (H''.new 4 (A9a e)).2 (.bool (p e)) H4:=hd4;refine⟨_,_,by first|exact hd4|exact hd4'|simpa using hd4,?_⟩
    have hnext : ∀ {seen2 : List Bool} {out2 td2 : List Nat} {tb2 : Option Nat} {z2 : Value} {F2 : Fr} {H2 : AH}, Same (List.range' 54 25 ++ [8, 13]) F'' F2 → F2.get 8 = some z2 → F2.get 54 = some (.int .i64 ((q + 1 : Nat) : Int)) → Kept H H2 → MB H2 H.next n mv os seen2 out2 → LB H2 H.next os z2 td2 tb2 → (out2 = out' ∧ td2 = td' ∨ out2 = out' ++ [e.1] ∧ td2 = td' ++ [e.1] ∧ p e = true) → (p e = true → e.1 ∈ out2) →
        wp Tryz.prog (knows 7) _ _ F2 H2 := fun{seen2 out2 td2 tb2 z2 F2 H2} a1 a2 a3 a4 a5 a6 a7 a8 => k2 F2 H2 a1 a3 ⟨a4, z2, a2, seen2, out2, td2, tb2, a5, a6, fun t ht => by
          rcases a7 with⟨h1, h2⟩|⟨h1, h2, _⟩
          · rw[h1];rw[h2]at ht;exact hsub' t ht
          · rw[h1];rw[h2]at ht
            rcases List.mem_append.1 ht with h3|h3
            · exact List.mem_append_left _ (hsub' t h3)
            · exact List.mem_append_right _ h3, by
          rcases a7 with⟨h1, h2⟩|⟨h1, h2, _⟩
          · rw[h1, h2];exact hle'
          · rw[h1, h2];simp only[List.length_append, List.length_singleton];omega, by
          rcases a7 with⟨h1, h2⟩|⟨h1, h2, _⟩
          · rw[h1];exact hle2
          · rw[h1];simp only[List.length_append, List.length_singleton];omega, fun t ht => by
          rcases a7 with⟨h1, h2⟩|⟨h1, h2, _⟩
          · rw[h1];exact hoo t ht
          · rw[h1];exact List.mem_append_left _ (hoo t ht), fun t ht => by
          rcases a7 with⟨h1, h2⟩|⟨h1, h2, _⟩
          · rw[h2];exact htt t ht
          · rw[h2];exact List.mem_append_left _ (htt t ht), fun t ht => by
          rcases a7 with⟨h1, h2⟩|⟨h1, h2, h3⟩
          · rw[h1]at ht;exact hco' t ht
          · rw[h1]at ht
            rcases List.mem_append.1 ht with h4|h4
            · exact hco' t h4
            · rw[List.mem_singleton.1 h4];exact .step hts ⟨r, hr, e, hrq, rfl, h3⟩, fun x hx => by
          rcases a7 with⟨h1, h2⟩|⟨h1, h2, h3⟩
          · rw[h1]at hx;rw[h2];exact hnew x hx
          · rw[h1]at hx;rw[h2]
            rcases List.mem_append.1 hx with h4|h4
            · exact(hnew x h4).imp id fun h5 => List.mem_append_left _ h5
            · exact .inr (List.mem_append_right _ h4), fun x hx hxp => by
          rw[htake]at hx;rcases List.mem_append.1 hx with h2|h2
          · have h5 := hed x h2 hxp
            rcases a7 with⟨h1, _⟩|⟨h1, _, _⟩
            · rw[h1];exact h5
            · rw[h1];exact List.mem_append_left _ h5
          · rw[List.mem_singleton.1 h2]at hxp ⊢;exact a8 hxp⟩
    have hrl':r.length≤4611686018427387904:=Nat.le_trans hrl hrb;cases hpe:p e with
    | false=>
     simp only[↓Sh.dn,sx,Nat.reduceEqDiff,f54,A1a hq hrl'];exact hnext (by repeat (first|refine Same.put ?_ rfl|exact Same.rfl' _)) (by simp only[sx,Nat.reduceEqDiff,f8']) (by simp only[sx]) hk34 hM4 hl4 (.inl ⟨rfl,rfl⟩) fun h=>by rw[hpe]at h;cases h
    | true=>
     by_cases hin:e.1∈out'
     ·obtain⟨p5,hia5,hc5⟩:=hM4.see Tryz.underlying58 A5r (hrt e hrq)
      simp only[↓Sh.dn,sx,Nat.reduceEqDiff,c0,g7,hia5,hc5,hin,decide_true,f54,A1a hq hrl'];exact hnext (by repeat (first|refine Same.put ?_ rfl|exact Same.rfl' _)) (by simp only[sx,Nat.reduceEqDiff,f8']) (by simp only[sx]) hk34 hM4 hl4 (.inl ⟨rfl,rfl⟩) fun _=>hin
     ·obtain⟨p3,H5,a,cap,w',H6,ob',e1,e2,e3,rfl,e5,e6,e7,e8,e9,e10,e11⟩:=C0h hk34 hM4 hl4 (hrt e hrq) hin (by omega)
      have c0':H5.cell ⟨H''.next,0,some 0⟩=some (.int .i64 (e.1:Int)):=(ob.keep (e11.old _ (Nat.lt_of_lt_of_le (Nat.lt_succ_self _) hk4.next) fun hy=>Nat.lt_irrefl _ (hM'.lt hk''.wf _ hy))).cell 0;simp only[↓Sh.dn,sx,Nat.reduceEqDiff,c0,c0',g7,e1,e2,e3,f8',e6,e7,f54,A1a hq hrl'];exact hnext (by repeat (first|refine Same.put ?_ rfl|exact Same.rfl' _)) (by simp only[sx,Nat.reduceEqDiff]) (by simp only[sx]) e8 e9 e10 (.inr ⟨rfl,rfl,hpe⟩) fun _=>List.mem_append_right _ List.mem_cons_self
   ·rintro F'' H'' hF'' f54 ⟨hk'',zt',f8',seen',out',td',tb',hM',hl',hsub',hle',hle2,hoo,htt,hco',hnew,hed⟩
    have g0:=hF'' 0 rfl;have g2:=hF'' 2 rfl;have g7:=hF'' 7 rfl;have g53:=hF'' 53 rfl;simp only[sx,reduceCtorEq,Nat.reduceEqDiff,f0,f2,f7]at g0 g2 g7 g53;rw[List.take_length]at hed;have hout':=hM'.ms.le;simp only[↓Sh.dn,sx,Nat.reduceBEq,f54,g53,A2a,Nat.lt_irrefl,decide_false];refine k ((n-out'.length)*2+td'.length) _ _ (by rw[List.length_append,List.length_singleton];omega) ⟨by simp only[sx,reduceCtorEq,g0],by simp only[sx,Nat.reduceEqDiff,g2],by simp only[sx,Nat.reduceEqDiff,g7],hk'',zt',by simp only[sx,Nat.reduceEqDiff,f8'],seen',out',td',tb',rfl,hM',hl',hsub',by omega,fun t ht=>hoo t (hLo t ht),hco',fun x hx=>?_⟩;rcases hnew x hx with h1|h1
    ·rcases hcl x h1 with h2|h2
     ·rcases List.mem_append.1 h2 with h3|h3
      ·exact .inl (htt x h3)
      ·right
       rw[List.mem_singleton.1 h3];rintro t ⟨r',hr2,e,he,he1,he2⟩;rw[hr]at hr2;rw[←Option.some.inj hr2]at he;rw[←he1];exact hed e he he2
     ·exact .inr fun t ht=>hoo t (h2 t ht)
    ·exact .inl h1
theorem B5n{H:AH}{e:Nat×Int×Int×Int}(hw:Wf H):Sh.Call Tryz.prog (knows 7) 119 [.agg (A9a e).toArray] H (fun r H'=>Kept H H'∧r=.bool true):=by
 refine A5a rfl Tryz.func119 rfl (Nat.le_of_ble_eq_true rfl) ?_;have hres:Tryz.f119.results.toList=[.tmp 2]:=rfl;simp only[↓Sh.dn,sx,geNew,hres,Kept.new hw 4 (A9a e)]
theorem B1v{H:AH}{g n:Nat}{E:List (List (Nat×Int×Int×Int))}{ends:List Int}{sv av ev cv:Value}{vals:List Value}{sigma:List ByteArray}{costs:List Int}(h:PG H g n 60000 E ends sv av ev cv vals sigma costs)(hsg:sigma.length≤1048576)(hw:Wf H):
  Sh.Call Tryz.prog (knows 7) 120 [.pointer (some ⟨g,0,some 0⟩)] H (fun r H'=>Kept H H'∧∃B:List Bool,∃o,Buf H' 1 r (B.map A0z) o∧(∀y,o=some y→H.next≤y)∧B.length=n∧∀t:Nat,B[t]?=some true↔Clo (fun s t=>A1e E (fun _=>True) t s) (fun s=>0<ends.getD s 0) t):=by
 refine A5a rfl Tryz.func120 rfl (Nat.le_of_ble_eq_true rfl) ?_;have hres:Tryz.f120.results.toList=[.tmp 2]:=rfl;have hn2:=h.n2;have hc2:=h.gr.arr.cell 2;have hlenE:∀H',A3a Tryz.prog .len [71] [ev] H'=some (.int .i64 (n:Int),H'):=fun H'=>by
  rw[h.gr.en.len Tryz.underlying71,List.length_map,h.ln]
 simp only[↓Sh.dn,sx,reduceCtorEq,hc2,hlenE];refine A0d n 11 (List.range' 11 12++[3,4,5]) (fun i F H'=>Kept H H'∧∃z,F.get 3=some z∧∃l ob,LB H' H.next none z l ob∧l.length≤i∧∀t,t∈l↔t<i∧0<ends.getD t 0) (by simp only[sx]) ⟨Kept.refl hw,_,by simp only[sx,Nat.reduceEqDiff],[],none,⟨.void none,fun y hy=>by cases hy⟩,Nat.le_refl _,fun t=>by simp⟩ ?_ ?_
 ·rintro i F H' hi hF f11 ⟨hk,z,f3,l,ob,hl,hll,hiff⟩ k
  have f9:=hF 9 rfl;have f10:=hF 10 rfl;simp only[sx,Nat.reduceEqDiff]at f9 f10;have hil:i<ends.length:=by rw[h.ln];exact hi
  obtain⟨p,hia,hc⟩:=Sl.elem (s:=1) Tryz.underlying71 A1c (h.gr.en.grow (hk.grow hw)) (i:=i) (u:=.int .i64 ends[i]) (by rw[List.getElem?_map,List.getElem?_eq_getElem hil];rfl);have hg:ends.getD i 0=ends[i]:=by simp[List.getD,List.getElem?_eq_getElem hil]
  simp only[↓Sh.dn,sx,Nat.reduceEqDiff,f9,f10,f11,A2a,hi,decide_true,hia,hc];by_cases hpos:0<ends[i]
  ·obtain⟨a,cap,w',H4,ob2,rfl,e1,e2,e3,e4,e5⟩:=C7c i hk (fun y hy=>by cases hy) hl (by omega)
   simp only[↓Sh.dn,sx,Nat.reduceEqDiff,hpos,decide_true,f3,f11,e1,e2,A1a hi (Nat.le_trans hn2 (by decide))];refine k _ _ (by repeat (first|refine Same.put ?_ rfl|exact Same.rfl' _)) (by simp only[sx]) ⟨e3,w',by simp only[sx,Nat.reduceEqDiff],l++[i],ob2,e4,by simp;omega,fun t=>?_⟩;rw[List.mem_append,List.mem_singleton,hiff];constructor
   ·rintro(⟨h1,h2⟩|h1)
    ·exact⟨by omega,h2⟩
    ·subst h1;exact⟨by omega,by rw[hg];exact hpos⟩
   ·rintro⟨h1,h2⟩
    by_cases ht:t=i
    ·exact .inr ht
    ·exact .inl ⟨by omega,h2⟩
  ·simp only[↓Sh.dn,sx,Nat.reduceEqDiff,hpos,decide_false,f11,A1a hi (Nat.le_trans hn2 (by decide))]
   refine k _ _ (by repeat (first|refine Same.put ?_ rfl|exact Same.rfl' _)) (by simp only[sx]) ⟨hk,z,by simp only[sx,Nat.reduceEqDiff,f3],l,ob,hl,by omega,fun t=>?_⟩;rw[hiff];constructor
   ·rintro⟨h1,h2⟩;exact⟨by omega,h2⟩
   ·rintro⟨h1,h2⟩
    by_cases ht:t=i
    ·subst ht;rw[hg]at h2;exact absurd h2 hpos
    ·exact⟨by omega,h2⟩
 ·rintro F H' hF f11 ⟨hk,z,f3,l,ob,hl,hll,hiff⟩
  have f0:=hF 0 rfl;have f10:=hF 10 rfl;simp only[sx,reduceCtorEq,Nat.reduceEqDiff]at f0 f10;obtain⟨r4,H4,hd4,hk4,g',rfl,R,base,hbase,hG,hRl,hRr,hRg⟩:=B3h (h.kept hw hk) hsg hk.wf;obtain⟨sv',av',ev',cv',vals',hR⟩:=hG.read;have hPG:PG H4 g' n 6000000000 R (List.replicate n 0) sv' av' ev' cv' vals' sigma (List.replicate n 0):=⟨hR,hRl,by simp,h.n1,h.n2,fun s r hr=>hRr r (List.mem_of_getElem? hr)⟩
  obtain⟨r5,H5,hd5,hk5,B,oB,hB,hBo,hBl,hBi⟩:=A52 (caps:=[]) (fid:=119) (fun _=>true) hPG (by decide) (hl.bf.toSl.grow (hk4.grow hk.wf)) (fun t ht=>((hiff t).1 ht).1) (by omega) hk4.wf (fun H' hk e=>B5n hk.wf);simp only[↓Sh.dn,sx,reduceCtorEq,Nat.reduceEqDiff,f0,f3,f10,f11,A2a,Nat.lt_irrefl,decide_false];refine⟨_,_,hd4,?_⟩;refine⟨_,_,hd5,?_⟩;simp only[sx,hres];refine⟨(hk.trans hk4).trans hk5,B,oB,hB,fun y hy=>Nat.le_trans (hk.trans hk4).next (hBo y hy),hBl,fun t=>?_⟩;rw[hBi];have e1:fitP R (fun _=>true)=fun s t=>A1e E (fun _=>True) t s:=by
   funext s t
   apply propext;rw[←hRg];unfold fitP A1e;simp
  have e2:(fun s=>s∈l)=fun s=>0<ends.getD s 0:=by
   funext s
   apply propext;rw[hiff];constructor
   ·exact fun h=>h.2
   ·intro hs
    refine⟨?_,hs⟩;by_cases hn:s<n
    ·exact hn
    ·have:ends.getD s 0=0:=by rw[List.getD_eq_getElem?_getD,List.getElem?_eq_none (by rw[h.ln];omega)];rfl
     rw[this]at hs;omega
  rw[e1,e2]
end Go.Proofs.YtjjgodccecehlaaGreat
