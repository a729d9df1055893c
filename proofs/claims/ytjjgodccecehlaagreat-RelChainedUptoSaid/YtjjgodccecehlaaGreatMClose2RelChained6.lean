/- A part of the proof: GraphEdges, CloneStr. -/
import Derived.Test.YtjjgodccecehlaaGreatMClose2RelChained2
import Derived.Test.YtjjgodccecehlaaGreatMClose2RelChained4
import Derived.Test.YtjjgodccecehlaaGreatMClose2RelChained5
set_option linter.unusedVariables false
set_option linter.unusedSimpArgs false
/- Reading the graph of the program;maps of marks. -/
set_option maxHeartbeats 4000000
set_option maxRecDepth 20000
namespace Go.Proofs.YtjjgodccecehlaaGreat
open Go Go.Proofs Go.Proofs.Sh
def natK(n:Nat):Value:=.int .i64 (n:Int)
theorem C6o(a:Nat):A9l Tryz.prog 3 (natK a)=true:=by
 unfold A9l natK;simp only[plainKey,keyT,A1g,Tryz.underlying3];rfl
theorem C09(a b:Nat):eqT Tryz.prog A1g 3 (natK a) (natK b)=some (decide (a=b)):=by
 unfold natK;show eqT Tryz.prog (19+1) _ _ _=_;rw[C1c]
 congr 1
 exact decide_eq_decide.2 Int.ofNat_inj
def BMap(H:AH)(g:Nat)(D:List Nat):Prop:=MapIs H g natK (D.map fun t=>(t,.bool true))
theorem B4q(D:List Nat)(t:Nat):A7q (D.map fun t=>(t,Value.bool true)) t=if t∈D then some (.bool true) else none:=by
 unfold A7q;by_cases h:t∈D
 ·rw[if_pos h]
  cases hf:(D.map fun t=>(t,Value.bool true)).find? fun p=>decide (t=p.1) with
  | none=>
   rw[List.find?_eq_none]at hf;have:=hf (t,.bool true) (List.mem_map.2 ⟨t,h,rfl⟩);simp at this
  | some p=>
   have:=List.mem_of_find?_eq_some hf;obtain⟨u,_,rfl⟩:=List.mem_map.1 this;rfl
 ·rw[if_neg h]
  have:(D.map fun t=>(t,Value.bool true)).find? (fun p=>decide (t=p.1))=none:=by
   rw[List.find?_eq_none];rintro p hp;obtain⟨u,hu,rfl⟩:=List.mem_map.1 hp;simp only[decide_eq_true_eq];rintro rfl;exact h hu
  rw[this];rfl
theorem BMap.look{H:AH}{g:Nat}{D:List Nat}(h:BMap H g D)(t:Nat):A4r Tryz.prog 161 (.map (some g)) (.int .i64 (t:Int)) false H=some (.bool (decide (t∈D))):=by
 have:=MapIs.look (P:=Tryz.prog) (ok:=false) Tryz.underlying161 B1o C6o C09 h t;rw[B4q]at this;unfold natK at this;rw[this];by_cases hd:t∈D<;>simp[hd]
theorem BMap.add{H:AH}{g:Nat}{D:List Nat}(h:BMap H g D)(hw:Wf H){t:Nat}(ht:t∉D):∃H',A3g Tryz.prog 161 (.map (some g)) (.int .i64 (t:Int)) (.bool true) H=some H'∧BMap H' g (D++[t])∧Chg (fun y=>y=g) H H'∧H'.next=H.next:=by
 obtain⟨H',h1,h2,h3,h4⟩:=MapIs.add (P:=Tryz.prog) Tryz.underlying161 C6o C09 h hw (a:=t) (by rw[B4q,if_neg ht]) (.bool true);exact⟨H',h1,by unfold BMap;rw[List.map_append];exact h2,h3,h4⟩
theorem B0y{base:Nat}{H':AH}{z:Value}{os ob:Option Nat}{l:List Nat}(t:Nat)(hb:base≤H'.next)(hw:Wf H')(ho:∀y,os=some y→y<H'.next)(hl:LB H' base os z l ob)(hn:l.length≤17179869183):
  ∃ a cap w' H4 ob', z = .slice a l.length cap ∧ A4a Tryz.prog 71 1 [(0, .int .i64 (t : Int))] H' = some (.slice (some ⟨H'.next, 0, some 0⟩) 1 1, (H'.new 1 [.int .i64 (t : Int)]).2) ∧
      A3a Tryz.prog .append [71, 71] [.slice a l.length cap, .slice (some ⟨H'.next, 0, some 0⟩) 1 1] (H'.new 1 [.int .i64 (t : Int)]).2 = some (w', H4) ∧
      LB H4 base os w' (l ++ [t]) ob' ∧ Chg (fun y => ob = some y) H' H4 ∧ ∀y, ob' = some y → ob = some y ∨ H'.next ≤ y := by
 obtain⟨a,cap,w',H4,ob',e1,e2,e3,e4,e5⟩:=hl.bf.push hw (x:=natC t) rfl;rw[List.length_map]at e1 e2;have ha:=B5u (H:=H') (base:=a) (len:=l.length) (cap:=cap) (x:=natC t) rfl hn;rw[e2]at ha;refine⟨a,cap,w',H4,ob',e1,A3o (H:=H') (x:=.int .i64 (t:Int)) rfl rfl,ha,⟨by rw[List.map_append];exact e3,fun y hy=>?_⟩,e4,e5⟩;rcases e5 y hy with h1|h1
 ·exact hl.fr y h1
 ·exact⟨by omega,fun h2=>by have:=ho y h2;omega⟩
theorem geNew{H:AH}{e:Nat×Int×Int×Int}:anew Tryz.prog 81 H (.agg (A9a e).toArray)=some (.pointer (some ⟨H.next,0,some 0⟩),(H.new 4 (A9a e)).2):=A2r (vs:=A9a e) A80 rfl rfl
theorem A8q{H:AH}:anew Tryz.prog 81 H (.agg #[.int .i64 0,.int .i64 0,.int .i64 0,.int .i64 0])=some (.pointer (some ⟨H.next,0,some 0⟩),(H.new 4 [.int .i64 0,.int .i64 0,.int .i64 0,.int .i64 0]).2):=A2r (vs:=[.int .i64 0,.int .i64 0,.int .i64 0,.int .i64 0]) A80 rfl rfl
theorem A9k{H:AH}{e:Nat×Int×Int×Int}{p:Addr}:A7d Tryz.prog 81 H (.agg (A9a e).toArray) (.pointer (some p))=H.write p (A9a e):=A9s A80 rfl rfl
theorem A9q{H:AH}{e:Nat×Int×Int×Int}{x0 x1 x2 x3:Value}:(H.new 4 [x0,x1,x2,x3]).2.write ⟨H.next,0,some 0⟩ (A9a e)=some (H.new 4 (A9a e)).2:=A3l rfl
theorem ge0{H:AH}{e:Nat×Int×Int×Int}:(H.new 4 (A9a e)).2.cell ⟨H.next,0,some 0⟩=some (.int .i64 (e.1:Int)):=A9h _ _ _
theorem ge1{H:AH}{e:Nat×Int×Int×Int}:(H.new 4 (A9a e)).2.cell ⟨H.next,1,some 0⟩=some (.int .i64 e.2.1):=A9h _ _ _
theorem ge2{H:AH}{e:Nat×Int×Int×Int}:(H.new 4 (A9a e)).2.cell ⟨H.next,2,some 0⟩=some (.int .i64 e.2.2.1):=A9h _ _ _
theorem ge3{H:AH}{e:Nat×Int×Int×Int}:(H.new 4 (A9a e)).2.cell ⟨H.next,3,some 0⟩=some (.int .i64 e.2.2.2):=A9h _ _ _
theorem C29{H:AH}{e:Nat×Int×Int×Int}:(H.new 4 (A9a e)).2.cells ⟨H.next,0,some 0⟩ 4=some (A9a e):=(Sh.Obj.new (H:=H) 4 (A9a e)).cells (i:=0) (n:=4) (by simp[A9a])
theorem PG.row{H:AH}{g n rb:Nat}{E:List (List (Nat×Int×Int×Int))}{ends:List Int}{sv av ev cv:Value}{vals:List Value}{sigma:List ByteArray}{costs:List Int}(h:PG H g n rb E ends sv av ev cv vals sigma costs){s:Nat}{r:List (Nat×Int×Int×Int)}(hr:E[s]?=some r):
  ∃p w,A4b Tryz.prog 101 av (.int .i64 (s:Int))=some (.pointer (some p))∧H.cell p=some w∧Sl H w 4 (r.map A9a)∧∀H',A3a Tryz.prog .len [111] [w] H'=some (.int .i64 (r.length:Int),H'):=by
 obtain⟨ga,oa,ka,w,h1,h2,h3⟩:=h.gr.jag.at Tryz.underlying101 A9p (i:=s) (r:=r.map A9a) (by unfold A8b;rw[List.getElem?_map,hr];rfl);exact⟨_,w,h1,h2,h3,fun H'=>by rw[h3.len Tryz.underlying111,List.length_map]⟩
theorem PG.edge{H:AH}{w:Value}{r:List (Nat×Int×Int×Int)}(h:Sl H w 4 (r.map A9a)){q:Nat}(hq:q<r.length):
  ∃p,A4b Tryz.prog 111 w (.int .i64 (q:Int))=some (.pointer (some p))∧H.cells p 4=some (A9a r[q]):=by
 obtain⟨g',o',k',h1,h2,_⟩:=h.at Tryz.underlying111 A80 (i:=q) (x:=A9a r[q]) (by simp[hq]) .i64;exact⟨_,h1,h2⟩
theorem C3a{H:AH}{v:Value}{l:List (List Value)}(hs:Sl H v 1 l)(hl:l.length≤17179869183)(hw:Wf H):
  Sh.Call Tryz.prog (knows 7) 65 [v] H (fun r H'=>Kept H H'∧∃b,Buf H' 1 r l b∧∀g,b=some g→H.next≤g):=by
 refine A5a rfl Tryz.func65 rfl (Nat.le_of_ble_eq_true rfl) ?_;have hres:Tryz.f65.results.toList=[.tmp 2]:=rfl;obtain⟨a,cap,rfl,h2,h3,h4⟩:=id hs;cases a with
 | none=>
  obtain⟨rfl,rfl⟩:=h3 rfl;simp only[↓Sh.dn,sx,reduceCtorEq,List.length_nil,Option.isNone_none,hres];exact⟨Kept.refl hw,none,.void none,fun g h=>by cases h⟩
 | some a=>
  have hs1:=hs.grow (HGrow.new hw 1 []);have hk1:Kept H (H.new 1 []).2:=Kept.new hw 1 [];obtain⟨v',H',b',e1,e2,e3,e4⟩:=(Buf.void (H:=(H.new 1 []).2) (s:=1) (some ⟨H.next,0,some 0⟩)).append hk1.wf h2;have happ:=app_22 (base:=some ⟨H.next,0,some 0⟩) (len:=0) (cap:=0) (hs1.srcKind Tryz.underlying22) hs1.newCells (by omega);have hk2:Kept (H.new 1 []).2 H':=e3.kept fun g hg h=>by cases h
  simp only[↓Sh.dn,sx,reduceCtorEq,Nat.reduceEqDiff,Option.isNone_some,happ,e1,hres];refine⟨hk1.trans hk2,b',by simpa using e2,fun g hg=>?_⟩;rcases e4 with rfl|⟨rfl,_⟩
  ·cases hg
  ·cases hg;exact Nat.le_succ _
theorem C7f{H:AH}{v:Value}{l:List (List Value)}(hs:Sl H v 1 l)(hl:l.length≤1048576)(hw:Wf H):
  Sh.Call Tryz.prog (knows 7) 65 [v] H (fun r H'=>Kept H H'∧∃b,Buf H' 1 r l b∧∀g,b=some g→H.next≤g):=C3a hs (Nat.le_trans hl (by decide)) hw
end Go.Proofs.YtjjgodccecehlaaGreat
