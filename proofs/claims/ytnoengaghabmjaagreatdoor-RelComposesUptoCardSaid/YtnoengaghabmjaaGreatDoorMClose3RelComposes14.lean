/- A part of the proof: GraphComp, CompRows, GraphCompose, CompPair, RelWide, RelCompose, JoinErr3, JoinCompose, RefTwin, RefComposed, MadeCompose, LawRelComposes, LaidW. -/
import Derived.Test.YtnoengaghabmjaaGreatDoorMClose3RelComposes10
import Derived.Test.YtnoengaghabmjaaGreatDoorMClose3RelComposes8
import Derived.Test.YtnoengaghabmjaaGreatDoorMClose3RelComposes13
import Derived.Test.YtnoengaghabmjaaGreatDoorMClose3RelComposes4
import Derived.Test.YtnoengaghabmjaaGreatDoorMClose3RelComposes12
import Derived.Test.YtnoengaghabmjaaGreatDoorRows
import Derived.Test.YtnoengaghabmjaaGreatDoorProg
import Derived.Deep.DeepHandedRow
import Derived.Deep.DeepWitnessRowRef
import Derived.Lib.LaidIn
import Derived.ProofKit
import Derived.KernelRfl
set_option linter.unusedVariables false
set_option linter.unusedSimpArgs false
/- graph.Compose: what is owned while it runs; its closure `to`. -/
set_option maxHeartbeats 4000000
set_option maxRecDepth 20000
set_option linter.unusedSimpArgs false
set_option linter.unusedVariables false
namespace Go.Proofs.YtnoengaghabmjaaGreatDoor
open Go Go.Proofs Go.Proofs.Sh
theorem held_cp:Tryz.prog.stoodInHeld 120=false:=by kernel_rfl
theorem cp_eq {d:Nat} (a b:Nat×Nat):eqT Tryz.prog (d+1+1) 120 (.agg (A4b a).toArray) (.agg (A4b b).toArray)=some (decide (a=b)):=by
 obtain ⟨a0,a1⟩:=a
 obtain ⟨b0,b1⟩:=b
 rw [eqT.eq_def]
 have s1:("p" == "_")=false:=rfl
 have s2:("q" == "_")=false:=rfl
 simp only [A4b,Tryz.underlying120,held_cp,cond_false,eqFields,apart,B7c,List.getElem?_cons_zero,List.getElem?_cons_succ,Option.bind_some,A17,s1,s2,natI,Prod.mk.injEq]
 by_cases h0:a0=b0
 ·by_cases h1:a1=b1
  ·simp [h0,h1]
  ·simp [h0,h1]
 ·simp [h0]
theorem C5w (a b:Nat×Nat):eqT Tryz.prog A4f 120 (A7p A4b a) (A7p A4b b)=some (decide (a=b)):=cp_eq (d:=18) a b
theorem B30 (a:Nat×Nat):A4j Tryz.prog 120 (A7p A4b a)=true:=by
 unfold A4j
 rw [Bool.and_eq_true]
 refine ⟨rfl,?_⟩
 show keyT Tryz.prog (18+1+1) _ _=true
 rw [keyT.eq_def]
 simp only [A7p,A4b,Tryz.underlying120,List.all_cons,List.all_nil,apart,B7c,List.getElem?_cons_zero,List.getElem?_cons_succ,A89,Bool.or_true,Bool.and_self]
theorem cpNew {a b:Nat}:A2m Tryz.prog 120 [(0,.int .i64 (a:Int)),(1,.int .i64 (b:Int))]=some (.agg (A4b (a,b)).toArray):=by
 have va:∀ xs:Array Value,A8a (.agg xs)=xs.toList:=fun _=>rfl
 have hi:∀ n:Int,isCell (.int .i64 n)=true:=fun _=>rfl
 refine A9g (pl:=[(0,1),(1,1)]) Tryz.underlying120 A3z (by kernel_rfl) ?_
 simp [A5r,va,A8b (hi _),hi,setCells,A4b,A6a,A0c]
theorem cpNew0:A2m Tryz.prog 120 [(0,.int .i64 0),(1,.int .i64 0)]=some (.agg (A4b (0,0)).toArray):=cpNew (a:=0) (b:=0)
section
variable {H:AH} {q:Nat×Nat}
theorem cpBox:anew Tryz.prog 120 H (.agg (A4b q).toArray)=some (.pointer (some ⟨H.next,0,some 0⟩),(H.new 2 (A4b q)).2):=A4n (vs:=A4b q) A5u rfl rfl
theorem cpZero:anew Tryz.prog 120 H (.agg #[.int .i64 0,.int .i64 0])=some (.pointer (some ⟨H.next,0,some 0⟩),(H.new 2 [.int .i64 0,.int .i64 0]).2):=A4n (vs:=[.int .i64 0,.int .i64 0]) A5u rfl rfl
theorem cpStore {a:Addr}:A4h Tryz.prog 120 H (.agg (A4b q).toArray) (.pointer (some a))=H.write a (A4b q):=A4q A5u rfl rfl
theorem cpOver {x y:Value}:(H.new 2 [x,y]).2.write ⟨H.next,0,some 0⟩ (A4b q)=some (H.new 2 (A4b q)).2:=A3q rfl
theorem C6m:A4a Tryz.prog 122 1 [(0,.agg (A4b q).toArray)] H=some (.slice (some ⟨H.next,0,some 0⟩) 1 1,(H.new 2 (A4b q)).2):=C4f (H:=H) (x:=.agg (A4b q).toArray) rfl rfl
theorem cp0:(H.new 2 (A4b q)).2.cell ⟨H.next,0,some 0⟩=some (.int .i64 (q.1:Int)):=A1k _ _ _
theorem cp1:(H.new 2 (A4b q)).2.cell ⟨H.next,1,some 0⟩=some (.int .i64 (q.2:Int)):=A1k _ _ _
theorem cpAll:(H.new 2 (A4b q)).2.cells ⟨H.next,0,some 0⟩ 2=some (A4b q):=(Sh.Obj.new (H:=H) 2 (A4b q)).cells (i:=0) (n:=2) (by simp [A4b])
end
def idxM (k:Nat) (T:List (Nat×Nat)):List ((Nat×Nat)×Value):=(T.zipIdx k).map fun p=>(p.1,.int .i64 (p.2:Int))
theorem C2q (T:List (Nat×Nat)) (x:Nat×Nat):idxM 0 (T++[x])=idxM 0 T++[(x,.int .i64 (T.length:Int))]:=by
 unfold idxM
 rw [List.zipIdx_append,List.map_append]
 simp
theorem B1p:∀ (T:List (Nat×Nat)) (k:Nat) (x:Nat×Nat),A6q (idxM k T) x=if x∈T then some (.int .i64 ((k+ixOf T x:Nat):Int)) else none
 | [],k,x=>rfl
 | y :: T,k,x=>by
  have ih:=B1p T (k+1) x
  unfold idxM A6q at ih ⊢
  simp only [List.zipIdx_cons,List.map_cons,List.find?_cons]
  by_cases h:x=y
  ·subst h
   rw [ix_head]
   simp
  ·simp only [decide_eq_false h]
   rw [ih]
   by_cases hx:x∈T
   ·rw [if_pos hx,if_pos (List.mem_cons_of_mem _ hx),ix_tail h]
    congr 3
    omega
   ·rw [if_neg hx,if_neg (by simp [h,hx])]
structure CompS (H:AH) (Z:Nat→Prop) (g5 g6 g7 gm g:Nat) (X:Nat→Prop) (z:Value) (ob:Option Nat) (sigma:List ByteArray) (T:List (Nat×Nat)) (rows:List (List (List Value))) (ends costs:List Int):Prop where
 c5:H.cell ⟨g5,0,some 0⟩=some (.pointer (some ⟨g,0,some 0⟩))
 c6:H.cell ⟨g6,0,some 0⟩=some (.map (some gm))
 c7:Arr H g7 0 1 [z]
 td:Buf H 2 z (T.map A4b) ob
 mp:MapIs H gm (A7p A4b) (idxM 0 T)
 gr:GrX H X g sigma rows ends costs
 sx:∀ y,X y→y < H.next∧Z y∧y≠g5∧y≠g6∧y≠g7∧y≠gm∧ob≠some y
 so:∀ y,ob=some y→Z y∧y≠g5∧y≠g6∧y≠g7∧y≠gm
 z7:Z g7
 zm:Z gm
 n57:g5≠g7∧g6≠g7∧gm≠g5∧gm≠g6∧gm≠g7
 l5:g5 < H.next∧g6 < H.next
 nw:∀ y,H.next≤y→Z y
def CO (X:Nat→Prop) (g7 gm:Nat) (ob:Option Nat) (y:Nat):Prop:=X y∨y=g7∨y=gm∨ob=some y
section
variable {H H':AH} {Z X:Nat→Prop} {g5 g6 g7 gm g:Nat} {z:Value} {ob:Option Nat} {sigma:List ByteArray} {T:List (Nat×Nat)} {rows:List (List (List Value))} {ends costs:List Int}
theorem CompS.lt (h:CompS H Z g5 g6 g7 gm g X z ob sigma T rows ends costs) (hw:Wf H):∀ y,CO X g7 gm ob y→y < H.next:=by
 rintro y (hy | rfl | rfl | hy)
 ·exact (h.sx y hy).1
 ·exact h.c7.lt hw
 ·exact h.mp.lt hw
 ·exact h.td.lt hw y hy
theorem CompS.own (h:CompS H Z g5 g6 g7 gm g X z ob sigma T rows ends costs):∀ y,CO X g7 gm ob y→Z y:=by
 rintro y (hy | rfl | rfl | hy)
 ·exact (h.sx y hy).2.1
 ·exact h.z7
 ·exact h.zm
 ·exact (h.so y hy).1
theorem A7j {a:Addr} {v:Value} (e:H.cell a=some v) (h:H'.objs.get a.block=H.objs.get a.block):H'.cell a=some v:=by
 rw [← e]
 unfold AH.cell AH.row?
 rw [h]
theorem B2h {a:Addr} {n:Nat} (h:H'.objs.get a.block=H.objs.get a.block):H'.cells a n=H.cells a n:=by
 unfold AH.cells AH.row?
 rw [h]
theorem CompS.kept (h:CompS H Z g5 g6 g7 gm g X z ob sigma T rows ends costs) (hw:Wf H) (hk:Kept H H'):CompS H' Z g5 g6 g7 gm g X z ob sigma T rows ends costs:=
 { h with
  c5:=A8g (hk.grow hw) h.c5
  c6:=A8g (hk.grow hw) h.c6
  c7:=h.c7.keep (hk.old g7 (h.c7.lt hw))
  td:=h.td.kept hw hk
  mp:=h.mp.keep (hk.old gm (h.mp.lt hw))
  gr:=h.gr.kept hw hk
  sx:=fun y hy=>⟨Nat.lt_of_lt_of_le (h.sx y hy).1 hk.next,(h.sx y hy).2⟩
  l5:=⟨Nat.lt_of_lt_of_le h.l5.1 hk.next,Nat.lt_of_lt_of_le h.l5.2 hk.next⟩
  nw:=fun y hy=>h.nw y (Nat.le_trans hk.next hy) }
theorem CompS.less (h:CompS H Z g5 g6 g7 gm g X z ob sigma T rows ends costs) {b:Nat} (hb:¬CO X g7 gm ob b) (hl:b < H.next):CompS H (fun y=>Z y∧y≠b) g5 g6 g7 gm g X z ob sigma T rows ends costs:=
 { h with
  sx:=fun y hy=>⟨(h.sx y hy).1,⟨(h.sx y hy).2.1,fun e=>hb (e ▸ .inl hy)⟩,(h.sx y hy).2.2⟩
  so:=fun y hy=>⟨⟨(h.so y hy).1,fun e=>hb (e ▸ .inr (.inr (.inr hy)))⟩,(h.so y hy).2⟩
  z7:=⟨h.z7,fun e=>hb (e ▸ .inr (.inl rfl))⟩
  zm:=⟨h.zm,fun e=>hb (e ▸ .inr (.inr (.inl rfl)))⟩
  nw:=fun y hy=>⟨h.nw y hy,by omega⟩ }
theorem CompS.more (h:CompS H Z g5 g6 g7 gm g X z ob sigma T rows ends costs) {Z':Nat→Prop} (hz:∀ y,Z y→Z' y):CompS H Z' g5 g6 g7 gm g X z ob sigma T rows ends costs:=
 { h with
  sx:=fun y hy=>⟨(h.sx y hy).1,hz y (h.sx y hy).2.1,(h.sx y hy).2.2⟩
  so:=fun y hy=>⟨hz y (h.so y hy).1,(h.so y hy).2⟩
  z7:=hz _ h.z7
  zm:=hz _ h.zm
  nw:=fun y hy=>hz y (h.nw y hy) }
theorem CompS.graph (h:CompS H Z g5 g6 g7 gm g X z ob sigma T rows ends costs) (hw:Wf H) (hc:Chg X H H') {rows':List (List (List Value))} {ends' costs':List Int} (hG:GrX H' (fun y=>X y∨H.next≤y) g sigma rows' ends' costs'):CompS H' Z g5 g6 g7 gm g (fun y=>(X y∨H.next≤y)∧y < H'.next) z ob sigma T rows' ends' costs':=by
 have hob:=h.td.lt hw
 have hm:=h.mp.lt hw
 have h7:=h.c7.lt hw
 obtain ⟨l5,l6⟩:=h.l5
 exact { h with
  c5:=A7j h.c5 (hc.old g5 l5 fun hx=>(h.sx g5 hx).2.2.1 rfl)
  c6:=A7j h.c6 (hc.old g6 l6 fun hx=>(h.sx g6 hx).2.2.2.1 rfl)
  c7:=h.c7.keep (hc.old g7 h7 fun hx=>(h.sx g7 hx).2.2.2.2.1 rfl)
  td:=h.td.chg hw hc fun y hy hx=>(h.sx y hx).2.2.2.2.2.2 hy
  mp:=h.mp.keep (hc.old gm hm fun hx=>(h.sx gm hx).2.2.2.2.2.1 rfl)
  gr:=grNow hG hc.wf
  sx:=fun y hy=>by
   refine ⟨hy.2,?_⟩
   rcases hy.1 with hx | hx
   ·exact (h.sx y hx).2
   ·exact ⟨h.nw y hx,by omega,by omega,by omega,by omega,fun e=>by have:=hob y e; omega⟩
  l5:=⟨Nat.lt_of_lt_of_le l5 hc.next,Nat.lt_of_lt_of_le l6 hc.next⟩
  nw:=fun y hy=>h.nw y (Nat.le_trans hc.next hy) }
theorem CompS.note (h:CompS H Z g5 g6 g7 gm g X z ob sigma T rows ends costs) (hw:Wf H) {x:Nat×Nat} (hx:x∉T) (hl:T.length≤1073741823):
  ∃ H1 b cap z' H3 ob' H4,A3e Tryz.prog 121 (.map (some gm)) (.agg (A4b x).toArray) (.int .i64 (T.length:Int)) H=some H1∧Chg (fun y=>y=gm) H H1∧z=.slice b T.length cap∧
   A5a Tryz.prog .append [122,122] [.slice b T.length cap,.slice (some ⟨H1.next,0,some 0⟩) 1 1] (H1.new 2 (A4b x)).2=some (z',H3)∧H3.cell ⟨g7,0,some 0⟩=some z∧
   A4h Tryz.prog 122 H3 z' (.pointer (some ⟨g7,0,some 0⟩))=some H4∧Chg (CO X g7 gm ob) H H4∧CompS H4 Z g5 g6 g7 gm g X z' ob' sigma (T++[x]) rows ends costs:=by
 have hgm:=h.mp.lt hw
 have h7:=h.c7.lt hw
 obtain ⟨l5,l6⟩:=h.l5
 obtain ⟨n1,n2,n3,n4,n5⟩:=h.n57
 have hob:=h.td.lt hw
 obtain ⟨H1,a1,a2,a3,a4⟩:=MapIs.add Tryz.underlying121 B30 C5w h.mp hw (a:=x) (by rw [B1p,if_neg hx]) (.int .i64 (T.length:Int))
 have t1:Buf H1 2 z (T.map A4b) ob:=h.td.chg hw a3 fun y hy e=>(h.so y hy).2.2.2.2 e
 obtain ⟨b,cap,z',H3,ob',e1,e2,e3,e4,e5⟩:=t1.push a3.wf (x:=A4b x) rfl
 rw [List.length_map] at e1 e2
 have ha:=app1_122 (H:=H1) (base:=b) (len:=T.length) (cap:=cap) (x:=A4b x) rfl hl
 rw [e2] at ha
 have c7':Arr H3 g7 0 1 [z]:=(h.c7.keep (a3.old g7 h7 fun e=>n5 e.symm)).keep (e4.old g7 (by omega) fun e=>(h.so g7 e).2.2.2.1 rfl)
 obtain ⟨H4,w1,w2,w3,w4⟩:=c7'.write e4.wf (i:=0) (vs:=[z']) (by simp)
 have st:A4h Tryz.prog 122 H3 z' (.pointer (some ⟨g7,0,some 0⟩))=some H4:=by rw [A8i B79 e3.isCell,w1]
 have m3:=e4.next
 have m4:=w4.next
 have o':∀ y,ob'=some y→(ob=some y∨H.next≤y)∧y < H3.next:=fun y hy=>⟨(e5 y hy).imp id fun h=>by omega,e3.lt e4.wf y hy⟩
 have tot:Chg (CO X g7 gm ob) H H4:=((a3.weak fun y hy=>.inr (.inr (.inl hy))).trans (e4.weak fun y hy=>.inr (.inr (.inr hy)))).trans (w4.weak fun y hy=>.inr (.inl hy))
 refine ⟨H1,b,cap,z',H3,ob',H4,a1,a3,e1,ha,c7'.cell 0,st,tot,?_⟩
 have hG1:=h.gr.chg hw a3 fun y hy e=>(h.sx y hy).2.2.2.2.2.1 e
 have hG3:=hG1.chg a3.wf e4 fun y hy e=>(h.sx y hy).2.2.2.2.2.2 e
 have hG4:=hG3.chg e4.wf w4 fun y hy e=>(h.sx y hy).2.2.2.2.1 e
 have nco:∀ {y},y < H.next→y≠g7→y≠gm→¬X y→ob≠some y→H4.objs.get y=H.objs.get y:=fun {y} hy i1 i2 i3 i4=>tot.old y hy fun hco=>by
  rcases hco with h | h | h | h
  ·exact i3 h
  ·exact i1 h
  ·exact i2 h
  ·exact i4 h
 exact { h with
  c5:=A7j h.c5 (nco l5 n1 (fun e=>n3 e.symm) (fun hX=>(h.sx g5 hX).2.2.1 rfl) fun e=>(h.so g5 e).2.1 rfl)
  c6:=A7j h.c6 (nco l6 n2 (fun e=>n4 e.symm) (fun hX=>(h.sx g6 hX).2.2.2.1 rfl) fun e=>(h.so g6 e).2.2.1 rfl)
  c7:=w2
  td:=by
   rw [List.map_append]
   exact e3.chg e4.wf w4 fun y hy e=>by
    rcases (o' y hy).1 with h1 | h1
    ·exact (h.so y h1).2.2.2.1 e
    ·omega
  mp:=by
   rw [C2q]
   refine (a2.keep (e4.old gm (by omega) fun e=>(h.so gm e).2.2.2.2 rfl)).keep (w4.old gm (by omega) fun e=>n5 e)
  gr:=hG4
  sx:=fun y hy=>by
   obtain ⟨s1,s2,s3,s4,s5,s6,s7⟩:=h.sx y hy
   exact ⟨by omega,s2,s3,s4,s5,s6,fun e=>by
    rcases (o' y e).1 with h1 | h1
    ·exact s7 h1
    ·omega⟩
  so:=fun y hy=>by
   rcases (o' y hy).1 with h1 | h1
   ·exact h.so y h1
   ·exact ⟨h.nw y h1,by omega,by omega,by omega,by omega⟩
  l5:=⟨by omega,by omega⟩
  nw:=fun y hy=>h.nw y (by omega) }
theorem CO_graph {H H':AH} {y:Nat} (h:CO (fun y=>(X y∨H.next≤y)∧y < H'.next) g7 gm ob y):CO X g7 gm ob y∨H.next≤y:=by
 rcases h with ⟨h | h,_⟩ | h | h | h
 ·exact .inl (.inl h)
 ·exact .inr h
 ·exact .inl (.inr (.inl h))
 ·exact .inl (.inr (.inr (.inl h)))
 ·exact .inl (.inr (.inr (.inr h)))
theorem compTo {x:Nat×Nat} (h:CompS H Z g5 g6 g7 gm g X z ob sigma T rows ends costs) (hlr:rows.length=T.length) (hle:ends.length=T.length) (hlc:costs.length=T.length) (hl:T.length≤1048575) (hw:Wf H):
  Sh.Call Tryz.prog (knows 8) 78 [.agg (A4b x).toArray,.pointer (some ⟨g6,0,some 0⟩),.pointer (some ⟨g5,0,some 0⟩),.pointer (some ⟨g7,0,some 0⟩)] H (fun r H'=>Chg (CO X g7 gm ob) H H'∧r=.int .i64 ((ixOf (A8l T x) x:Nat):Int)∧∃ X' z' ob',CompS H' Z g5 g6 g7 gm g X' z' ob' sigma (A8l T x) (rows++List.replicate ((A8l T x).length - T.length) []) (ends++List.replicate ((A8l T x).length - T.length) 0) (costs++List.replicate ((A8l T x).length - T.length) 0)):=by
 refine A3b rfl Tryz.func78 rfl (Nat.le_of_ble_eq_true rfl) ?_
 have hres:Tryz.f78.results.toList=[.tmp 5]:=rfl
 have kn:=Kept.new hw 2 (A4b x)
 have h1:=h.kept hw kn
 have hgb:H.next < (H.new 2 (A4b x)).2.next:=Nat.lt_succ_self _
 have hcb:(H.new 2 (A4b x)).2.cells ⟨H.next,0,some 0⟩ 2=some (A4b x):=cpAll
 have hlk:=MapIs.look (ok:=true) Tryz.underlying121 B6f B30 C5w h1.mp x
 rw [B1p] at hlk
 have hcO:=h.lt hw
 simp only [↓Sh.dn,sx,Nat.reduceBEq,reduceCtorEq,Nat.reduceEqDiff,cpBox]
 obtain ⟨gb,hgb'⟩:∃ gb,H.next=gb:=⟨_,rfl⟩
 rw [hgb'] at hgb hcb hcO ⊢
 generalize (H.new 2 (A4b x)).2=H1 at kn h1 hgb hcb hlk ⊢
 have c6:=h1.c6
 have c5:=h1.c5
 unfold A7p at hlk
 simp only [↓Sh.dn,sx,Nat.reduceBEq,reduceCtorEq,Nat.reduceEqDiff,c6,hcb,Option.map_some,hlk]
 by_cases hx:x∈T
 ·have eg:A8l T x=T:=by unfold A8l; rw [if_pos hx]
  have e0:(0+ixOf T x:Nat)=ixOf T x:=Nat.zero_add _
  simp only [↓Sh.dn,sx,Nat.reduceBEq,reduceCtorEq,Nat.reduceEqDiff,hx,if_true,Option.getD_some,Option.isSome_some,cond_true,e0,hres,eg,Nat.sub_self,List.replicate_zero,List.append_nil]
  exact ⟨kn.chg,X,z,ob,h1⟩
 ·have eg:A8l T x=T++[x]:=by unfold A8l; rw [if_neg hx]
  have ei:ixOf (T++[x]) x=T.length:=ix_new hx
  have el:(T++[x]).length - T.length=1:=by simp
  obtain ⟨r2,H2,hd2,hc2,rfl,hG2⟩:=grState h1.gr (by omega) (by rw [hle,hlr]) (by rw [hlc,hlr]) kn.wf
  have h2:=h1.graph kn.wf hc2 hG2
  have hcb2:H2.cells ⟨gb,0,some 0⟩ 2=some (A4b x):=by
   rw [← hcb]
   exact B2h (hc2.old gb hgb fun hX=>by have:=hcO gb (.inl hX); omega)
  have c62:=h2.c6
  have hlT:=hlr
  obtain ⟨H3,b,cap,z',H4,ob',H5,n1,n2,rfl,n4,n5,n6,n7,h5⟩:=h2.note hc2.wf hx (by omega)
  have hcb3:H3.cells ⟨gb,0,some 0⟩ 2=some (A4b x):=by
   rw [← hcb2]
   exact B2h (n2.old gb (by have:=hc2.next; omega) fun e=>by have:=hcO gm (.inr (.inr (.inl rfl))); omega)
  have c73:H3.cell ⟨g7,0,some 0⟩=some (.slice b T.length cap):=(h2.c7.keep (n2.old g7 (h2.c7.lt hc2.wf) fun e=>h2.n57.2.2.2.2 e.symm)).cell 0
  simp only [↓Sh.dn,sx,Nat.reduceBEq,reduceCtorEq,Nat.reduceEqDiff,hx,if_false,Option.getD_none,Option.isSome_none,cond_true,c5]
  refine ⟨_,_,hd2,?_⟩
  simp only [↓Sh.dn,sx,Nat.reduceBEq,reduceCtorEq,Nat.reduceEqDiff,c62,hcb2,Option.map_some,n1,c73,hcb3,C6m,n4,n6,hres,eg,ei,el,hlT]
  refine ⟨?_,_,_,_,h5⟩
  refine (kn.chg.trans (hc2.weak fun y hy=>.inl hy)).then n7 fun y hy hl=>?_
  rcases CO_graph hy with h9 | h9
  ·exact h9
  ·have:=kn.next
   omega
end
end Go.Proofs.YtnoengaghabmjaaGreatDoor
/- What graph.Compose makes, without the walk: the edges of a pair of states in their order; what is made so far. -/
namespace Go.Proofs.YtnoengaghabmjaaGreatDoor
open Go Go.Proofs Go.Proofs.Sh
abbrev Cand:=(Nat×Nat)×Int×Int×Int
def A80 (p:Nat) (c:GE):List Cand:=if c.2.1 < 0 then [((p,c.1),(-1,c.2.2.1,c.2.2.2))] else []
def A3t (p:Nat) (B:List GE):List Cand:=B.flatMap (A80 p)
def A60 (c d:GE):List Cand:=if d.2.1=c.2.2.1 then [((c.1,d.1),(c.2.1,d.2.2.1,c.2.2.2+d.2.2.2))] else []
def B5f (c:GE) (B:List GE):List Cand:=B.flatMap (A60 c)
def A1w (q:Nat) (B:List GE) (c:GE):List Cand:=if c.2.2.1 < 0 then [((c.1,q),(c.2.1,-1,c.2.2.2))] else B5f c B
def A3w (q:Nat) (B A:List GE):List Cand:=A.flatMap (A1w q B)
def A6m (EA EB:List (List GE)) (x:Nat×Nat):List Cand:=A3t x.1 (EB.getD x.2 [])++A3w x.2 (EB.getD x.2 []) (EA.getD x.1 [])
def fsts (L:List Cand):List (Nat×Nat):=L.map Prod.fst
theorem B4n (L M:List Cand):fsts (L++M)=fsts L++fsts M:=by simp [fsts]
def A0p (T0:List (Nat×Nat)) (R0:List (List GE)) (i:Nat) (L:List Cand):List (List GE):=(R0++List.replicate ((A1e T0 (fsts L)).length - T0.length) []).set i (A9m (A1e T0 (fsts L)) L)
def A3p (T0:List (Nat×Nat)) (l:List Int) (L:List Cand):List Int:=l++List.replicate ((A1e T0 (fsts L)).length - T0.length) 0
section
variable {T0:List (Nat×Nat)} {R0:List (List GE)} {i:Nat} {L:List Cand} {l:List Int}
theorem A4v (T l:List (Nat×Nat)):T.length≤(A1e T l).length:=by
 obtain ⟨U,hU⟩:=A92 l T
 rw [hU,List.length_append]; omega
theorem B9y (h:R0.length=T0.length):(A0p T0 R0 i L).length=(A1e T0 (fsts L)).length:=by
 have:=A4v T0 (fsts L)
 unfold A0p
 rw [List.length_set,List.length_append,List.length_replicate]; omega
theorem A33 (h:l.length=T0.length):(A3p T0 l L).length=(A1e T0 (fsts L)).length:=by
 have:=A4v T0 (fsts L)
 unfold A3p
 rw [List.length_append,List.length_replicate]; omega
theorem B4z {α:Type} (a b c:Nat) (x:α) (h1:a≤b) (h2:b≤c):List.replicate (b - a) x++List.replicate (c - b) x=List.replicate (c - a) x:=by
 rw [List.replicate_append_replicate]
 congr 1
 omega
theorem set_over {α:Type} {A B:List α} {i:Nat} (h:i < A.length) (x y:α):(A.set i x++B).set i y=(A++B).set i y:=by
 rw [List.set_append_left _ _ (by rw [List.length_set]; exact h),List.set_set,List.set_append_left _ _ h]
theorem B8g (h:l.length=T0.length) (c:Cand):A3p T0 l (L++[c])=A3p T0 l L++List.replicate ((A8l (A1e T0 (fsts L)) c.1).length - (A1e T0 (fsts L)).length) 0:=by
 have h1:=A4v T0 (fsts L)
 obtain ⟨U,hU⟩:=A63 (A1e T0 (fsts L)) c.1
 unfold A3p
 rw [B4n,show fsts [c]=[c.1] from rfl,A4t,List.append_assoc,B4z _ _ _ _ h1 (by rw [hU,List.length_append]; omega)]
theorem B9r (h:R0.length=T0.length) (hi:i < T0.length):(A0p T0 R0 i L)[i]?=some (A9m (A1e T0 (fsts L)) L):=by
 have:=A4v T0 (fsts L)
 unfold A0p
 rw [List.getElem?_set,if_pos rfl,if_pos (by rw [List.length_append]; omega)]
theorem C8h (h:R0.length=T0.length) (hi:i < T0.length) (c:Cand):A0p T0 R0 i (L++[c])=(A0p T0 R0 i L++List.replicate ((A8l (A1e T0 (fsts L)) c.1).length - (A1e T0 (fsts L)).length) []).set i (A9m (A1e T0 (fsts L)) L++[(ixOf (A8l (A1e T0 (fsts L)) c.1) c.1,c.2)]):=by
 have h1:=A4v T0 (fsts L)
 obtain ⟨U,hU⟩:=A63 (A1e T0 (fsts L)) c.1
 have h2:=B71 (T:=T0) (l:=L) c
 unfold A0p
 rw [set_over (by rw [List.length_append]; omega),List.append_assoc,B4z _ _ _ _ h1 (by rw [hU,List.length_append]; omega)]
 have e:fsts (L++[c])=(L++[c]).map Prod.fst:=rfl
 rw [e,h2,← e,B4n,show fsts [c]=[c.1] from rfl,A4t]
 have e3:L.map Prod.fst=fsts L:=rfl
 rw [e3]
end
theorem A74 {T:List (Nat×Nat)} {R:List (List GE)} {j:Nat} (h:∀ r,R[j]?=some r→r=[]):A0p T R j []=R:=by
 unfold A0p
 rw [show A1e T (fsts [])=T from rfl,Nat.sub_self,List.replicate_zero,List.append_nil]
 refine List.ext_getElem? fun k=>?_
 rw [List.getElem?_set]
 split
 ·rename_i hj
  subst hj
  cases hr':R[j]? with
  | none=>rw [if_neg (by have:=List.getElem?_eq_none_iff.1 hr'; omega)]
  | some r=>rw [if_pos (List.getElem?_eq_some_iff.1 hr').1,h r hr']; rfl
 ·rfl
structure CompI (EA EB:List (List GE)) (ea eb ca cb:List Int) (n1 n2:Nat) (T:List (Nat×Nat)) (i:Nat) (R:List (List GE)) (es cs:List Int):Prop where
 nd:T.Nodup
 h0:T[0]?=some (0,0)
 inb:∀ x∈T,x.1 < n1∧x.2 < n2
 lr:R.length=T.length
 le:es.length=T.length
 lc:cs.length=T.length
 iT:i≤T.length
 row:∀ j x,j < i→T[j]?=some x→R[j]?=some (A9m T (A6m EA EB x))∧(∀ c∈A6m EA EB x,c.1∈T)∧es[j]?=some (if 0 < ea.getD x.1 0∧0 < eb.getD x.2 0 then 1 else 0)∧cs[j]?=some (if 0 < ea.getD x.1 0∧0 < eb.getD x.2 0 then ca.getD x.1 0+cb.getD x.2 0 else 0)
 non:∀ j,i≤j→j < T.length→R[j]?=some []∧es[j]?=some 0∧cs[j]?=some 0
theorem CompI.start (EA EB:List (List GE)) (ea eb ca cb:List Int) {n1 n2:Nat} (h1:0 < n1) (h2:0 < n2):CompI EA EB ea eb ca cb n1 n2 [(0,0)] 0 [[]] [0] [0]:=
 ⟨by simp,rfl,fun x hx=>by rw [List.mem_singleton.1 hx]; exact ⟨h1,h2⟩,rfl,rfl,rfl,Nat.zero_le _,fun j x hj=>absurd hj (Nat.not_lt_zero j),fun j _ hj=>by
  have:j=0:=by simp at hj; exact hj
  subst this
  exact ⟨rfl,rfl,rfl⟩⟩
section
variable {EA EB:List (List GE)} {ea eb ca cb:List Int} {n1 n2 i:Nat} {T:List (Nat×Nat)} {R:List (List GE)} {es cs:List Int}
theorem C9d (hA:∀ r∈EA,∀ e∈r,e.1 < n1) (hB:∀ r∈EB,∀ e∈r,e.1 < n2) {x:Nat×Nat} (hx:x.1 < n1∧x.2 < n2):∀ c∈A6m EA EB x,c.1.1 < n1∧c.1.2 < n2:=by
 have ga:∀ e∈EA.getD x.1 [],e.1 < n1:=fun e he=>by
  rw [List.getD_eq_getElem?_getD] at he
  cases h:EA[x.1]? with
  | none=>rw [h] at he; cases he
  | some r=>rw [h] at he; exact hA r (List.mem_of_getElem? h) e he
 have gb:∀ e∈EB.getD x.2 [],e.1 < n2:=fun e he=>by
  rw [List.getD_eq_getElem?_getD] at he
  cases h:EB[x.2]? with
  | none=>rw [h] at he; cases he
  | some r=>rw [h] at he; exact hB r (List.mem_of_getElem? h) e he
 intro c hc
 rcases List.mem_append.1 hc with h | h
 ·obtain ⟨e,he,h2⟩:=List.mem_flatMap.1 h
  unfold A80 at h2
  split at h2
  ·rw [List.mem_singleton.1 h2]; exact ⟨hx.1,gb e he⟩
  ·cases h2
 ·obtain ⟨e,he,h2⟩:=List.mem_flatMap.1 h
  unfold A1w at h2
  split at h2
  ·rw [List.mem_singleton.1 h2]; exact ⟨ga e he,hx.2⟩
  ·obtain ⟨d,hd,h3⟩:=List.mem_flatMap.1 h2
   unfold A60 at h3
   split at h3
   ·rw [List.mem_singleton.1 h3]; exact ⟨ga e he,gb d hd⟩
   ·cases h3
theorem CompI.grown (h:CompI EA EB ea eb ca cb n1 n2 T i R es cs) {L:List Cand} (hL:∀ c∈L,c.1.1 < n1∧c.1.2 < n2):(A1e T (fsts L)).Nodup∧∀ x∈A1e T (fsts L),x.1 < n1∧x.2 < n2:=
 ⟨B1e h.nd,fun x hx=>by
  rcases A2o.1 hx with h1 | h1
  ·exact h.inb x h1
  ·obtain ⟨c,hc,rfl⟩:=List.mem_map.1 h1
   exact hL c hc⟩
theorem CompI.step (h:CompI EA EB ea eb ca cb n1 n2 T i R es cs) (hA:∀ r∈EA,∀ e∈r,e.1 < n1) (hB:∀ r∈EB,∀ e∈r,e.1 < n2) {x:Nat×Nat} (hx:T[i]?=some x) {es' cs':List Int}
  (he:es'=es.set i (if 0 < ea.getD x.1 0∧0 < eb.getD x.2 0 then 1 else 0)) (hc:cs'=cs.set i (if 0 < ea.getD x.1 0∧0 < eb.getD x.2 0 then ca.getD x.1 0+cb.getD x.2 0 else 0)):
  CompI EA EB ea eb ca cb n1 n2 (A1e T (fsts (A6m EA EB x))) (i+1) (A0p T R i (A6m EA EB x)) (A3p T es' (A6m EA EB x)) (A3p T cs' (A6m EA EB x)):=by
 have hi:i < T.length:=(List.getElem?_eq_some_iff.1 hx).1
 have hle:es'.length=T.length:=by rw [he,List.length_set]; exact h.le
 have hlc:cs'.length=T.length:=by rw [hc,List.length_set]; exact h.lc
 have hxm:=h.inb x (List.mem_of_getElem? hx)
 obtain ⟨g1,g2⟩:=h.grown (C9d hA hB hxm)
 obtain ⟨U,hU⟩:=A92 (fsts (A6m EA EB x)) T
 have get:∀ {j:Nat},j < T.length→(A1e T (fsts (A6m EA EB x)))[j]?=T[j]?:=fun {j} hj=>by rw [hU,List.getElem?_append_left hj]
 have num:∀ {l:List Int} {j:Nat},l.length=T.length→j < T.length→(A3p T l (A6m EA EB x))[j]?=l[j]?:=fun {l j} hl hj=>by unfold A3p; rw [List.getElem?_append_left (by omega)]
 have num0:∀ {l:List Int} {j:Nat},l.length=T.length→T.length≤j→j < (A1e T (fsts (A6m EA EB x))).length→(A3p T l (A6m EA EB x))[j]?=some 0:=fun {l j} hl h1 h2=>by
  unfold A3p; rw [List.getElem?_append_right (by omega),List.getElem?_replicate,if_pos (by omega)]
 have hlen:=A4v T (fsts (A6m EA EB x))
 refine ⟨g1,by rw [get (by omega)]; exact h.h0,g2,B9y h.lr,A33 hle,A33 hlc,by omega,fun j y hj hy=>?_,fun j hj hjl=>?_⟩
 ·have hjT:j < T.length:=by omega
  rw [get hjT] at hy
  rw [num hle hjT,num hlc hjT]
  by_cases hji:j=i
  ·subst hji
   rw [hx] at hy
   have e:=Option.some.inj hy
   subst e
   have hs:∀ (l:List Int) (v:Int),l.length=T.length→(l.set j v)[j]?=some v:=fun l v hl=>by rw [List.getElem?_set,if_pos rfl,if_pos (by omega)]
   rw [B9r h.lr hi,he,hc,hs _ _ h.le,hs _ _ h.lc]
   exact ⟨rfl,fun c hc=>A2o.2 (.inr (List.mem_map.2 ⟨c,hc,rfl⟩)),rfl,rfl⟩
  ·obtain ⟨h1,h2,h3,h4⟩:=h.row j y (by omega) hy
   refine ⟨?_,fun c hc=>?_,?_,?_⟩
   ·unfold A0p
    rw [List.getElem?_set,if_neg (fun e=>hji e.symm),List.getElem?_append_left (by rw [h.lr]; omega),h1,hU,B3i h2]
   ·rw [hU]; exact List.mem_append_left _ (h2 c hc)
   ·rw [he,List.getElem?_set,if_neg (fun e=>hji e.symm)]; exact h3
   ·rw [hc,List.getElem?_set,if_neg (fun e=>hji e.symm)]; exact h4
 ·rcases Nat.lt_or_ge j T.length with h1 | h1
  ·obtain ⟨h2,h3,h4⟩:=h.non j (by omega) h1
   rw [num hle h1,num hlc h1,he,hc,List.getElem?_set,if_neg (by omega),List.getElem?_set,if_neg (by omega)]
   refine ⟨?_,h3,h4⟩
   unfold A0p
   rw [List.getElem?_set,if_neg (by omega),List.getElem?_append_left (by rw [h.lr]; omega)]
   exact h2
  ·rw [num0 hle h1 hjl,num0 hlc h1 hjl]
   refine ⟨?_,rfl,rfl⟩
   unfold A0p
   rw [List.getElem?_set,if_neg (by omega),List.getElem?_append_right (by rw [h.lr]; omega),List.getElem?_replicate,if_pos (by rw [h.lr]; omega)]
end
section
variable {H:AH} {Z X:Nat→Prop} {g5 g6 g7 gm g:Nat} {z:Value} {ob:Option Nat} {sigma:List ByteArray}
def CompAt (H:AH) (Z:Nat→Prop) (g5 g6 g7 gm g:Nat) (sigma:List ByteArray) (T0:List (Nat×Nat)) (R0:List (List GE)) (es cs:List Int) (i:Nat) (L:List Cand):Prop:=
 ∃ (X:Nat→Prop) (z:Value) (ob:Option Nat),CompS H Z g5 g6 g7 gm g X z ob sigma (A1e T0 (fsts L)) (A5l (A0p T0 R0 i L)) (A3p T0 es L) (A3p T0 cs L)
theorem CompAt.box {H':AH} {T0:List (Nat×Nat)} {R0:List (List GE)} {es cs:List Int} {i:Nat} {L:List Cand} (h:CompAt H Z g5 g6 g7 gm g sigma T0 R0 es cs i L) (hw:Wf H) (hk:Kept H H') (hl:H.next < H'.next):CompAt H' (fun y=>Z y∧y≠H.next) g5 g6 g7 gm g sigma T0 R0 es cs i L:=by
 obtain ⟨X,z,ob,h⟩:=h
 exact ⟨X,z,ob,(h.kept hw hk).less (fun hc=>by have:=h.lt hw _ hc; omega) hl⟩
theorem CompAt.more {Z':Nat→Prop} {T0:List (Nat×Nat)} {R0:List (List GE)} {es cs:List Int} {i:Nat} {L:List Cand} (h:CompAt H Z g5 g6 g7 gm g sigma T0 R0 es cs i L) (hz:∀ y,Z y→Z' y):CompAt H Z' g5 g6 g7 gm g sigma T0 R0 es cs i L:=by
 obtain ⟨X,z,ob,h⟩:=h
 exact ⟨X,z,ob,h.more hz⟩
theorem CompAt.next {T0:List (Nat×Nat)} {R0:List (List GE)} {es cs:List Int} {i:Nat} {L:List Cand} (h:CompAt H Z g5 g6 g7 gm g sigma T0 R0 es cs i L) (hn:∀ r,(A0p T0 R0 i L)[i+1]?=some r→r=[]):CompAt H Z g5 g6 g7 gm g sigma (A1e T0 (fsts L)) (A0p T0 R0 i L) (A3p T0 es L) (A3p T0 cs L) (i+1) []:=by
 obtain ⟨X,z,ob,h⟩:=h
 refine ⟨X,z,ob,?_⟩
 have e1:A1e (A1e T0 (fsts L)) (fsts [])=A1e T0 (fsts L):=rfl
 have e2:∀ l:List Int,A3p (A1e T0 (fsts L)) l []=l:=fun l=>by unfold A3p; rw [e1,Nat.sub_self,List.replicate_zero,List.append_nil]
 have e3:A0p (A1e T0 (fsts L)) (A0p T0 R0 i L) (i+1) []=A0p T0 R0 i L:=A74 hn
 rw [e1,e2,e2,e3]
 exact h
theorem CompAt.first {T0:List (Nat×Nat)} {R0:List (List GE)} {es cs:List Int} {i:Nat} (h:CompAt H Z g5 g6 g7 gm g sigma T0 R0 es cs i []) (hr:R0[i]?=some []):∃ (X:Nat→Prop) (z:Value) (ob:Option Nat),CompS H Z g5 g6 g7 gm g X z ob sigma T0 (A5l R0) es cs:=by
 obtain ⟨X,z,ob,h⟩:=h
 refine ⟨X,z,ob,?_⟩
 have e1:A1e T0 (fsts [])=T0:=rfl
 have e2:∀ l:List Int,A3p T0 l []=l:=fun l=>by unfold A3p; rw [e1,Nat.sub_self,List.replicate_zero,List.append_nil]
 have e3:A0p T0 R0 i []=R0:=A74 fun r h=>by rw [hr] at h; exact (Option.some.inj h).symm
 rw [e1,e2,e2,e3] at h
 exact h
theorem CompAt.of {T0:List (Nat×Nat)} {R0:List (List GE)} {es cs:List Int} {i:Nat} {X:Nat→Prop} {z:Value} {ob:Option Nat} (h:CompS H Z g5 g6 g7 gm g X z ob sigma T0 (A5l R0) es cs) (hr:∀ r,R0[i]?=some r→r=[]):CompAt H Z g5 g6 g7 gm g sigma T0 R0 es cs i []:=by
 refine ⟨X,z,ob,?_⟩
 have e1:A1e T0 (fsts [])=T0:=rfl
 have e2:∀ l:List Int,A3p T0 l []=l:=fun l=>by unfold A3p; rw [e1,Nat.sub_self,List.replicate_zero,List.append_nil]
 have e3:A0p T0 R0 i []=R0:=A74 hr
 rw [e1,e2,e2,e3]
 exact h
theorem B40 {T0:List (Nat×Nat)} {R0:List (List GE)} {es cs:List Int} {i:Nat} {L:List Cand} (c:Cand) (h:CompAt H Z g5 g6 g7 gm g sigma T0 R0 es cs i L) (hr:R0.length=T0.length) (he:es.length=T0.length) (hc:cs.length=T0.length) (hi:i < T0.length) (hl:(A1e T0 (fsts L)).length≤1048575) (hL:L.length≤1073741823) (hw:Wf H):
  ∃ k:Nat,∃ H1,Does Tryz.prog (knows 8) 78 [.agg (A4b c.1).toArray,.pointer (some ⟨g6,0,some 0⟩),.pointer (some ⟨g5,0,some 0⟩),.pointer (some ⟨g7,0,some 0⟩)] H (.int .i64 (k:Int)) H1∧Wf H1∧Chg Z H H1∧H1.cell ⟨g5,0,some 0⟩=some (.pointer (some ⟨g,0,some 0⟩))∧
   ∃ rr H2,Does Tryz.prog (knows 8) 67 [.pointer (some ⟨g,0,some 0⟩),.int .i64 (i:Int),.int .i64 (k:Int),.int .i64 c.2.1,.int .i64 c.2.2.1,.int .i64 c.2.2.2] H1 rr H2∧Wf H2∧Chg Z H H2∧CompAt H2 Z g5 g6 g7 gm g sigma T0 R0 es cs i (L++[c]):=by
 obtain ⟨X,z,ob,h⟩:=h
 have hlr:(A5l (A0p T0 R0 i L)).length=(A1e T0 (fsts L)).length:=by unfold A5l; rw [List.length_map,B9y hr]
 obtain ⟨r1,H1,hd1,hc1,rfl,X',z',ob',h1⟩:=compTo (x:=c.1) h hlr (A33 he) (A33 hc) hl hw
 have hz1:Chg Z H H1:=hc1.weak h.own
 have hrow:(A5l (A0p T0 R0 i L)++List.replicate ((A8l (A1e T0 (fsts L)) c.1).length - (A1e T0 (fsts L)).length) [])[i]?=some ((A9m (A1e T0 (fsts L)) L).map A3h):=by
  have:=A4v T0 (fsts L)
  rw [List.getElem?_append_left (by omega)]
  unfold A5l
  rw [List.getElem?_map,B9r hr hi]; rfl
 obtain ⟨rr,H2,hd2,hc2,hG2⟩:=grArcX (x0:=((ixOf (A8l (A1e T0 (fsts L)) c.1) c.1:Nat):Int)) (x1:=c.2.1) (x2:=c.2.2.1) (x3:=c.2.2.2) h1.gr hrow (by rw [List.length_map]; unfold A9m; rw [List.length_map]; exact hL) hz1.wf
 have h2:=h1.graph hz1.wf hc2 hG2
 refine ⟨_,H1,hd1,hz1.wf,hz1,h1.c5,rr,H2,hd2,hc2.wf,hz1.trans (hc2.weak fun y hy=>(h1.sx y hy).2.1),?_⟩
 unfold CompAt
 have e1:A1e T0 (fsts (L++[c]))=A8l (A1e T0 (fsts L)) c.1:=by rw [B4n,show fsts [c]=[c.1] from rfl,A4t]
 rw [e1,B8g he,B8g hc,C8h hr hi]
 have e2 : A5l ((A0p T0 R0 i L ++ List.replicate ((A8l (A1e T0 (fsts L)) c.1).length - (A1e T0 (fsts L)).length) []).set i (A9m (A1e T0 (fsts L)) L ++ [(ixOf (A8l (A1e T0 (fsts L)) c.1) c.1, c.2)])) =
     (A5l (A0p T0 R0 i L) ++ List.replicate ((A8l (A1e T0 (fsts L)) c.1).length - (A1e T0 (fsts L)).length) []).set i ((A9m (A1e T0 (fsts L)) L).map A3h ++ [[Value.int .i64 ((ixOf (A8l (A1e T0 (fsts L)) c.1) c.1 : Nat) : Int), .int .i64 c.2.1, .int .i64 c.2.2.1, .int .i64 c.2.2.2]]) := by
   unfold A5l
   rw [List.map_set, List.map_append, List.map_append, List.map_replicate]
   rfl
 rw [e2]
 exact ⟨_,_,_,h2⟩
end
end Go.Proofs.YtnoengaghabmjaaGreatDoor
/- graph.Compose. -/
namespace Go.Proofs.YtnoengaghabmjaaGreatDoor
open Go Go.Proofs Go.Proofs.Sh
theorem A99 (p:Nat):∀ B:List GE,(A3t p B).length≤B.length
 | []=>by simp [A3t]
 | e :: B=>by
  have ih:=A99 p B
  have h1:(A80 p e).length≤1:=by unfold A80; split <;> simp
  unfold A3t at ih ⊢
  rw [List.flatMap_cons,List.length_append,List.length_cons]
  omega
theorem B3m (c:GE):∀ B:List GE,(B5f c B).length≤B.length
 | []=>by simp [B5f]
 | e :: B=>by
  have ih:=B3m c B
  have h1:(A60 c e).length≤1:=by unfold A60; split <;> simp
  unfold B5f at ih ⊢
  rw [List.flatMap_cons,List.length_append,List.length_cons]
  omega
theorem B7o (q:Nat) (B:List GE):∀ A:List GE,(A3w q B A).length≤A.length * (B.length+1)
 | []=>by simp [A3w]
 | e :: A=>by
  have ih:=B7o q B A
  have h1:(A1w q B e).length≤B.length+1:=by
   unfold A1w
   split
   ·simp
   ·have:=B3m e B; omega
  unfold A3w at ih ⊢
  rw [List.flatMap_cons,List.length_append,List.length_cons,Nat.succ_mul]
  omega
theorem B7l (p:Nat) (B:List GE) (e:GE):A3t p (B++[e])=A3t p B++A80 p e:=by simp [A3t]
theorem B3j (c:GE) (B:List GE) (e:GE):B5f c (B++[e])=B5f c B++A60 c e:=by simp [B5f]
theorem B8k (q:Nat) (B A:List GE) (e:GE):A3w q B (A++[e])=A3w q B A++A1w q B e:=by simp [A3w]
theorem PG.steadyRow {H:AH} {Z:Nat→Prop} {g n rb:Nat} {E:List (List GE)} {ends:List Int} {sv av ev cv:Value} {vals:List Value} {sigma:List ByteArray} {costs:List Int} (h:∀ {H':AH},Chg Z H H'→PG H' g n rb E ends sv av ev cv vals sigma costs) (hw:Wf H) {s:Nat} {r:List GE} (hr:E[s]?=some r):
  ∃ p w,A8d Tryz.prog 101 av (.int .i64 (s:Int))=some (.pointer (some p))∧(∀ H',A5a Tryz.prog .len [108] [w] H'=some (.int .i64 (r.length:Int),H'))∧∀ {H':AH},Chg Z H H'→H'.cell p=some w∧Sl H' w 4 (r.map A3h):=by
 have h0:=h (Chg.refl hw)
 obtain ⟨pr,wr,hiar,hcr,hsr,hlr⟩:=PG.row h0 hr
 have hvl:s < vals.length:=by
  have:=(List.getElem?_eq_some_iff.1 hr).1
  rw [h0.gr.jag.len]; unfold A5l; rw [List.length_map]; omega
 have key:∀ {Hx wx},Chg Z H Hx→Hx.cell pr=some wx→wx=vals[s]:=by
  intro Hx wx hcx hx
  obtain ⟨p',h1,h2⟩:=Sl.elem (s:=1) Tryz.underlying101 A9r (h hcx).gr.jag.sl (i:=s) (u:=vals[s]) (by rw [List.getElem?_map,List.getElem?_eq_getElem hvl]; rfl)
  rw [hiar] at h1
  have e1:=Option.some.inj h1
  injection e1 with e1; injection e1 with e1
  subst e1
  rw [hx] at h2
  exact Option.some.inj h2
 refine ⟨pr,wr,hiar,fun H'=>hsr.len Tryz.underlying108 H' |>.trans (by rw [List.length_map]),fun {H'} hc=>?_⟩
 obtain ⟨pr2,wr2,hia2,hcr2,hsr2,_⟩:=PG.row (h hc) hr
 rw [hiar] at hia2
 have e1:=Option.some.inj hia2
 injection e1 with e1; injection e1 with e1
 subst e1
 have hwr:wr2=wr:=(key hc hcr2).trans (key (Chg.refl hw) hcr).symm
 subst hwr
 exact ⟨hcr2,hsr2⟩
theorem A69 {l:List Int} {i:Nat} {x:Int} (h:l[i]?=some x):l.set i x=l:=by
 refine List.ext_getElem? fun j=>?_
 rw [List.getElem?_set]
 split
 ·rename_i hj
  subst hj
  rw [h,if_pos (List.getElem?_eq_some_iff.1 h).1]
 ·rfl
theorem B8w {H:AH} {Y1 Y2:Nat→Prop} {g1 g2 n1 n2:Nat} {sigma sigma2:List ByteArray} {EA EB:List (List GE)} {ea eb ca cb:List Int} (h1:GrX H Y1 g1 sigma (A5l EA) ea ca) (h2:GrX H Y2 g2 sigma2 (A5l EB) eb cb)
  (hl1:EA.length=n1) (he1:ea.length=n1) (hc1:ca.length=n1) (hp1:1≤n1) (hq1:n1≤3000) (hl2:EB.length=n2) (he2:eb.length=n2) (hc2:cb.length=n2) (hp2:1≤n2) (hq2:n2≤3000) (hnn:n1 * n2≤1000000) (hsl:sigma.length≤1048576)
  (ht1:∀ r∈EA,r.length≤60000∧∀ e∈r,e.1 < n1) (ht2:∀ r∈EB,r.length≤60000∧∀ e∈r,e.1 < n2) (hpr:∀ r∈EA,∀ q∈EB,r.length * (q.length+1)≤100000000)
  (hk1:∀ r∈EA,∀ e∈r,0≤e.2.2.2∧e.2.2.2≤1099511627776) (hk2:∀ r∈EB,∀ e∈r,0≤e.2.2.2∧e.2.2.2≤1099511627776) (hk3:∀ c∈ca,0≤c∧c≤1099511627776) (hk4:∀ c∈cb,0≤c∧c≤1099511627776) (hw:Wf H):
  Sh.Call Tryz.prog (knows 8) 46 [.pointer (some ⟨g1,0,some 0⟩),.pointer (some ⟨g2,0,some 0⟩)] H (fun r H'=>Kept H H'∧∃ g,r=.pointer (some ⟨g,0,some 0⟩)∧∃ (X:Nat→Prop) (T:List (Nat×Nat)) (R:List (List GE)) (es cs:List Int),GrX H' X g sigma (A5l R) es cs∧CompI EA EB ea eb ca cb n1 n2 T T.length R es cs):=by
 refine A3b rfl Tryz.func46 rfl (Nat.le_of_ble_eq_true rfl) ?_
 have hres:Tryz.f46.results.toList=[.tmp 4]:=rfl
 obtain ⟨Z,hZ⟩:∃ Z:Nat→Prop,(fun y=>H.next≤y)=Z:=⟨_,rfl⟩
 have hZi:∀ {y},Z y↔H.next≤y:=fun {y}=>by rw [← hZ]
 obtain ⟨sv1,av1,ev1,cv1,vals1,hst1⟩:=GrX.steady (X:=Z) (grNow h1 hw) hw fun y hy h=>by
  have:=hy.2
  rw [hZi] at h
  omega
 obtain ⟨sv2,av2,ev2,cv2,vals2,hst2⟩:=GrX.steady (X:=Z) (grNow h2 hw) hw fun y hy h=>by
  have:=hy.2
  rw [hZi] at h
  omega
 have hkz:∀ {H'},Chg Z H H'→Kept H H':=fun hc=>(Kept.refl hw).then (Nat.le_refl _) (hc.weak fun y hy=>hZi.1 hy)
 have hR1:=hst1 H (Chg.refl hw)
 have c0:=hR1.arr.cell 0
 obtain ⟨r3,H3,hd3,hk3',g,rfl,hG3⟩:=B95 (n:=1) hR1.sg hsl (by decide) hw
 simp only [↓Sh.dn,sx,Nat.reduceBEq,reduceCtorEq,Nat.reduceEqDiff,c0]
 refine ⟨_,_,hd3,?_⟩
 have bx:∀ {t:Nat} {H:AH} {z x:Value},A9b Tryz.prog t=some 1→isCell z=true→isCell x=true→anew Tryz.prog t H z=some (.pointer (some ⟨H.next,0,some 0⟩),(H.new 1 [z]).2)∧A4h Tryz.prog t (H.new 1 [z]).2 x (.pointer (some ⟨H.next,0,some 0⟩))=some (H.new 1 [x]).2:=fun hs hz hx=>⟨B9m hs hz,by rw [A8i hs hx]; exact A3q rfl⟩
 have b5:=bx (H:=H3) (z:=.pointer none) (x:=.pointer (some ⟨g,0,some 0⟩)) C1w rfl rfl
 have k4:=Kept.new hk3'.wf 1 [.pointer (some ⟨g,0,some 0⟩)]
 have e5:(H3.new 1 [.pointer (some ⟨g,0,some 0⟩)]).2.cell ⟨H3.next,0,some 0⟩=some (.pointer (some ⟨g,0,some 0⟩)):=A1k _ _ _
 have n4:(H3.new 1 [.pointer (some ⟨g,0,some 0⟩)]).2.next=H3.next+1:=rfl
 simp only [↓Sh.dn,sx,Nat.reduceBEq,reduceCtorEq,Nat.reduceEqDiff,b5.1,b5.2,cpNew0]
 obtain ⟨g5,hg5⟩:∃ k,H3.next=k:=⟨_,rfl⟩
 rw [hg5] at e5 n4 ⊢
 generalize (H3.new 1 [.pointer (some ⟨g,0,some 0⟩)]).2=H4 at k4 e5 n4 ⊢
 have kp:=Kept.push k4.wf (.map [])
 have n5:(H4.push (.map [])).2.next=H4.next+1:=rfl
 have m0:MapIs (H4.push (.map [])).2 H4.next (A7p A4b) ([]:List ((Nat×Nat)×Value)):=MapIs.new
 obtain ⟨gm,hgm⟩:∃ k,H4.next=k:=⟨_,rfl⟩
 rw [hgm] at m0 n5 ⊢
 generalize (H4.push (.map [])).2=H5 at kp m0 n5 ⊢
 obtain ⟨H6,a1,a2,a3,a4⟩:=MapIs.add Tryz.underlying121 B30 C5w m0 kp.wf (a:=(0,0)) rfl (.int .i64 0)
 have a1':A3e Tryz.prog 121 (.map (some gm)) (.agg (A4b (0,0)).toArray) (.int .i64 0) H5=some H6:=a1
 have k46:Kept H4 H6:=kp.then (Nat.le_refl _) (a3.weak fun y hy=>by omega)
 have b6:=bx (H:=H6) (z:=.map none) (x:=.map (some gm)) size_121 rfl rfl
 have k7:=Kept.new a3.wf 1 [.map (some gm)]
 have e6:(H6.new 1 [.map (some gm)]).2.cell ⟨H6.next,0,some 0⟩=some (.map (some gm)):=A1k _ _ _
 have n7:(H6.new 1 [.map (some gm)]).2.next=H6.next+1:=rfl
 simp only [↓Sh.dn,sx,Nat.reduceBEq,reduceCtorEq,Nat.reduceEqDiff,a1',b6.1,b6.2,cpNew0,C6m]
 obtain ⟨g6,hg6⟩:∃ k,H6.next=k:=⟨_,rfl⟩
 rw [hg6] at e6 n7 ⊢
 generalize (H6.new 1 [.map (some gm)]).2=H7 at k7 e6 n7 ⊢
 have k8:=Kept.new k7.wf 2 (A4b (0,0))
 have n8:(H7.new 2 (A4b (0,0))).2.next=H7.next+1:=rfl
 have t8:Buf (H7.new 2 (A4b (0,0))).2 2 (.slice (some ⟨H7.next,0,some 0⟩) 1 1) [A4b (0,0)] (some H7.next):=Buf.fresh (H:=H7) (s:=2) (xs:=[A4b (0,0)]) k7.wf (by simp [A4b]) (by simp) 1 rfl
 obtain ⟨gt,hgt⟩:∃ k,H7.next=k:=⟨_,rfl⟩
 rw [hgt] at t8 n8 ⊢
 generalize (H7.new 2 (A4b (0,0))).2=H8 at k8 t8 n8 ⊢
 have b7:=bx (H:=H8) (z:=.slice none 0 0) (x:=.slice (some ⟨gt,0,some 0⟩) 1 1) B79 rfl rfl
 have k9:=Kept.new k8.wf 1 [.slice (some ⟨gt,0,some 0⟩) 1 1]
 have n9:(H8.new 1 [.slice (some ⟨gt,0,some 0⟩) 1 1]).2.next=H8.next+1:=rfl
 have e7:Arr (H8.new 1 [.slice (some ⟨gt,0,some 0⟩) 1 1]).2 H8.next 0 1 [.slice (some ⟨gt,0,some 0⟩) 1 1]:=(Sh.Obj.new (H:=H8) 1 _).arr
 simp only [↓Sh.dn,sx,Nat.reduceBEq,reduceCtorEq,Nat.reduceEqDiff,b7.1,b7.2]
 obtain ⟨g7,hg7⟩:∃ k,H8.next=k:=⟨_,rfl⟩
 rw [hg7] at e7 n9 ⊢
 generalize (H8.new 1 [.slice (some ⟨gt,0,some 0⟩) 1 1]).2=H9 at k9 e7 n9 ⊢
 have k49:=((k46.trans k7).trans k8).trans k9
 have k39:=k4.trans k49
 have hn3:=hk3'.next
 have hS:CompAt H9 Z g5 g6 g7 gm g sigma [(0,0)] [[]] [0] [0] 0 []:=by
  refine ⟨fun y=>H.next≤y∧y < H3.next,.slice (some ⟨gt,0,some 0⟩) 1 1,some gt,?_⟩
  have hu:A1e [((0,0):Nat×Nat)] (fsts [])=[(0,0)]:=rfl
  have hgr:GrX H3 (fun y=>H.next≤y∧y < H3.next) g sigma (A5l [[]]) [0] [0]:=by simpa [A5l] using hG3.own hk3'.wf
  exact {
   c5:=A8g (k49.grow k4.wf) e5
   c6:=A8g ((k8.trans k9).grow k7.wf) e6
   c7:=e7
   td:=t8.kept k8.wf k9
   mp:=(MapIs.keep a2 (((k7.trans k8).trans k9).old gm (by omega)))
   gr:=hgr.kept hk3'.wf k39
   sx:=fun y hy=>⟨by omega,hZi.2 hy.1,by omega,by omega,by omega,by omega,fun e=>by have:=Option.some.inj e; omega⟩
   so:=fun y hy=>by
    have:=Option.some.inj hy
    exact ⟨hZi.2 (by omega),by omega,by omega,by omega,by omega⟩
   z7:=hZi.2 (by omega)
   zm:=hZi.2 (by omega)
   n57:=⟨by omega,by omega,by omega,by omega,by omega⟩
   l5:=⟨by omega,by omega⟩
   nw:=fun y hy=>hZi.2 (by omega) }
 have hc9:Chg Z H H9:=(hk3'.trans k39).chg
 obtain ⟨fv,hfv⟩:∃ fv,Value.func (.func 78) #[] #[.pointer (some ⟨g6,0,some 0⟩),.pointer (some ⟨g5,0,some 0⟩),.pointer (some ⟨g7,0,some 0⟩)]=fv:=⟨_,rfl⟩
 have hC0:=CompI.start EA EB ea eb ca cb hp1 hp2
 clear a1 a1' a2 a3 a4 b5 b6 b7 e5 e6 e7 k4 kp k46 k7 k8 k9 k49 k39 n4 n5 n7 n8 n9 t8 m0 hG3
 have hpg1:∀ {H'},Chg Z H H'→PG H' g1 n1 60000 EA ea sv1 av1 ev1 cv1 vals1 sigma ca:=fun hc=>⟨hst1 _ hc,hl1,he1,hp1,hq1,fun s r hr=>ht1 r (List.mem_of_getElem? hr)⟩
 have hpg2:∀ {H'},Chg Z H H'→PG H' g2 n2 60000 EB eb sv2 av2 ev2 cv2 vals2 sigma2 cb:=fun hc=>⟨hst2 _ hc,hl2,he2,hp2,hq2,fun s r hr=>ht2 r (List.mem_of_getElem? hr)⟩
 have hA:∀ r∈EA,∀ e∈r,e.1 < n1:=fun r hr=>(ht1 r hr).2
 have hB:∀ r∈EB,∀ e∈r,e.1 < n2:=fun r hr=>(ht2 r hr).2
 refine A5s (m:=1000001) (fun m F H'=>∃ i T R es cs,m+i=1000001∧F.get 9=some (.int .i64 (i:Int))∧F.get 0=some (.pointer (some ⟨g1,0,some 0⟩))∧F.get 1=some (.pointer (some ⟨g2,0,some 0⟩))∧F.get 5=some (.pointer (some ⟨g5,0,some 0⟩))∧F.get 7=some (.pointer (some ⟨g7,0,some 0⟩))∧F.get 8=some fv∧Chg Z H H'∧CompI EA EB ea eb ca cb n1 n2 T i R es cs∧CompAt H' Z g5 g6 g7 gm g sigma T R es cs i [])
  ⟨0,_,_,_,_,rfl,by simp only [↓Sh.dn,sx,Nat.reduceBEq,reduceCtorEq,Nat.reduceEqDiff]; rfl,by simp only [↓Sh.dn,sx,Nat.reduceBEq,reduceCtorEq,Nat.reduceEqDiff],by simp only [↓Sh.dn,sx,Nat.reduceBEq,reduceCtorEq,Nat.reduceEqDiff],by simp only [↓Sh.dn,sx,Nat.reduceBEq,reduceCtorEq,Nat.reduceEqDiff],by simp only [↓Sh.dn,sx,Nat.reduceBEq,reduceCtorEq,Nat.reduceEqDiff],by simp only [↓Sh.dn,sx,Nat.reduceBEq,reduceCtorEq,Nat.reduceEqDiff,hfv],hc9,hC0,hS⟩ ?_
 clear hc9 hC0 hS hn3 hg5 hgm hg6 hgt hg7 hd3 hk3'
 clear H3 H4 H5 H6 H7 H8 H9
 rintro m F H' ⟨i,T,R,es,cs,hmi,f9,f0,f1,f5,f7,f8,hc,hI,hS⟩ k
 have hTl:T.length≤1000000:=Nat.le_trans (B2o hI.nd hI.inb) hnn
 by_cases hi:i < T.length
 ·obtain ⟨hnR,hne,hnc⟩:=hI.non i (Nat.le_refl _) hi
  obtain ⟨X,z,ob,hS0⟩:=hS.first hnR
  have hx:T[i]?=some T[i]:=List.getElem?_eq_getElem hi
  obtain ⟨hxa,hxb⟩:=hI.inb _ (List.getElem_mem hi)
  generalize T[i]=x at hx hxa hxb
  have c7:=hS0.c7.cell 0
  have hlenT:A5a Tryz.prog .len [122] [z] H'=some (.int .i64 (T.length:Int),H'):=by rw [hS0.td.toSl.len Tryz.underlying122,List.length_map]
  obtain ⟨q,o,kk,ia,iq,_⟩:=hS0.td.toSl.at Tryz.underlying122 A5u (i:=i) (x:=A4b x) (by simp [hx]) .i64
  simp only [↓Sh.dn,sx,Nat.reduceBEq,reduceCtorEq,Nat.reduceEqDiff,f7,f9,c7,List.getElem?_cons_zero,hlenT,A9a,hi,decide_true,ia,iq,Option.map_some,cpZero,cpStore,cpOver]
  have kn:=Kept.new hc.wf 2 (A4b x)
  have hSb:=hS.box hc.wf kn (Nat.lt_succ_self _)
  have x0:(H'.new 2 (A4b x)).2.cell ⟨H'.next,0,some 0⟩=some (.int .i64 (x.1:Int)):=cp0
  have x1:(H'.new 2 (A4b x)).2.cell ⟨H'.next,1,some 0⟩=some (.int .i64 (x.2:Int)):=cp1
  have xl:H'.next < (H'.new 2 (A4b x)).2.next:=Nat.lt_succ_self _
  have hcb:=hc.trans (kn.chg (X:=Z))
  obtain ⟨bx0,hbx⟩:∃ b,H'.next=b:=⟨_,rfl⟩
  have hbZ:Z bx0:=by rw [← hbx]; exact hZi.2 hc.next
  rw [hbx] at hSb x0 x1 xl ⊢
  obtain ⟨Z',hZ'⟩:∃ Z':Nat→Prop,(fun y=>Z y∧y≠bx0)=Z':=⟨_,rfl⟩
  have hZZ:∀ {y},Z' y→Z y:=fun {y} h=>by rw [← hZ'] at h; exact h.1
  have hZb:¬Z' bx0:=fun h=>by rw [← hZ'] at h; exact h.2 rfl
  rw [hZ'] at hSb
  clear hS hS0 c7 hlenT ia iq
  generalize (H'.new 2 (A4b x)).2=Hb at kn hSb x0 x1 xl hcb ⊢
  obtain ⟨X,z,ob,hS1⟩:=hSb.first hnR
  have hR1:=hst1 Hb hcb
  have hR2:=hst2 Hb hcb
  have y12:=hR1.arr.cell 2
  have y13:=hR1.arr.cell 3
  have y22:=hR2.arr.cell 2
  have y23:=hR2.arr.cell 3
  have hea:ea[x.1]?=some (ea.getD x.1 0):=by rw [List.getD_eq_getElem?_getD,List.getElem?_eq_getElem (by omega)]; rfl
  have heb:eb[x.2]?=some (eb.getD x.2 0):=by rw [List.getD_eq_getElem?_getD,List.getElem?_eq_getElem (by omega)]; rfl
  have hca:ca[x.1]?=some (ca.getD x.1 0):=by rw [List.getD_eq_getElem?_getD,List.getElem?_eq_getElem (by omega)]; rfl
  have hcbx:cb[x.2]?=some (cb.getD x.2 0):=by rw [List.getD_eq_getElem?_getD,List.getElem?_eq_getElem (by omega)]; rfl
  obtain ⟨p1,i1,v1⟩:=Sl.elem (s:=1) Tryz.underlying86 A7h hR1.en (i:=x.1) (u:=.int .i64 (ea.getD x.1 0)) (by rw [List.getElem?_map,hea]; rfl)
  obtain ⟨p2,i2,v2⟩:=Sl.elem (s:=1) Tryz.underlying86 A7h hR2.en (i:=x.2) (u:=.int .i64 (eb.getD x.2 0)) (by rw [List.getElem?_map,heb]; rfl)
  obtain ⟨p3,i3,v3⟩:=Sl.elem (s:=1) Tryz.underlying86 A7h hR1.co (i:=x.1) (u:=.int .i64 (ca.getD x.1 0)) (by rw [List.getElem?_map,hca]; rfl)
  obtain ⟨p4,i4,v4⟩:=Sl.elem (s:=1) Tryz.underlying86 A7h hR2.co (i:=x.2) (u:=.int .i64 (cb.getD x.2 0)) (by rw [List.getElem?_map,hcbx]; rfl)
  obtain ⟨q1,q2⟩:=hk3 _ (List.mem_of_getElem? hca)
  obtain ⟨q3,q4⟩:=hk4 _ (List.mem_of_getElem? hcbx)
  have w1:IntKind.wrap .i64 (ca.getD x.1 0+cb.getD x.2 0)=ca.getD x.1 0+cb.getD x.2 0:=wrap64 (by omega) (by omega)
  obtain ⟨M,hM⟩:∃ M:Fr→AH→Prop,M=fun F2 H2=>F2.get 9=some (.int .i64 (i:Int))∧F2.get 0=some (.pointer (some ⟨g1,0,some 0⟩))∧F2.get 1=some (.pointer (some ⟨g2,0,some 0⟩))∧F2.get 5=some (.pointer (some ⟨g5,0,some 0⟩))∧F2.get 7=some (.pointer (some ⟨g7,0,some 0⟩))∧F2.get 8=some fv∧F2.get 10=some (.pointer (some ⟨bx0,0,some 0⟩))∧Chg Z' Hb H2∧CompAt H2 Z' g5 g6 g7 gm g sigma T R (es.set i (if 0 < ea.getD x.1 0∧0 < eb.getD x.2 0 then 1 else 0)) (cs.set i (if 0 < ea.getD x.1 0∧0 < eb.getD x.2 0 then ca.getD x.1 0+cb.getD x.2 0 else 0)) i []:=⟨_,rfl⟩
  simp only [↓Sh.dn,sx,Nat.reduceBEq,reduceCtorEq,Nat.reduceEqDiff,f0,x0,y12,i1,v1]
  refine C0v M (by rfl) ?_ ?_
  ·by_cases hA0:0 < ea.getD x.1 0
   ·by_cases hB0:0 < eb.getD x.2 0
    ·have hee:es[i]'(by rw [hI.le]; exact hi)=0:=by have:=hne; rw [List.getElem?_eq_getElem (by rw [hI.le]; exact hi)] at this; exact Option.some.inj this
     obtain ⟨rr,H2,hd2,hc2,hG2⟩:=grEndX (s:=i) (x:=ca.getD x.1 0+cb.getD x.2 0) hS1.gr (by rw [hI.le]; exact hi) (by rw [hI.lc]; exact hi) hcb.wf (by rw [hee]; decide) (by rw [hee]; decide)
     have hS2:=hS1.graph hcb.wf hc2 (hG2.mono fun y hy=>.inl hy)
     rw [hee] at hS2
     have hec:A4r 0 (cs[i]'(by rw [hI.lc]; exact hi)) (ca.getD x.1 0+cb.getD x.2 0)=ca.getD x.1 0+cb.getD x.2 0:=by unfold A4r; rw [if_pos (.inl rfl)]
     rw [hec] at hS2
     have c5:=hS1.c5
     simp only [↓Sh.dn,sx,Nat.reduceBEq,reduceCtorEq,Nat.reduceEqDiff,f0,f1,f5,f9,x0,x1,y22,i2,v2,hA0,hB0,decide_true]
     first | refine (B0b (by kernel_rfl)).2 ?_ | skip
     simp only [↓Sh.dn,sx,Nat.reduceBEq,reduceCtorEq,Nat.reduceEqDiff,f0,f1,f5,f7,f8,f9,x0,x1,y13,y23,i3,v3,i4,v4,w1,c5]
     refine ⟨_,_,hd2,?_⟩
     simp only [↓Sh.dn,sx,Nat.reduceBEq,reduceCtorEq,Nat.reduceEqDiff,hM,f0,f1,f5,f7,f8,f9,hA0,hB0,and_self,if_true]
     exact ⟨hc2.weak fun y hy=>(hS1.sx y hy).2.1,CompAt.of hS2 fun r hr=>by rw [hnR] at hr; exact (Option.some.inj hr).symm⟩
    ·simp only [↓Sh.dn,sx,Nat.reduceBEq,reduceCtorEq,Nat.reduceEqDiff,f0,f1,f5,f9,x0,x1,y22,i2,v2,hA0,hB0,decide_true,decide_false]
     simp only [↓Sh.dn,sx,Nat.reduceBEq,reduceCtorEq,Nat.reduceEqDiff,hM,f0,f1,f5,f7,f8,f9,hA0,hB0,and_false,if_false,A69 hne,A69 hnc]
     exact ⟨Chg.refl hcb.wf,hSb⟩
   ·simp only [↓Sh.dn,sx,Nat.reduceBEq,reduceCtorEq,Nat.reduceEqDiff,f0,f1,f5,f9,x0,x1,y22,i2,v2,hA0,decide_true,decide_false]
    simp only [↓Sh.dn,sx,Nat.reduceBEq,reduceCtorEq,Nat.reduceEqDiff,hM,f0,f1,f5,f7,f8,f9,hA0,false_and,if_false,A69 hne,A69 hnc]
    exact ⟨Chg.refl hcb.wf,hSb⟩
  ·clear f9 f0 f1 f5 f7 f8 hS1 hSb i1 v1 i2 v2 i3 v3 i4 v4 y12 y13 y22 y23 hR1 hR2
   rintro F2 H2 hm
   rw [hM] at hm
   obtain ⟨f9,f0,f1,f5,f7,f8,f10,hc2,hS2⟩:=hm
   clear hM M
   obtain ⟨es1,hes1⟩:∃ l,l=es.set i (if 0 < ea.getD x.1 0∧0 < eb.getD x.2 0 then 1 else 0):=⟨_,rfl⟩
   obtain ⟨cs1,hcs1⟩:∃ l,l=cs.set i (if 0 < ea.getD x.1 0∧0 < eb.getD x.2 0 then ca.getD x.1 0+cb.getD x.2 0 else 0):=⟨_,rfl⟩
   rw [← hes1,← hcs1] at hS2
   have hle1:es1.length=T.length:=by rw [hes1,List.length_set]; exact hI.le
   have hlc1:cs1.length=T.length:=by rw [hcs1,List.length_set]; exact hI.lc
   have hcz:∀ {H3},Chg Z' Hb H3→Chg Z H H3:=fun h=>hcb.trans (h.weak fun y hy=>hZZ hy)
   have hxk:∀ {H3},Chg Z' Hb H3→H3.cell ⟨bx0,0,some 0⟩=some (.int .i64 (x.1:Int))∧H3.cell ⟨bx0,1,some 0⟩=some (.int .i64 (x.2:Int)):=fun h=>⟨A7j x0 (h.old bx0 xl hZb),A7j x1 (h.old bx0 xl hZb)⟩
   have hrB:EB[x.2]?=some (EB.getD x.2 []):=by rw [List.getD_eq_getElem?_getD,List.getElem?_eq_getElem (by omega)]; rfl
   have hrA:EA[x.1]?=some (EA.getD x.1 []):=by rw [List.getD_eq_getElem?_getD,List.getElem?_eq_getElem (by omega)]; rfl
   obtain ⟨lB,hBe⟩:=ht2 _ (List.mem_of_getElem? hrB)
   obtain ⟨lA,hAe⟩:=ht1 _ (List.mem_of_getElem? hrA)
   have kA:=hk1 _ (List.mem_of_getElem? hrA)
   have kB:=hk2 _ (List.mem_of_getElem? hrB)
   have hprx:=hpr _ (List.mem_of_getElem? hrA) _ (List.mem_of_getElem? hrB)
   obtain ⟨pB,wB,hiB,hlB,hwB⟩:=PG.steadyRow (Z:=Z) hpg2 hw hrB
   obtain ⟨pA,wA,hiA,hlA,hwA⟩:=PG.steadyRow (Z:=Z) hpg1 hw hrA
   have hcin:=C9d hA hB ⟨hxa,hxb⟩
   have hcd:A6m EA EB x=A3t x.1 (EB.getD x.2 [])++A3w x.2 (EB.getD x.2 []) (EA.getD x.1 []):=rfl
   have hfin:∀ {L},CompAt L Z g5 g6 g7 gm g sigma T R es1 cs1 i (A6m EA EB x)→CompI EA EB ea eb ca cb n1 n2 (A1e T (fsts (A6m EA EB x))) (i+1) (A0p T R i (A6m EA EB x)) (A3p T es1 (A6m EA EB x)) (A3p T cs1 (A6m EA EB x))∧CompAt L Z g5 g6 g7 gm g sigma (A1e T (fsts (A6m EA EB x))) (A0p T R i (A6m EA EB x)) (A3p T es1 (A6m EA EB x)) (A3p T cs1 (A6m EA EB x)) (i+1) []:=fun h=>by
    have hI2:=hI.step hA hB hx hes1 hcs1
    refine ⟨hI2,h.next fun r hr=>?_⟩
    have h1:=(List.getElem?_eq_some_iff.1 hr).1
    rw [hI2.lr] at h1
    rw [(hI2.non (i+1) (Nat.le_refl _) h1).1] at hr
    exact (Option.some.inj hr).symm
   have bnd:∀ {L:List Cand},(∀ c∈L,c∈A6m EA EB x)→(A1e T (fsts L)).length≤1048575:=fun {L} hL=>by
    obtain ⟨g1',g2'⟩:=hI.grown (L:=L) fun c hc=>hcin c (hL c hc)
    have:=B2o g1' g2'
    omega
   have hlr:=hI.lr
   have hwi:IntKind.wrap .i64 ((i:Int)+1)=((i+1:Nat):Int):=by rw [wrap64 (by omega) (by omega)]; omega
   rw [hcd] at hfin hcin bnd
   clear hes1 hcs1 hcd hca hcbx hea heb hk1 hk2 hk3 hk4 q1 q2 q3 q4 w1 hnR hne hnc ht1 ht2 hpr kn
   generalize EB.getD x.2 []=B at *
   generalize EA.getD x.1 []=A at *
   obtain ⟨xa,xb⟩:=x
   simp only at *
   obtain ⟨z1,z2⟩:=hxk hc2
   have yB:=(hst2 H2 (hcz hc2)).arr.cell 1
   have tB:=(hwB (hcz hc2)).1
   first | refine (B0b (by kernel_rfl)).2 ?_ | skip
   simp only [↓Sh.dn,sx,Nat.reduceBEq,reduceCtorEq,Nat.reduceEqDiff,f0,f1,f10,z1,z2,yB,hiB,tB,hlB]
   clear z1 z2 yB tB
   refine A0i B.length 87 (List.range' 87 22++[12]) (fun j F3 H3=>Chg Z' Hb H3∧CompAt H3 Z' g5 g6 g7 gm g sigma T R es1 cs1 i (A3t xa (B.take j))) (by simp only [↓Sh.dn,sx,Nat.reduceBEq,reduceCtorEq,Nat.reduceEqDiff]) ⟨hc2,by simpa [A3t] using hS2⟩ ?_ ?_
   ·rintro j F3 H3 hj hF3 u87 ⟨hc3,hS3⟩ k3
    have u5:=hF3 5 rfl
    have u8:=hF3 8 rfl
    have u9:=hF3 9 rfl
    have u10:=hF3 10 rfl
    have u85:=hF3 85 rfl
    have u86:=hF3 86 rfl
    simp only [↓Sh.dn,sx,Nat.reduceBEq,reduceCtorEq,Nat.reduceEqDiff,f5,f8,f9,f10] at u5 u8 u9 u10 u85 u86
    rw [← hfv] at u8
    obtain ⟨pe,hiae,hce⟩:=PG.edge (hwB (hcz hc3)).2 hj
    have hmem:B[j]∈B:=List.getElem_mem hj
    have htk:B.take (j+1)=B.take j++[B[j]]:=by rw [List.take_add_one,List.getElem?_eq_getElem hj]; rfl
    have hsub:∀ c∈A3t xa (B.take j),c∈A3t xa B++A3w xb B A:=fun c hc=>by
     obtain ⟨d,hd,h2⟩:=List.mem_flatMap.1 hc
     exact List.mem_append_left _ (List.mem_flatMap.2 ⟨d,List.mem_of_mem_take hd,h2⟩)
    generalize B[j]=e at hce hmem htk
    have kn:=Kept.new hc3.wf 4 (A3h e)
    have hS4:=hS3.box hc3.wf kn (Nat.lt_succ_self _)
    have hc4:Chg Z' Hb (H3.new 4 (A3h e)).2:=hc3.trans (kn.chg (X:=Z'))
    obtain ⟨z1,z2⟩:=hxk hc4
    have hlt:H3.next < (H3.new 4 (A3h e)).2.next:=Nat.lt_succ_self _
    simp only [↓Sh.dn,sx,Nat.reduceBEq,reduceCtorEq,Nat.reduceEqDiff,u85,u86,u87,A9a,hj,decide_true,hiae,hce,Option.map_some,C8c,B5m,C1b,ge1]
    by_cases hneg:e.2.1 < 0
    ·have hlen:=A99 xa (B.take j)
     rw [List.length_take] at hlen
     have c5:(H3.new 4 (A3h e)).2.cell ⟨g5,0,some 0⟩=some (.pointer (some ⟨g,0,some 0⟩)):=by
      obtain ⟨X,z,ob,h⟩:=hS4
      exact h.c5
     obtain ⟨kx,H5,hd5,hw5,hc5,c55,rr,H6,hd6,hw6,hc6,hS6⟩:=B40 (((xa,e.1),(-1,e.2.2.1,e.2.2.2)):Cand) hS4 hlr hle1 hlc1 hi (bnd hsub) (by omega) kn.wf
     have v2:H5.cell ⟨H3.next,2,some 0⟩=some (.int .i64 e.2.2.1):=A7j ge2 (hc5.old H3.next hlt fun h=>h.2 rfl)
     have v3:H5.cell ⟨H3.next,3,some 0⟩=some (.int .i64 e.2.2.2):=A7j ge3 (hc5.old H3.next hlt fun h=>h.2 rfl)
     simp only [↓Sh.dn,sx,Nat.reduceBEq,reduceCtorEq,Nat.reduceEqDiff,hneg,decide_true]
     refine A6w (fl:=[(0,[]),(1,[]),(2,[]),(3,[]),(4,[]),(5,[]),(6,[]),(7,[]),(9,[]),(10,[]),(11,[]),(12,[]),(8,[12,10,0]),(13,[])]) (by kernel_rfl) (by kernel_rfl) (by kernel_rfl) ?_
     simp only [↓Sh.dn,sx,Nat.reduceBEq,reduceCtorEq,Nat.reduceEqDiff,wpr,again,A2c,A7f,A3d,A8f,A9d,A6c,A5e,forall_eq,forall_eq',u5,u8,u9,u10,c5,z1,z2,ge0,ge2,ge3,cpNew]
     refine ⟨_,_,hd5,?_⟩
     simp only [↓Sh.dn,sx,Nat.reduceBEq,reduceCtorEq,Nat.reduceEqDiff,wpr,again,A2c,A7f,A3d,A8f,A9d,A6c,A5e,forall_eq,forall_eq',u5,u8,u9,u10,c55,v2,v3]
     refine ⟨_,_,hd6,?_⟩
     simp only [↓Sh.dn,sx,Nat.reduceBEq,reduceCtorEq,Nat.reduceEqDiff,u87,A7d hj (Nat.le_trans lB (by decide))]
     refine k3 _ _ (by repeat (first | refine Same.put ?_ rfl | exact Same.rfl' _)) (by simp only [↓Sh.dn,sx,Nat.reduceBEq,reduceCtorEq,Nat.reduceEqDiff]) ⟨hc4.trans (hc6.weak fun y hy=>hy.1),?_⟩
     rw [htk,B7l]
     unfold A80
     rw [if_pos hneg]
     exact hS6.more fun y hy=>hy.1
    ·simp only [↓Sh.dn,sx,Nat.reduceBEq,reduceCtorEq,Nat.reduceEqDiff,hneg,decide_false,u87,A7d hj (Nat.le_trans lB (by decide))]
     refine k3 _ _ (by repeat (first | refine Same.put ?_ rfl | exact Same.rfl' _)) (by simp only [↓Sh.dn,sx,Nat.reduceBEq,reduceCtorEq,Nat.reduceEqDiff]) ⟨hc4,?_⟩
     rw [htk,B7l]
     unfold A80
     rw [if_neg hneg,List.append_nil]
     exact hS4.more fun y hy=>hy.1
   ·rintro F3 H3 hF3 u87 ⟨hc3,hS3⟩
    rw [List.take_length] at hS3
    have u0:=hF3 0 rfl
    have u1:=hF3 1 rfl
    have u5:=hF3 5 rfl
    have u7:=hF3 7 rfl
    have u8:=hF3 8 rfl
    have u9:=hF3 9 rfl
    have u10:=hF3 10 rfl
    have u86:=hF3 86 rfl
    simp only [↓Sh.dn,sx,Nat.reduceBEq,reduceCtorEq,Nat.reduceEqDiff,f0,f1,f5,f7,f8,f9,f10] at u0 u1 u5 u7 u8 u9 u10 u86
    obtain ⟨z1,z2⟩:=hxk hc3
    have yA:=(hst1 H3 (hcz hc3)).arr.cell 1
    have tA:=(hwA (hcz hc3)).1
    simp only [↓Sh.dn,sx,Nat.reduceBEq,reduceCtorEq,Nat.reduceEqDiff,u86,u87,A9a,Nat.lt_irrefl,decide_false]
    first | refine (B0b (by kernel_rfl)).2 ?_ | skip
    simp only [↓Sh.dn,sx,Nat.reduceBEq,reduceCtorEq,Nat.reduceEqDiff,u0,u10,z1,yA,hiA,tA,hlA]
    clear f0 f1 f5 f7 f8 f9 f10 z1 z2 yA tA hS2 hc2 u86 u87
    refine A0i A.length 118 (List.range' 118 60++[14,16]) (fun j F4 H4=>Chg Z' Hb H4∧CompAt H4 Z' g5 g6 g7 gm g sigma T R es1 cs1 i (A3t xa B++A3w xb B (A.take j))) (by simp only [↓Sh.dn,sx,Nat.reduceBEq,reduceCtorEq,Nat.reduceEqDiff]) ⟨hc3,by simpa [A3w] using hS3⟩ ?_ ?_
    ·rintro j F4 H4 hj hF4 f118 ⟨hc4,hS4⟩ k4
     have f1:=hF4 1 rfl
     have f5:=hF4 5 rfl
     have f8:=hF4 8 rfl
     have f9:=hF4 9 rfl
     have f10:=hF4 10 rfl
     have f116:=hF4 116 rfl
     have f117:=hF4 117 rfl
     simp only [↓Sh.dn,sx,Nat.reduceBEq,reduceCtorEq,Nat.reduceEqDiff,u1,u5,u8,u9,u10] at f1 f5 f8 f9 f10 f116 f117
     rw [← hfv] at f8
     obtain ⟨pe,hiae,hce⟩:=PG.edge (hwA (hcz hc4)).2 hj
     have hmem:A[j]∈A:=List.getElem_mem hj
     have htk:A.take (j+1)=A.take j++[A[j]]:=by rw [List.take_add_one,List.getElem?_eq_getElem hj]; rfl
     have hsub:∀ c∈A3t xa B++A3w xb B (A.take j),c∈A3t xa B++A3w xb B A:=fun c hc=>by
      rcases List.mem_append.1 hc with h | h
      ·exact List.mem_append_left _ h
      ·obtain ⟨d,hd,h2⟩:=List.mem_flatMap.1 h
       exact List.mem_append_right _ (List.mem_flatMap.2 ⟨d,List.mem_of_mem_take hd,h2⟩)
     have hlen:(A3t xa B++A3w xb B (A.take j)).length≤100060000:=by
      have h1:=A99 xa B
      have h2:=B7o xb B (A.take j)
      have h3:(A.take j).length * (B.length+1)≤A.length * (B.length+1):=Nat.mul_le_mul_right _ (by rw [List.length_take]; omega)
      rw [List.length_append]
      omega
     generalize A[j]=c at hce hmem htk
     have kn:=Kept.new hc4.wf 4 (A3h c)
     have hS5:=hS4.box hc4.wf kn (Nat.lt_succ_self _)
     have hc5:Chg Z' Hb (H4.new 4 (A3h c)).2:=hc4.trans (kn.chg (X:=Z'))
     obtain ⟨z1,z2⟩:=hxk hc5
     have hlt:H4.next < (H4.new 4 (A3h c)).2.next:=Nat.lt_succ_self _
     simp only [↓Sh.dn,sx,Nat.reduceBEq,reduceCtorEq,Nat.reduceEqDiff,f116,f117,f118,A9a,hj,decide_true,hiae,hce,Option.map_some,C8c,B5m,C1b,ge2]
     by_cases hneg:c.2.2.1 < 0
     ·have c5 : (H4.new 4 (A3h c)).2.cell ⟨g5, 0, some 0⟩ = some (.pointer (some ⟨g, 0, some 0⟩)) := by
        obtain ⟨X, z, ob, h⟩ := hS5
        exact h.c5
      obtain ⟨kx, H5, hd5, hw5, hc6, c55, rr, H6, hd6, hw6, hc7, hS6⟩ := B40 (((c.1, xb), (c.2.1, -1, c.2.2.2)) : Cand) hS5 hlr hle1 hlc1 hi (bnd hsub) (by omega) kn.wf
      have v1 : H5.cell ⟨H4.next, 1, some 0⟩ = some (.int .i64 c.2.1) := A7j ge1 (hc6.old H4.next hlt fun h => h.2 rfl)
      have v3 : H5.cell ⟨H4.next, 3, some 0⟩ = some (.int .i64 c.2.2.2) := A7j ge3 (hc6.old H4.next hlt fun h => h.2 rfl)
      simp only [↓Sh.dn, sx, Nat.reduceBEq, reduceCtorEq, Nat.reduceEqDiff, hneg, decide_true]
      refine A6w (fl := [(0, []), (1, []), (2, []), (3, []), (4, []), (5, []), (6, []), (7, []), (9, []), (10, []), (11, []), (12, []), (8, [12, 10, 0]), (13, [])]) (by kernel_rfl) (by kernel_rfl) (by kernel_rfl) ?_
      simp only [↓Sh.dn, sx, Nat.reduceBEq, reduceCtorEq, Nat.reduceEqDiff, wpr, again, A2c, A7f, A3d, A8f, A9d, A6c, A5e, forall_eq, forall_eq', f5, f8, f9, f10, c5, z1, z2, ge0, ge1, ge3, cpNew]
      refine ⟨_, _, hd5, ?_⟩
      simp only [↓Sh.dn, sx, Nat.reduceBEq, reduceCtorEq, Nat.reduceEqDiff, wpr, again, A2c, A7f, A3d, A8f, A9d, A6c, A5e, forall_eq, forall_eq', f5, f8, f9, f10, c55, v1, v3]
      refine ⟨_, _, hd6, ?_⟩
      simp only [↓Sh.dn, sx, Nat.reduceBEq, reduceCtorEq, Nat.reduceEqDiff, f118, A7d hj (Nat.le_trans lA (by decide))]
      refine k4 _ _ (by repeat (first | refine Same.put ?_ rfl | exact Same.rfl' _)) (by simp only [↓Sh.dn, sx, Nat.reduceBEq, reduceCtorEq, Nat.reduceEqDiff]) ⟨hc5.trans (hc7.weak fun y hy => hy.1), ?_⟩
      rw [htk, B8k, ← List.append_assoc]
      unfold A1w
      rw [if_pos hneg]
      exact hS6.more fun y hy => hy.1
     ·have yB:=(hst2 _ (hcz hc5)).arr.cell 1
      have tB:=(hwB (hcz hc5)).1
      simp only [↓Sh.dn,sx,Nat.reduceBEq,reduceCtorEq,Nat.reduceEqDiff,hneg,decide_false]
      first | refine (B0b (by kernel_rfl)).2 ?_ | skip
      simp only [↓Sh.dn,sx,Nat.reduceBEq,reduceCtorEq,Nat.reduceEqDiff,f1,f10,z2,yB,hiB,tB,hlB]
      clear z1 z2 yB tB
      have hlc:H4.next < (H4.new 4 (A3h c)).2.next:=hlt
      have e0:(H4.new 4 (A3h c)).2.cell ⟨H4.next,0,some 0⟩=some (.int .i64 (c.1:Int)):=ge0
      have e1:(H4.new 4 (A3h c)).2.cell ⟨H4.next,1,some 0⟩=some (.int .i64 c.2.1):=ge1
      have e2:(H4.new 4 (A3h c)).2.cell ⟨H4.next,2,some 0⟩=some (.int .i64 c.2.2.1):=ge2
      have e3:(H4.new 4 (A3h c)).2.cell ⟨H4.next,3,some 0⟩=some (.int .i64 c.2.2.2):=ge3
      obtain ⟨Z2,hZ2⟩:∃ Z2:Nat→Prop,(fun y=>Z' y∧y≠H4.next)=Z2:=⟨_,rfl⟩
      have hZ2i:∀ {y},Z2 y→Z' y:=fun {y} h=>by rw [← hZ2] at h; exact h.1
      have hZ2b:¬Z2 H4.next:=fun h=>by rw [← hZ2] at h; exact h.2 rfl
      rw [hZ2] at hS5
      generalize H4.next=bc at hlt hlc e0 e1 e2 e3 hZ2 hZ2b ⊢
      generalize (H4.new 4 (A3h c)).2=Hc at kn hS5 hc5 hlt hlc e0 e1 e2 e3 ⊢
      have hck:∀ {H5 o v},Chg Z2 Hc H5→Hc.cell ⟨bc,o,some 0⟩=some v→H5.cell ⟨bc,o,some 0⟩=some v:=fun h e=>A7j e (h.old bc hlc hZ2b)
      have hcc:∀ {H5},Chg Z2 Hc H5→Chg Z' Hb H5:=fun h=>hc5.trans (h.weak fun y hy=>hZ2i hy)
      refine A0i B.length 148 (List.range' 148 29++[16]) (fun q F5 H5=>Chg Z2 Hc H5∧CompAt H5 Z2 g5 g6 g7 gm g sigma T R es1 cs1 i ((A3t xa B++A3w xb B (A.take j))++B5f c (B.take q))) (by simp only [↓Sh.dn,sx,Nat.reduceBEq,reduceCtorEq,Nat.reduceEqDiff]) ⟨Chg.refl kn.wf,by simpa [B5f] using hS5⟩ ?_ ?_
      ·rintro q F5 H5 hq hF5 v148 ⟨hd1,hS6⟩ k5
       have v5:=hF5 5 rfl
       have v8:=hF5 8 rfl
       have v9:=hF5 9 rfl
       have v10:=hF5 10 rfl
       have v14:=hF5 14 rfl
       have v146:=hF5 146 rfl
       have v147:=hF5 147 rfl
       simp only [↓Sh.dn,sx,Nat.reduceBEq,reduceCtorEq,Nat.reduceEqDiff,f5,f8,f9,f10] at v5 v8 v9 v10 v14 v146 v147
       obtain ⟨pd,hiad,hcd⟩:=PG.edge (hwB (hcz (hcc hd1))).2 hq
       have hmd:B[q]∈B:=List.getElem_mem hq
       have htd:B.take (q+1)=B.take q++[B[q]]:=by rw [List.take_add_one,List.getElem?_eq_getElem hq]; rfl
       have hsubd:∀ d∈(A3t xa B++A3w xb B (A.take j))++B5f c (B.take q),d∈A3t xa B++A3w xb B A:=fun d hd=>by
        rcases List.mem_append.1 hd with h | h
        ·exact hsub d h
        ·refine List.mem_append_right _ (List.mem_flatMap.2 ⟨c,hmem,?_⟩)
         unfold A1w
         rw [if_neg hneg]
         obtain ⟨d',hd',h2⟩:=List.mem_flatMap.1 h
         exact List.mem_flatMap.2 ⟨d',List.mem_of_mem_take hd',h2⟩
       have hlend:((A3t xa B++A3w xb B (A.take j))++B5f c (B.take q)).length≤1073741823:=by
        have h1:=B3m c (B.take q)
        rw [List.length_take] at h1
        rw [List.length_append]
        omega
       generalize B[q]=d at hcd hmd htd
       have km:=Kept.new hd1.wf 4 (A3h d)
       have hS7:=hS6.box hd1.wf km (Nat.lt_succ_self _)
       have hd2:Chg Z2 Hc (H5.new 4 (A3h d)).2:=hd1.trans (km.chg (X:=Z2))
       obtain ⟨z1,z2⟩:=hxk (hcc hd2)
       have hltd:H5.next < (H5.new 4 (A3h d)).2.next:=Nat.lt_succ_self _
       have y0:=hck hd2 e0
       have y1:=hck hd2 e1
       have y2:=hck hd2 e2
       have y3:=hck hd2 e3
       simp only [↓Sh.dn,sx,Nat.reduceBEq,reduceCtorEq,Nat.reduceEqDiff,v14,v146,v147,v148,A9a,hq,decide_true,hiad,hcd,Option.map_some,C8c,B5m,C1b,ge1,y2]
       by_cases heq:d.2.1=c.2.2.1
       ·have c5 : (H5.new 4 (A3h d)).2.cell ⟨g5, 0, some 0⟩ = some (.pointer (some ⟨g, 0, some 0⟩)) := by
          obtain ⟨X, z, ob, h⟩ := hS7
          exact h.c5
        obtain ⟨kx, H6, hd6, hw6, hc6, c55, rr, H7, hd7, hw7, hc7, hS8⟩ := B40 (((c.1, d.1), (c.2.1, d.2.2.1, c.2.2.2 + d.2.2.2)) : Cand) hS7 hlr hle1 hlc1 hi (bnd hsubd) hlend km.wf
        have hc6' : Chg Z2 (H5.new 4 (A3h d)).2 H6 := hc6.weak fun y hy => hy.1
        have t1 := hck (hd2.trans hc6') e1
        have t3 := hck (hd2.trans hc6') e3
        have s2 : H6.cell ⟨H5.next, 2, some 0⟩ = some (.int .i64 d.2.2.1) := A7j ge2 (hc6.old H5.next hltd fun h => h.2 rfl)
        have s3 : H6.cell ⟨H5.next, 3, some 0⟩ = some (.int .i64 d.2.2.2) := A7j ge3 (hc6.old H5.next hltd fun h => h.2 rfl)
        have hkc := kA c hmem
        have hkd := kB d hmd
        have ws : IntKind.wrap .i64 (c.2.2.2 + d.2.2.2) = c.2.2.2 + d.2.2.2 := wrap64 (by omega) (by omega)
        simp only [↓Sh.dn, sx, Nat.reduceBEq, reduceCtorEq, Nat.reduceEqDiff, heq, decide_true]
        refine A6w (fl := [(0, []), (1, []), (2, []), (3, []), (4, []), (5, []), (6, []), (7, []), (9, []), (10, []), (11, []), (12, []), (13, []), (14, []), (15, []), (16, []), (17, []), (8, [16, 14, 12, 10, 0]), (18, [])]) (by kernel_rfl) (by kernel_rfl) (by kernel_rfl) ?_
        simp only [↓Sh.dn, sx, Nat.reduceBEq, reduceCtorEq, Nat.reduceEqDiff, wpr, again, A2c, A7f, A3d, A8f, A9d, A6c, A5e, forall_eq, forall_eq', v5, v8, v9, v10, v14, c5, z1, z2, y0, y1, y3, ge0, ge1, ge2, ge3, cpNew, ws]
        refine ⟨_, _, hd6, ?_⟩
        simp only [↓Sh.dn, sx, Nat.reduceBEq, reduceCtorEq, Nat.reduceEqDiff, wpr, again, A2c, A7f, A3d, A8f, A9d, A6c, A5e, forall_eq, forall_eq', v5, v8, v9, v10, v14, c55, t1, t3, s2, s3, ws]
        refine ⟨_, _, hd7, ?_⟩
        simp only [↓Sh.dn, sx, Nat.reduceBEq, reduceCtorEq, Nat.reduceEqDiff, v148, A7d hq (Nat.le_trans lB (by decide))]
        refine k5 _ _ (by repeat (first | refine Same.put ?_ rfl | exact Same.rfl' _)) (by simp only [↓Sh.dn, sx, Nat.reduceBEq, reduceCtorEq, Nat.reduceEqDiff]) ⟨hd2.trans (hc7.weak fun y hy => hy.1), ?_⟩
        rw [htd, B3j, ← List.append_assoc]
        unfold A60
        rw [if_pos heq]
        exact hS8.more fun y hy => hy.1
       ·simp only [↓Sh.dn,sx,Nat.reduceBEq,reduceCtorEq,Nat.reduceEqDiff,heq,decide_false,v148,A7d hq (Nat.le_trans lB (by decide))]
        refine k5 _ _ (by repeat (first | refine Same.put ?_ rfl | exact Same.rfl' _)) (by simp only [↓Sh.dn,sx,Nat.reduceBEq,reduceCtorEq,Nat.reduceEqDiff]) ⟨hd2,?_⟩
        rw [htd,B3j]
        unfold A60
        rw [if_neg heq,List.append_nil]
        exact hS7.more fun y hy=>hy.1
      ·rintro F5 H5 hF5 v148 ⟨hd1,hS6⟩
       rw [List.take_length] at hS6
       have v118:=hF5 118 rfl
       have v147:=hF5 147 rfl
       simp only [↓Sh.dn,sx,Nat.reduceBEq,reduceCtorEq,Nat.reduceEqDiff,f118] at v118 v147
       simp only [↓Sh.dn,sx,Nat.reduceBEq,reduceCtorEq,Nat.reduceEqDiff,v118,v147,v148,A9a,Nat.lt_irrefl,decide_false,A7d hj (Nat.le_trans lA (by decide))]
       refine k4 _ _ ?_ (by simp only [↓Sh.dn,sx,Nat.reduceBEq,reduceCtorEq,Nat.reduceEqDiff]) ⟨hcc hd1,?_⟩
       ·repeat refine Same.put ?_ rfl
        exact Same.trans (by repeat (first | refine Same.put ?_ rfl | exact Same.rfl' _)) (hF5.sub rfl)
       ·rw [htk,B8k,← List.append_assoc]
        unfold A1w
        rw [if_neg hneg]
        exact hS6.more fun y hy=>hZ2i hy
    ·rintro F4 H4 hF4 f118 ⟨hc4,hS4⟩
     rw [List.take_length] at hS4
     have f0:=hF4 0 rfl
     have f1:=hF4 1 rfl
     have f5:=hF4 5 rfl
     have f7:=hF4 7 rfl
     have f8:=hF4 8 rfl
     have f9:=hF4 9 rfl
     have f117:=hF4 117 rfl
     simp only [↓Sh.dn,sx,Nat.reduceBEq,reduceCtorEq,Nat.reduceEqDiff,u0,u1,u5,u7,u8,u9] at f0 f1 f5 f7 f8 f9 f117
     obtain ⟨hI2,hS5⟩:=hfin (hS4.more fun y hy=>hZZ hy)
     simp only [↓Sh.dn,sx,Nat.reduceBEq,reduceCtorEq,Nat.reduceEqDiff,f9,f117,f118,A9a,Nat.lt_irrefl,decide_false,hwi]
     exact k (m - 1) _ _ (by omega) ⟨i+1,_,_,_,_,by omega,by simp only [↓Sh.dn,sx,Nat.reduceBEq,reduceCtorEq,Nat.reduceEqDiff],by simp only [↓Sh.dn,sx,Nat.reduceBEq,reduceCtorEq,Nat.reduceEqDiff,f0],by simp only [↓Sh.dn,sx,Nat.reduceBEq,reduceCtorEq,Nat.reduceEqDiff,f1],by simp only [↓Sh.dn,sx,Nat.reduceBEq,reduceCtorEq,Nat.reduceEqDiff,f5],by simp only [↓Sh.dn,sx,Nat.reduceBEq,reduceCtorEq,Nat.reduceEqDiff,f7],by simp only [↓Sh.dn,sx,Nat.reduceBEq,reduceCtorEq,Nat.reduceEqDiff,f8],hcz hc4,hI2,hS5⟩
 ·have c7 : ∃ z, H'.cell ⟨g7, 0, some 0⟩ = some z ∧ A5a Tryz.prog .len [122] [z] H' = some (.int .i64 (T.length : Int), H') ∧ H'.cell ⟨g5, 0, some 0⟩ = some (.pointer (some ⟨g, 0, some 0⟩)) ∧ ∃ X : Nat → Prop, GrX H' X g sigma (A5l R) es cs := by
    have hiT : i = T.length := by have := hI.iT; omega
    obtain ⟨X, z, ob, hS0⟩ := hS
    have e1 : A1e T (fsts []) = T := rfl
    have e2 : ∀ l : List Int, A3p T l [] = l := fun l => by unfold A3p; rw [e1, Nat.sub_self, List.replicate_zero, List.append_nil]
    have e3 : A0p T R i [] = R := A74 fun r hr => by
      have := (List.getElem?_eq_some_iff.1 hr).1
      have := hI.lr
      omega
    rw [e1, e2, e2, e3] at hS0
    exact ⟨z, hS0.c7.cell 0, by rw [hS0.td.toSl.len Tryz.underlying122, List.length_map], hS0.c5, X, hS0.gr⟩
  obtain ⟨z, c7, hlenT, c5, X, hG⟩ := c7
  have hiT : i = T.length := by have := hI.iT; omega
  simp only [↓Sh.dn, sx, Nat.reduceBEq, reduceCtorEq, Nat.reduceEqDiff, f5, f7, f9, c7, hlenT, A9a, hi, decide_false, c5, hres]
  rw [hiT] at hI
  exact ⟨hkz hc, g, rfl, X, T, R, es, cs, hG, hI⟩
end Go.Proofs.YtnoengaghabmjaaGreatDoor
/- The composition of two nets, as a net. -/
namespace Go.Proofs.YtnoengaghabmjaaGreatDoor
open Go Go.Proofs Go.Proofs.Sh
theorem A24 {k:Int}:labN k=none↔k < 0:=by
 unfold labN
 split <;> simp_all
theorem B1d {k:Int} {m:Nat}:labN k=some m↔k=(m:Int):=by
 unfold labN
 split
 ·constructor
  ·intro h; cases h
  ·intro h; omega
 ·rw [Option.some.injEq]
  omega
section
variable {EA EB:List (List GE)} {ea eb ca cb:List Int} {n1 n2:Nat} {T:List (Nat×Nat)} {R:List (List GE)} {es cs:List Int}
theorem A59 {E:List (List GE)} {s:Nat} {e:GE}:e∈E.getD s []↔∃ r,E[s]?=some r∧e∈r:=by
 rw [List.getD_eq_getElem?_getD]
 cases h:E[s]? with
 | none=>simp
 | some r=>simp
theorem C6g {E:List (List GE)} {s:Nat} {a b:Option Nat} {t:Nat}:A0v E s a b t↔∃ e∈E.getD s [],e.1=t∧labN e.2.1=a∧labN e.2.2.1=b:=by
 unfold A0v
 constructor
 ·rintro ⟨r,h1,e,h2,h3⟩; exact ⟨e,A59.2 ⟨r,h1,h2⟩,h3⟩
 ·rintro ⟨e,h1,h2⟩
  obtain ⟨r,h3,h4⟩:=A59.1 h1
  exact ⟨r,h3,e,h4,h2⟩
def labC (l:Int×Int×Int):Option Nat×Option Nat:=(labN l.1,labN l.2.1)
theorem C3f (x:Nat×Nat) (a b:Option Nat) (y:Nat×Nat):A81 (A0v EA) (A0v EB) x a b y↔∃ c∈A6m EA EB x,c.1=y∧labC c.2=(a,b):=by
 have l1:labN (-1)=none:=rfl
 unfold A81 labC
 simp only [C6g]
 constructor
 ·rintro (⟨h1,rfl,e,he,h2,h3,h4⟩ | ⟨⟨e,he,h2,h3,h4⟩,h1,rfl⟩ | ⟨k,⟨e,he,h2,h3,h4⟩,d,hd,h5,h6,h7⟩)
  ·refine ⟨((x.1,e.1),(-1,e.2.2.1,e.2.2.2)),List.mem_append_left _ (List.mem_flatMap.2 ⟨e,he,?_⟩),by rw [h1,h2],by simp only [l1,h4]⟩
   unfold A80
   rw [if_pos (A24.1 h3)]
   exact List.mem_singleton.2 rfl
  ·refine ⟨((e.1,x.2),(e.2.1,-1,e.2.2.2)),List.mem_append_right _ (List.mem_flatMap.2 ⟨e,he,?_⟩),by rw [h1,h2],by simp only [l1,h3]⟩
   unfold A1w
   rw [if_pos (A24.1 h4)]
   exact List.mem_singleton.2 rfl
  ·refine ⟨((e.1,d.1),(e.2.1,d.2.2.1,e.2.2.2+d.2.2.2)),List.mem_append_right _ (List.mem_flatMap.2 ⟨e,he,?_⟩),by rw [h2,h5],by simp only [h3,h7]⟩
   have e1:=B1d.1 h4
   have e2:=B1d.1 h6
   unfold A1w
   rw [if_neg (by omega)]
   refine List.mem_flatMap.2 ⟨d,hd,?_⟩
   unfold A60
   rw [if_pos (by omega)]
   exact List.mem_singleton.2 rfl
 ·rintro ⟨c,hc,rfl,h2⟩
  simp only [Prod.mk.injEq] at h2
  rcases List.mem_append.1 hc with h | h
  ·obtain ⟨e,he,h3⟩:=List.mem_flatMap.1 h
   unfold A80 at h3
   split at h3
   ·rename_i h4
    have e1:=List.mem_singleton.1 h3
    subst e1
    exact .inl ⟨rfl,by rw [← h2.1,l1],e,he,rfl,A24.2 h4,h2.2⟩
   ·cases h3
  ·obtain ⟨e,he,h3⟩:=List.mem_flatMap.1 h
   unfold A1w at h3
   split at h3
   ·rename_i h4
    have e1:=List.mem_singleton.1 h3
    subst e1
    exact .inr (.inl ⟨⟨e,he,rfl,h2.1,A24.2 h4⟩,rfl,by rw [← h2.2,l1]⟩)
   ·rename_i h4
    obtain ⟨d,hd,h5⟩:=List.mem_flatMap.1 h3
    unfold A60 at h5
    split at h5
    ·rename_i h6
     have e1:=List.mem_singleton.1 h5
     subst e1
     have h7:labN e.2.2.1=some e.2.2.1.toNat:=B1d.2 (by omega)
     exact .inr (.inr ⟨_,⟨e,he,rfl,h2.1,h7⟩,d,hd,rfl,by rw [h6]; exact h7,h2.2⟩)
    ·cases h5
theorem CompI.rows (h:CompI EA EB ea eb ca cb n1 n2 T T.length R es cs):R=T.map (fun x=>A9m T (A6m EA EB x)):=by
 refine List.ext_getElem? fun j=>?_
 rw [List.getElem?_map]
 cases hj:T[j]? with
 | none=>rw [List.getElem?_eq_none (by have:=List.getElem?_eq_none_iff.1 hj; have:=h.lr; omega)]; rfl
 | some x=>exact (h.row j x (List.getElem?_eq_some_iff.1 hj).1 hj).1
theorem CompI.closed (h:CompI EA EB ea eb ca cb n1 n2 T T.length R es cs):∀ x∈T,∀ c∈A6m EA EB x,c.1∈T:=fun x hx=>by
 obtain ⟨j,hj⟩:=List.mem_iff_getElem?.1 hx
 exact (h.row j x (List.getElem?_eq_some_iff.1 hj).1 hj).2.1
theorem CompI.fin (h:CompI EA EB ea eb ca cb n1 n2 T T.length R es cs) (j:Nat):endP es j↔∃ t,T[j]?=some t∧endP ea t.1∧endP eb t.2:=by
 unfold endP
 cases hj:T[j]? with
 | none=>
  rw [List.getD_eq_getElem?_getD,List.getElem?_eq_none (by have:=List.getElem?_eq_none_iff.1 hj; have:=h.le; omega)]
  simp
 | some x=>
  rw [List.getD_eq_getElem?_getD,(h.row j x (List.getElem?_eq_some_iff.1 hj).1 hj).2.2.1]
  constructor
  ·intro h1
   by_cases h2:0 < ea.getD x.1 0∧0 < eb.getD x.2 0
   ·exact ⟨x,rfl,h2⟩
   ·rw [if_neg h2] at h1; exact absurd h1 (by decide)
  ·rintro ⟨t,ht,h2⟩
   have e:=Option.some.inj ht
   subst e
   rw [if_pos h2]; decide
theorem comp_rel (h:CompI EA EB ea eb ca cb n1 n2 T T.length R es cs) (u v:List Nat):RelP (A0v R) (endP es) u v↔∃ t:Nat×Nat,(endP ea t.1∧endP eb t.2)∧Sh.Way (A81 (A0v EA) (A0v EB)) (0,0) u v t:=by
 refine idx_way (T:=T) (x0:=(0,0)) (C:=A6m EA EB) (lab:=labC) h.h0 h.closed (fun i a b j=>?_) (fun x a b y _=>C3f x a b y) h.fin u v
 rw [h.rows]
 unfold A0v
 constructor
 ·rintro ⟨r,h1,e,h2,h3,h4,h5⟩
  rw [List.getElem?_map] at h1
  obtain ⟨x,h6,rfl⟩:=Option.map_eq_some_iff.1 h1
  obtain ⟨c,h7,rfl⟩:=List.mem_map.1 h2
  exact ⟨x,h6,c,h7,h3,by unfold labC; rw [← h4,← h5]⟩
 ·rintro ⟨x,h1,c,h2,h3,h4⟩
  refine ⟨_,by rw [List.getElem?_map,h1]; rfl,(ixOf T c.1,c.2),List.mem_map.2 ⟨c,h2,rfl⟩,h3,?_⟩
  unfold labC at h4
  simp only [Prod.mk.injEq] at h4
  exact h4
theorem C6t (x:Nat×Nat):(A6m EA EB x).length≤(EB.getD x.2 []).length+(EA.getD x.1 []).length+(EA.getD x.1 []).length * (EB.getD x.2 []).length:=by
 have h1:=A99 x.1 (EB.getD x.2 [])
 have h2:=B7o x.2 (EB.getD x.2 []) (EA.getD x.1 [])
 unfold A6m
 rw [List.length_append]
 rw [Nat.mul_succ] at h2
 omega
theorem B7w:∀ (E:List (List GE)),((List.range E.length).map fun p=>(E.getD p []).length).sum=(E.map List.length).sum:=fun E=>by
 congr 1
 refine List.ext_getElem? fun j=>?_
 rw [List.getElem?_map,List.getElem?_map]
 by_cases h:j < E.length
 ·rw [List.getElem?_range h,List.getElem?_eq_getElem h]
  simp [List.getD_eq_getElem?_getD,List.getElem?_eq_getElem h]
 ·rw [List.getElem?_eq_none (by simp; omega),List.getElem?_eq_none (by omega)]; rfl
theorem comp_sum (h:CompI EA EB ea eb ca cb n1 n2 T T.length R es cs) (h1:EA.length=n1) (h2:EB.length=n2):(R.map List.length).sum≤n1 * (EB.map List.length).sum+n2 * (EA.map List.length).sum+(EA.map List.length).sum * (EB.map List.length).sum:=by
 have h3:=C3u h.nd h.inb (fun p=>(EA.getD p []).length) (fun q=>(EB.getD q []).length)
 have e1:=B7w EA
 have e2:=B7w EB
 rw [h1] at e1
 rw [h2] at e2
 rw [e1,e2] at h3
 refine Nat.le_trans ?_ h3
 rw [h.rows,List.map_map]
 clear h h3
 induction T with
 | nil=>simp
 | cons x T ih=>
  have key:∀ U:List (Nat×Nat),∀ V:List (Nat×Nat),(V.map (List.length ∘ fun x=>A9m U (A6m EA EB x))).sum≤(V.map fun x=>(EB.getD x.2 []).length+(EA.getD x.1 []).length+(EA.getD x.1 []).length * (EB.getD x.2 []).length).sum:=fun U V=>by
   induction V with
   | nil=>simp
   | cons y V ihV=>
    have:=C6t (EA:=EA) (EB:=EB) y
    rw [List.map_cons,List.map_cons,List.sum_cons,List.sum_cons]
    have e:(List.length ∘ fun x=>A9m U (A6m EA EB x)) y=(A6m EA EB y).length:=by simp [A9m]
    rw [e]
    omega
  exact key (x :: T) (x :: T)
theorem comp_to (h:CompI EA EB ea eb ca cb n1 n2 T T.length R es cs) {m:Int} (hm:0≤m) (hA:∀ r∈EA,∀ e∈r,e.2.1 < m∧e.2.2.1 < m∧e.2.2.2=0) (hB:∀ r∈EB,∀ e∈r,e.2.1 < m∧e.2.2.1 < m∧e.2.2.2=0):
  ∀ r∈R,∀ e∈r,e.1 < T.length∧e.2.1 < m∧e.2.2.1 < m∧e.2.2.2=0:=by
 rw [h.rows]
 intro r hr e he
 obtain ⟨x,hx,rfl⟩:=List.mem_map.1 hr
 obtain ⟨c,hc,rfl⟩:=List.mem_map.1 he
 have h1:=List.idxOf_lt_length_of_mem (h.closed x hx c hc)
 refine ⟨?_,?_⟩
 ·have:=B63 (h.closed x hx c hc)
  exact (List.getElem?_eq_some_iff.1 this).1
 ·have ga : ∀ e ∈ EA.getD x.1 [], e.2.1 < m ∧ e.2.2.1 < m ∧ e.2.2.2 = 0 := fun e he => by
    obtain ⟨r, h1, h2⟩ := A59.1 he
    exact hA r (List.mem_of_getElem? h1) e h2
  have gb : ∀ e ∈ EB.getD x.2 [], e.2.1 < m ∧ e.2.2.1 < m ∧ e.2.2.2 = 0 := fun e he => by
    obtain ⟨r, h1, h2⟩ := A59.1 he
    exact hB r (List.mem_of_getElem? h1) e h2
  have hm1 : (-1 : Int) < m := by omega
  rcases List.mem_append.1 hc with h | h
  · obtain ⟨e0, he0, h3⟩ := List.mem_flatMap.1 h
    unfold A80 at h3
    split at h3
    · have e1 := List.mem_singleton.1 h3
      subst e1
      exact ⟨hm1, (gb e0 he0).2.1, (gb e0 he0).2.2⟩
    · cases h3
  · obtain ⟨e0, he0, h3⟩ := List.mem_flatMap.1 h
    unfold A1w at h3
    split at h3
    · have e1 := List.mem_singleton.1 h3
      subst e1
      exact ⟨(ga e0 he0).1, hm1, (ga e0 he0).2.2⟩
    · obtain ⟨d, hd, h5⟩ := List.mem_flatMap.1 h3
      unfold A60 at h5
      split at h5
      · have e1 := List.mem_singleton.1 h5
        subst e1
        exact ⟨(ga e0 he0).1, (gb d hd).2.1, by simp only [(ga e0 he0).2.2, (gb d hd).2.2]; rfl⟩
      · cases h5
theorem C9k (h:CompI EA EB ea eb ca cb n1 n2 T T.length R es cs) (hA:∀ c∈ca,c=0) (hB:∀ c∈cb,c=0) (s:Nat):cs.getD s 0=0:=by
 rw [List.getD_eq_getElem?_getD]
 cases hj:T[s]? with
 | none=>rw [List.getElem?_eq_none (by have:=List.getElem?_eq_none_iff.1 hj; have:=h.lc; omega)]; rfl
 | some x=>
  rw [(h.row s x (List.getElem?_eq_some_iff.1 hj).1 hj).2.2.2,B3x hA,B3x hB]
  simp
end
def B0g (A B:NetD) (x y:List ByteArray):Prop:=∃ t:Nat×Nat,(A.isEnd t.1∧B.isEnd t.2)∧Sh.Way (A81 (A5k A) (A5k B)) (0,0) x y t
section
variable {A B:NetD}
theorem A7z (hok:A5j A) {s:Nat} {a b:Option ByteArray} {t:Nat} (h:A5k A s a b t):(∀ z,a=some z→z∈A.sigma)∧∀ z,b=some z→z∈A.sigma:=by
 obtain ⟨c,hc,_,rfl,rfl,_⟩:=h
 obtain ⟨_,_,_,_,h6,h7⟩:=hok.arc c hc
 exact ⟨(A08 hok h6).2,(A08 hok h7).2⟩
theorem prod_sym (okA:A5j A) (okB:A5j B) (hs:A.sigma=B.sigma) (s:Nat×Nat) (a b:Option ByteArray) (t:Nat×Nat) (h:A81 (A5k A) (A5k B) s a b t):(∀ z,a=some z→z∈A.sigma)∧∀ z,b=some z→z∈A.sigma:=by
 rcases h with ⟨_,rfl,h⟩ | ⟨h,_,rfl⟩ | ⟨c,h1,h2⟩
 ·exact ⟨fun z hz=>(by cases hz),by rw [hs]; exact (A7z okB h).2⟩
 ·exact ⟨(A7z okA h).1,fun z hz=>(by cases hz)⟩
 ·exact ⟨(A7z okA h1).1,by rw [hs]; exact (A7z okB h2).2⟩
theorem B68 (okA:A5j A) (okB:A5j B) (hs:A.sigma=B.sigma) (s:Nat×Nat) (a b:Option Nat) (t:Nat×Nat):A81 (A0v (A3l A)) (A0v (A3l B)) s a b t↔∃ c d,A81 (A5k A) (A5k B) s c d t∧a=c.map (ixN A.sigma)∧b=d.map (ixN A.sigma):=by
 unfold A81
 simp only [A5x okA,A5x okB,← hs]
 have hn:∀ {o:Option ByteArray},none=o.map (ixN A.sigma)→o=none:=fun {o} h=>by cases o with
  | none=>rfl
  | some z=>cases h
 have hsm:∀ {o:Option ByteArray} {k:Nat},some k=o.map (ixN A.sigma)→∃ z,o=some z∧ixN A.sigma z=k:=fun {o k} h=>by cases o with
  | none=>cases h
  | some z=>exact ⟨z,rfl,(Option.some.inj h).symm⟩
 constructor
 ·rintro (⟨h1,rfl,c,d,h2,h3,rfl⟩ | ⟨⟨c,d,h2,rfl,h3⟩,h1,rfl⟩ | ⟨k,⟨c,d,h2,rfl,h3⟩,c',d',h4,h5,rfl⟩)
  ·have:=hn h3
   subst this
   exact ⟨none,d,.inl ⟨h1,rfl,h2⟩,rfl,rfl⟩
  ·have:=hn h3
   subst this
   exact ⟨c,none,.inr (.inl ⟨h2,h1,rfl⟩),rfl,rfl⟩
  ·obtain ⟨z,rfl,e1⟩:=hsm h3
   obtain ⟨z',rfl,e2⟩:=hsm h5
   have:z=z':=B5a okA.asc z z' ((A7z okA h2).2 z rfl) (by rw [hs]; exact (A7z okB h4).1 z' rfl) (by rw [e1,e2])
   subst this
   exact ⟨c,d',.inr (.inr ⟨z,h2,h4⟩),rfl,rfl⟩
 ·rintro ⟨c,d,⟨h1,rfl,h2⟩ | ⟨h2,h1,rfl⟩ | ⟨z,h2,h3⟩,rfl,rfl⟩
  ·exact .inl ⟨h1,rfl,none,d,h2,rfl,rfl⟩
  ·exact .inr (.inl ⟨⟨c,none,h2,rfl,rfl⟩,h1,rfl⟩)
  ·exact .inr (.inr ⟨ixN A.sigma z,⟨c,some z,h2,rfl,rfl⟩,some z,d,h3,rfl,rfl⟩)
theorem C6p {M:NetD} (hA:A5h A=0) (hB:A5h B=0) (hs:A.sigma=B.sigma) {n1 n2:Nat} {ca cb:List Int} {T:List (Nat×Nat)} {R:List (List GE)} {es cs:List Int} (hI:CompI (A3l A) (A3l B) (A7n A A.ends) (A7n B B.ends) ca cb n1 n2 T T.length R es cs)
  (hM:C2f A.sigma R es cs T.length M) (hR:B1h A.sigma R es cs T.length) (x y:List ByteArray):A76 M x y↔B0g A B x y:=by
 obtain ⟨okA,_,_⟩:=A3i hA
 obtain ⟨okB,_,_⟩:=A3i hB
 rw [C3i hM hR okA.sig,comp_rel hI]
 unfold B0g
 have hsy:=prod_sym okA okB hs
 have he:∀ t:Nat×Nat,(endP (A7n A A.ends) t.1∧endP (A7n B B.ends) t.2)↔(A.isEnd t.1∧B.isEnd t.2):=fun t=>and_congr (B9p okA t.1) (B9p okB t.2)
 constructor
 ·rintro ⟨⟨h1,h2⟩,t,h3,h4⟩
  exact ⟨t,(he t).1 h3,(C8q (ixN A.sigma) (B5a okA.asc) (B68 okA okB hs) hsy h1 h2 _ _).1 h4⟩
 ·rintro ⟨t,h3,h4⟩
  obtain ⟨h1,h2⟩:=way_in hsy h4
  exact ⟨⟨h1,h2⟩,t,(he t).2 h3,(C8q (ixN A.sigma) (B5a okA.asc) (B68 okA okB hs) hsy h1 h2 _ _).2 h4⟩
end
end Go.Proofs.YtnoengaghabmjaaGreatDoor
/- Whether a composition is too great, by both. -/
namespace Go.Proofs.YtnoengaghabmjaaGreatDoor
open Go Go.Proofs Go.Proofs.Sh
def A88 (A B:NetD):Bool:=decide (1000 < A.states * B.states) || decide (8000 < (A.arcs.length:Int) * (B.arcs.length:Int)) || decide (4000 < (A.arcs.length:Int) * B.states) || decide (4000 < (B.arcs.length:Int) * A.states)
theorem A87 {a b x y:Int} (ha:0≤a) (hb:0≤b) (h1:a≤x) (h2:b≤y) (hxy:x * y≤4000000000):IntKind.wrap .i64 (a * b)=a * b:=by
 have h3:a * b≤x * y:=Int.mul_le_mul h1 h2 hb (by omega)
 have h4:0≤a * b:=Int.mul_nonneg ha hb
 exact wrap64 (by omega) (by omega)
theorem C1g {H:AH} {va vb:Value} {A B:NetD} (ha:A8k H va A) (hb:A8k H vb B) (okA:A5j A) (okB:A5j B) (hw:Wf H):
  Sh.Call Tryz.prog (knows 8) 45 [va,vb] H (fun r H'=>Kept H H'∧r=.bool (A88 A B)):=by
 refine A3b rfl Tryz.func45 rfl (Nat.le_of_ble_eq_true rfl) ?_
 have hres:Tryz.f45.results.toList=[.tmp 4]:=rfl
 obtain ⟨sgA,arA,enA,rfl,s1,s2,s3⟩:=ha
 obtain ⟨sgB,arB,enB,rfl,t1,t2,t3⟩:=hb
 have bA:=NetBox.of (N:=A) hw s1 s2 s3
 have k1:=Kept.new hw 4 [sgA,.int .i64 A.states,arA,enA]
 have bB:=NetBox.of (N:=B) k1.wf (t1.grow (k1.grow hw)) (t2.grow (k1.grow hw)) (t3.grow (k1.grow hw))
 have k2:=k1.news 4 [sgB,.int .i64 B.states,arB,enB]
 have bA2:=bA.new k1.wf 4 [sgB,.int .i64 B.states,arB,enB]
 simp only [↓Sh.dn,sx,Nat.reduceBEq,reduceCtorEq,Nat.reduceEqDiff,A7k s1.isCell s2.isCell s3.isCell,A7k t1.isCell t2.isCell t3.isCell]
 obtain ⟨H1,hH1⟩:∃ K,(H.new 4 [sgA,.int .i64 A.states,arA,enA]).2=K:=⟨_,rfl⟩
 simp only [hH1] at k1 bB bA k2 bA2 ⊢
 obtain ⟨H2,hH2⟩:∃ K,(H1.new 4 [sgB,.int .i64 B.states,arB,enB]).2=K:=⟨_,rfl⟩
 simp only [hH2] at bB k2 bA2 ⊢
 generalize H.next=gA at bA2 ⊢
 generalize H1.next=gB at bB ⊢
 have a1:=okA.st1
 have a2:=okA.st2
 have a3:=okA.ar
 have b1:=okB.st1
 have b2:=okB.st2
 have b3:=okB.ar
 have w1:=A87 (a:=A.states) (b:=B.states) (x:=3000) (y:=3000) (by omega) (by omega) (by omega) (by omega) (by decide)
 have w2:=A87 (a:=(A.arcs.length:Int)) (b:=(B.arcs.length:Int)) (x:=60000) (y:=60000) (by omega) (by omega) (by omega) (by omega) (by decide)
 have w3:=A87 (a:=(A.arcs.length:Int)) (b:=B.states) (x:=60000) (y:=3000) (by omega) (by omega) (by omega) (by omega) (by decide)
 have w4:=A87 (a:=(B.arcs.length:Int)) (b:=A.states) (x:=60000) (y:=3000) (by omega) (by omega) (by omega) (by omega) (by decide)
 have lA:=fun H'=>bA2.har.len Tryz.underlying23 H'
 have lB:=fun H'=>bB.har.len Tryz.underlying23 H'
 simp only [List.length_map] at lA lB
 unfold A88
 cases p1:decide (1000 < A.states * B.states) with
 | true=>
  simp only [Bool.true_or]
  simp only [↓Sh.dn,sx,Nat.reduceBEq,reduceCtorEq,Nat.reduceEqDiff,bA2.c0,bA2.c1,bA2.c2,bA2.c3,bA2.ca,A3a bA2,A1a bA2,A2a bA2,bB.c0,bB.c1,bB.c2,bB.c3,bB.ca,A3a bB,A1a bB,A2a bB,w1,p1,hres] <;> exact k2
 | false=>
 cases p2:decide (8000 < (A.arcs.length:Int) * (B.arcs.length:Int)) with
 | true=>
  simp only [Bool.true_or,Bool.false_or]
  simp only [↓Sh.dn,sx,Nat.reduceBEq,reduceCtorEq,Nat.reduceEqDiff,bA2.c0,bA2.c1,bA2.c2,bA2.c3,bA2.ca,A3a bA2,A1a bA2,A2a bA2,bB.c0,bB.c1,bB.c2,bB.c3,bB.ca,A3a bB,A1a bB,A2a bB,lA,lB,w1,p1,w2,p2,hres] <;> exact k2
 | false=>
 cases p3:decide (4000 < (A.arcs.length:Int) * B.states) with
 | true=>
  simp only [Bool.true_or,Bool.false_or]
  simp only [↓Sh.dn,sx,Nat.reduceBEq,reduceCtorEq,Nat.reduceEqDiff,bA2.c0,bA2.c1,bA2.c2,bA2.c3,bA2.ca,A3a bA2,A1a bA2,A2a bA2,bB.c0,bB.c1,bB.c2,bB.c3,bB.ca,A3a bB,A1a bB,A2a bB,lA,lB,w1,p1,w2,p2,w3,p3,hres] <;> exact k2
 | false=>
  simp only [Bool.false_or]
  simp only [↓Sh.dn,sx,Nat.reduceBEq,reduceCtorEq,Nat.reduceEqDiff,bA2.c0,bA2.c1,bA2.c2,bA2.c3,bA2.ca,A3a bA2,A1a bA2,A2a bA2,bB.c0,bB.c1,bB.c2,bB.c3,bB.ca,A3a bB,A1a bB,A2a bB,lA,lB,w1,p1,w2,p2,w3,p3,w4,hres] <;> exact k2
theorem C7k {H:AH} {va vb:Value} {A B:NetD} (ha:A8k H va A) (hb:A8k H vb B) (okA:A5j A) (okB:A5j B) (hw:Wf H):
  Sh.Call Tryz.prog (knows 8) 28 [va,vb] H (fun r H'=>Kept H H'∧r=.bool (A88 A B)):=by
 refine A3b rfl Tryz.func28 rfl (Nat.le_of_ble_eq_true rfl) ?_
 have hres:Tryz.f28.results.toList=[.tmp 4]:=rfl
 obtain ⟨sgA,arA,enA,rfl,s1,s2,s3⟩:=ha
 obtain ⟨sgB,arB,enB,rfl,t1,t2,t3⟩:=hb
 have bA:=NetBox.of (N:=A) hw s1 s2 s3
 have k1:=Kept.new hw 4 [sgA,.int .i64 A.states,arA,enA]
 have bB:=NetBox.of (N:=B) k1.wf (t1.grow (k1.grow hw)) (t2.grow (k1.grow hw)) (t3.grow (k1.grow hw))
 have k2:=k1.news 4 [sgB,.int .i64 B.states,arB,enB]
 have bA2:=bA.new k1.wf 4 [sgB,.int .i64 B.states,arB,enB]
 simp only [↓Sh.dn,sx,Nat.reduceBEq,reduceCtorEq,Nat.reduceEqDiff,A7k s1.isCell s2.isCell s3.isCell,A7k t1.isCell t2.isCell t3.isCell]
 obtain ⟨H1,hH1⟩:∃ K,(H.new 4 [sgA,.int .i64 A.states,arA,enA]).2=K:=⟨_,rfl⟩
 simp only [hH1] at k1 bB bA k2 bA2 ⊢
 obtain ⟨H2,hH2⟩:∃ K,(H1.new 4 [sgB,.int .i64 B.states,arB,enB]).2=K:=⟨_,rfl⟩
 simp only [hH2] at bB k2 bA2 ⊢
 generalize H.next=gA at bA2 ⊢
 generalize H1.next=gB at bB ⊢
 have a1:=okA.st1
 have a2:=okA.st2
 have a3:=okA.ar
 have b1:=okB.st1
 have b2:=okB.st2
 have b3:=okB.ar
 have w1:=A87 (a:=A.states) (b:=B.states) (x:=3000) (y:=3000) (by omega) (by omega) (by omega) (by omega) (by decide)
 have w2:=A87 (a:=(A.arcs.length:Int)) (b:=(B.arcs.length:Int)) (x:=60000) (y:=60000) (by omega) (by omega) (by omega) (by omega) (by decide)
 have w3:=A87 (a:=(A.arcs.length:Int)) (b:=B.states) (x:=60000) (y:=3000) (by omega) (by omega) (by omega) (by omega) (by decide)
 have w4:=A87 (a:=A.states) (b:=(B.arcs.length:Int)) (x:=3000) (y:=60000) (by omega) (by omega) (by omega) (by omega) (by decide)
 have lA:=fun H'=>bA2.har.len Tryz.underlying23 H'
 have lB:=fun H'=>bB.har.len Tryz.underlying23 H'
 simp only [List.length_map] at lA lB
 unfold A88
 rw [Int.mul_comm (B.arcs.length:Int) A.states]
 cases p1:decide (1000 < A.states * B.states) with
 | true=>
  simp only [Bool.true_or]
  simp only [↓Sh.dn,sx,Nat.reduceBEq,reduceCtorEq,Nat.reduceEqDiff,bA2.c0,bA2.c1,bA2.c2,bA2.c3,bA2.ca,A3a bA2,A1a bA2,A2a bA2,bB.c0,bB.c1,bB.c2,bB.c3,bB.ca,A3a bB,A1a bB,A2a bB,w1,p1,hres] <;> exact k2
 | false=>
 cases p2:decide (8000 < (A.arcs.length:Int) * (B.arcs.length:Int)) with
 | true=>
  simp only [Bool.true_or,Bool.false_or]
  simp only [↓Sh.dn,sx,Nat.reduceBEq,reduceCtorEq,Nat.reduceEqDiff,bA2.c0,bA2.c1,bA2.c2,bA2.c3,bA2.ca,A3a bA2,A1a bA2,A2a bA2,bB.c0,bB.c1,bB.c2,bB.c3,bB.ca,A3a bB,A1a bB,A2a bB,lA,lB,w1,p1,w2,p2,hres] <;> exact k2
 | false=>
 cases p3:decide (4000 < (A.arcs.length:Int) * B.states) with
 | true=>
  simp only [Bool.true_or,Bool.false_or]
  simp only [↓Sh.dn,sx,Nat.reduceBEq,reduceCtorEq,Nat.reduceEqDiff,bA2.c0,bA2.c1,bA2.c2,bA2.c3,bA2.ca,A3a bA2,A1a bA2,A2a bA2,bB.c0,bB.c1,bB.c2,bB.c3,bB.ca,A3a bB,A1a bB,A2a bB,lA,lB,w1,p1,w2,p2,w3,p3,hres] <;> exact k2
 | false=>
  simp only [Bool.false_or]
  simp only [↓Sh.dn,sx,Nat.reduceBEq,reduceCtorEq,Nat.reduceEqDiff,bA2.c0,bA2.c1,bA2.c2,bA2.c3,bA2.ca,A3a bA2,A1a bA2,A2a bA2,bB.c0,bB.c1,bB.c2,bB.c3,bB.ca,A3a bB,A1a bB,A2a bB,lA,lB,w1,p1,w2,p2,w3,p3,w4,hres] <;> exact k2
end Go.Proofs.YtnoengaghabmjaaGreatDoor
/- rel.Compose: the pairs with some word between. -/
namespace Go.Proofs.YtnoengaghabmjaaGreatDoor
open Go Go.Proofs Go.Proofs.Sh
def A0e (A B:NetD):Int:=if A0k A B≠0 then A0k A B else if A88 A B=true then 3 else 0
theorem B26 {A B:NetD} (okA:A5j A) (okB:A5j B) (h:A88 A B=false):A.states.toNat * B.states.toNat≤1000∧A.arcs.length * B.arcs.length≤8000∧B.states.toNat * A.arcs.length≤4000∧A.states.toNat * B.arcs.length≤4000:=by
 simp only [A88,Bool.or_eq_false_iff,decide_eq_false_iff_not,Int.not_lt] at h
 obtain ⟨⟨⟨h1,h2⟩,h3⟩,h4⟩:=h
 have a1:=okA.st1
 have b1:=okB.st1
 have ea:A.states=(A.states.toNat:Int):=by omega
 have eb:B.states=(B.states.toNat:Int):=by omega
 rw [ea,eb] at h1
 rw [eb] at h3
 rw [ea] at h4
 rw [← Int.natCast_mul] at h1 h2 h3 h4
 refine ⟨by omega,by omega,?_,?_⟩
 ·rw [Nat.mul_comm]; omega
 ·rw [Nat.mul_comm]; omega
theorem C4i {H:AH} {va vb:Value} {A B:NetD} (ha:A8k H va A) (hb:A8k H vb B) (hA:A4c A) (hB:A4c B) (hw:Wf H):
  Sh.Call Tryz.prog (knows 8) 22 [va,vb] H (fun r H'=>JoinOut H H' A.sigma (A0e A B) (fun x y=>B0g A B x y) r):=by
 refine A3b rfl Tryz.func22 rfl (Nat.le_of_ble_eq_true rfl) ?_
 have hres:Tryz.f22.results.toList=[.cell 4 26,.tmp 5]:=rfl
 obtain ⟨sgA,arA,enA,rfl,s1,s2,s3⟩:=ha
 obtain ⟨sgB,arB,enB,rfl,t1,t2,t3⟩:=hb
 have bA:=NetBox.of (N:=A) hw s1 s2 s3
 have k1:=Kept.new hw 4 [sgA,.int .i64 A.states,arA,enA]
 have bB:=NetBox.of (N:=B) k1.wf (t1.grow (k1.grow hw)) (t2.grow (k1.grow hw)) (t3.grow (k1.grow hw))
 have k2:=k1.news 4 [sgB,.int .i64 B.states,arB,enB]
 have bA2:=bA.new k1.wf 4 [sgB,.int .i64 B.states,arB,enB]
 simp only [↓Sh.dn,sx,Nat.reduceBEq,reduceCtorEq,Nat.reduceEqDiff,A7k s1.isCell s2.isCell s3.isCell,A7k t1.isCell t2.isCell t3.isCell,A1c]
 obtain ⟨H1,hH1⟩:∃ K,(H.new 4 [sgA,.int .i64 A.states,arA,enA]).2=K:=⟨_,rfl⟩
 simp only [hH1] at k1 bB bA k2 bA2 ⊢
 obtain ⟨H2,hH2⟩:∃ K,(H1.new 4 [sgB,.int .i64 B.states,arB,enB]).2=K:=⟨_,rfl⟩
 simp only [hH2] at bB k2 bA2 ⊢
 generalize H.next=gA at bA2 ⊢
 generalize H1.next=gB at bB ⊢
 have sl:Slot (H2.new 4 [.slice none 0 0,.int .i64 0,.slice none 0 0,.slice none 0 0]).2 H2.next:=Slot.new
 have k3:=k2.news 4 [.slice none 0 0,.int .i64 0,.slice none 0 0,.slice none 0 0]
 have bA3:=bA2.new k2.wf 4 [.slice none 0 0,.int .i64 0,.slice none 0 0,.slice none 0 0]
 have bB3:=bB.new k2.wf 4 [.slice none 0 0,.int .i64 0,.slice none 0 0,.slice none 0 0]
 have gol:H.next≤H2.next:=k2.next
 generalize H2.next=go at sl gol ⊢
 generalize (H2.new 4 [.slice none 0 0,.int .i64 0,.slice none 0 0,.slice none 0 0]).2=H3 at sl k3 bA3 bB3 ⊢
 clear bA bA2 bB k1 k2 hH1 hH2 H1 H2 s1 s2 s3 t1 t2 t3
 obtain ⟨H4,hb4,k4,tn4,n4⟩:=twoBuild k3.wf bA3.hsg bA3.har bA3.hen bB3.hsg bB3.har bB3.hen
 obtain ⟨r5,H5,hd5,k5,rfl⟩:=C8f tn4 hA hB k4.wf
 simp only [↓Sh.dn,sx,Nat.reduceBEq,reduceCtorEq,Nat.reduceEqDiff,bA3.c0,bA3.c1,bA3.c2,bA3.c3,bA3.ca,A3a bA3,A1a bA3,A2a bA3,bB3.c0,bB3.c1,bB3.c2,bB3.c3,bB3.ca,A3a bB3,A1a bB3,A2a bB3,Option.map_some,hb4]
 refine ⟨_,_,hd5,?_⟩
 have k35:=k4.trans k5
 have bA5:=bA3.kept k3.wf k35
 have bB5:=bB3.kept k3.wf k35
 by_cases hE:A0k A B=0
 case neg=>
  have e1:A0e A B=A0k A B:=by unfold A0e; rw [if_pos hE]
  obtain ⟨Hz,sz,cz,zz,_⟩:=sl.put k35 (a:=.slice none 0 0) (b:=.int .i64 0) (c:=.slice none 0 0) (d:=.slice none 0 0) rfl rfl rfl rfl
  simp only [↓Sh.dn,sx,Nat.reduceBEq,reduceCtorEq,Nat.reduceEqDiff,hE,decide_false,netZ,sz,hres,cz,Option.map_some,e1]
  exact JoinOut.bad ((k3.trans k35).then gol (zz.weak fun y hy=>by omega)) hE
 obtain ⟨hrA,hrB,hsg⟩:=B3e hE
 obtain ⟨okA,_,_⟩:=A3i hrA
 obtain ⟨okB,_,_⟩:=A3i hrB
 obtain ⟨r7,H7,hd7,k7,rfl⟩:=C1g bA5.netAt bB5.netAt okA okB (k3.trans k35).wf
 simp only [↓Sh.dn,sx,Nat.reduceBEq,reduceCtorEq,Nat.reduceEqDiff,hE,decide_true,bA5.c0,bA5.c1,bA5.c2,bA5.c3,bA5.ca,A3a bA5,A1a bA5,A2a bA5,bB5.c0,bB5.c1,bB5.c2,bB5.c3,bB5.ca,A3a bB5,A1a bB5,A2a bB5,Option.map_some]
 refine ⟨_,_,hd7,?_⟩
 have k37:=k35.trans k7
 have bA7:=bA3.kept k3.wf k37
 have bB7:=bB3.kept k3.wf k37
 cases hg:A88 A B with
 | true=>
  have e1:A0e A B=3:=by unfold A0e; rw [if_neg (by simpa using hE),if_pos hg]
  obtain ⟨Hz,sz,cz,zz,_⟩:=sl.put k37 (a:=.slice none 0 0) (b:=.int .i64 0) (c:=.slice none 0 0) (d:=.slice none 0 0) rfl rfl rfl rfl
  simp only [↓Sh.dn,sx,Nat.reduceBEq,reduceCtorEq,Nat.reduceEqDiff,netZ,sz,hres,cz,Option.map_some,e1]
  exact JoinOut.bad ((k3.trans k37).then gol (zz.weak fun y hy=>by omega)) (by decide)
 | false=>
 have e1:A0e A B=0:=by unfold A0e; rw [if_neg (by simpa using hE),if_neg (by rw [hg]; simp)]
 simp only [↓Sh.dn,sx,Nat.reduceBEq,reduceCtorEq,Nat.reduceEqDiff]
 obtain ⟨r8,H8,hd8,k8,g1,rfl,base1,hbase1,hG1⟩:=C6n bA7.netAt okA hA k37.wf
 have bB8:=bB7.kept k37.wf k8
 obtain ⟨r9,H9,hd9,k9,g2,rfl,base2,hbase2,hG2⟩:=C6n bB8.netAt okB hB k8.wf
 rw [← A38 okA] at hG1
 rw [← A38 okB] at hG2
 have hX1:=(hG1.own k8.wf).kept k8.wf k9
 have hX2:=hG2.own k9.wf
 have a1:=okA.st1
 have a2:=okA.st2
 have b1:=okB.st1
 have b2:=okB.st2
 have n1:H8.next≤H9.next:=k9.next
 obtain ⟨q1,q2,q3,q4⟩:=B26 okA okB hg
 have sA:=B6k hrA
 have sB:=B6k hrB
 have rowle:∀ {E:List (List GE)} {r:List GE},r∈E→r.length≤(E.map List.length).sum:=fun {E r} h=>by
  induction E with
  | nil=>cases h
  | cons q E ih=>
   rw [List.map_cons,List.sum_cons]
   rcases List.mem_cons.1 h with h | h
   ·rw [h]; omega
   ·have:=ih h; omega
 have zA:∀ r∈A3l A,∀ e∈r,0≤e.2.2.2∧e.2.2.2≤1099511627776:=fun r hr e he=>by rw [(A1y hrA r hr e he).2.2.2]; decide
 have zB:∀ r∈A3l B,∀ e∈r,0≤e.2.2.2∧e.2.2.2≤1099511627776:=fun r hr e he=>by rw [(A1y hrB r hr e he).2.2.2]; decide
 have zc:∀ {l:List Int},(∀ c∈l,c=0)→∀ c∈l,0≤c∧c≤1099511627776:=fun h c hc=>by rw [h c hc]; decide
 have hpr:∀ r∈A3l A,∀ q∈A3l B,r.length * (q.length+1)≤100000000:=fun r hr q hq=>by
  have h1:=rowle hr
  have h2:=rowle hq
  rw [sA] at h1
  rw [sB] at h2
  have h3:r.length * q.length≤A.arcs.length * B.arcs.length:=Nat.mul_le_mul h1 h2
  have h4:=okA.ar
  rw [Nat.mul_succ]
  omega
 obtain ⟨r11,H11,hd11,k11,g,rfl,X,T,R,es,cs,hX,hI⟩:=B8w (n1:=A.states.toNat) (n2:=B.states.toNat) hX1 hX2 (A7y A) (B2k A) (B1a A) (by omega) (by omega) (A7y B) (B2k B) (B1a B) (by omega) (by omega) (by omega) hA.sg (B8h hrA) (B8h hrB) hpr zA zB (zc (A0z hrA)) (zc (A0z hrB)) k9.wf
 have hEA:∀ r∈A3l A,∀ e∈r,e.2.1 < (A.sigma.length:Int)∧e.2.2.1 < (A.sigma.length:Int)∧e.2.2.2=0:=fun r hr e he=>(A1y hrA r hr e he).2
 have hEB:∀ r∈A3l B,∀ e∈r,e.2.1 < (A.sigma.length:Int)∧e.2.2.1 < (A.sigma.length:Int)∧e.2.2.2=0:=by rw [hsg]; exact fun r hr e he=>(A1y hrB r hr e he).2
 have hTl:=B2o hI.nd hI.inb
 have hT1:0 < T.length:=(List.getElem?_eq_some_iff.1 hI.h0).1
 have hsum:=comp_sum hI (A7y A) (A7y B)
 rw [sA,sB] at hsum
 have hRO:B1h A.sigma R es cs T.length:=⟨hI.lr,hI.le,hI.lc,hT1,by omega,comp_to hI (Int.natCast_nonneg _) hEA hEB,by omega,C9k hI (A0z hrA) (A0z hrB)⟩
 obtain ⟨r12,H12,hd12,k12,M,hM,m1,m2,m3,m4,m5,m6⟩:=graphNet hX hRO.le hRO.ln hRO.lc hRO.n1 hRO.n2 hA.sg (fun r hr e he=>⟨(hRO.to r hr e he).1,(hRO.to r hr e he).2.1,(hRO.to r hr e he).2.2.1⟩) (by have:=hRO.sum; omega) k11.wf
 have hNO:C2f A.sigma R es cs T.length M:=⟨m1,m2,m3,m4,m5,m6⟩
 have k812:=((k8.trans k9).trans k11).trans k12
 have k312:=k37.trans k812
 obtain ⟨⟨sgM,arM,enM,rfl,z1,z2,z3⟩⟩:=hM H12 fun y _=>rfl
 obtain ⟨H13,s13,c13,z13,x13⟩:=sl.put k312 z1.isCell (show isCell (.int .i64 M.states)=true from rfl) z2.isCell z3.isCell
 have hvqA:veq (.agg #[sgA,.int .i64 A.states,arA,enA]) (.agg #[sgA,.int .i64 A.states,arA,enA])=true:=A3x (by simp only [A6k,A1n,A3d,bA3.hsg.veq,bA3.har.veq,bA3.hen.veq,Bool.and_self])
 have hvqB:veq (.agg #[sgB,.int .i64 B.states,arB,enB]) (.agg #[sgB,.int .i64 B.states,arB,enB])=true:=A3x (by simp only [A6k,A1n,A3d,bB3.hsg.veq,bB3.har.veq,bB3.hen.veq,Bool.and_self])
 refine A8u (fl:=[(0,false),(2,false),(1,false),(3,true),(4,true),(5,true),(6,true),(7,true)]) (by kernel_rfl) (by kernel_rfl) k37.wf ?_
 simp only [↓Sh.dn,sx,Nat.reduceBEq,reduceCtorEq,Nat.reduceEqDiff,wpg,A50,isEff,A2c,isRead,A7f,A3d,A8f,A9d,A6c,forall_eq,forall_eq',bA7.c0,bA7.c1,bA7.c2,bA7.c3,bA7.ca,A3a bA7,A1a bA7,A2a bA7,bB7.c0,bB7.c1,bB7.c2,bB7.c3,bB7.ca,A3a bB7,A1a bB7,A2a bB7,bB8.c0,bB8.c1,bB8.c2,bB8.c3,bB8.ca,A3a bB8,A1a bB8,A2a bB8,Option.map_some,hvqA,hvqB]
 refine ⟨_,_,hd8,k8.wf,k8.grow k37.wf,?_⟩
 refine ⟨_,_,hd9,k9.wf,?_⟩
 refine ⟨_,_,hd11,k11.wf,?_⟩
 refine ⟨_,_,hd12,k12.wf,?_⟩
 simp only [↓Sh.dn,sx,Nat.reduceBEq,reduceCtorEq,Nat.reduceEqDiff,wpg,A50,isEff,A2c,isRead,A7f,A3d,A8f,A9d,A6c,forall_eq,forall_eq',s13,hres,c13,Option.map_some,z13.wf,e1]
 refine ⟨(k3.trans k312).then gol (z13.weak fun y hy=>by omega),_,rfl,fun h=>absurd rfl h,fun _=>⟨M,fun H14 h14=>hM H14 fun y hy=>(h14 y (by have:=sl.lt; have:=(k37.trans ((k8.trans k9).trans k11)).next; omega)).trans ?_,B7z hNO hRO hA.sg hA.sx,B8o hNO hRO okA.sig,m1,C6p hrA hrB hsg hI hNO hRO⟩⟩
 have hgl:=sl.lt
 have hn:=(k37.trans ((k8.trans k9).trans k11)).next
 by_cases hyl:y < H12.next
 ·exact z13.old y hyl (by omega)
 ·have q1:=A19 k12.wf (y:=y) (by omega)
  have q2:=A19 z13.wf (y:=y) (by omega)
  rw [q1,q2]
end Go.Proofs.YtnoengaghabmjaaGreatDoor
/- What the reference finds wrong with two nets that are to be composed. -/
namespace Go.Proofs.YtnoengaghabmjaaGreatDoor
open Go Go.Proofs Go.Proofs.Sh
theorem C1v {H:AH} {va vb:Value} {A B:NetD} (ha:A8k H va A) (hb:A8k H vb B) (hA:A4c A) (hB:A4c B) (hw:Wf H):
  Sh.Call Tryz.prog (knows 8) 12 [va,vb,.int .i64 3] H (fun r H'=>Kept H H'∧r=.int .i64 (A0e A B)):=by
 refine A3b rfl Tryz.func12 rfl (Nat.le_of_ble_eq_true rfl) ?_
 have hres:Tryz.f12.results.toList=[.tmp 6]:=rfl
 obtain ⟨sgA,arA,enA,rfl,s1,s2,s3⟩:=ha
 obtain ⟨sgB,arB,enB,rfl,t1,t2,t3⟩:=hb
 have bA:=NetBox.of (N:=A) hw s1 s2 s3
 have k1:=Kept.new hw 4 [sgA,.int .i64 A.states,arA,enA]
 have bB:=NetBox.of (N:=B) k1.wf (t1.grow (k1.grow hw)) (t2.grow (k1.grow hw)) (t3.grow (k1.grow hw))
 have k2:=k1.news 4 [sgB,.int .i64 B.states,arB,enB]
 have bA2:=bA.new k1.wf 4 [sgB,.int .i64 B.states,arB,enB]
 simp only [↓Sh.dn,sx,Nat.reduceBEq,reduceCtorEq,Nat.reduceEqDiff,A7k s1.isCell s2.isCell s3.isCell,A7k t1.isCell t2.isCell t3.isCell]
 obtain ⟨H1,hH1⟩:∃ K,(H.new 4 [sgA,.int .i64 A.states,arA,enA]).2=K:=⟨_,rfl⟩
 simp only [hH1] at k1 bB bA k2 bA2 ⊢
 obtain ⟨H2,hH2⟩:∃ K,(H1.new 4 [sgB,.int .i64 B.states,arB,enB]).2=K:=⟨_,rfl⟩
 simp only [hH2] at bB k2 bA2 ⊢
 generalize H.next=gA at bA2 ⊢
 generalize H1.next=gB at bB ⊢
 obtain ⟨r3,H3,hd3,k3,rfl⟩:=B2b bA2.netAt hA k2.wf
 have bA3:=bA2.kept k2.wf k3
 have bB3:=bB.kept k2.wf k3
 have k23:=k2.trans k3
 obtain ⟨r4,H4,hd4,k4,rfl⟩:=B2b bB3.netAt hB k23.wf
 have bA4:=bA3.kept k23.wf k4
 have bB4:=bB3.kept k23.wf k4
 have k24:=k23.trans k4
 obtain ⟨r5,H5,hd5,rfl,rfl⟩:=C6r bA4.hsg bB4.hsg hA.sg hB.sg k24.wf
 simp only [↓Sh.dn,sx,Nat.reduceBEq,reduceCtorEq,Nat.reduceEqDiff,bA2.c0,bA2.c1,bA2.c2,bA2.c3,bA2.ca,A3a bA2,A1a bA2,A2a bA2,Option.map_some]
 refine ⟨_,_,hd3,?_⟩
 by_cases hE:A5h A=0
 case neg=>
  have e1:A0e A B=A5h A:=by unfold A0e A0k; rw [if_pos hE,if_pos hE]
  simp only [↓Sh.dn,sx,Nat.reduceBEq,reduceCtorEq,Nat.reduceEqDiff,hE,decide_false,hres,e1]
  exact k23
 simp only [↓Sh.dn,sx,Nat.reduceBEq,reduceCtorEq,Nat.reduceEqDiff,hE,decide_true,bB3.c0,bB3.c1,bB3.c2,bB3.c3,bB3.ca,A3a bB3,A1a bB3,A2a bB3,Option.map_some]
 refine ⟨_,_,hd4,?_⟩
 by_cases hF:A5h B=0
 case neg=>
  have e1:A0e A B=A5h B:=by unfold A0e A0k; simp only [hE,hF,ne_eq,not_true_eq_false,not_false_eq_true,if_true,if_false]
  simp only [↓Sh.dn,sx,Nat.reduceBEq,reduceCtorEq,Nat.reduceEqDiff,hF,decide_false,hres,e1]
  exact k24
 simp only [↓Sh.dn,sx,Nat.reduceBEq,reduceCtorEq,Nat.reduceEqDiff,hF,decide_true,bA4.c0,bA4.c1,bA4.c2,bA4.c3,bA4.ca,A3a bA4,A1a bA4,A2a bA4,bB4.c0,bB4.c1,bB4.c2,bB4.c3,bB4.ca,A3a bB4,A1a bB4,A2a bB4,Option.map_some]
 refine ⟨_,_,hd5,?_⟩
 by_cases hs:A.sigma=B.sigma
 case neg=>
  have e1:A0e A B=10:=by unfold A0e A0k; simp [hE,hF,hs]
  simp only [↓Sh.dn,sx,Nat.reduceBEq,reduceCtorEq,Nat.reduceEqDiff,hs,decide_false,hres,e1]
  exact k24
 obtain ⟨okA,_,_⟩:=A3i hE
 obtain ⟨okB,_,_⟩:=A3i hF
 obtain ⟨r6,H6,hd6,k6,rfl⟩:=C7k bA4.netAt bB4.netAt okA okB k24.wf
 have i30:decide ((3:Int)=0)=false:=rfl
 have i31:decide ((3:Int)=1)=false:=rfl
 have i32:decide ((3:Int)=2)=false:=rfl
 have i33:decide ((3:Int)=3)=true:=rfl
 have e1:A0e A B=if A88 A B=true then 3 else 0:=by
  unfold A0e A0k
  rw [if_neg (by simp [hE,hF,hs])]
 simp only [↓Sh.dn,sx,Nat.reduceBEq,reduceCtorEq,Nat.reduceEqDiff,hs,i30,i31,i32,i33,decide_true,decide_false,eq_self,bA4.c0,bA4.c1,bA4.c2,bA4.c3,bA4.ca,A3a bA4,A1a bA4,A2a bA4,bB4.c0,bB4.c1,bB4.c2,bB4.c3,bB4.ca,A3a bB4,A1a bB4,A2a bB4,Option.map_some]
 refine ⟨_,_,hd6,?_⟩
 cases hg:A88 A B with
 | true=>
  rw [hg,if_pos rfl] at e1
  simp only [↓Sh.dn,sx,Nat.reduceBEq,reduceCtorEq,Nat.reduceEqDiff,hres,e1]
  exact k24.trans k6
 | false=>
  rw [hg,if_neg (by simp)] at e1
  simp only [↓Sh.dn,sx,Nat.reduceBEq,reduceCtorEq,Nat.reduceEqDiff,hres,e1]
  exact k24.trans k6
end Go.Proofs.YtnoengaghabmjaaGreatDoor
/- The law's join of kind Compose. -/
namespace Go.Proofs.YtnoengaghabmjaaGreatDoor
open Go Go.Proofs Go.Proofs.Sh
theorem B03 {H:AH} {va vb:Value} {A B:NetD} (ha:A8k H va A) (hb:A8k H vb B) (hA:A4c A) (hB:A4c B) (hw:Wf H):
  Sh.Call Tryz.prog (knows 8) 11 [va,vb,.int .i64 3] H (fun r H'=>JoinOut H H' A.sigma (A0e A B) (fun x y=>B0g A B x y) r):=by
 refine A3b rfl Tryz.func11 rfl (Nat.le_of_ble_eq_true rfl) ?_
 have hres:Tryz.f11.results.toList=[.cell 6 26,.tmp 7]:=rfl
 obtain ⟨sgA,arA,enA,rfl,s1,s2,s3⟩:=ha
 obtain ⟨sgB,arB,enB,rfl,t1,t2,t3⟩:=hb
 have bA:=NetBox.of (N:=A) hw s1 s2 s3
 have k1:=Kept.new hw 4 [sgA,.int .i64 A.states,arA,enA]
 have bB:=NetBox.of (N:=B) k1.wf (t1.grow (k1.grow hw)) (t2.grow (k1.grow hw)) (t3.grow (k1.grow hw))
 have k2:=k1.news 4 [sgB,.int .i64 B.states,arB,enB]
 have bA2:=bA.new k1.wf 4 [sgB,.int .i64 B.states,arB,enB]
 simp only [↓Sh.dn,sx,Nat.reduceBEq,reduceCtorEq,Nat.reduceEqDiff,A7k s1.isCell s2.isCell s3.isCell,A7k t1.isCell t2.isCell t3.isCell,A1c]
 obtain ⟨H1,hH1⟩:∃ K,(H.new 4 [sgA,.int .i64 A.states,arA,enA]).2=K:=⟨_,rfl⟩
 simp only [hH1] at k1 bB bA k2 bA2 ⊢
 obtain ⟨H2,hH2⟩:∃ K,(H1.new 4 [sgB,.int .i64 B.states,arB,enB]).2=K:=⟨_,rfl⟩
 simp only [hH2] at bB k2 bA2 ⊢
 generalize H.next=gA at bA2 ⊢
 generalize H1.next=gB at bB ⊢
 have sl:Slot (H2.new 4 [.slice none 0 0,.int .i64 0,.slice none 0 0,.slice none 0 0]).2 H2.next:=Slot.new
 have k3:=k2.news 4 [.slice none 0 0,.int .i64 0,.slice none 0 0,.slice none 0 0]
 have bA3:=bA2.new k2.wf 4 [.slice none 0 0,.int .i64 0,.slice none 0 0,.slice none 0 0]
 have bB3:=bB.new k2.wf 4 [.slice none 0 0,.int .i64 0,.slice none 0 0,.slice none 0 0]
 have gol:H.next≤H2.next:=k2.next
 generalize H2.next=go at sl gol ⊢
 generalize (H2.new 4 [.slice none 0 0,.int .i64 0,.slice none 0 0,.slice none 0 0]).2=H3 at sl k3 bA3 bB3 ⊢
 clear bA bA2 bB k1 k2 hH1 hH2 H1 H2 s1 s2 s3 t1 t2 t3
 obtain ⟨r4,H4,hd4,k4,mv,rfl,hbad,hok⟩:=C4i bA3.netAt bB3.netAt hA hB k3.wf
 have i20:decide ((3:Int)=0)=false:=rfl
 have i21:decide ((3:Int)=1)=false:=rfl
 have i22:decide ((3:Int)=2)=false:=rfl
 have i23:decide ((3:Int)=3)=true:=rfl
 simp only [↓Sh.dn,sx,Nat.reduceBEq,reduceCtorEq,Nat.reduceEqDiff,i20,i21,i22,i23,bA3.c0,bA3.c1,bA3.c2,bA3.c3,bA3.ca,A3a bA3,A1a bA3,A2a bA3,bB3.c0,bB3.c1,bB3.c2,bB3.c3,bB3.ca,A3a bB3,A1a bB3,A2a bB3,Option.map_some,eq_self,decide_true,decide_false]
 refine ⟨_,_,hd4,?_⟩
 have hgl:=sl.lt
 by_cases hE:A0e A B=0
 case neg=>
  have hz:=hbad hE
  unfold A86 at hz
  subst hz
  obtain ⟨Hz,sz,cz,zz,_⟩:=sl.put k4 (a:=.slice none 0 0) (b:=.int .i64 0) (c:=.slice none 0 0) (d:=.slice none 0 0) rfl rfl rfl rfl
  simp only [↓Sh.dn,sx,Nat.reduceBEq,reduceCtorEq,Nat.reduceEqDiff,sz,hres,cz,Option.map_some]
  exact JoinOut.bad ((k3.trans k4).then gol (zz.weak fun y hy=>by omega)) hE
 obtain ⟨M,hM,m1,m2,m3,m4⟩:=hok hE
 obtain ⟨⟨sgM,arM,enM,rfl,z1,z2,z3⟩⟩:=hM H4 fun _ _=>rfl
 obtain ⟨H5,s5,c5,z5,x5⟩:=sl.put k4 z1.isCell (show isCell (.int .i64 M.states)=true from rfl) z2.isCell z3.isCell
 simp only [↓Sh.dn,sx,Nat.reduceBEq,reduceCtorEq,Nat.reduceEqDiff,s5,hres,c5,Option.map_some]
 refine ⟨(k3.trans k4).then gol (z5.weak fun y hy=>by omega),_,rfl,fun h=>absurd hE h,fun _=>⟨M,fun H6 h6=>hM H6 fun y hy=>(h6 y (by have:=k3.next; omega)).trans ?_,m1,m2,m3,m4⟩⟩
 by_cases hyl:y < H4.next
 ·exact z5.old y hyl (by omega)
 ·have q1:=A19 k4.wf (y:=y) (by omega)
  have q2:=A19 z5.wf (y:=y) (by omega)
  rw [q1,q2]
end Go.Proofs.YtnoengaghabmjaaGreatDoor
/- States of two nets with a place in two words: as values, as keys; what follows on such a thing. -/
namespace Go.Proofs.YtnoengaghabmjaaGreatDoor
open Go Go.Proofs Go.Proofs.Sh
abbrev TW:=(Nat×Nat)×Nat×Nat
def A2h (p:TW):List Value:=[.int .i64 (p.1.1:Int),.int .i64 (p.1.2:Int),.int .i64 (p.2.1:Int),.int .i64 (p.2.2:Int)]
theorem C4k:Tryz.prog.stoodInHeld 92=false:=by kernel_rfl
theorem B0n (a b:TW):eqT Tryz.prog A4f 92 (A7p A2h a) (A7p A2h b)=some (decide (a=b)):=by
 show eqT Tryz.prog (19+1) _ _ _=_
 obtain ⟨⟨a0,a1⟩,a⟩:=a
 obtain ⟨⟨b0,b1⟩,b⟩:=b
 have hs:=B70 (d:=17) a b
 rw [eqT.eq_def]
 have s1:("a" == "_")=false:=rfl
 have s2:("b" == "_")=false:=rfl
 have s3:("at" == "_")=false:=rfl
 have t1:∀ p:Nat×Nat,A6h [Value.int .i64 (a0:Int),.int .i64 (a1:Int),.int .i64 (p.1:Int),.int .i64 (p.2:Int)] 2 2=some (A4b p):=fun _=>rfl
 have t2:∀ p:Nat×Nat,A6h [Value.int .i64 (b0:Int),.int .i64 (b1:Int),.int .i64 (p.1:Int),.int .i64 (p.2:Int)] 2 2=some (A4b p):=fun _=>rfl
 simp only [A7p,A2h,Tryz.underlying92,C4k,cond_false,eqFields,apart,B7c,B0r,A1r,List.getElem?_cons_zero,List.getElem?_cons_succ,Option.bind_some,Option.map_some,A17 (d:=18),s1,s2,s3,t1,t2,natI,Prod.mk.injEq]
 rw [hs]
 by_cases h0:a0=b0
 ·by_cases h1:a1=b1
  ·by_cases h2:a=b
   ·simp [h0,h1,h2]
   ·simp [h0,h1,h2]
  ·simp [h0,h1]
 ·simp [h0]
theorem B6e (a:TW):A4j Tryz.prog 92 (A7p A2h a)=true:=by
 obtain ⟨⟨a0,a1⟩,a⟩:=a
 unfold A4j
 rw [Bool.and_eq_true]
 refine ⟨rfl,?_⟩
 show keyT Tryz.prog (19+1) _ _=true
 rw [keyT.eq_def]
 have t1:A6h [Value.int .i64 (a0:Int),.int .i64 (a1:Int),.int .i64 (a.1:Int),.int .i64 (a.2:Int)] 2 2=some (A4b a):=rfl
 simp only [A7p,A2h,Tryz.underlying92,List.all_cons,List.all_nil,apart,B7c,B0r,A1r,Option.bind_some,Option.map_some,t1,List.getElem?_cons_zero,List.getElem?_cons_succ,A89 (d:=18),B8a (d:=17),Bool.or_true,Bool.and_self]
theorem B12 {a b:Nat} {p:Nat×Nat}:A2m Tryz.prog 92 [(0,.int .i64 (a:Int)),(1,.int .i64 (b:Int)),(2,.agg (A4b p).toArray)]=some (.agg (A2h ((a,b),p)).toArray):=by
 have va:∀ xs:Array Value,A8a (.agg xs)=xs.toList:=fun _=>rfl
 have hi:∀ n:Int,isCell (.int .i64 n)=true:=fun _=>rfl
 refine A9g (pl:=[(0,1),(1,1),(2,2)]) Tryz.underlying92 A51 (by kernel_rfl) ?_
 simp [A5r,va,A8b (hi _),hi,setCells,A2h,A4b,A6a,A0c]
theorem twinZ:A2m Tryz.prog 92 []=some (.agg (A2h ((0,0),0,0)).toArray):=by
 have va:∀ xs:Array Value,A8a (.agg xs)=xs.toList:=fun _=>rfl
 refine A9g (pl:=[(0,1),(1,1),(2,2)]) Tryz.underlying92 A51 (by kernel_rfl) ?_
 simp [A5r,va,A2h]
section
variable {H:AH} {p:TW}
theorem twZero:anew Tryz.prog 92 H (.agg #[.int .i64 0,.int .i64 0,.int .i64 0,.int .i64 0])=some (.pointer (some ⟨H.next,0,some 0⟩),(H.new 4 [.int .i64 0,.int .i64 0,.int .i64 0,.int .i64 0]).2):=A4n (vs:=[.int .i64 0,.int .i64 0,.int .i64 0,.int .i64 0]) A6x rfl rfl
theorem twStore {a:Addr}:A4h Tryz.prog 92 H (.agg (A2h p).toArray) (.pointer (some a))=H.write a (A2h p):=A4q A6x rfl rfl
theorem twOver {x y z u:Value}:(H.new 4 [x,y,z,u]).2.write ⟨H.next,0,some 0⟩ (A2h p)=some (H.new 4 (A2h p)).2:=A3q rfl
theorem B3a:A4a Tryz.prog 93 1 [(0,.agg (A2h p).toArray)] H=some (.slice (some ⟨H.next,0,some 0⟩) 1 1,(H.new 4 (A2h p)).2):=C9s (H:=H) (x:=.agg (A2h p).toArray) rfl rfl
end
theorem twApp (H:AH) (len cap:Nat) (b:Option Addr) (x:List Value) (hx:x.length=4) (hl:len≤1073741823):A5a Tryz.prog .append [93,93] [.slice b len cap,.slice (some ⟨H.next,0,some 0⟩) 1 1] (H.new 4 x).2=A6e 4 b len cap 1 x (H.new 4 x).2:=app1_93 hx hl
theorem twLook {H:AH} {base g:Nat} {z:Value} {ob:Option Nat} {T:List TW} (h:QS H 4 A2h base g z ob T) (a:TW):A6n Tryz.prog 94 (.map (some g)) (.agg (A2h a).toArray) false H=some (.bool (decide (a∈T))):=
 (h.sn.look Tryz.underlying94 A94 B6e B0n a).trans (congrArg (fun b=>some (Value.bool b)) (decide_eq_decide.2 Iff.rfl))
structure TwBox (H:AH) (g:Nat) (p:TW):Prop where
 ar:Arr H g 0 4 (A2h p)
theorem TwBox.new {H:AH} {p:TW}:TwBox (H.new 4 (A2h p)).2 H.next p:=⟨(Sh.Obj.new (H:=H) 4 (A2h p)).arr⟩
theorem TwBox.chg {H H':AH} {g:Nat} {p:TW} {X:Nat→Prop} (h:TwBox H g p) (hw:Wf H) (hc:Chg X H H') (hx:¬X g):TwBox H' g p:=⟨h.ar.keep (hc.old g (h.ar.lt hw) hx)⟩
theorem TwBox.kept {H H':AH} {g:Nat} {p:TW} (h:TwBox H g p) (hw:Wf H) (hk:Kept H H'):TwBox H' g p:=⟨h.ar.keep (hk.old g (h.ar.lt hw))⟩
section
variable {H:AH} {g:Nat} {p:TW} (h:TwBox H g p)
include h
theorem TwBox.c0:H.cell ⟨g,0,some 0⟩=some (.int .i64 (p.1.1:Int)):=h.ar.cell 0
theorem TwBox.c1:H.cell ⟨g,1,some 0⟩=some (.int .i64 (p.1.2:Int)):=h.ar.cell 1
theorem TwBox.c2:H.cell ⟨g,2,some 0⟩=some (.int .i64 (p.2.1:Int)):=h.ar.cell 2
theorem TwBox.c3:H.cell ⟨g,3,some 0⟩=some (.int .i64 (p.2.2:Int)):=h.ar.cell 3
end
theorem twPush {H:AH} {zn:Value} {on:Option Nat} {L:List TW} (h:Buf H 4 zn (L.map A2h) on) (hw:Wf H) (v:TW) (hl:L.length≤1073741823):
  ∃ a cap w' H4 on',zn=.slice a L.length cap∧A5a Tryz.prog .append [93,93] [.slice a L.length cap,.slice (some ⟨H.next,0,some 0⟩) 1 1] (H.new 4 (A2h v)).2=some (w',H4)∧Buf H4 4 w' ((L++[v]).map A2h) on'∧Chg (fun y=>on=some y) H H4∧∀ y,on'=some y→on=some y∨H.next≤y:=by
 obtain ⟨a,cap,w',H4,ob',e1,e2,e3,e4,e5⟩:=h.push hw (x:=A2h v) rfl
 rw [List.length_map] at e1 e2
 have ha:=twApp H L.length cap a (A2h v) rfl hl
 rw [e2] at ha
 exact ⟨a,cap,w',H4,ob',e1,ha,by rw [List.map_append]; exact e3,e4,e5⟩
def nxX (y:List ByteArray) (p:Nat) (tj:Nat) (c d:ArcD):List TW:=if (A0n y tj d.out).2=true∧d.inn=c.out then [((c.to.toNat,d.to.toNat),(p,(A0n y tj d.out).1))] else []
def nxA (x y:List ByteArray) (B:List ArcD) (t:TW) (c:ArcD):List TW:=
 if (A0n x t.2.1 c.inn).2=true then (if c.out=A1m then [((c.to.toNat,t.1.2),((A0n x t.2.1 c.inn).1,t.2.2))] else B.flatMap (nxX y (A0n x t.2.1 c.inn).1 t.2.2 c)) else []
def nxB (y:List ByteArray) (t:TW) (d:ArcD):List TW:=if (A0n y t.2.2 d.out).2=true∧d.inn=A1m then [((t.1.1,d.to.toNat),(t.2.1,(A0n y t.2.2 d.out).1))] else []
def rowAt (N:NetD) (s:Nat):List ArcD:=N.arcs.filter fun a=>decide (a.fr=(s:Int))
def nxT (A B:NetD) (x y:List ByteArray) (t:TW):List TW:=(rowAt A t.1.1).flatMap (nxA x y (rowAt B t.1.2) t)++(rowAt B t.1.2).flatMap (nxB y t)
theorem A4y {x:ByteArray}:labT x=none↔x=A1m:=by
 unfold labT
 split <;> simp_all
theorem C5k {x:ByteArray} (h:x≠A1m):labT x=some x:=by
 unfold labT
 rw [if_neg h]
theorem C2w {x z:ByteArray} (h:labT x=some z):x=z∧x≠A1m:=by
 unfold labT at h
 split at h
 ·cases h
 ·rename_i h1
  exact ⟨Option.some.inj h,h1⟩
theorem C1n {A B:NetD} (okA:A5j A) (okB:A5j B) {x y:List ByteArray} (t v:TW):v∈nxT A B x y t↔A2t (A81 (A5k A) (A5k B)) x y t v:=by
 have rA:∀ c,c∈rowAt A t.1.1↔c∈A.arcs∧c.fr=(t.1.1:Int):=fun c=>by unfold rowAt; rw [List.mem_filter]; simp
 have rB:∀ c,c∈rowAt B t.1.2↔c∈B.arcs∧c.fr=(t.1.2:Int):=fun c=>by unfold rowAt; rw [List.mem_filter]; simp
 have toA:∀ c,c∈A.arcs→c.to=(c.to.toNat:Int):=fun c hc=>by have:=okA.arc c hc; omega
 have toB:∀ c,c∈B.arcs→c.to=(c.to.toNat:Int):=fun c hc=>by have:=okB.arc c hc; omega
 unfold nxT A2t
 rw [List.mem_append,List.mem_flatMap,List.mem_flatMap]
 constructor
 ·rintro (⟨c,hc,h⟩ | ⟨d,hd,h⟩)
  ·obtain ⟨h1,h2⟩:=(rA c).1 hc
   unfold nxA at h
   split at h
   ·rename_i h3
    split at h
    ·rename_i h4
     rw [List.mem_singleton.1 h]
     refine ⟨labT c.inn,none,.inr (.inl ⟨⟨c,h1,h2,rfl,A4y.2 h4,toA c h1⟩,rfl,rfl⟩),A9k.2 ⟨h3,rfl⟩,rfl⟩
    ·rename_i h4
     obtain ⟨d,hd,h5⟩:=List.mem_flatMap.1 h
     obtain ⟨h6,h7⟩:=(rB d).1 hd
     unfold nxX at h5
     split at h5
     ·rename_i h8
      rw [List.mem_singleton.1 h5]
      exact ⟨labT c.inn,labT d.out,.inr (.inr ⟨c.out,⟨c,h1,h2,rfl,C5k h4,toA c h1⟩,d,h6,h7,by rw [h8.2]; exact C5k h4,rfl,toB d h6⟩),A9k.2 ⟨h3,rfl⟩,A9k.2 ⟨h8.1,rfl⟩⟩
     ·cases h5
   ·cases h
  ·obtain ⟨h6,h7⟩:=(rB d).1 hd
   unfold nxB at h
   split at h
   ·rename_i h8
    rw [List.mem_singleton.1 h]
    exact ⟨none,labT d.out,.inl ⟨rfl,rfl,d,h6,h7,A4y.2 h8.2,rfl,toB d h6⟩,rfl,A9k.2 ⟨h8.1,rfl⟩⟩
   ·cases h
 ·obtain ⟨⟨va,vb⟩,vx,vy⟩:=v
  rintro ⟨a,b,⟨h1,rfl,d,h2,h3,h4,rfl,h5⟩ | ⟨⟨c,h2,h3,rfl,h4,h5⟩,h1,rfl⟩ | ⟨z,⟨c,h2,h3,rfl,h4,h5⟩,d,h6,h7,h8,rfl,h9⟩,h10,h11⟩
  ·obtain ⟨q1,q2⟩:=A9k.1 h11
   refine .inr ⟨d,(rB d).2 ⟨h2,h3⟩,?_⟩
   unfold nxB
   rw [if_pos ⟨q1,A4y.1 h4⟩,q2]
   have e1:vx=t.2.1:=h10
   have e2:t.1.1=va:=h1
   have e3:d.to.toNat=vb:=by have:d.to=(vb:Int):=h5; omega
   rw [e1,e2,e3]
   exact List.mem_singleton.2 rfl
  ·obtain ⟨q1,q2⟩:=A9k.1 h10
   refine .inl ⟨c,(rA c).2 ⟨h2,h3⟩,?_⟩
   unfold nxA
   rw [if_pos q1,if_pos (A4y.1 h4),q2]
   have e1:vy=t.2.2:=h11
   have e2:t.1.2=vb:=h1
   have e3:c.to.toNat=va:=by have:c.to=(va:Int):=h5; omega
   rw [e1,e2,e3]
   exact List.mem_singleton.2 rfl
  ·obtain ⟨q1,q2⟩:=A9k.1 h10
   obtain ⟨q3,q4⟩:=A9k.1 h11
   obtain ⟨e1,e2⟩:=C2w h4
   obtain ⟨e3,_⟩:=C2w h8
   refine .inl ⟨c,(rA c).2 ⟨h2,h3⟩,?_⟩
   unfold nxA
   rw [if_pos q1,if_neg e2]
   refine List.mem_flatMap.2 ⟨d,(rB d).2 ⟨h6,h7⟩,?_⟩
   unfold nxX
   rw [if_pos ⟨q3,by rw [e3,e1]⟩,q2,q4]
   have e4:c.to.toNat=va:=by have:c.to=(va:Int):=h5; omega
   have e5:d.to.toNat=vb:=by have:d.to=(vb:Int):=h9; omega
   rw [e4,e5]
   exact List.mem_singleton.2 rfl
end Go.Proofs.YtnoengaghabmjaaGreatDoor
/- The reference's Composed: whether some word stands between. -/
namespace Go.Proofs.YtnoengaghabmjaaGreatDoor
open Go Go.Proofs Go.Proofs.Sh
theorem B75 {H:AH} {v:Value} {w:List ByteArray} {i:Nat} {s:ByteArray} (hv:Sl H v 1 (w.map A1b)) (hi:i≤1048576):
  Sh.Call Tryz.prog (knows 8) 60 [v,.int .i64 (i:Int),.string s,.bool false] H (fun r H'=>H'=H∧r=.tuple #[.int .i64 (((A0n w i s).1:Nat):Int),.bool (A0n w i s).2]):=by
 refine A3b rfl Tryz.func60 rfl (Nat.le_of_ble_eq_true rfl) ?_
 have hres:Tryz.f60.results.toList=[.tmp 8,.tmp 9]:=rfl
 obtain ⟨r8,H8,hd8,rfl,rfl⟩:=B8n (i:=i) (s:=s) hv hi
 simp only [↓Sh.dn,sx,Nat.reduceBEq,reduceCtorEq,Nat.reduceEqDiff]
 refine ⟨_,_,hd8,?_⟩
 simp only [↓Sh.dn,sx,Nat.reduceBEq,reduceCtorEq,Nat.reduceEqDiff,hres]
theorem B2n {A B:NetD} (okA:A5j A) (okB:A5j B) {x y:List ByteArray} {v:TW} (h:Cl (A2t (A81 (A5k A) (A5k B)) x y) (fun q=>q=((0,0),0,0)) v):(v.1.1 < A.states.toNat∧v.1.2 < B.states.toNat)∧v.2.1≤x.length∧v.2.2≤y.length:=by
 have a1:=okA.st1
 have b1:=okB.st1
 have arcA:∀ {s a b t},A5k A s a b t→t < A.states.toNat:=by
  rintro s a b t ⟨c,hc,_,_,_,h⟩
  have:=okA.arc c hc
  omega
 have arcB:∀ {s a b t},A5k B s a b t→t < B.states.toNat:=by
  rintro s a b t ⟨c,hc,_,_,_,h⟩
  have:=okB.arc c hc
  omega
 refine h.of (Q:=fun v=>(v.1.1 < A.states.toNat∧v.1.2 < B.states.toNat)∧v.2.1≤x.length∧v.2.2≤y.length) ?_ ?_
 ·rintro v rfl
  exact ⟨⟨by show 0 < _; omega,by show 0 < _; omega⟩,Nat.zero_le _,Nat.zero_le _⟩
 ·rintro p q ⟨⟨h1,h2⟩,h3,h4⟩ ⟨a,b,h5,h6,h7⟩
  refine ⟨?_,A49 h6 h3,A49 h7 h4⟩
  rcases h5 with ⟨e,_,h8⟩ | ⟨h8,e,_⟩ | ⟨c,h8,h9⟩
  ·exact ⟨by rw [← e]; exact h1,arcB h8⟩
  ·exact ⟨arcA h8,by rw [← e]; exact h2⟩
  ·exact ⟨arcA h8,arcB h9⟩
theorem C4d {A B:NetD} (okA:A5j A) (okB:A5j B) {x y:List ByteArray} (hw:A.states.toNat * B.states.toNat≤1000) (hxl:x.length≤400) (hyl:y.length≤400) {T:List TW} (hn:T.Nodup) (hT:∀ v∈T,Cl (A2t (A81 (A5k A) (A5k B)) x y) (fun q=>q=((0,0),0,0)) v):T.length≤160801000:=by
  have h1:(T.map fun v=>(v.1.1 * B.states.toNat+v.1.2,v.2)).Nodup:=by
    rw [List.nodup_iff_pairwise_ne] at hn ⊢
    rw [List.pairwise_map]
    refine hn.imp_of_mem fun {p q} hp hq hne he=>hne ?_
    obtain ⟨⟨_,h2⟩,_⟩:=B2n okA okB (hT p hp)
    obtain ⟨⟨_,h4⟩,_⟩:=B2n okA okB (hT q hq)
    have e1:=(Prod.mk.inj he).1
    have e2:=(Prod.mk.inj he).2
    have e3:p.1.2=q.1.2:=by
      have := congrArg (· % B.states.toNat) e1
      simp only [Nat.mul_comm _ B.states.toNat,Nat.mul_add_mod] at this
      rwa [Nat.mod_eq_of_lt h2,Nat.mod_eq_of_lt h4] at this
    have e4:p.1.1=q.1.1:=by
      rw [e3] at e1
      exact Nat.eq_of_mul_eq_mul_right (by omega) (Nat.add_right_cancel e1)
    exact Prod.ext (Prod.ext e4 e3) e2
  have h2:=C5a (a:=A.states.toNat * B.states.toNat) (b:=x.length+1) (c:=y.length+1) h1 fun v hv=>by
    obtain ⟨p,hp,rfl⟩:=List.mem_map.1 hv
    obtain ⟨⟨h2,h3⟩,h4,h5⟩:=B2n okA okB (hT p hp)
    refine ⟨?_,by simp only; omega,by simp only; omega⟩
    have:(p.1.1+1) * B.states.toNat≤A.states.toNat * B.states.toNat:=Nat.mul_le_mul_right _ h2
    rw [Nat.succ_mul] at this
    simp only
    omega
  rw [List.length_map] at h2
  have h3:A.states.toNat * B.states.toNat * (x.length+1) * (y.length+1)≤1000 * 401 * 401:=Nat.mul_le_mul (Nat.mul_le_mul hw (by omega)) (by omega)
  omega
theorem wpo_one {P:Program} {O:A5d} {all ops:List Oper} {K M:Fr→AH→Prop} {F:Fr} {H:AH} (h:wpo P O all ops M F H) (k:∀ F' H',M F' H'→K F' H'):wpo P O all ops K F H:=by
 obtain ⟨n,F1,H1,h1,h2⟩:=h
 exact ⟨n,F1,H1,h1,k _ _ h2⟩
structure NxS (H6 H:AH) (gt gm gb:Nat) (Pn:Nat→Prop) (z:Value) (ob:Option Nat) (T:List TW) (t:TW) (zn:Value) (on:Option Nat) (L:List TW):Prop where
 k:Kept H6 H
 q:QS H 4 A2h gt gm z ob T
 b:TwBox H gb t
 n:Buf H 4 zn (L.map A2h) on
 f:∀ y,on=some y→gt≤y∧¬QO gm ob y∧¬Pn y
 pb:Pn gb
 pl:∀ y,Pn y→y < H.next
section
variable {H6 H H':AH} {gt gm gb:Nat} {Pn:Nat→Prop} {z zn:Value} {ob on:Option Nat} {T L:List TW} {t:TW}
theorem NxS.kept (h:NxS H6 H gt gm gb Pn z ob T t zn on L) (hk:Kept H H'):NxS H6 H' gt gm gb Pn z ob T t zn on L:=
 ⟨h.k.trans hk,h.q.kept h.k.wf hk,h.b.kept h.k.wf hk,h.n.kept h.k.wf hk,h.f,h.pb,fun y hy=>Nat.lt_of_lt_of_le (h.pl y hy) hk.next⟩
theorem NxS.pin (h:NxS H6 H gt gm gb Pn z ob T t zn on L) {c:Nat} (hc:on≠some c) (hl:c < H.next):NxS H6 H gt gm gb (fun y=>Pn y∨y=c) z ob T t zn on L:=
 ⟨h.k,h.q,h.b,h.n,fun y hy=>⟨(h.f y hy).1,(h.f y hy).2.1,fun hp=>hp.elim (h.f y hy).2.2 fun e=>hc (e ▸ hy)⟩,.inl h.pb,fun y hy=>hy.elim (h.pl y) fun e=>e ▸ hl⟩
theorem NxS.drop {Pm:Nat→Prop} (h:NxS H6 H gt gm gb Pn z ob T t zn on L) (hp:∀ y,Pm y→Pn y) (hb:Pm gb):NxS H6 H gt gm gb Pm z ob T t zn on L:=
 ⟨h.k,h.q,h.b,h.n,fun y hy=>⟨(h.f y hy).1,(h.f y hy).2.1,fun hq=>(h.f y hy).2.2 (hp y hq)⟩,hb,fun y hy=>h.pl y (hp y hy)⟩
theorem NxS.push (h:NxS H6 H gt gm gb Pn z ob T t zn on L) (hg:H6.next=gt) (v:TW) (hl:L.length≤1073741823):
  ∃ a cap w' H4 on',zn=.slice a L.length cap∧A5a Tryz.prog .append [93,93] [.slice a L.length cap,.slice (some ⟨H.next,0,some 0⟩) 1 1] (H.new 4 (A2h v)).2=some (w',H4)∧NxS H6 H4 gt gm gb Pn z ob T t w' on' (L++[v])∧∀ g,Pn g→g < H.next→H4.objs.get g=H.objs.get g:=by
 obtain ⟨a,cap,w',H4,on',e1,e2,e3,e4,e5⟩:=twPush h.n h.k.wf v hl
 have hql:=h.q.lt h.k.wf
 have hk:=h.k.next
 refine ⟨a,cap,w',H4,on',e1,e2,⟨h.k.then (Nat.le_refl _) (e4.weak fun y hy=>by have:=(h.f y hy).1; omega),h.q.chg h.k.wf e4 fun y hy=>(h.f y hy).2.1,h.b.chg h.k.wf e4 fun hy=>(h.f gb hy).2.2 h.pb,e3,fun y hy=>?_,h.pb,fun y hy=>Nat.lt_of_lt_of_le (h.pl y hy) e4.next⟩,fun g hp hg=>e4.old g hg fun hy=>(h.f g hy).2.2 hp⟩
 rcases e5 y hy with h1 | h1
 ·exact h.f y h1
 ·exact ⟨by omega,fun hq=>by have:=hql y hq; omega,fun hp=>by have:=h.pl y hp; omega⟩
end
theorem C1u (y:List ByteArray) (p j:Nat) (c:ArcD):∀ l:List ArcD,(l.flatMap (nxX y p j c)).length≤l.length
 | []=>by simp
 | d :: l=>by
  have ih:=C1u y p j c l
  have:(nxX y p j c d).length≤1:=by unfold nxX; split <;> simp
  rw [List.flatMap_cons,List.length_append,List.length_cons]; omega
theorem C9o (y:List ByteArray) (t:TW):∀ l:List ArcD,(l.flatMap (nxB y t)).length≤l.length
 | []=>by simp
 | d :: l=>by
  have ih:=C9o y t l
  have:(nxB y t d).length≤1:=by unfold nxB; split <;> simp
  rw [List.flatMap_cons,List.length_append,List.length_cons]; omega
theorem B82 (x y:List ByteArray) (B:List ArcD) (t:TW):∀ l:List ArcD,(l.flatMap (nxA x y B t)).length≤l.length * (B.length+1)
 | []=>by simp
 | c :: l=>by
  have ih:=B82 x y B t l
  have:(nxA x y B t c).length≤B.length+1:=by
   unfold nxA
   split
   ·split
    ·simp
    ·have:=C1u y (A0n x t.2.1 c.inn).1 t.2.2 c B; omega
   ·simp
  rw [List.flatMap_cons,List.length_append,List.length_cons,Nat.succ_mul]; omega
theorem B43 {H:AH} {va vb ux uy:Value} {A B:NetD} {x y:List ByteArray} (ha:A8k H va A) (hb:A8k H vb B) (hA:A4c A) (hB:A4c B) (okA:A5j A) (okB:A5j B) (hwd:A.states.toNat * B.states.toNat≤1000) (hwa:A.arcs.length * B.arcs.length≤8000) (hx:Sl H ux 1 (x.map A1b)) (hy:Sl H uy 1 (y.map A1b)) (hxl:x.length≤400) (hyl:y.length≤400) (hw:Wf H):
  Sh.Call Tryz.prog (knows 8) 32 [va,vb,ux,uy,.bool false] H (fun r H'=>Kept H H'∧r=.bool (tB (B0g A B x y))):=by
 refine A3b rfl Tryz.func32 rfl (Nat.le_of_ble_eq_true rfl) ?_
 have hres:Tryz.f32.results.toList=[.tmp 10]:=rfl
 obtain ⟨sgA,arA,enA,rfl,s1,s2,s3⟩:=ha
 obtain ⟨sgB,arB,enB,rfl,t1,t2,t3⟩:=hb
 have bA:=NetBox.of (N:=A) hw s1 s2 s3
 have k1:=Kept.new hw 4 [sgA,.int .i64 A.states,arA,enA]
 have bB:=NetBox.of (N:=B) k1.wf (t1.grow (k1.grow hw)) (t2.grow (k1.grow hw)) (t3.grow (k1.grow hw))
 have k2:=k1.news 4 [sgB,.int .i64 B.states,arB,enB]
 have bA2:=bA.new k1.wf 4 [sgB,.int .i64 B.states,arB,enB]
 simp only [↓Sh.dn,sx,Nat.reduceBEq,reduceCtorEq,Nat.reduceEqDiff,A7k s1.isCell s2.isCell s3.isCell,A7k t1.isCell t2.isCell t3.isCell]
 obtain ⟨H1,hH1⟩:∃ K,(H.new 4 [sgA,.int .i64 A.states,arA,enA]).2=K:=⟨_,rfl⟩
 simp only [hH1] at k1 bB bA k2 bA2 ⊢
 obtain ⟨H2,hH2⟩:∃ K,(H1.new 4 [sgB,.int .i64 B.states,arB,enB]).2=K:=⟨_,rfl⟩
 simp only [hH2] at bB k2 bA2 ⊢
 generalize H.next=gA at bA2 ⊢
 generalize H1.next=gB at bB ⊢
 have hvqA:veq (.agg #[sgA,.int .i64 A.states,arA,enA]) (.agg #[sgA,.int .i64 A.states,arA,enA])=true:=A3x (by simp only [A6k,A1n,A3d,s1.veq,s2.veq,s3.veq,Bool.and_self])
 have hvqB:veq (.agg #[sgB,.int .i64 B.states,arB,enB]) (.agg #[sgB,.int .i64 B.states,arB,enB])=true:=A3x (by simp only [A6k,A1n,A3d,t1.veq,t2.veq,t3.veq,Bool.and_self])
 obtain ⟨av,H3,hd3,k3,valsA,hJA⟩:=B6d bA2.netAt okA hA k2.wf
 have bA3:=bA2.kept k2.wf k3
 have bB3:=bB.kept k2.wf k3
 obtain ⟨bv,H4,hd4,k4,valsB,hJB⟩:=B6d bB3.netAt okB hB k3.wf
 have bA4:=bA3.kept k3.wf k4
 have bB4:=bB3.kept k3.wf k4
 obtain ⟨ev,H5,hd5,k5,hEA⟩:=B6a bA4.netAt okA hA k4.wf
 have bA5:=bA4.kept k4.wf k5
 have bB5:=bB4.kept k4.wf k5
 obtain ⟨fv,H6,hd6,k6,hEB⟩:=B6a bB5.netAt okB hB k5.wf
 refine A8u (fl:=[(0,false),(2,false),(1,false),(3,true),(4,true),(5,true)]) (by kernel_rfl) (by kernel_rfl) k2.wf ?_
 simp only [↓Sh.dn,sx,Nat.reduceBEq,reduceCtorEq,Nat.reduceEqDiff,wpg,A50,isEff,A2c,isRead,A7f,A3d,A8f,A9d,A6c,forall_eq,forall_eq',bA2.c0,bA2.c1,bA2.c2,bA2.c3,bA2.ca,A3a bA2,A1a bA2,A2a bA2,bB.c0,bB.c1,bB.c2,bB.c3,bB.ca,A3a bB,A1a bB,A2a bB,bB3.c0,bB3.c1,bB3.c2,bB3.c3,bB3.ca,A3a bB3,A1a bB3,A2a bB3,Option.map_some,hvqA,hvqB]
 refine ⟨_,_,hd3,k3.wf,k3.grow k2.wf,?_⟩
 refine ⟨_,_,hd4,k4.wf,?_⟩
 refine A8u (fl:=[(0,false),(2,false),(1,false),(3,true),(4,true),(5,true)]) (by kernel_rfl) (by kernel_rfl) k4.wf ?_
 simp only [↓Sh.dn,sx,Nat.reduceBEq,reduceCtorEq,Nat.reduceEqDiff,wpg,A50,isEff,A2c,isRead,A7f,A3d,A8f,A9d,A6c,forall_eq,forall_eq',bA4.c0,bA4.c1,bA4.c2,bA4.c3,bA4.ca,A3a bA4,A1a bA4,A2a bA4,bB4.c0,bB4.c1,bB4.c2,bB4.c3,bB4.ca,A3a bB4,A1a bB4,A2a bB4,bB5.c0,bB5.c1,bB5.c2,bB5.c3,bB5.ca,A3a bB5,A1a bB5,A2a bB5,Option.map_some,hvqA,hvqB]
 refine ⟨_,_,hd5,k5.wf,k5.grow k4.wf,?_⟩
 refine ⟨_,_,hd6,k6.wf,?_⟩
 have k36:=(k4.trans k5).trans k6
 have hJA6:=hJA.grow (k36.grow k3.wf)
 have hJB6:=hJB.grow ((k5.trans k6).grow k4.wf)
 have hEA6:=hEA.grow (k6.grow k5.wf)
 have k06:=k2.trans (k3.trans k36)
 have hx6:=hx.grow (k06.grow hw)
 have hy6:=hy.grow (k06.grow hw)
 clear hJA hJB hEA hd3 hd4 hd5 hd6 bA bA2 bA3 bA4 bA5 bB bB3 bB4 bB5 hvqA hvqB k1 k2 k3 k4 k5 k6 k36 hH1 hH2 s1 s2 s3 t1 t2 t3
 have k7:=Kept.new k06.wf 4 (A2h ((0,0),0,0))
 have n7:(H6.new 4 (A2h ((0,0),0,0))).2.next=H6.next+1:=rfl
 have t7:Buf (H6.new 4 (A2h ((0,0),0,0))).2 4 (.slice (some ⟨H6.next,0,some 0⟩) 1 1) [A2h ((0,0),0,0)] (some H6.next):=Buf.fresh (H:=H6) (s:=4) (xs:=[A2h ((0,0),0,0)]) k06.wf (by simp [A2h]) (by simp) 1 rfl
 simp only [↓Sh.dn,sx,Nat.reduceBEq,reduceCtorEq,Nat.reduceEqDiff,wpg,A50,isEff,A2c,isRead,A7f,A3d,A8f,A9d,A6c,forall_eq,forall_eq',twinZ,B3a]
 obtain ⟨gt,hgt⟩:∃ k,H6.next=k:=⟨_,rfl⟩
 rw [hgt] at t7 n7 ⊢
 generalize (H6.new 4 (A2h ((0,0),0,0))).2=H7 at k7 n7 t7 ⊢
 have kp:=Kept.push k7.wf (.map [])
 have n8:(H7.push (.map [])).2.next=H7.next+1:=rfl
 have m0:SetIs (H7.push (.map [])).2 H7.next (A7p A2h) ([]:List TW):=SetIs.new
 obtain ⟨gm,hgm⟩:∃ k,H7.next=k:=⟨_,rfl⟩
 rw [hgm] at m0 n8 ⊢
 generalize (H7.push (.map [])).2=H8 at kp n8 m0 ⊢
 obtain ⟨H9,a1,a2,a3,a4⟩:=SetIs.add Tryz.underlying94 B6e B0n m0 kp.wf (a:=((0,0),0,0)) (by simp)
 have a1':A3e Tryz.prog 94 (.map (some gm)) (.agg (A2h ((0,0),0,0)).toArray) (.bool true) H8=some H9:=a1
 have k79:Kept H7 H9:=kp.then (Nat.le_refl _) (a3.weak fun y hy=>by omega)
 have k69:=k7.trans k79
 have q0:QS H9 4 A2h gt gm (.slice (some ⟨gt,0,some 0⟩) 1 1) (some gt) [((0,0),0,0)]:=⟨t7.kept k7.wf k79,a2,by simp,by omega,fun y hy=>by have:=Option.some.inj hy; omega⟩
 simp only [↓Sh.dn,sx,Nat.reduceBEq,reduceCtorEq,Nat.reduceEqDiff,a1']
 have hacc:∀ {R:Bool},(R=true↔B0g A B x y)→R=tB (B0g A B x y):=fun h=>by rw [Bool.eq_iff_iff,C8d,h]
 refine A5s (m:=160801001) (fun m F H'=>∃ i T z ob,m+i=160801001∧F.get 17=some (.int .i64 (i:Int))∧F.get 2=some ux∧F.get 3=some uy∧F.get 4=some (.bool false)∧F.get 11=some av∧F.get 12=some bv∧F.get 13=some ev∧F.get 14=some fv∧F.get 15=some z∧F.get 16=some (.map (some gm))∧Kept H6 H'∧QS H' 4 A2h gt gm z ob T∧i≤T.length∧((0,0),0,0)∈T∧(∀ v∈T,Cl (A2t (A81 (A5k A) (A5k B)) x y) (fun q=>q=((0,0),0,0)) v)∧(∀ w∈T.take i,∀ v∈nxT A B x y w,v∈T)∧∀ w∈T.take i,¬(A.isEnd w.1.1∧B.isEnd w.1.2∧w.2.1=x.length∧w.2.2=y.length))
  ⟨0,_,_,_,rfl,by simp only [↓Sh.dn,sx,Nat.reduceBEq,reduceCtorEq,Nat.reduceEqDiff]; rfl,by simp only [↓Sh.dn,sx,Nat.reduceBEq,reduceCtorEq,Nat.reduceEqDiff],by simp only [↓Sh.dn,sx,Nat.reduceBEq,reduceCtorEq,Nat.reduceEqDiff],by simp only [↓Sh.dn,sx,Nat.reduceBEq,reduceCtorEq,Nat.reduceEqDiff],by simp only [↓Sh.dn,sx,Nat.reduceBEq,reduceCtorEq,Nat.reduceEqDiff],by simp only [↓Sh.dn,sx,Nat.reduceBEq,reduceCtorEq,Nat.reduceEqDiff],by simp only [↓Sh.dn,sx,Nat.reduceBEq,reduceCtorEq,Nat.reduceEqDiff],by simp only [↓Sh.dn,sx,Nat.reduceBEq,reduceCtorEq,Nat.reduceEqDiff],by simp only [↓Sh.dn,sx,Nat.reduceBEq,reduceCtorEq,Nat.reduceEqDiff],by simp only [↓Sh.dn,sx,Nat.reduceBEq,reduceCtorEq,Nat.reduceEqDiff],k69,q0,Nat.zero_le _,List.mem_cons_self,fun v hv=>.base (List.mem_singleton.1 hv),fun w hw=>by simp at hw,fun w hw=>by simp at hw⟩ ?_
 clear a1 a1' a2 a3 a4 m0 kp k7 k79 k69 q0 t7 n7 n8 hgm
 clear H7 H8 H9
 rintro m F H' ⟨i,T,z,ob,hmi,f17,f2,f3,f4,f11,f12,f13,f14,f15,f16,hk,q,hiT,h0T,hcl,hcls,hno⟩ k
 have hTl:=C4d okA okB hwd hxl hyl q.nd hcl
 have hlenT:=q.len Tryz.underlying93
 have hlx:∀ H'',A5a Tryz.prog .len [22] [ux] H''=some (.int .i64 (x.length:Int),H''):=fun H''=>by rw [hx6.len Tryz.underlying22,List.length_map]
 have hly:∀ H'',A5a Tryz.prog .len [22] [uy] H''=some (.int .i64 (y.length:Int),H''):=fun H''=>by rw [hy6.len Tryz.underlying22,List.length_map]
 by_cases hi:i < T.length
 ·obtain ⟨p1,i1,c1⟩:=q.read Tryz.underlying93 A6x (List.getElem?_eq_getElem hi)
  have hgi:T[i]?=some T[i]:=List.getElem?_eq_getElem hi
  have hct:=hcl _ (List.getElem_mem hi)
  have htk:T.take (i+1)=T.take i++[T[i]]:=by rw [List.take_add_one,List.getElem?_eq_getElem hi]; rfl
  generalize T[i]=t at c1 hgi hct htk
  obtain ⟨⟨w1,w2⟩,w3,w4⟩:=B2n okA okB hct
  have kn:=Kept.new hk.wf 4 (A2h t)
  have wb:TwBox (H'.new 4 (A2h t)).2 H'.next t:=TwBox.new
  have qn:=q.kept hk.wf kn
  have hkn:=hk.trans kn
  have qlt:=q.lt hk.wf
  have hbn:H'.next < (H'.new 4 (A2h t)).2.next:=Nat.lt_succ_self _
  have hgk:=hk.next
  have hEAn:=hEA6.grow (hkn.grow k06.wf)
  have hEBn:=hEB.grow (hkn.grow k06.wf)
  obtain ⟨ba,hba1,hba2⟩:∃ b,(marksOf EndD.state A.states.toNat A.ends)[t.1.1]?=some b∧(b=true↔A.isEnd t.1.1):=by
   refine ⟨_,A6p w1,?_⟩
   unfold NetD.isEnd
   rw [List.any_eq_true]
   simp only [decide_eq_true_eq]
  obtain ⟨bb,hbb1,hbb2⟩:∃ b,(marksOf EndD.state B.states.toNat B.ends)[t.1.2]?=some b∧(b=true↔B.isEnd t.1.2):=by
   refine ⟨_,A6p w2,?_⟩
   unfold NetD.isEnd
   rw [List.any_eq_true]
   simp only [decide_eq_true_eq]
  obtain ⟨p2,i2,c2⟩:=Sl.elem (s:=1) Tryz.underlying81 B9k hEAn (i:=t.1.1) (u:=.bool ba) (by rw [List.getElem?_map,hba1]; rfl)
  obtain ⟨p3,i3,c3⟩:=Sl.elem (s:=1) Tryz.underlying81 B9k hEBn (i:=t.1.2) (u:=.bool bb) (by rw [List.getElem?_map,hbb1]; rfl)
  simp only [↓Sh.dn,sx,Nat.reduceBEq,reduceCtorEq,Nat.reduceEqDiff,f13,f15,f17,hlenT,A9a,hi,decide_true,i1,c1,Option.map_some,twZero,twStore,twOver,wb.c0,i2,c2]
  obtain ⟨gb,hgb⟩:∃ y,H'.next=y:=⟨_,rfl⟩
  rw [hgb] at wb qlt hbn hgk
  simp only [hgb]
  generalize (H'.new 4 (A2h t)).2=H5 at kn wb qn hkn hEAn hEBn c2 c3 hbn ⊢
  obtain ⟨acc,hac⟩:∃ b:Bool,(ba && (bb && (decide (t.2.1=x.length) && decide (t.2.2=y.length))))=b:=⟨_,rfl⟩
  obtain ⟨M,hM⟩:∃ M:Fr→AH→Prop,M=fun F2 H2=>H2=H5∧F2.get 86=some (.bool acc)∧F2.get 17=some (.int .i64 (i:Int))∧F2.get 2=some ux∧F2.get 3=some uy∧F2.get 4=some (.bool false)∧F2.get 11=some av∧F2.get 12=some bv∧F2.get 13=some ev∧F2.get 14=some fv∧F2.get 15=some z∧F2.get 16=some (.map (some gm))∧F2.get 18=some (.pointer (some ⟨gb,0,some 0⟩)):=⟨_,rfl⟩
  have dx:decide ((t.2.1:Int)=(x.length:Int))=decide (t.2.1=x.length):=decide_eq_decide.2 Int.ofNat_inj
  have dy:decide ((t.2.2:Int)=(y.length:Int))=decide (t.2.2=y.length):=decide_eq_decide.2 Int.ofNat_inj
  refine wpo_one (M:=M) ?_ ?_
  ·subst hac
   cases ba with
   | false=>simp only [↓Sh.dn,sx,Nat.reduceBEq,reduceCtorEq,Nat.reduceEqDiff,hM,f2,f3,f4,f11,f12,f13,f14,f15,f16,f17,Bool.false_and]
   | true=>
   cases bb with
   | false=>simp only [↓Sh.dn,sx,Nat.reduceBEq,reduceCtorEq,Nat.reduceEqDiff,hM,f2,f3,f4,f11,f12,f13,f14,f15,f16,f17,wb.c1,i3,c3,Bool.false_and,Bool.and_false]
   | true=>
   simp only [↓Sh.dn,sx,Nat.reduceBEq,reduceCtorEq,Nat.reduceEqDiff,f2,f3,f4,f14,wb.c1,i3,c3,wb.c2,hlx,dx]
   cases hdx:decide (t.2.1=x.length) with
   | false=>simp only [↓Sh.dn,sx,Nat.reduceBEq,reduceCtorEq,Nat.reduceEqDiff,hM,f2,f3,f4,f11,f12,f13,f14,f15,f16,f17,hdx,Bool.false_and,Bool.and_false]
   | true=>
   simp only [↓Sh.dn,sx,Nat.reduceBEq,reduceCtorEq,Nat.reduceEqDiff,hM,f2,f3,f4,f11,f12,f13,f14,f15,f16,f17,wb.c3,hly,dy,hdx,Bool.true_and]
  ·intro F2 H2 hm
   rw [hM] at hm
   obtain ⟨rfl,f86,f17,f2,f3,f4,f11,f12,f13,f14,f15,f16,f18⟩:=hm
   clear hM M
   cases acc with
   | true=>
    simp only [Bool.and_eq_true,decide_eq_true_eq] at hac
    obtain ⟨e1,e2,e3,e4⟩:=hac
    have hc:B0g A B x y:=⟨t.1,⟨hba2.1 e1,hbb2.1 e2⟩,places.1 (by rw [← e3,← e4]; exact hct)⟩
    simp only [↓Sh.dn,sx,Nat.reduceBEq,reduceCtorEq,Nat.reduceEqDiff,f86,hres]
    exact ⟨k06.trans hkn,hacc ⟨fun _=>hc,fun _=>rfl⟩⟩
   | false=>
   have hnt:¬(A.isEnd t.1.1∧B.isEnd t.1.2∧t.2.1=x.length∧t.2.2=y.length):=by
    rintro ⟨e1,e2,e3,e4⟩
    rw [hba2.2 e1,hbb2.2 e2,decide_eq_true e3,decide_eq_true e4] at hac
    cases hac
   simp only [↓Sh.dn,sx,Nat.reduceBEq,reduceCtorEq,Nat.reduceEqDiff,f86]
   clear hba1 hba2 hbb1 hbb2 c2 c3 i2 i3 hEAn hEBn hac p2 p3
   have rowA:=A1h (key:=ArcD.fr) (f:=ArcD.cells) (l:=A.arcs) w1
   have rowB:=A1h (key:=ArcD.fr) (f:=ArcD.cells) (l:=B.arcs) w2
   have hAm:∀ c,c∈rowAt A t.1.1→c∈A.arcs:=fun c hc=>(List.mem_filter.1 hc).1
   have hBm:∀ c,c∈rowAt B t.1.2→c∈B.arcs:=fun c hc=>(List.mem_filter.1 hc).1
   have hAl:(rowAt A t.1.1).length≤60000:=Nat.le_trans (List.length_filter_le _ _) okA.ar
   have hBl:(rowAt B t.1.2).length≤60000:=Nat.le_trans (List.length_filter_le _ _) okB.ar
   have hnx:nxT A B x y t=(rowAt A t.1.1).flatMap (nxA x y (rowAt B t.1.2) t)++(rowAt B t.1.2).flatMap (nxB y t):=rfl
   obtain ⟨ga,oa,ka,wa,iaA,caA,saA⟩:=hJA6.at Tryz.underlying88 A9w rowA
   obtain ⟨gb',ob',kb,wbv,iaB,caB,saB⟩:=hJB6.at Tryz.underlying88 A9w rowB
   have roA:∀ {H'},Kept H6 H'→H'.cell ⟨ga,oa,some ka⟩=some wa∧Sl H' wa 5 ((rowAt A t.1.1).map ArcD.cells):=fun hk=>⟨A8g (hk.grow k06.wf) caA,saA.grow (hk.grow k06.wf)⟩
   have roB:∀ {H'},Kept H6 H'→H'.cell ⟨gb',ob',some kb⟩=some wbv∧Sl H' wbv 5 ((rowAt B t.1.2).map ArcD.cells):=fun hk=>⟨A8g (hk.grow k06.wf) caB,saB.grow (hk.grow k06.wf)⟩
   have lnA:∀ H'',A5a Tryz.prog .len [23] [wa] H''=some (.int .i64 ((rowAt A t.1.1).length:Int),H''):=fun H''=>by rw [saA.len Tryz.underlying23,List.length_map]; rfl
   have lnB:∀ H'',A5a Tryz.prog .len [23] [wbv] H''=some (.int .i64 ((rowAt B t.1.2).length:Int),H''):=fun H''=>by rw [saB.len Tryz.underlying23,List.length_map]; rfl
   have hpr:(rowAt A t.1.1).length * ((rowAt B t.1.2).length+1)≤100000:=by
    have h1:(rowAt A t.1.1).length * (rowAt B t.1.2).length≤A.arcs.length * B.arcs.length:=Nat.mul_le_mul (List.length_filter_le _ _) (List.length_filter_le _ _)
    rw [Nat.mul_succ]; omega
   clear saA saB caA caB rowA rowB
   generalize rowAt A t.1.1=RA at *
   generalize rowAt B t.1.2=RB at *
   have hS0:NxS H6 H2 gt gm gb (fun y=>y=gb) z ob T t (.slice none 0 0) none ([]:List TW):=⟨hkn,qn,wb,.void none,fun y hy=>(by cases hy),rfl,fun y hy=>by rw [hy]; exact hbn⟩
   refine A0i RA.length 20 (List.range' 87 94++[19,20,21,22,23,24,25,26,27]) (fun q F3 H3=>∃ zn on,F3.get 19=some zn∧NxS H6 H3 gt gm gb (fun y=>y=gb) z ob T t zn on ((RA.take q).flatMap (nxA x y RB t))) (by simp only [↓Sh.dn,sx,Nat.reduceBEq,reduceCtorEq,Nat.reduceEqDiff]) ⟨_,none,by simp only [↓Sh.dn,sx,Nat.reduceBEq,reduceCtorEq,Nat.reduceEqDiff],hS0⟩ ?_ ?_
   ·rintro q F3 H3 hq hF3 f20 ⟨zn,on,f19,hS⟩ k3
    have g2:=hF3 2 rfl
    have g3:=hF3 3 rfl
    have g4:=hF3 4 rfl
    have g11:=hF3 11 rfl
    have g12:=hF3 12 rfl
    have g18:=hF3 18 rfl
    simp only [↓Sh.dn,sx,Nat.reduceBEq,reduceCtorEq,Nat.reduceEqDiff,f2,f3,f4,f11,f12,f18] at g2 g3 g4 g11 g12 g18
    obtain ⟨hc1,hs1⟩:=roA hS.k
    obtain ⟨g',o',k',hia2,hcs2,_⟩:=hs1.at Tryz.underlying23 A2l (i:=q) (x:=RA[q].cells) (by simp [hq]) .i64
    have htake:RA.take (q+1)=RA.take q++[RA[q]]:=by rw [List.take_add_one,List.getElem?_eq_getElem hq]; rfl
    have hcm:=hAm _ (List.getElem_mem hq)
    have hlen:((RA.take q).flatMap (nxA x y RB t)).length≤100000:=Nat.le_trans (B82 x y RB t _) (Nat.le_trans (Nat.mul_le_mul_right _ (by rw [List.length_take]; omega)) hpr)
    generalize RA[q]=c at hcs2 htake hcm
    have kn:=Kept.new hS.k.wf 5 c.cells
    have ab:Arr (H3.new 5 c.cells).2 H3.next 0 5 c.cells:=(Sh.Obj.new (H:=H3) 5 c.cells).arr
    have hS1:=hS.kept kn
    have hlt:H3.next < (H3.new 5 c.cells).2.next:=Nat.lt_succ_self _
    have honl:=hS.n.lt hS.k.wf
    have hS2:=hS1.pin (c:=H3.next) (fun e=>by have:=honl _ e; omega) hlt
    obtain ⟨r8,H8,hd8,rfl,rfl⟩:=B8n (i:=t.2.1) (s:=c.inn) (hx6.grow (hS1.k.grow k06.wf)) (by omega)
    have b0:=hS.b.c0
    have b1:=hS1.b.c1
    have b2:=hS1.b.c2
    have b3:=hS1.b.c3
    simp only [↓Sh.dn,sx,Nat.reduceBEq,reduceCtorEq,Nat.reduceEqDiff,g2,g11,g18,f20,b0,iaA,hc1,lnA,A9a,hq,decide_true,hia2,hcs2,Option.map_some,A1c,A9c,A7c,A9e,A0f,A5b,A6b,A0d,A8c,A3c,arc0,arc1,arc2,arc3,arc4,end0,end1,b2]
    refine ⟨_,_,hd8,?_⟩
    have wq:=A7d hq (Nat.le_trans hAl (by decide))
    cases ho:(A0n x t.2.1 c.inn).2 with
    | false=>
     have e1:nxA x y RB t c=[]:=by unfold nxA; rw [ho]; rfl
     simp only [↓Sh.dn,sx,Nat.reduceBEq,reduceCtorEq,Nat.reduceEqDiff,f20,wq]
     refine k3 _ _ (by repeat (first | refine Same.put ?_ rfl | exact Same.rfl' _)) (by simp only [↓Sh.dn,sx,Nat.reduceBEq,reduceCtorEq,Nat.reduceEqDiff]) ⟨zn,on,by simp only [↓Sh.dn,sx,Nat.reduceBEq,reduceCtorEq,Nat.reduceEqDiff,f19],?_⟩
     rw [htake,List.flatMap_append,List.flatMap_singleton,e1,List.append_nil]
     exact hS1
    | true=>
    simp only [↓Sh.dn,sx,Nat.reduceBEq,reduceCtorEq,Nat.reduceEqDiff,A1c,A9c,A7c,A9e,A0f,A5b,A6b,A0d,A8c,A3c,arc0,arc1,arc2,arc3,arc4,end0,end1]
    have ct:c.to=(c.to.toNat:Int):=by have:=okA.arc c hcm; omega
    by_cases hout:c.out=A1m
    ·have d0:decide (c.out=(⟨#[]⟩:ByteArray))=true:=decide_eq_true hout
     have e1:nxA x y RB t c=[((c.to.toNat,t.1.2),((A0n x t.2.1 c.inn).1,t.2.2))]:=by unfold nxA; rw [ho,if_pos rfl,if_pos hout]
     have ht3:(H3.new 5 c.cells).2.cell ⟨H3.next,3,some 0⟩=some (.int .i64 ((c.to.toNat:Nat):Int)):=by rw [arc3,← ct]
     obtain ⟨a,cap,w',H4,on',rfl,e2,hS4,_⟩:=hS1.push hgt ((c.to.toNat,t.1.2),((A0n x t.2.1 c.inn).1,t.2.2)) (by omega)
     simp only [↓Sh.dn,sx,Nat.reduceBEq,reduceCtorEq,Nat.reduceEqDiff,d0,f19,g18,ht3,b1,b3,A56,B12,B3a,e2,f20,wq]
     refine k3 _ _ (by repeat (first | refine Same.put ?_ rfl | exact Same.rfl' _)) (by simp only [↓Sh.dn,sx,Nat.reduceBEq,reduceCtorEq,Nat.reduceEqDiff]) ⟨w',on',by simp only [↓Sh.dn,sx,Nat.reduceBEq,reduceCtorEq,Nat.reduceEqDiff],?_⟩
     rw [htake,List.flatMap_append,List.flatMap_singleton,e1]
     exact hS4
    ·have d0:decide (c.out=(⟨#[]⟩:ByteArray))=false:=decide_eq_false hout
     have e1:nxA x y RB t c=RB.flatMap (nxX y (A0n x t.2.1 c.inn).1 t.2.2 c):=by unfold nxA; rw [ho,if_pos rfl,if_neg hout]
     simp only [↓Sh.dn,sx,Nat.reduceBEq,reduceCtorEq,Nat.reduceEqDiff,d0]
     obtain ⟨px,hpx⟩:∃ p,(A0n x t.2.1 c.inn).1=p:=⟨_,rfl⟩
     rw [hpx] at e1
     simp only [hpx]
     clear hd8 hS1 b0 b1 b2 b3 hS
     generalize H3.next=gc at ab hlt hS2 ⊢
     generalize (H3.new 5 c.cells).2=Hc at kn ab hlt hS2 ⊢
     refine A0i RB.length 24 (List.range' 133 48++[19,24,25,26,27]) (fun r F4 H4=>∃ zn on,F4.get 19=some zn∧NxS H6 H4 gt gm gb (fun y=>y=gb∨y=gc) z ob T t zn on ((RA.take q).flatMap (nxA x y RB t)++(RB.take r).flatMap (nxX y px t.2.2 c))∧Arr H4 gc 0 5 c.cells) (by simp only [↓Sh.dn,sx,Nat.reduceBEq,reduceCtorEq,Nat.reduceEqDiff]) ⟨zn,on,by simp only [↓Sh.dn,sx,Nat.reduceBEq,reduceCtorEq,Nat.reduceEqDiff,f19],by simpa using hS2,ab⟩ ?_ ?_
     ·rintro r F4 H4 hr hF4 v24 ⟨zn',on',v19,hS3,ab3⟩ k4
      have v3:=hF4 3 rfl
      have v4:=hF4 4 rfl
      have v12:=hF4 12 rfl
      have v18:=hF4 18 rfl
      have v21:=hF4 21 rfl
      have v22:=hF4 22 rfl
      simp only [↓Sh.dn,sx,Nat.reduceBEq,reduceCtorEq,Nat.reduceEqDiff,g3,g4,g12,g18] at v3 v4 v12 v18 v21 v22
      obtain ⟨hc3,hs3⟩:=roB hS3.k
      obtain ⟨g',o',k',hia3,hcs3,_⟩:=hs3.at Tryz.underlying23 A2l (i:=r) (x:=RB[r].cells) (by simp [hr]) .i64
      have htaked:RB.take (r+1)=RB.take r++[RB[r]]:=by rw [List.take_add_one,List.getElem?_eq_getElem hr]; rfl
      have hdm:=hBm _ (List.getElem_mem hr)
      have hlend:((RA.take q).flatMap (nxA x y RB t)++(RB.take r).flatMap (nxX y px t.2.2 c)).length≤160000:=by
       have:=C1u y px t.2.2 c (RB.take r)
       rw [List.length_take] at this
       rw [List.length_append]
       omega
      generalize RB[r]=d at hcs3 htaked hdm
      have km:=Kept.new hS3.k.wf 5 d.cells
      have hS4:=hS3.kept km
      have ab4:=ab3.keep (km.old gc (ab3.lt hS3.k.wf))
      have hgl:=ab3.lt hS3.k.wf
      obtain ⟨r9,H9,hd9,rfl,rfl⟩:=B75 (i:=t.2.2) (s:=d.out) (hy6.grow (hS4.k.grow k06.wf)) (by omega)
      have b1:=hS3.b.c1
      have b3:=hS4.b.c3
      have dt:d.to=(d.to.toNat:Int):=by have:=okB.arc d hdm; omega
      have cc2:(H4.new 5 d.cells).2.cell ⟨gc,2,some 0⟩=some (.string c.out):=ab4.cell 2
      have cc3:(H4.new 5 d.cells).2.cell ⟨gc,3,some 0⟩=some (.int .i64 ((c.to.toNat:Nat):Int)):=by rw [← ct]; exact ab4.cell 3
      have dd3:(H4.new 5 d.cells).2.cell ⟨H4.next,3,some 0⟩=some (.int .i64 ((d.to.toNat:Nat):Int)):=by rw [arc3,← dt]
      have wr:=A7d hr (Nat.le_trans hBl (by decide))
      simp only [↓Sh.dn,sx,Nat.reduceBEq,reduceCtorEq,Nat.reduceEqDiff,v3,v4,v12,v18,v24,b1,iaB,hc3,lnB,A9a,hr,decide_true,hia3,hcs3,Option.map_some,A1c,A9c,A7c,A9e,A0f,A5b,A6b,A0d,A8c,A3c,arc0,arc1,arc2,arc3,arc4,end0,end1,b3]
      refine ⟨_,_,hd9,?_⟩
      have hskip:nxX y px t.2.2 c d=[]→NxS H6 (H4.new 5 d.cells).2 gt gm gb (fun y=>y=gb∨y=gc) z ob T t zn' on' ((RA.take q).flatMap (nxA x y RB t)++(RB.take (r+1)).flatMap (nxX y px t.2.2 c)):=fun h=>by
       rw [htaked,List.flatMap_append,List.flatMap_singleton,h,List.append_nil]; exact hS4
      cases hy9:(A0n y t.2.2 d.out).2 with
      | false=>
       simp only [↓Sh.dn,sx,Nat.reduceBEq,reduceCtorEq,Nat.reduceEqDiff,v24,wr]
       exact k4 _ _ (by repeat (first | refine Same.put ?_ rfl | exact Same.rfl' _)) (by simp only [↓Sh.dn,sx,Nat.reduceBEq,reduceCtorEq,Nat.reduceEqDiff]) ⟨zn',on',by simp only [↓Sh.dn,sx,Nat.reduceBEq,reduceCtorEq,Nat.reduceEqDiff,v19],hskip (by unfold nxX; rw [hy9]; simp),ab4⟩
      | true=>
      simp only [↓Sh.dn,sx,Nat.reduceBEq,reduceCtorEq,Nat.reduceEqDiff,v21,A1c,A9c,A7c,A9e,A0f,A5b,A6b,A0d,A8c,A3c,arc0,arc1,arc2,arc3,arc4,end0,end1,cc2]
      by_cases hin:d.inn=c.out
      ·have d1:decide (d.inn=c.out)=true:=decide_eq_true hin
       obtain ⟨a,cap,w',H5',on5,rfl,e2,hS5,hk5⟩:=hS4.push hgt ((c.to.toNat,d.to.toNat),(px,(A0n y t.2.2 d.out).1)) (by omega)
       simp only [↓Sh.dn,sx,Nat.reduceBEq,reduceCtorEq,Nat.reduceEqDiff,d1,v19,v21,v22,cc3,dd3,A56,B12,B3a,e2,v24,wr]
       refine k4 _ _ (by repeat (first | refine Same.put ?_ rfl | exact Same.rfl' _)) (by simp only [↓Sh.dn,sx,Nat.reduceBEq,reduceCtorEq,Nat.reduceEqDiff]) ⟨w',on5,by simp only [↓Sh.dn,sx,Nat.reduceBEq,reduceCtorEq,Nat.reduceEqDiff],?_,ab4.keep (hk5 gc (.inr rfl) (by have:=km.next; omega))⟩
       have e3:nxX y px t.2.2 c d=[((c.to.toNat,d.to.toNat),(px,(A0n y t.2.2 d.out).1))]:=by unfold nxX; rw [hy9,if_pos ⟨rfl,hin⟩]
       rw [htaked,List.flatMap_append,List.flatMap_singleton,e3,← List.append_assoc]
       exact hS5
      ·have d1:decide (d.inn=c.out)=false:=decide_eq_false hin
       simp only [↓Sh.dn,sx,Nat.reduceBEq,reduceCtorEq,Nat.reduceEqDiff,d1,v24,wr]
       exact k4 _ _ (by repeat (first | refine Same.put ?_ rfl | exact Same.rfl' _)) (by simp only [↓Sh.dn,sx,Nat.reduceBEq,reduceCtorEq,Nat.reduceEqDiff]) ⟨zn',on',by simp only [↓Sh.dn,sx,Nat.reduceBEq,reduceCtorEq,Nat.reduceEqDiff,v19],hskip (by unfold nxX; rw [if_neg (fun h=>hin h.2)]),ab4⟩
     ·rintro F4 H4 hF4 v24 ⟨zn',on',v19,hS3,ab3⟩
      rw [List.take_length] at hS3
      have v12:=hF4 12 rfl
      have v18:=hF4 18 rfl
      have v20:=hF4 20 rfl
      simp only [↓Sh.dn,sx,Nat.reduceBEq,reduceCtorEq,Nat.reduceEqDiff,g12,g18,f20] at v12 v18 v20
      obtain ⟨hc3,hs3⟩:=roB hS3.k
      have b1:=hS3.b.c1
      simp only [↓Sh.dn,sx,Nat.reduceBEq,reduceCtorEq,Nat.reduceEqDiff,v12,v18,v20,v24,b1,iaB,hc3,lnB,A9a,Nat.lt_irrefl,decide_false,wq]
      refine k3 _ _ ?_ (by simp only [↓Sh.dn,sx,Nat.reduceBEq,reduceCtorEq,Nat.reduceEqDiff]) ⟨zn',on',by simp only [↓Sh.dn,sx,Nat.reduceBEq,reduceCtorEq,Nat.reduceEqDiff,v19],?_⟩
      ·repeat refine Same.put ?_ rfl
       exact Same.trans (by repeat (first | refine Same.put ?_ rfl | exact Same.rfl' _)) (hF4.sub rfl)
      ·rw [htake,List.flatMap_append,List.flatMap_singleton,e1]
       exact hS3.drop (fun y hy=>.inl hy) rfl
   ·rintro F3 H3 hF3 f20 ⟨zn,on,f19,hS⟩
    rw [List.take_length] at hS
    have g2:=hF3 2 rfl
    have g3:=hF3 3 rfl
    have g4:=hF3 4 rfl
    have g11:=hF3 11 rfl
    have g12:=hF3 12 rfl
    have g13:=hF3 13 rfl
    have g14:=hF3 14 rfl
    have g15:=hF3 15 rfl
    have g16:=hF3 16 rfl
    have g17:=hF3 17 rfl
    have g18:=hF3 18 rfl
    simp only [↓Sh.dn,sx,Nat.reduceBEq,reduceCtorEq,Nat.reduceEqDiff,f2,f3,f4,f11,f12,f13,f14,f15,f16,f17,f18] at g2 g3 g4 g11 g12 g13 g14 g15 g16 g17 g18
    obtain ⟨hc1,hs1⟩:=roA hS.k
    have b0:=hS.b.c0
    simp only [↓Sh.dn,sx,Nat.reduceBEq,reduceCtorEq,Nat.reduceEqDiff,g11,g18,f20,b0,iaA,hc1,lnA,A9a,Nat.lt_irrefl,decide_false]
    have hlenA:(RA.flatMap (nxA x y RB t)).length≤100000:=Nat.le_trans (B82 x y RB t _) hpr
    refine A0i RB.length 28 (List.range' 181 48++[19,28,29,30,31]) (fun r F4 H4=>∃ zn on,F4.get 19=some zn∧NxS H6 H4 gt gm gb (fun y=>y=gb) z ob T t zn on (RA.flatMap (nxA x y RB t)++(RB.take r).flatMap (nxB y t))) (by simp only [↓Sh.dn,sx,Nat.reduceBEq,reduceCtorEq,Nat.reduceEqDiff]) ⟨zn,on,by simp only [↓Sh.dn,sx,Nat.reduceBEq,reduceCtorEq,Nat.reduceEqDiff,f19],by simpa using hS⟩ ?_ ?_
    ·rintro r F4 H4 hr hF4 v28 ⟨zn',on',v19,hS3⟩ k4
     have v3:=hF4 3 rfl
     have v4:=hF4 4 rfl
     have v12:=hF4 12 rfl
     have v18:=hF4 18 rfl
     simp only [↓Sh.dn,sx,Nat.reduceBEq,reduceCtorEq,Nat.reduceEqDiff,g3,g4,g12,g18] at v3 v4 v12 v18
     obtain ⟨hc3,hs3⟩:=roB hS3.k
     obtain ⟨g',o',k',hia3,hcs3,_⟩:=hs3.at Tryz.underlying23 A2l (i:=r) (x:=RB[r].cells) (by simp [hr]) .i64
     have htaked:RB.take (r+1)=RB.take r++[RB[r]]:=by rw [List.take_add_one,List.getElem?_eq_getElem hr]; rfl
     have hdm:=hBm _ (List.getElem_mem hr)
     have hlend:(RA.flatMap (nxA x y RB t)++(RB.take r).flatMap (nxB y t)).length≤160000:=by
      have:=C9o y t (RB.take r)
      rw [List.length_take] at this
      rw [List.length_append]
      omega
     generalize RB[r]=d at hcs3 htaked hdm
     have km:=Kept.new hS3.k.wf 5 d.cells
     have hS4:=hS3.kept km
     obtain ⟨r9,H9,hd9,rfl,rfl⟩:=B75 (i:=t.2.2) (s:=d.out) (hy6.grow (hS4.k.grow k06.wf)) (by omega)
     have b1:=hS3.b.c1
     have b00:=hS4.b.c0
     have b2:=hS4.b.c2
     have b3:=hS4.b.c3
     have dt:d.to=(d.to.toNat:Int):=by have:=okB.arc d hdm; omega
     have dd3:(H4.new 5 d.cells).2.cell ⟨H4.next,3,some 0⟩=some (.int .i64 ((d.to.toNat:Nat):Int)):=by rw [arc3,← dt]
     have wr:=A7d hr (Nat.le_trans hBl (by decide))
     simp only [↓Sh.dn,sx,Nat.reduceBEq,reduceCtorEq,Nat.reduceEqDiff,v3,v4,v12,v18,v28,b1,iaB,hc3,lnB,A9a,hr,decide_true,hia3,hcs3,Option.map_some,A1c,A9c,A7c,A9e,A0f,A5b,A6b,A0d,A8c,A3c,arc0,arc1,arc2,arc3,arc4,end0,end1,b3]
     refine ⟨_,_,hd9,?_⟩
     have hskip:nxB y t d=[]→NxS H6 (H4.new 5 d.cells).2 gt gm gb (fun y=>y=gb) z ob T t zn' on' (RA.flatMap (nxA x y RB t)++(RB.take (r+1)).flatMap (nxB y t)):=fun h=>by
      rw [htaked,List.flatMap_append,List.flatMap_singleton,h,List.append_nil]; exact hS4
     cases hy9:(A0n y t.2.2 d.out).2 with
     | false=>
      simp only [↓Sh.dn,sx,Nat.reduceBEq,reduceCtorEq,Nat.reduceEqDiff,v28,wr]
      exact k4 _ _ (by repeat (first | refine Same.put ?_ rfl | exact Same.rfl' _)) (by simp only [↓Sh.dn,sx,Nat.reduceBEq,reduceCtorEq,Nat.reduceEqDiff]) ⟨zn',on',by simp only [↓Sh.dn,sx,Nat.reduceBEq,reduceCtorEq,Nat.reduceEqDiff,v19],hskip (by unfold nxB; rw [hy9]; simp)⟩
     | true=>
     simp only [↓Sh.dn,sx,Nat.reduceBEq,reduceCtorEq,Nat.reduceEqDiff,A1c,A9c,A7c,A9e,A0f,A5b,A6b,A0d,A8c,A3c,arc0,arc1,arc2,arc3,arc4,end0,end1]
     by_cases hin:d.inn=A1m
     ·have d1:decide (d.inn=(⟨#[]⟩:ByteArray))=true:=decide_eq_true hin
      obtain ⟨a,cap,w',H5',on5,rfl,e2,hS5,hk5⟩:=hS4.push hgt ((t.1.1,d.to.toNat),(t.2.1,(A0n y t.2.2 d.out).1)) (by omega)
      simp only [↓Sh.dn,sx,Nat.reduceBEq,reduceCtorEq,Nat.reduceEqDiff,d1,v18,v19,b00,b2,dd3,A56,B12,B3a,e2,v28,wr]
      refine k4 _ _ (by repeat (first | refine Same.put ?_ rfl | exact Same.rfl' _)) (by simp only [↓Sh.dn,sx,Nat.reduceBEq,reduceCtorEq,Nat.reduceEqDiff]) ⟨w',on5,by simp only [↓Sh.dn,sx,Nat.reduceBEq,reduceCtorEq,Nat.reduceEqDiff],?_⟩
      have e3:nxB y t d=[((t.1.1,d.to.toNat),(t.2.1,(A0n y t.2.2 d.out).1))]:=by unfold nxB; rw [hy9,if_pos ⟨rfl,hin⟩]
      rw [htaked,List.flatMap_append,List.flatMap_singleton,e3,← List.append_assoc]
      exact hS5
     ·have d1:decide (d.inn=(⟨#[]⟩:ByteArray))=false:=decide_eq_false hin
      simp only [↓Sh.dn,sx,Nat.reduceBEq,reduceCtorEq,Nat.reduceEqDiff,d1,v28,wr]
      exact k4 _ _ (by repeat (first | refine Same.put ?_ rfl | exact Same.rfl' _)) (by simp only [↓Sh.dn,sx,Nat.reduceBEq,reduceCtorEq,Nat.reduceEqDiff]) ⟨zn',on',by simp only [↓Sh.dn,sx,Nat.reduceBEq,reduceCtorEq,Nat.reduceEqDiff,v19],hskip (by unfold nxB; rw [if_neg (fun h=>hin h.2)])⟩
    ·rintro F4 H4 hF4 v28 ⟨zn',on',v19,hS3⟩
     rw [List.take_length,← hnx] at hS3
     have v2:=hF4 2 rfl
     have v3:=hF4 3 rfl
     have v4:=hF4 4 rfl
     have v11:=hF4 11 rfl
     have v12:=hF4 12 rfl
     have v13:=hF4 13 rfl
     have v14:=hF4 14 rfl
     have v15:=hF4 15 rfl
     have v16:=hF4 16 rfl
     have v17:=hF4 17 rfl
     have v18:=hF4 18 rfl
     simp only [↓Sh.dn,sx,Nat.reduceBEq,reduceCtorEq,Nat.reduceEqDiff,g2,g3,g4,g11,g12,g13,g14,g15,g16,g17,g18] at v2 v3 v4 v11 v12 v13 v14 v15 v16 v17 v18
     obtain ⟨hc3,hs3⟩:=roB hS3.k
     have b1:=hS3.b.c1
     simp only [↓Sh.dn,sx,Nat.reduceBEq,reduceCtorEq,Nat.reduceEqDiff,v12,v18,v28,b1,iaB,hc3,lnB,A9a,Nat.lt_irrefl,decide_false]
     have hcn:∀ v∈nxT A B x y t,Cl (A2t (A81 (A5k A) (A5k B)) x y) (fun q=>q=((0,0),0,0)) v:=fun v hv=>.step hct ((C1n okA okB t v).1 hv)
     have hLl:(nxT A B x y t).length≤1000000:=by
      have h1:=C9o y t RB
      rw [hnx,List.length_append]
      omega
     obtain ⟨L,hL⟩:∃ L,nxT A B x y t=L:=⟨_,rfl⟩
     rw [hL] at hS3 hcn hLl
     have hlenL:∀ {H''},Buf H'' 4 zn' (L.map A2h) on'→∀ H',A5a Tryz.prog .len [93] [zn'] H'=some (.int .i64 (L.length:Int),H'):=fun hb H'=>by rw [hb.toSl.len Tryz.underlying93,List.length_map]
     have hiz:IntKind.wrap .i64 ((i:Int)+1)=((i+1:Nat):Int):=by rw [wrap64 (by omega) (by omega)]; omega
     refine A0i L.length 32 (List.range' 229 26++[15,32]) (fun r F5 H5=>Kept H6 H5∧Buf H5 4 zn' (L.map A2h) on'∧∃ z' ob',F5.get 15=some z'∧QS H5 4 A2h gt gm z' ob' (A1e T (L.take r))∧∀ y,on'=some y→¬QO gm ob' y) (by simp only [↓Sh.dn,sx,Nat.reduceBEq,reduceCtorEq,Nat.reduceEqDiff]) ⟨hS3.k,hS3.n,z,ob,by simp only [↓Sh.dn,sx,Nat.reduceBEq,reduceCtorEq,Nat.reduceEqDiff,v15],hS3.q,fun y hy=>(hS3.f y hy).2.1⟩ ?_ ?_
     ·rintro r F5 H5 hr hF5 u32 ⟨hk5,hn5,z',ob',u15,q5,hd5⟩ k5
      have u16:=hF5 16 rfl
      have u19:=hF5 19 rfl
      simp only [↓Sh.dn,sx,Nat.reduceBEq,reduceCtorEq,Nat.reduceEqDiff,v16,v19] at u16 u19
      have hln:=hlenL hn5
      obtain ⟨g',o',k',hia5,hcs5,_⟩:=hn5.toSl.at Tryz.underlying93 A6x (i:=r) (x:=A2h L[r]) (by simp [hr]) .i64
      have htr:L.take (r+1)=L.take r++[L[r]]:=by rw [List.take_add_one,List.getElem?_eq_getElem hr]; rfl
      generalize L[r]=v at hcs5 htr
      have hlook:=twLook q5 v
      have hcl5:∀ w∈A1e T (L.take r),Cl (A2t (A81 (A5k A) (A5k B)) x y) (fun q=>q=((0,0),0,0)) w:=fun w hw=>by
       rcases A2o.1 hw with h | h
       ·exact hcl w h
       ·exact hcn w (List.mem_of_mem_take h)
      have hT5:=C4d okA okB hwd hxl hyl q5.nd hcl5
      have wr:=A7d hr (Nat.le_trans hLl (by decide))
      have hgr:A1e T (L.take (r+1))=A8l (A1e T (L.take r)) v:=by rw [htr,A4t]
      by_cases hin:v∈A1e T (L.take r)
      ·simp only [↓Sh.dn,sx,Nat.reduceBEq,reduceCtorEq,Nat.reduceEqDiff,u16,u19,u32,hln,A9a,hr,decide_true,hia5,hcs5,Option.map_some,hlook,hin,wr]
       refine k5 _ _ (by repeat (first | refine Same.put ?_ rfl | exact Same.rfl' _)) (by simp only [↓Sh.dn,sx,Nat.reduceBEq,reduceCtorEq,Nat.reduceEqDiff]) ⟨hk5,hn5,z',ob',by simp only [↓Sh.dn,sx,Nat.reduceBEq,reduceCtorEq,Nat.reduceEqDiff,u15],?_,hd5⟩
       rw [hgr]
       unfold A8l
       rw [if_pos hin]
       exact q5
      ·obtain ⟨H7,b,cap,z2,H8,ob2,a1,a2,a3,rfl,a5,a6,a7,a8⟩:=q5.add (ts:=93) Tryz.underlying94 B6e B0n (fun _=>rfl) twApp hk5.wf (by have:=hk5.next; omega) hin (by omega)
       have a1':A3e Tryz.prog 94 (.map (some gm)) (.agg (A2h v).toArray) (.bool true) H5=some H7:=a1
       have hn7:Buf H7 4 zn' (L.map A2h) on':=hn5.chg hk5.wf a2 fun y hy e=>hd5 y hy (.inl e)
       obtain ⟨g2',o2',k2',hia7,hcs7,_⟩:=hn7.toSl.at Tryz.underlying93 A6x (i:=r) (x:=A2h v) (by
        have:L[r]?=some v:=by
         have h1:L.take (r+1)=L.take r++[L[r]]:=by rw [List.take_add_one,List.getElem?_eq_getElem hr]; rfl
         rw [h1] at htr
         have:=List.append_cancel_left htr
         rw [List.getElem?_eq_getElem hr,(List.cons.inj this).1]
        rw [List.getElem?_map,this]; rfl) .i64
       rw [hia5] at hia7
       have e1:=Option.some.inj hia7
       injection e1 with e1; injection e1 with e1
       rw [← e1] at hcs7
       have hq5:=q5.ge
       simp only [↓Sh.dn,sx,Nat.reduceBEq,reduceCtorEq,Nat.reduceEqDiff,u15,u16,u19,u32,hln,A9a,hr,decide_true,decide_false,hia5,hcs5,hcs7,Option.map_some,hlook,hin,a1',B3a,a5,wr]
       refine k5 _ _ (by repeat (first | refine Same.put ?_ rfl | exact Same.rfl' _)) (by simp only [↓Sh.dn,sx,Nat.reduceBEq,reduceCtorEq,Nat.reduceEqDiff]) ⟨hk5.then (Nat.le_refl _) (a7.weak fun y hy=>by have:=hq5 y hy; omega),hn5.chg hk5.wf a7 fun y hy=>hd5 y hy,z2,ob2,by simp only [↓Sh.dn,sx,Nat.reduceBEq,reduceCtorEq,Nat.reduceEqDiff],?_,fun y hy hq=>?_⟩
       ·rw [hgr]
        unfold A8l
        rw [if_neg hin]
        exact a6
       ·rcases a8 y hq with h | h
        ·exact hd5 y hy h
        ·have:=hn5.lt hk5.wf y hy; omega
     ·rintro F5 H5 hF5 u32 ⟨hk5,hn5,z',ob',u15,q5,hd5⟩
      rw [List.take_length] at q5
      have u2:=hF5 2 rfl
      have u3:=hF5 3 rfl
      have u4:=hF5 4 rfl
      have u11:=hF5 11 rfl
      have u12:=hF5 12 rfl
      have u13:=hF5 13 rfl
      have u14:=hF5 14 rfl
      have u16:=hF5 16 rfl
      have u17:=hF5 17 rfl
      have u19:=hF5 19 rfl
      simp only [↓Sh.dn,sx,Nat.reduceBEq,reduceCtorEq,Nat.reduceEqDiff,v2,v3,v4,v11,v12,v13,v14,v16,v17,v19] at u2 u3 u4 u11 u12 u13 u14 u16 u17 u19
      have hln:=hlenL hn5
      obtain ⟨U,hU⟩:=A92 L T
      have htk5:(A1e T L).take (i+1)=T.take i++[t]:=by rw [hU,List.take_append_of_le_length (by omega),htk]
      simp only [↓Sh.dn,sx,Nat.reduceBEq,reduceCtorEq,Nat.reduceEqDiff,u17,u19,u32,hln,A9a,Nat.lt_irrefl,decide_false,hiz]
      refine k (m - 1) _ _ (by omega) ⟨i+1,A1e T L,z',ob',by omega,by simp only [↓Sh.dn,sx,Nat.reduceBEq,reduceCtorEq,Nat.reduceEqDiff],by simp only [↓Sh.dn,sx,Nat.reduceBEq,reduceCtorEq,Nat.reduceEqDiff,u2],by simp only [↓Sh.dn,sx,Nat.reduceBEq,reduceCtorEq,Nat.reduceEqDiff,u3],by simp only [↓Sh.dn,sx,Nat.reduceBEq,reduceCtorEq,Nat.reduceEqDiff,u4],by simp only [↓Sh.dn,sx,Nat.reduceBEq,reduceCtorEq,Nat.reduceEqDiff,u11],by simp only [↓Sh.dn,sx,Nat.reduceBEq,reduceCtorEq,Nat.reduceEqDiff,u12],by simp only [↓Sh.dn,sx,Nat.reduceBEq,reduceCtorEq,Nat.reduceEqDiff,u13],by simp only [↓Sh.dn,sx,Nat.reduceBEq,reduceCtorEq,Nat.reduceEqDiff,u14],by simp only [↓Sh.dn,sx,Nat.reduceBEq,reduceCtorEq,Nat.reduceEqDiff,u15],by simp only [↓Sh.dn,sx,Nat.reduceBEq,reduceCtorEq,Nat.reduceEqDiff,u16],hk5,q5,by rw [hU,List.length_append]; omega,A2o.2 (.inl h0T),fun v hv=>?_,fun w hw v hv=>?_,fun w hw=>?_⟩
      ·rcases A2o.1 hv with h | h
       ·exact hcl v h
       ·exact hcn v h
      ·rw [htk5] at hw
       rcases List.mem_append.1 hw with h | h
       ·exact A2o.2 (.inl (hcls w h v hv))
       ·rw [List.mem_singleton.1 h,hL] at hv
        exact A2o.2 (.inr hv)
      ·rw [htk5] at hw
       rcases List.mem_append.1 hw with h | h
       ·exact hno w h
       ·rw [List.mem_singleton.1 h]; exact hnt
 ·have hall:T.take i=T:=List.take_of_length_le (by omega)
  rw [hall] at hcls hno
  simp only [↓Sh.dn,sx,Nat.reduceBEq,reduceCtorEq,Nat.reduceEqDiff,f15,f17,hlenT,A9a,hi,decide_false,hres]
  refine ⟨k06.trans hk,hacc ⟨fun h=>(by cases h),?_⟩⟩
  rintro ⟨t,⟨h1,h2⟩,h3⟩
  have h4:=places.2 h3
  have h5:∀ v,Cl (A2t (A81 (A5k A) (A5k B)) x y) (fun q=>q=((0,0),0,0)) v→v∈T:=fun v hv=>hv.of (Q:=fun v=>v∈T) (fun v e=>by rw [e]; exact h0T) fun v w hv hs=>hcls v hv w ((C1n okA okB v w).2 hs)
  exact absurd ⟨h1,h2,rfl,rfl⟩ (hno _ (h5 _ h4))
end Go.Proofs.YtnoengaghabmjaaGreatDoor
/- The reference's Made of kind Compose. -/
namespace Go.Proofs.YtnoengaghabmjaaGreatDoor
open Go Go.Proofs Go.Proofs.Sh
theorem refMade3 {H:AH} {va vb ux uy:Value} {A B:NetD} {x y:List ByteArray} (ha:A8k H va A) (hb:A8k H vb B) (hA:A4c A) (hB:A4c B) (okA:A5j A) (okB:A5j B) (hg:A88 A B=false) (hx:Sl H ux 1 (x.map A1b)) (hy:Sl H uy 1 (y.map A1b)) (hxl:x.length≤400) (hyl:y.length≤400) (hw:Wf H):
  Sh.Call Tryz.prog (knows 8) 16 [va,vb,.int .i64 3,ux,uy] H (fun r H'=>Kept H H'∧r=.bool (tB (B0g A B x y))):=by
 refine A3b rfl Tryz.func16 rfl (Nat.le_of_ble_eq_true rfl) ?_
 have hres:Tryz.f16.results.toList=[.tmp 10]:=rfl
 obtain ⟨sgA,arA,enA,rfl,s1,s2,s3⟩:=ha
 obtain ⟨sgB,arB,enB,rfl,t1,t2,t3⟩:=hb
 have bA:=NetBox.of (N:=A) hw s1 s2 s3
 have k1:=Kept.new hw 4 [sgA,.int .i64 A.states,arA,enA]
 have bB:=NetBox.of (N:=B) k1.wf (t1.grow (k1.grow hw)) (t2.grow (k1.grow hw)) (t3.grow (k1.grow hw))
 have k2:=k1.news 4 [sgB,.int .i64 B.states,arB,enB]
 have bA2:=bA.new k1.wf 4 [sgB,.int .i64 B.states,arB,enB]
 simp only [↓Sh.dn,sx,Nat.reduceBEq,reduceCtorEq,Nat.reduceEqDiff,A7k s1.isCell s2.isCell s3.isCell,A7k t1.isCell t2.isCell t3.isCell]
 obtain ⟨H1,hH1⟩:∃ K,(H.new 4 [sgA,.int .i64 A.states,arA,enA]).2=K:=⟨_,rfl⟩
 simp only [hH1] at k1 bB bA k2 bA2 ⊢
 obtain ⟨H2,hH2⟩:∃ K,(H1.new 4 [sgB,.int .i64 B.states,arB,enB]).2=K:=⟨_,rfl⟩
 simp only [hH2] at bB k2 bA2 ⊢
 generalize H.next=gA at bA2 ⊢
 generalize H1.next=gB at bB ⊢
 obtain ⟨q1,q2,q3,q4⟩:=B26 okA okB hg
 obtain ⟨r3,H3,hd3,k3,rfl⟩:=B43 bA2.netAt bB.netAt hA hB okA okB q1 q2 (hx.grow (k2.grow hw)) (hy.grow (k2.grow hw)) hxl hyl k2.wf
 have i30:decide ((3:Int)=0)=false:=rfl
 have i31:decide ((3:Int)=1)=false:=rfl
 have i32:decide ((3:Int)=2)=false:=rfl
 have i33:decide ((3:Int)=3)=true:=rfl
 simp only [↓Sh.dn,sx,Nat.reduceBEq,reduceCtorEq,Nat.reduceEqDiff,bA2.c0,bA2.c1,bA2.c2,bA2.c3,bA2.ca,A3a bA2,A1a bA2,A2a bA2,bB.c0,bB.c1,bB.c2,bB.c3,bB.ca,A3a bB,A1a bB,A2a bB,Option.map_some,i30,i31,i32,i33,eq_self,decide_true,decide_false]
 refine ⟨_,_,hd3,?_⟩
 simp only [↓Sh.dn,sx,Nat.reduceBEq,reduceCtorEq,Nat.reduceEqDiff,hres]
 exact k2.trans k3
end Go.Proofs.YtnoengaghabmjaaGreatDoor
/- For every two nets, of any kind, and every two lists of texts: what rel.Compose makes holds the pair of both lists just if some list stands between them, or the error is the reference's. -/
namespace Go.Proofs.YtnoengaghabmjaaGreatDoor
open Go Go.Proofs Go.Proofs.Sh
theorem A4u {A B:NetD} (h:A0e A B=0):A5j A∧A5j B∧A88 A B=false:=by
 unfold A0e at h
 split at h
 ·rename_i h1; exact absurd h h1
 ·rename_i h1
  obtain ⟨h2,h3,_⟩:=B3e (A:=A) (B:=B) (by simpa using h1)
  refine ⟨(A3i h2).1,(A3i h3).1,?_⟩
  split at h
  ·cases h
  ·rename_i h4; simpa using h4
theorem B2g {H:AH} {A B:NetD} {x y:List ByteArray} {sgA arA enA sgB arB enB ux uy:Value} (h:TwoAt H A B x y sgA arA enA sgB arB enB ux uy) (hA:A4c A) (hB:A4c B) (hxl:x.length≤1048576) (hyl:y.length≤1048576) (hw:Wf H):
  Sh.Call Tryz.prog (knows 8) 6 [.agg (twoV A B sgA arA enA sgB arB enB ux uy).toArray] H (fun r _=>r=.bool true):=by
 refine A3b rfl Tryz.func6 rfl (Nat.le_of_ble_eq_true rfl) ?_
 have hres:Tryz.f6.results.toList=[.tmp 2]:=rfl
 have t1:=TBox.new h hw
 have k1:Kept H (H.new 10 (twoV A B sgA arA enA sgB arB enB ux uy)).2:=Kept.new hw 10 _
 simp only [↓Sh.dn,sx,Nat.reduceBEq,reduceCtorEq,Nat.reduceEqDiff,twoNew h]
 generalize H.next=g at t1 ⊢
 generalize (H.new 10 (twoV A B sgA arA enA sgB arB enB ux uy)).2=H1 at t1 k1 ⊢
 obtain ⟨r2,H2,hd2,k2,rfl⟩:=C4m (kd:=3) (err:=A0e A B) (P:=fun x y=>B0g A B x y) (fun ha hb hw=>B03 ha hb hA hB hw) (fun ha hb hw=>C1v ha hb hA hB hw)
  (fun hE {_ _ _ _ _} ha hb hx hy h1 h2 hw=>refMade3 ha hb hA hB (A4u hE).1 (A4u hE).2.1 (A4u hE).2.2 hx hy h1 h2 hw) t1.at' hA hB hxl hyl k1.wf
 obtain ⟨r3,H3,hd3,rfl,rfl⟩:=A2y (H:=H2)
 simp only [↓Sh.dn,sx,Nat.reduceBEq,reduceCtorEq,Nat.reduceEqDiff,t1.cT,Option.map_some]
 refine ⟨_,_,hd2,?_⟩
 simp only [↓Sh.dn,sx,Nat.reduceBEq,reduceCtorEq,Nat.reduceEqDiff]
 refine ⟨_,_,hd3,?_⟩
 simp only [↓Sh.dn,sx,Nat.reduceBEq,reduceCtorEq,Nat.reduceEqDiff,hres]
theorem lawMain {H:AH} {avs:List Value} {K:Type} {ds:List (DataW K)} (hb:Rows.uptoBulkAll ds≤1048576) (hw:Wf H) (hr:RDs Tryz.prog H [28] avs ds) (hfl:Flat Tryz.prog [28] avs):
  Sh.Call Tryz.prog (knows 8) 6 avs H (fun r _=>r=.bool true):=by
 obtain ⟨v,vs,d,ds,rfl,rfl,⟨f,h1⟩,h2⟩:=hr.cons_inv
 obtain ⟨rfl,rfl⟩:=h2.nil_inv
 simp only [Rows.uptoBulkAll,Nat.add_zero] at hb
 obtain ⟨A,B,x,y,_,_,_,_,_,_,_,_,rfl,h,hA,hB,hxl,hyl⟩:=two_in h1 (by omega)
 exact B2g h hA hB hxl hyl hw
end Go.Proofs.YtnoengaghabmjaaGreatDoor
/- A start at which the variables hold what is laid. -/
namespace Go.Proofs.YtnoengaghabmjaaGreatDoor
open Go Go.Proofs
def laidL:List (String×DataW Unit):=[("math/bits.deBruijn32tab",Rows.laid_math_bits_deBruijn32tab),("math/bits.deBruijn64tab",Rows.laid_math_bits_deBruijn64tab),("internal/strconv.uint64pow10",Rows.laid_internal_strconv_uint64pow10)]
def litsOf:DataW Unit→List Value
 | .agg ds=>ds.map fun d=>match d with
  | .lit (.int k n)=>.int k n
  | _=>.bool false
 | _=>[]
noncomputable def gAt (n:String):Nat:=(Tryz.prog.globalNamed n).getD 0
noncomputable def laidWorld (os:Os):World:=
 let w0:=World.holding Tryz.prog os ⟨#[],#[],[]⟩
 let put (h:Array Obj) (x:String×DataW Unit):Array Obj:=h.modify (gAt x.1) fun
  | .cells _ t frozen=>.cells (litsOf x.2).toArray t frozen
  | o=>o
 { w0 with heap:=laidL.foldl put w0.heap }
theorem laid_met (os:Os) (args:Array Value):laidMetH Tryz.prog laidL ((laidWorld os).forCall (fun _ _=>0) ⟨#[],args,[]⟩).memory:=by
 have h:LaidIn Tryz.prog ((laidWorld os).forCall (fun _ _=>0) ⟨#[],args,[]⟩).memory laidL (laidL.map fun x=>gAt x.1):=LaidIn.of_run _ 8 (by kernel_rfl) (by kernel_rfl) (by kernel_rfl) (by kernel_rfl)
 exact h.met
end Go.Proofs.YtnoengaghabmjaaGreatDoor
