/- A part of the proof: GraphEdges, CloneStr. -/
import Derived.Test.YtnoengaghabmjaaGreatMClose2RelTurns2
import Derived.Test.YtnoengaghabmjaaGreatMClose2RelTurns4
import Derived.Test.YtnoengaghabmjaaGreatMClose2RelTurns5
set_option linter.unusedVariables false
set_option linter.unusedSimpArgs false
/- Reading the graph of the program; maps of marks. -/
set_option maxHeartbeats 4000000
set_option maxRecDepth 20000
set_option linter.unusedSimpArgs false
set_option linter.unusedVariables false
namespace Go.Proofs.YtnoengaghabmjaaGreat
open Go Go.Proofs Go.Proofs.Sh
def natK (n:Nat):Value:=.int .i64 (n:Int)
theorem C5f (a:Nat):A4n Tryz.prog 3 (natK a)=true:=by
 unfold A4n natK
 simp only [plainKey,keyT,A5h,Tryz.underlying3,Bool.and_self]; rfl
theorem C4v (a b:Nat):eqT Tryz.prog A5h 3 (natK a) (natK b)=some (decide (a=b)):=by
 unfold natK
 show eqT Tryz.prog (19+1) _ _ _=_
 rw [B1u]
 congr 1
 exact decide_eq_decide.2 Int.ofNat_inj
def BMap (H:AH) (g:Nat) (D:List Nat):Prop:=MapIs H g natK (D.map fun t=>(t,.bool true))
theorem B0m (D:List Nat) (t:Nat):A0u (D.map fun t=>(t,Value.bool true)) t=if t∈D then some (.bool true) else none:=by
 unfold A0u
 by_cases h:t∈D
 ·rw [if_pos h]
  cases hf:(D.map fun t=>(t,Value.bool true)).find? fun p=>decide (t=p.1) with
  | none=>
   rw [List.find?_eq_none] at hf
   have:=hf (t,.bool true) (List.mem_map.2 ⟨t,h,rfl⟩)
   simp at this
  | some p=>
   have:=List.mem_of_find?_eq_some hf
   obtain ⟨u,_,rfl⟩:=List.mem_map.1 this
   rfl
 ·rw [if_neg h]
  have:(D.map fun t=>(t,Value.bool true)).find? (fun p=>decide (t=p.1))=none:=by
   rw [List.find?_eq_none]
   rintro p hp
   obtain ⟨u,hu,rfl⟩:=List.mem_map.1 hp
   simp only [decide_eq_true_eq]
   rintro rfl
   exact h hu
  rw [this]; rfl
theorem BMap.look {H:AH} {g:Nat} {D:List Nat} (h:BMap H g D) (t:Nat):A9p Tryz.prog 187 (.map (some g)) (.int .i64 (t:Int)) false H=some (.bool (decide (t∈D))):=by
 have:=MapIs.look (P:=Tryz.prog) (ok:=false) Tryz.underlying187 A76 C5f C4v h t
 rw [B0m] at this
 unfold natK at this
 rw [this]
 by_cases hd:t∈D <;> simp [hd]
theorem BMap.add {H:AH} {g:Nat} {D:List Nat} (h:BMap H g D) (hw:Wf H) {t:Nat} (ht:t∉D):∃ H',A7h Tryz.prog 187 (.map (some g)) (.int .i64 (t:Int)) (.bool true) H=some H'∧BMap H' g (D++[t])∧Chg (fun y=>y=g) H H'∧H'.next=H.next:=by
 obtain ⟨H',h1,h2,h3,h4⟩:=MapIs.add (P:=Tryz.prog) Tryz.underlying187 C5f C4v h hw (a:=t) (by rw [B0m,if_neg ht]) (.bool true)
 exact ⟨H',h1,by unfold BMap; rw [List.map_append]; exact h2,h3,h4⟩
theorem geNew {H:AH} {e:Nat×Int×Int×Int}:anew Tryz.prog 100 H (.agg (A9e e).toArray)=some (.pointer (some ⟨H.next,0,some 0⟩),(H.new 4 (A9e e)).2):=A4o (vs:=A9e e) A1x rfl rfl
theorem B4q {H:AH}:anew Tryz.prog 100 H (.agg #[.int .i64 0,.int .i64 0,.int .i64 0,.int .i64 0])=some (.pointer (some ⟨H.next,0,some 0⟩),(H.new 4 [.int .i64 0,.int .i64 0,.int .i64 0,.int .i64 0]).2):=A4o (vs:=[.int .i64 0,.int .i64 0,.int .i64 0,.int .i64 0]) A1x rfl rfl
theorem A79 {H:AH} {e:Nat×Int×Int×Int} {p:Addr}:A4f Tryz.prog 100 H (.agg (A9e e).toArray) (.pointer (some p))=H.write p (A9e e):=A7p A1x rfl rfl
theorem B3o {H:AH} {e:Nat×Int×Int×Int} {x0 x1 x2 x3:Value}:(H.new 4 [x0,x1,x2,x3]).2.write ⟨H.next,0,some 0⟩ (A9e e)=some (H.new 4 (A9e e)).2:=A4p rfl
theorem ge0 {H:AH} {e:Nat×Int×Int×Int}:(H.new 4 (A9e e)).2.cell ⟨H.next,0,some 0⟩=some (.int .i64 (e.1:Int)):=A9i _ _ _
theorem ge1 {H:AH} {e:Nat×Int×Int×Int}:(H.new 4 (A9e e)).2.cell ⟨H.next,1,some 0⟩=some (.int .i64 e.2.1):=A9i _ _ _
theorem ge2 {H:AH} {e:Nat×Int×Int×Int}:(H.new 4 (A9e e)).2.cell ⟨H.next,2,some 0⟩=some (.int .i64 e.2.2.1):=A9i _ _ _
theorem ge3 {H:AH} {e:Nat×Int×Int×Int}:(H.new 4 (A9e e)).2.cell ⟨H.next,3,some 0⟩=some (.int .i64 e.2.2.2):=A9i _ _ _
theorem geAll {H:AH} {e:Nat×Int×Int×Int}:(H.new 4 (A9e e)).2.cells ⟨H.next,0,some 0⟩ 4=some (A9e e):=(Sh.Obj.new (H:=H) 4 (A9e e)).cells (i:=0) (n:=4) (by simp [A9e])
theorem PG.row {H:AH} {g n rb:Nat} {E:List (List (Nat×Int×Int×Int))} {ends:List Int} {sv av ev cv:Value} {vals:List Value} {sigma:List ByteArray} {costs:List Int} (h:PG H g n rb E ends sv av ev cv vals sigma costs) {s:Nat} {r:List (Nat×Int×Int×Int)} (hr:E[s]?=some r):
  ∃ p w,A4c Tryz.prog 123 av (.int .i64 (s:Int))=some (.pointer (some p))∧H.cell p=some w∧Sl H w 4 (r.map A9e)∧∀ H',A6a Tryz.prog .len [126] [w] H'=some (.int .i64 (r.length:Int),H'):=by
 obtain ⟨ga,oa,ka,w,h1,h2,h3⟩:=h.gr.jag.at Tryz.underlying123 A2t (i:=s) (r:=r.map A9e) (by unfold A0d; rw [List.getElem?_map,hr]; rfl)
 exact ⟨_,w,h1,h2,h3,fun H'=>by rw [h3.len Tryz.underlying126,List.length_map]⟩
theorem PG.edge {H:AH} {w:Value} {r:List (Nat×Int×Int×Int)} (h:Sl H w 4 (r.map A9e)) {q:Nat} (hq:q < r.length):
  ∃ p,A4c Tryz.prog 126 w (.int .i64 (q:Int))=some (.pointer (some p))∧H.cells p 4=some (A9e r[q]):=by
 obtain ⟨g',o',k',h1,h2,_⟩:=h.at Tryz.underlying126 A1x (i:=q) (x:=A9e r[q]) (by simp [hq]) .i64
 exact ⟨_,h1,h2⟩
end Go.Proofs.YtnoengaghabmjaaGreat
/- slices.Clone. -/
namespace Go.Proofs.YtnoengaghabmjaaGreat
open Go Go.Proofs Go.Proofs.Sh
theorem B18 {H:AH} {v:Value} {l:List (List Value)} (hs:Sl H v 1 l) (hl:l.length≤1073741823) (hw:Wf H):
  Sh.Call Tryz.prog (knows 10) 96 [v] H (fun r H'=>Kept H H'∧∃ b,Buf H' 1 r l b∧∀ g,b=some g→H.next≤g):=by
 refine A4a rfl Tryz.func96 rfl (Nat.le_of_ble_eq_true rfl) ?_
 have hres:Tryz.f96.results.toList=[.tmp 2]:=rfl
 obtain ⟨a,cap,rfl,h2,h3,h4⟩:=id hs
 cases a with
 | none=>
  obtain ⟨rfl,rfl⟩:=h3 rfl
  simp only [↓Sh.dn,sx,Nat.reduceBEq,reduceCtorEq,Nat.reduceEqDiff,List.length_nil,Option.isNone_none,hres]
  exact ⟨Kept.refl hw,none,.void none,fun g h=>by cases h⟩
 | some a=>
  have hs1:=hs.grow (HGrow.new hw 1 [])
  have hk1:Kept H (H.new 1 []).2:=Kept.new hw 1 []
  obtain ⟨v',H',b',e1,e2,e3,e4⟩:=(Buf.void (H:=(H.new 1 []).2) (s:=1) (some ⟨H.next,0,some 0⟩)).append hk1.wf h2
  have happ:=app_22 (base:=some ⟨H.next,0,some 0⟩) (len:=0) (cap:=0) (hs1.srcKind Tryz.underlying22) hs1.newCells (by omega)
  have hk2:Kept (H.new 1 []).2 H':=e3.kept fun g hg h=>by cases h
  simp only [↓Sh.dn,sx,Nat.reduceBEq,reduceCtorEq,Nat.reduceEqDiff,Option.isNone_some,happ,e1,hres]
  refine ⟨hk1.trans hk2,b',by simpa using e2,fun g hg=>?_⟩
  rcases e4 with rfl | ⟨rfl,_⟩
  ·cases hg
  ·cases hg; exact Nat.le_succ _
theorem C4l {H:AH} {v:Value} {l:List (List Value)} (hs:Sl H v 1 l) (hl:l.length≤1048576) (hw:Wf H):
  Sh.Call Tryz.prog (knows 10) 96 [v] H (fun r H'=>Kept H H'∧∃ b,Buf H' 1 r l b∧∀ g,b=some g→H.next≤g):=B18 hs (Nat.le_trans hl (by decide)) hw
end Go.Proofs.YtnoengaghabmjaaGreat
