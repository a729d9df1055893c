/- A part of the proof: GraphEdges, GraphIs. -/
import Derived.Test.YtnoengaghabmjaaGreatMClose2RelHolds2
import Derived.Test.YtnoengaghabmjaaGreatMClose2RelHolds4
import Derived.Test.YtnoengaghabmjaaGreatMClose2RelHolds5
set_option linter.unusedVariables false
set_option linter.unusedSimpArgs false
/- Reading the graph of the program; maps of marks. -/
set_option maxHeartbeats 4000000
set_option maxRecDepth 20000
set_option linter.unusedSimpArgs false
set_option linter.unusedVariables false
namespace Go.Proofs.YtnoengaghabmjaaGreat
open Go Go.Proofs Go.Proofs.Sh
def natK (n:Nat):Value:=.int .i64 (n:Int)
theorem B91 (a:Nat):A9j Tryz.prog 3 (natK a)=true:=by
 unfold A9j natK
 simp only [plainKey,keyT,A7e,Tryz.underlying3,Bool.and_self]; rfl
theorem B45 (a b:Nat):eqT Tryz.prog A7e 3 (natK a) (natK b)=some (decide (a=b)):=by
 unfold natK
 show eqT Tryz.prog (19+1) _ _ _=_
 rw [B9t]
 congr 1
 exact decide_eq_decide.2 Int.ofNat_inj
def BMap (H:AH) (g:Nat) (D:List Nat):Prop:=MapIs H g natK (D.map fun t=>(t,.bool true))
theorem B5c (D:List Nat) (t:Nat):A8q (D.map fun t=>(t,Value.bool true)) t=if t∈D then some (.bool true) else none:=by
 unfold A8q
 by_cases h:t∈D
 ·rw [if_pos h]
  cases hf:(D.map fun t=>(t,Value.bool true)).find? fun p=>decide (t=p.1) with
  | none=>
   rw [List.find?_eq_none] at hf
   have:=hf (t,.bool true) (List.mem_map.2 ⟨t,h,rfl⟩)
   simp at this
  | some p=>
   have:=List.mem_of_find?_eq_some hf
   obtain ⟨u,_,rfl⟩:=List.mem_map.1 this
   rfl
 ·rw [if_neg h]
  have:(D.map fun t=>(t,Value.bool true)).find? (fun p=>decide (t=p.1))=none:=by
   rw [List.find?_eq_none]
   rintro p hp
   obtain ⟨u,hu,rfl⟩:=List.mem_map.1 hp
   simp only [decide_eq_true_eq]
   rintro rfl
   exact h hu
  rw [this]; rfl
theorem BMap.look {H:AH} {g:Nat} {D:List Nat} (h:BMap H g D) (t:Nat):A7m Tryz.prog 187 (.map (some g)) (.int .i64 (t:Int)) false H=some (.bool (decide (t∈D))):=by
 have:=MapIs.look (P:=Tryz.prog) (ok:=false) Tryz.underlying187 A55 B91 B45 h t
 rw [B5c] at this
 unfold natK at this
 rw [this]
 by_cases hd:t∈D <;> simp [hd]
theorem BMap.add {H:AH} {g:Nat} {D:List Nat} (h:BMap H g D) (hw:Wf H) {t:Nat} (ht:t∉D):∃ H',A9e Tryz.prog 187 (.map (some g)) (.int .i64 (t:Int)) (.bool true) H=some H'∧BMap H' g (D++[t])∧Chg (fun y=>y=g) H H'∧H'.next=H.next:=by
 obtain ⟨H',h1,h2,h3,h4⟩:=MapIs.add (P:=Tryz.prog) Tryz.underlying187 B91 B45 h hw (a:=t) (by rw [B5c,if_neg ht]) (.bool true)
 exact ⟨H',h1,by unfold BMap; rw [List.map_append]; exact h2,h3,h4⟩
theorem B7y {base:Nat} {H':AH} {z:Value} {os ob:Option Nat} {l:List Nat} (t:Nat) (hb:base≤H'.next) (hw:Wf H') (ho:∀ y,os=some y→y < H'.next) (hl:LB H' base os z l ob) (hn:l.length≤1073741823):
  ∃ a cap w' H4 ob', z = .slice a l.length cap ∧ A5a Tryz.prog 88 1 [(0, .int .i64 (t : Int))] H' = some (.slice (some ⟨H'.next, 0, some 0⟩) 1 1, (H'.new 1 [.int .i64 (t : Int)]).2) ∧
      A7a Tryz.prog .append [88, 88] [.slice a l.length cap, .slice (some ⟨H'.next, 0, some 0⟩) 1 1] (H'.new 1 [.int .i64 (t : Int)]).2 = some (w', H4) ∧
      LB H4 base os w' (l ++ [t]) ob' ∧ Chg (fun y => ob = some y) H' H4 ∧ ∀ y, ob' = some y → ob = some y ∨ H'.next ≤ y := by
 obtain ⟨a,cap,w',H4,ob',e1,e2,e3,e4,e5⟩:=hl.bf.push hw (x:=natC t) rfl
 rw [List.length_map] at e1 e2
 have ha:=app1_88 (H:=H') (base:=a) (len:=l.length) (cap:=cap) (x:=natC t) rfl hn
 rw [e2] at ha
 refine ⟨a,cap,w',H4,ob',e1,B0q (H:=H') (x:=.int .i64 (t:Int)) rfl rfl,ha,⟨by rw [List.map_append]; exact e3,fun y hy=>?_⟩,e4,e5⟩
 rcases e5 y hy with h1 | h1
 ·exact hl.fr y h1
 ·exact ⟨by omega,fun h2=>by have:=ho y h2; omega⟩
theorem B4p {H:AH}:anew Tryz.prog 100 H (.agg #[.int .i64 0,.int .i64 0,.int .i64 0,.int .i64 0])=some (.pointer (some ⟨H.next,0,some 0⟩),(H.new 4 [.int .i64 0,.int .i64 0,.int .i64 0,.int .i64 0]).2):=A7n (vs:=[.int .i64 0,.int .i64 0,.int .i64 0,.int .i64 0]) A7s rfl rfl
theorem A35 {H:AH} {e:Nat×Int×Int×Int} {p:Addr}:A5j Tryz.prog 100 H (.agg (A4h e).toArray) (.pointer (some p))=H.write p (A4h e):=A6z A7s rfl rfl
theorem B8n {H:AH} {e:Nat×Int×Int×Int} {x0 x1 x2 x3:Value}:(H.new 4 [x0,x1,x2,x3]).2.write ⟨H.next,0,some 0⟩ (A4h e)=some (H.new 4 (A4h e)).2:=A1q rfl
theorem ge0 {H:AH} {e:Nat×Int×Int×Int}:(H.new 4 (A4h e)).2.cell ⟨H.next,0,some 0⟩=some (.int .i64 (e.1:Int)):=A2n _ _ _
theorem ge1 {H:AH} {e:Nat×Int×Int×Int}:(H.new 4 (A4h e)).2.cell ⟨H.next,1,some 0⟩=some (.int .i64 e.2.1):=A2n _ _ _
theorem ge2 {H:AH} {e:Nat×Int×Int×Int}:(H.new 4 (A4h e)).2.cell ⟨H.next,2,some 0⟩=some (.int .i64 e.2.2.1):=A2n _ _ _
theorem geAll {H:AH} {e:Nat×Int×Int×Int}:(H.new 4 (A4h e)).2.cells ⟨H.next,0,some 0⟩ 4=some (A4h e):=(Sh.Obj.new (H:=H) 4 (A4h e)).cells (i:=0) (n:=4) (by simp [A4h])
theorem PG.row {H:AH} {g n rb:Nat} {E:List (List (Nat×Int×Int×Int))} {ends:List Int} {sv av ev cv:Value} {vals:List Value} {sigma:List ByteArray} {costs:List Int} (h:PG H g n rb E ends sv av ev cv vals sigma costs) {s:Nat} {r:List (Nat×Int×Int×Int)} (hr:E[s]?=some r):
  ∃ p w,A2c Tryz.prog 123 av (.int .i64 (s:Int))=some (.pointer (some p))∧H.cell p=some w∧Sl H w 4 (r.map A4h)∧∀ H',A7a Tryz.prog .len [126] [w] H'=some (.int .i64 (r.length:Int),H'):=by
 obtain ⟨ga,oa,ka,w,h1,h2,h3⟩:=h.gr.jag.at Tryz.underlying123 A93 (i:=s) (r:=r.map A4h) (by unfold B6j; rw [List.getElem?_map,hr]; rfl)
 exact ⟨_,w,h1,h2,h3,fun H'=>by rw [h3.len Tryz.underlying126,List.length_map]⟩
theorem PG.edge {H:AH} {w:Value} {r:List (Nat×Int×Int×Int)} (h:Sl H w 4 (r.map A4h)) {q:Nat} (hq:q < r.length):
  ∃ p,A2c Tryz.prog 126 w (.int .i64 (q:Int))=some (.pointer (some p))∧H.cells p 4=some (A4h r[q]):=by
 obtain ⟨g',o',k',h1,h2,_⟩:=h.at Tryz.underlying126 A7s (i:=q) (x:=A4h r[q]) (by simp [hq]) .i64
 exact ⟨_,h1,h2⟩
end Go.Proofs.YtnoengaghabmjaaGreat
/- The program's graph of a net: its edges by numbers. -/
namespace Go.Proofs.YtnoengaghabmjaaGreat
open Go Go.Proofs Go.Proofs.Sh
def A9v (N:NetD):List (List (Nat×Int×Int×Int)):=rowsOf ArcD.fr (fun a=>(a.to.toNat,A6k N.sigma a.inn,A6k N.sigma a.out,a.cost)) N.states.toNat N.arcs
theorem B0k {N:NetD} (hok:A2r N):B6j (A9v N)=A52 N N.arcs:=by
 unfold B6j A9v A52 rowsOf
 rw [List.map_map]
 refine List.map_congr_left fun s _=>?_
 simp only [Function.comp,List.map_map]
 refine List.map_congr_left fun a ha=>?_
 have:=hok.arc a (List.mem_filter.1 ha).1
 simp only [Function.comp,A4h,B6s]
 rw [show ((a.to.toNat:Nat):Int)=a.to by omega]
theorem B5w {l:List ByteArray} {x:ByteArray} (ha:Asc l):A6k l x < 0↔x∉l:=by
 have:=A67 (x:=x) ha
 rw [← A4g]
 cases h:A8m l x with
 | true=>rw [h] at this; simpa using this
 | false=>rw [h] at this; simpa using this
theorem B33 {N:NetD} (hok:A2r N):A5p∉N.sigma:=by
 intro h
 have:=hok.sym _ h
 have h0:A8o A5p=false:=rfl
 rw [h0] at this; cases this
theorem ends_gr {N:NetD} (hok:A2r N) (t:Nat):0 < (A2m N N.ends).getD t 0↔N.isEnd t:=by
 unfold NetD.isEnd A2m
 rw [List.getD_eq_getElem?_getD,List.getElem?_map]
 by_cases ht:t < N.states.toNat
 ·rw [A7g ht]
  simp only [Option.map_some,Option.getD_some,List.length_map]
  rw [show (0:Int) < ((N.ends.filter fun a=>decide (a.state=(t:Int))).length:Int)↔0 < (N.ends.filter fun a=>decide (a.state=(t:Int))).length by omega,List.length_pos_iff_exists_mem]
  simp only [List.mem_filter,decide_eq_true_eq]
 ·rw [List.getElem?_eq_none (by rw [A2e]; omega)]
  simp only [Option.map_none,Option.getD_none,Int.lt_irrefl,false_iff,not_exists,not_and]
  intro e he h
  have:=hok.fin e he
  omega
theorem Gr.pg {H:AH} {base g:Nat} {N:NetD} (hok:A2r N) (h:Gr H base g N.sigma (A52 N N.arcs) (A2m N N.ends) (A4m N N.ends)):
  ∃ sv av ev cv vals,PG H g N.states.toNat 60000 (A9v N) (A2m N N.ends) sv av ev cv vals N.sigma (A4m N N.ends):=by
 obtain ⟨sv,av,ev,cv,vals,hR⟩:=h.read
 rw [← B0k hok] at hR
 have h1:=hok.st1
 have h2:=hok.st2
 refine ⟨sv,av,ev,cv,vals,hR,by unfold A9v; rw [A2e],by unfold A2m; rw [List.length_map,A2e],by omega,by omega,fun s r hr=>⟨Nat.le_trans (A9y hr) hok.ar,fun e he=>?_⟩⟩
 obtain ⟨a,ha,_,rfl⟩:=(A0v hr e).1 he
 have:=hok.arc a ha
 show a.to.toNat < _
 omega
def ixN (sigma:List ByteArray) (x:ByteArray):Nat:=(A6k sigma x).toNat
theorem B8b {sigma:List ByteArray} (ha:Asc sigma) {x:ByteArray} (hx:x∈sigma):∃ k:Nat,sigma[k]?=some x∧A6k sigma x=(k:Int)∧ixN sigma x=k:=by
 obtain ⟨k,hk⟩:=List.mem_iff_getElem?.1 hx
 have:=A22 ha hk
 exact ⟨k,hk,this,by unfold ixN; rw [this]; rfl⟩
theorem C8a {sigma:List ByteArray} (ha:Asc sigma) (x y:ByteArray) (hx:x∈sigma) (hy:y∈sigma) (h:ixN sigma x=ixN sigma y):x=y:=by
 obtain ⟨k,h1,_,h2⟩:=B8b ha hx
 obtain ⟨j,h3,_,h4⟩:=B8b ha hy
 rw [h2,h4] at h
 rw [h,h3] at h1
 exact (Option.some.inj h1).symm
theorem B50 {sigma:List ByteArray} (ha:Asc sigma) {w:List ByteArray} (hw:∀ x∈w,x∈sigma):w.map (B1y sigma)=(w.map (ixN sigma)).map natC:=by
 rw [List.map_map]
 refine List.map_congr_left fun x hx=>?_
 obtain ⟨k,_,h1,h2⟩:=B8b ha (hw x hx)
 show [Value.int .i64 (A6k sigma x)]=[.int .i64 ((ixN sigma x:Nat):Int)]
 rw [h1,h2]
end Go.Proofs.YtnoengaghabmjaaGreat
