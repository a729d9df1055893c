/- A part of the proof: AutoTree, CloneInt, SortSetInt, GraphRead, PairMap, GraphNet, GraphArc, GraphEnd, GraphX, GraphAdd, CmpLessStr, BinarySearch, PlaceWord, GraphB, GraphOf, GraphBackE, GraphClosed, IndexFuncNat, GraphRun, GraphBack, GraphFrom, GraphCheck, IndexFuncArc, Priced, AutoValidate, AutoAcc, RowsTotal, AutoReverse, AutoOf, StrMap, StrMaps, RefOf, Same. -/
import Derived.Test.YtcgbiedfbacgpaaGreatMClose2AutoOf5
import Derived.Test.YtcgbiedfbacgpaaGreatMClose2AutoOf6
import Derived.Test.YtcgbiedfbacgpaaGreatMClose2AutoOf2
import Derived.Test.YtcgbiedfbacgpaaGreatMClose2AutoOf1
set_option linter.unusedVariables false
set_option linter.unusedSimpArgs false
/- The net of a tree of words: what it accepts. -/
set_option maxHeartbeats 4000000
set_option maxRecDepth 20000
set_option linter.unusedSimpArgs false
set_option linter.unusedVariables false
namespace Go.Proofs.YtcgbiedfbacgpaaGreat
open Go Go.Proofs Go.Proofs.Sh
structure B8m (sigma:List ByteArray) (W:List (List ByteArray)) (M:NetD):Prop where
 sg:M.sigma=sigma
 st:M.states=((A6i [] W).1.length:Int)+1
 al:M.arcs.length≤60000
 arc:∀ a,a∈M.arcs↔∃ (k s:Nat) (x:ByteArray),(A6i [] W).1[k]?=some (s,x)∧a=⟨(s:Int),x,x,(k:Int)+1,0⟩
 el:M.ends.length≤60000
 fin:∀ e,e∈M.ends↔∃ t:Nat,t∈(A6i [] W).2∧e=⟨(t:Int),0⟩
section
variable {sigma:List ByteArray} {W:List (List ByteArray)} {M:NetD}
theorem tree_acc (h:B8m sigma W M) (hs:A1h sigma=0) (hW:∀ w∈W,∀ x∈w,x∈sigma) (h3:(A6i [] W).1.length+1≤3000):A2t M=0:=by
 obtain ⟨hsrc,hend⟩:=B9h (W:=W) (E:=[]) (fun k p hp=>by simp at hp)
 have hsym:=A0y (S:=fun x=>x∈sigma) (W:=W) (E:=[]) (fun p hp=>by cases hp) hW
 have hst:=h.st
 have hal:=h.al
 have hel:=h.el
 have hsy:∀ x,x∈sigma→A3l M x=false:=fun x hx=>by
  unfold A3l
  rw [h.sg]
  simp [A0g.2 hx]
 have hn:A5m M=0:=by
  unfold A5m
  rw [if_neg,if_neg,if_neg,if_neg,if_neg]
  ·intro h1
   obtain ⟨e,he,hb⟩:=List.any_eq_true.1 h1
   obtain ⟨t,ht,rfl⟩:=(h.fin e).1 he
   have:=hend t ht
   simp only [A1y,Bool.or_eq_true,decide_eq_true_eq] at hb
   omega
  ·intro h1
   obtain ⟨a,ha,hb⟩:=List.any_eq_true.1 h1
   obtain ⟨k,s,x,h2,rfl⟩:=(h.arc a).1 ha
   have h4:=hsrc k _ h2
   have h5:=(List.getElem?_eq_some_iff.1 h2).1
   have h6:=hsym _ (List.mem_of_getElem? h2)
   simp only [A3p,Bool.or_eq_true,decide_eq_true_eq,hsy x h6,Bool.false_eq_true,or_false] at hb
   simp only at h4
   omega
  ·omega
  ·rw [h.sg]; simp [hs]
  ·simp only [A3u,Bool.or_eq_true,decide_eq_true_eq]; omega
 unfold A2t
 rw [if_neg (by simp [hn]),if_neg,if_pos]
 ·simp only [NetD.free,Bool.and_eq_true,List.all_eq_true,decide_eq_true_eq]
  refine ⟨fun a ha=>?_,fun e he=>?_⟩
  ·obtain ⟨k,s,x,_,rfl⟩:=(h.arc a).1 ha; rfl
  ·obtain ⟨t,_,rfl⟩:=(h.fin e).1 he; rfl
 ·intro hu
  unfold B2x at hu
  obtain ⟨a,ha,hb⟩:=List.any_eq_true.1 hu
  obtain ⟨k,s,x,_,rfl⟩:=(h.arc a).1 ha
  simp at hb
theorem B8d (h:B8m sigma W M) (x:ByteArray) (s t:Nat):M.goes x s t↔∃ k,(A6i [] W).1[k]?=some (s,x)∧t=k+1:=by
 unfold NetD.goes
 constructor
 ·rintro ⟨a,ha,h1,h2,h3⟩
  obtain ⟨k,s',x',h4,rfl⟩:=(h.arc a).1 ha
  simp only at h1 h2 h3
  have:s'=s:=by omega
  subst this h2
  exact ⟨k,h4,by omega⟩
 ·rintro ⟨k,h1,rfl⟩
  exact ⟨_,(h.arc _).2 ⟨k,s,x,h1,rfl⟩,rfl,rfl,by simp⟩
theorem B9v (h:B8m sigma W M) (hW:∀ w∈W,∀ x∈w,x∈sigma) (hno:A2b∉sigma) (w:List ByteArray):A16 M w↔w∈W:=by
 have hsym:=A0y (S:=fun x=>x∈sigma) (W:=W) (E:=[]) (fun p hp=>by cases hp) hW
 have heps:∀ s t,¬M.goes A2b s t:=fun s t hg=>by
  obtain ⟨k,h1,_⟩:=(B8d h A2b s t).1 hg
  exact hno (hsym _ (List.mem_of_getElem? h1))
 have hclo:∀ {S:Nat→Prop} {t:Nat},Clo (M.goes A2b) S t↔S t:=fun {S t}=>A50 fun s t _ h2=>absurd h2 (heps s t)
 have hrun:∀ (w:List ByteArray) (S:Nat→Prop) (t:Nat),RunS (M.goes A2b) M.goes S w t↔∃ s,S s∧PathT (A6i [] W).1 s w t:=by
  intro w
  induction w with
  | nil=>
   intro S t
   constructor
   ·intro h1; exact ⟨t,h1,.nil t⟩
   ·rintro ⟨s,h1,h2⟩; cases h2; exact h1
  | cons x w ih=>
   intro S t
   show RunS _ _ _ w t↔_
   rw [ih]
   constructor
   ·rintro ⟨u,h1,h2⟩
    obtain ⟨s,h3,h4⟩:=hclo.1 h1
    obtain ⟨k,h5,rfl⟩:=(B8d h x s u).1 h4
    exact ⟨s,h3,.cons h5 h2⟩
   ·rintro ⟨s,h1,h2⟩
    cases h2 with
    | @cons _ k _ _ _ h3 h4=>exact ⟨k+1,hclo.2 ⟨s,h1,(B8d h x s (k+1)).2 ⟨k,h3,rfl⟩⟩,h4⟩
 have hone:(∃ t,M.run w t∧M.isEnd t)↔w∈W:=by
  rw [← B65]
  constructor
  ·rintro ⟨t,h1,e,he,h2⟩
   obtain ⟨s,h3,h4⟩:=(hrun w _ t).1 h1
   have hs:s=0:=(hclo (S:=fun s=>s=0)).1 h3
   subst hs
   obtain ⟨t',h5,rfl⟩:=(h.fin e).1 he
   have:t'=t:=by simp only at h2; omega
   subst this
   exact ⟨t',h5,h4⟩
  ·rintro ⟨t,h1,h2⟩
   exact ⟨t,(hrun w _ t).2 ⟨0,(hclo (S:=fun s=>s=0)).2 rfl,h2⟩,_,(h.fin _).2 ⟨t,h1,rfl⟩,rfl⟩
 unfold A16
 rw [hone]
 constructor
 ·exact fun h1=>h1.2
 ·intro h1
  exact ⟨fun x hx h2=>hno (h2 ▸ hW w h1 x hx),h1⟩
end
end Go.Proofs.YtcgbiedfbacgpaaGreat
/- slices.Clone. -/
namespace Go.Proofs.YtcgbiedfbacgpaaGreat
open Go Go.Proofs Go.Proofs.Sh
end Go.Proofs.YtcgbiedfbacgpaaGreat
/- slices.Sort. -/
namespace Go.Proofs.YtcgbiedfbacgpaaGreat
open Go Go.Proofs Go.Proofs.Sh
end Go.Proofs.YtcgbiedfbacgpaaGreat
/- Reading the graph of the program; maps of marks. -/
namespace Go.Proofs.YtcgbiedfbacgpaaGreat
open Go Go.Proofs Go.Proofs.Sh
def natK (n:Nat):Value:=.int .i64 (n:Int)
theorem C8g (a:Nat):A0n Tryz.prog 3 (natK a)=true:=by
 unfold A0n natK
 simp only [plainKey,keyT,A4g,Tryz.underlying3,Bool.and_self]; rfl
theorem C4x (a b:Nat):eqT Tryz.prog A4g 3 (natK a) (natK b)=some (decide (a=b)):=by
 unfold natK
 show eqT Tryz.prog (19+1) _ _ _=_
 rw [B5b]
 congr 1
 exact decide_eq_decide.2 Int.ofNat_inj
def BMap (H:AH) (g:Nat) (D:List Nat):Prop:=MapIs H g natK (D.map fun t=>(t,.bool true))
theorem B8l (D:List Nat) (t:Nat):A7p (D.map fun t=>(t,Value.bool true)) t=if t∈D then some (.bool true) else none:=by
 unfold A7p
 by_cases h:t∈D
 ·rw [if_pos h]
  cases hf:(D.map fun t=>(t,Value.bool true)).find? fun p=>decide (t=p.1) with
  | none=>
   rw [List.find?_eq_none] at hf
   have:=hf (t,.bool true) (List.mem_map.2 ⟨t,h,rfl⟩)
   simp at this
  | some p=>
   have:=List.mem_of_find?_eq_some hf
   obtain ⟨u,_,rfl⟩:=List.mem_map.1 this
   rfl
 ·rw [if_neg h]
  have:(D.map fun t=>(t,Value.bool true)).find? (fun p=>decide (t=p.1))=none:=by
   rw [List.find?_eq_none]
   rintro p hp
   obtain ⟨u,hu,rfl⟩:=List.mem_map.1 hp
   simp only [decide_eq_true_eq]
   rintro rfl
   exact h hu
  rw [this]; rfl
theorem BMap.look {H:AH} {g:Nat} {D:List Nat} (h:BMap H g D) (t:Nat):A2q Tryz.prog 87 (.map (some g)) (.int .i64 (t:Int)) false H=some (.bool (decide (t∈D))):=by
 have:=MapIs.look (P:=Tryz.prog) (ok:=false) Tryz.underlying87 B3g C8g C4x h t
 rw [B8l] at this
 unfold natK at this
 rw [this]
 by_cases hd:t∈D <;> simp [hd]
theorem BMap.add {H:AH} {g:Nat} {D:List Nat} (h:BMap H g D) (hw:Wf H) {t:Nat} (ht:t∉D):∃ H',A2g Tryz.prog 87 (.map (some g)) (.int .i64 (t:Int)) (.bool true) H=some H'∧BMap H' g (D++[t])∧Chg (fun y=>y=g) H H'∧H'.next=H.next:=by
 obtain ⟨H',h1,h2,h3,h4⟩:=MapIs.add (P:=Tryz.prog) Tryz.underlying87 C8g C4x h hw (a:=t) (by rw [B8l,if_neg ht]) (.bool true)
 exact ⟨H',h1,by unfold BMap; rw [List.map_append]; exact h2,h3,h4⟩
theorem geZero {H:AH}:anew Tryz.prog 95 H (.agg #[.int .i64 0,.int .i64 0,.int .i64 0,.int .i64 0])=some (.pointer (some ⟨H.next,0,some 0⟩),(H.new 4 [.int .i64 0,.int .i64 0,.int .i64 0,.int .i64 0]).2):=A9p (vs:=[.int .i64 0,.int .i64 0,.int .i64 0,.int .i64 0]) A97 rfl rfl
theorem geStore {H:AH} {e:Nat×Int×Int×Int} {p:Addr}:A3e Tryz.prog 95 H (.agg (A4q e).toArray) (.pointer (some p))=H.write p (A4q e):=A6r A97 rfl rfl
theorem geOver {H:AH} {e:Nat×Int×Int×Int} {x0 x1 x2 x3:Value}:(H.new 4 [x0,x1,x2,x3]).2.write ⟨H.next,0,some 0⟩ (A4q e)=some (H.new 4 (A4q e)).2:=A2r rfl
theorem geAll {H:AH} {e:Nat×Int×Int×Int}:(H.new 4 (A4q e)).2.cells ⟨H.next,0,some 0⟩ 4=some (A4q e):=(Sh.Obj.new (H:=H) 4 (A4q e)).cells (i:=0) (n:=4) (by simp [A4q])
theorem PG.row {H:AH} {g n rb:Nat} {E:List (List (Nat×Int×Int×Int))} {ends:List Int} {sv av ev cv:Value} {vals:List Value} {sigma:List ByteArray} {costs:List Int} (h:PG H g n rb E ends sv av ev cv vals sigma costs) {s:Nat} {r:List (Nat×Int×Int×Int)} (hr:E[s]?=some r):
  ∃ p w,A7b Tryz.prog 68 av (.int .i64 (s:Int))=some (.pointer (some p))∧H.cell p=some w∧Sl H w 4 (r.map A4q)∧∀ H',A2a Tryz.prog .len [92] [w] H'=some (.int .i64 (r.length:Int),H'):=by
 obtain ⟨ga,oa,ka,w,h1,h2,h3⟩:=h.gr.jag.at Tryz.underlying68 B6c (i:=s) (r:=r.map A4q) (by unfold A8p; rw [List.getElem?_map,hr]; rfl)
 exact ⟨_,w,h1,h2,h3,fun H'=>by rw [h3.len Tryz.underlying92,List.length_map]⟩
theorem PG.edge {H:AH} {w:Value} {r:List (Nat×Int×Int×Int)} (h:Sl H w 4 (r.map A4q)) {q:Nat} (hq:q < r.length):
  ∃ p,A7b Tryz.prog 92 w (.int .i64 (q:Int))=some (.pointer (some p))∧H.cells p 4=some (A4q r[q]):=by
 obtain ⟨g',o',k',h1,h2,_⟩:=h.at Tryz.underlying92 A97 (i:=q) (x:=A4q r[q]) (by simp [hq]) .i64
 exact ⟨_,h1,h2⟩
end Go.Proofs.YtcgbiedfbacgpaaGreat
/- A map of pairs of numbers. -/
namespace Go.Proofs.YtcgbiedfbacgpaaGreat
open Go Go.Proofs Go.Proofs.Sh
def B8j (p:Nat×Nat):Value:=.agg #[.int .i64 (p.1:Int),.int .i64 (p.2:Int)]
theorem C2b (a b:Nat×Nat):eqT Tryz.prog A4g 79 (B8j a) (B8j b)=some (decide (a=b)):=by
 show eqT Tryz.prog (19+1) _ _ _=_
 obtain ⟨a0,a1⟩:=a
 obtain ⟨b0,b1⟩:=b
 rw [eqT.eq_def]
 have hr:List.range 2=[0,1]:=rfl
 simp only [B8j,Tryz.underlying79,A2f,Option.bind_some,hr,B6e,apart,B57,Nat.zero_mul,Nat.one_mul,List.getElem?_cons_zero,List.getElem?_cons_succ,B5b (d:=18)]
 have e0:((a0:Int)=(b0:Int))↔a0=b0:=Int.ofNat_inj
 have e1:((a1:Int)=(b1:Int))↔a1=b1:=Int.ofNat_inj
 simp only [e0,e1,Prod.mk.injEq]
 by_cases h0:a0=b0
 ·by_cases h1:a1=b1
  ·simp [h0,h1]
  ·simp [h0,h1]
 ·simp [h0]
theorem B4w (a:Nat×Nat):A0n Tryz.prog 79 (B8j a)=true:=by
 obtain ⟨a0,a1⟩:=a
 unfold A0n
 rw [Bool.and_eq_true]
 refine ⟨rfl,?_⟩
 show keyT Tryz.prog (19+1) _ _=true
 rw [keyT.eq_def]
 have hk:∀ n:Int,keyT Tryz.prog 19 3 (.int .i64 n)=true:=fun n=>by
  show keyT Tryz.prog (18+1) _ _=true
  rw [keyT.eq_def]
  simp only [Tryz.underlying3]
 have hr:List.range 2=[0,1]:=rfl
 simp only [B8j,Tryz.underlying79,A2f,hr,List.all_cons,List.all_nil,apart,B57,Nat.zero_mul,Nat.one_mul,List.getElem?_cons_zero,List.getElem?_cons_succ,hk,Bool.and_self]
theorem B23 (a b:Nat):A7j Tryz.prog 79 [(0,.int .i64 (a:Int)),(1,.int .i64 (b:Int))]=some (B8j (a,b)):=by
 unfold A7j
 rw [B06,Tryz.underlying79]
 have va:∀ xs:Array Value,A7a (.agg xs)=xs.toList:=fun _=>rfl
 have hi:∀ n:Int,isCell (.int .i64 n)=true:=fun _=>rfl
 simp [A2f,A1s,A8a (hi _),va,hi,setCells,B8j,A6a,A1c]
def mapE (k:Nat):List (Nat×Nat)→List ((Nat×Nat)×Value)
 | []=>[]
 | p :: E=>(p,.int .i64 ((k+1:Nat):Int)) :: mapE (k+1) E
theorem C6c:∀ (k:Nat) (E:List (Nat×Nat)) (p:Nat×Nat),mapE k (E++[p])=mapE k E++[(p,.int .i64 ((k+E.length+1:Nat):Int))]
 | k,[],p=>rfl
 | k,q :: E,p=>by
  simp only [List.cons_append,mapE,C6c (k+1) E p,List.length_cons]
  rw [show k+1+E.length+1=k+(E.length+1)+1 by omega]
theorem B1q:∀ (k:Nat) (E:List (Nat×Nat)) (p:Nat×Nat),A7p (mapE k E) p=(E.findIdx? fun q=>decide (p=q)).map fun i=>.int .i64 ((k+i+1:Nat):Int)
 | k,[],p=>rfl
 | k,q :: E,p=>by
  have ih:=B1q (k+1) E p
  unfold A7p at ih ⊢
  simp only [mapE,List.find?_cons,List.findIdx?_cons]
  cases h:decide (p=q) with
  | true=>simp
  | false=>
   simp only [ih,Bool.false_eq_true,if_false]
   cases E.findIdx? fun q=>decide (p=q) with
   | none=>rfl
   | some i=>simp only [Option.map_some]; rw [show k+1+i+1=k+(i+1)+1 by omega]
def TMap (H:AH) (g:Nat) (E:List (Nat×Nat)):Prop:=MapIs H g B8j (mapE 0 E)
theorem TMap.look {H:AH} {g:Nat} {E:List (Nat×Nat)} (h:TMap H g E) (s x:Nat):
  A2q Tryz.prog 75 (.map (some g)) (B8j (s,x)) true H=some (match E.findIdx? (fun p=>decide ((s,x)=p)) with | some k=>.tuple #[.int .i64 ((k+1:Nat):Int),.bool true] | none=>.tuple #[.int .i64 0,.bool false]):=by
 have:=MapIs.look (P:=Tryz.prog) (ok:=true) Tryz.underlying75 A01 B4w C2b h (s,x)
 rw [this,B1q]
 cases E.findIdx? (fun p=>decide ((s,x)=p)) with
 | none=>rfl
 | some k=>simp only [Option.map_some,Option.getD_some,Option.isSome_some,cond_true,Nat.zero_add]
theorem TMap.add {H:AH} {g:Nat} {E:List (Nat×Nat)} (h:TMap H g E) (hw:Wf H) {s x:Nat} (hn:E.findIdx? (fun p=>decide ((s,x)=p))=none):
  ∃ H',A2g Tryz.prog 75 (.map (some g)) (B8j (s,x)) (.int .i64 ((E.length+1:Nat):Int)) H=some H'∧TMap H' g (E++[(s,x)])∧Chg (fun y=>y=g) H H'∧H'.next=H.next:=by
 obtain ⟨H',h1,h2,h3,h4⟩:=MapIs.add (P:=Tryz.prog) Tryz.underlying75 B4w C2b h hw (a:=(s,x)) (by rw [B1q,hn]; rfl) (.int .i64 ((E.length+1:Nat):Int))
 refine ⟨H',h1,?_,h3,h4⟩
 unfold TMap
 rw [C6c,Nat.zero_add]
 exact h2
end Go.Proofs.YtcgbiedfbacgpaaGreat
/- (*graph.Graph).Net: the net of a graph. -/
namespace Go.Proofs.YtcgbiedfbacgpaaGreat
open Go Go.Proofs Go.Proofs.Sh
def A6y (sigma:List ByteArray) (k:Int):ByteArray:=if k < 0 then ⟨#[]⟩ else sigma.getD k.toNat ⟨#[]⟩
theorem B9z {H:AH} {g:Nat} {sv av ev cv:Value} {vals:List Value} {sigma:List ByteArray} {rows:List (List (List Value))} {ends costs:List Int} (h:GrR H g sv av ev cv vals sigma rows ends costs) {k:Int} (hk:k < sigma.length):
  Sh.Call Tryz.prog (knows 7) 81 [.pointer (some ⟨g,0,some 0⟩),.int .i64 k] H (fun r H'=>H'=H∧r=.string (A6y sigma k)):=by
 refine A3a rfl Tryz.func81 rfl (Nat.le_of_ble_eq_true rfl) ?_
 have hres:Tryz.f81.results.toList=[.tmp 4]:=rfl
 have hc:=h.arr.cell 0
 by_cases h0:k < 0
 ·have:A6y sigma k=⟨#[]⟩:=if_pos h0
  simp only [↓Sh.dn,sx,Nat.reduceBEq,reduceCtorEq,Nat.reduceEqDiff,h0,decide_true,hres,this]
 ·obtain ⟨i,rfl⟩:∃ i:Nat,k=(i:Int):=⟨k.toNat,by omega⟩
  have hi:i < sigma.length:=by omega
  have:A6y sigma (i:Int)=sigma[i]:=by unfold A6y; rw [if_neg h0]; simp [List.getD,hi]
  obtain ⟨p,hia,hcc⟩:=Sl.elem (s:=1) Tryz.underlying22 A6h h.sg (i:=i) (u:=.string sigma[i]) (by rw [List.getElem?_map,List.getElem?_eq_getElem hi]; rfl)
  simp only [↓Sh.dn,sx,Nat.reduceBEq,reduceCtorEq,Nat.reduceEqDiff,h0,decide_false,hc,hia,hcc,hres,this]
abbrev GE:=Nat×Int×Int×Int
def geK (e:GE):Value:=.agg (A4q e).toArray
theorem held_ge:Tryz.prog.stoodInHeld 95=false:=by kernel_rfl
theorem geK_eq (a b:GE):eqT Tryz.prog A4g 95 (geK a) (geK b)=some (decide (a=b)):=by
 show eqT Tryz.prog (19+1) _ _ _=_
 obtain ⟨a0,a1,a2,a3⟩:=a
 obtain ⟨b0,b1,b2,b3⟩:=b
 rw [eqT.eq_def]
 simp only [geK,A4q,Tryz.underlying95,held_ge,cond_false,eqFields,apart,B57,List.getElem?_cons_zero,List.getElem?_cons_succ,Option.bind_some,B5b (d:=18)]
 have s1:("To" == "_")=false:=rfl
 have s2:("In" == "_")=false:=rfl
 have s3:("Out" == "_")=false:=rfl
 have s4:("Cost" == "_")=false:=rfl
 simp only [s1,s2,s3,s4,cond_false]
 have e0:((a0:Int)=(b0:Int))↔a0=b0:=Int.ofNat_inj
 simp only [e0,Prod.mk.injEq]
 by_cases h0:a0=b0
 ·by_cases h1:a1=b1
  ·by_cases h2:a2=b2
   ·by_cases h3:a3=b3
    ·simp [h0,h1,h2,h3]
    ·simp [h0,h1,h2,h3]
   ·simp [h0,h1,h2]
  ·simp [h0,h1]
 ·simp [h0]
theorem C4u (a:GE):A0n Tryz.prog 95 (geK a)=true:=by
 obtain ⟨a0,a1,a2,a3⟩:=a
 unfold A0n
 rw [Bool.and_eq_true]
 refine ⟨rfl,?_⟩
 show keyT Tryz.prog (19+1) _ _=true
 rw [keyT.eq_def]
 simp only [geK,A4q,Tryz.underlying95]
 have hk:∀ n:Int,keyT Tryz.prog 19 3 (.int .i64 n)=true:=fun n=>by
  show keyT Tryz.prog (18+1) _ _=true
  rw [keyT.eq_def]
  simp only [Tryz.underlying3]
 simp only [List.all_cons,List.all_nil,apart,B57,List.getElem?_cons_zero,List.getElem?_cons_succ,hk,Bool.or_true,Bool.and_self]
def EMap (H:AH) (g:Nat) (D:List GE):Prop:=MapIs H g geK (D.map fun t=>(t,.bool true))
theorem B4n {α:Type} [DecidableEq α] (v:Value) (D:List α) (t:α):A7p (D.map fun t=>(t,v)) t=if t∈D then some v else none:=by
 unfold A7p
 by_cases h:t∈D
 ·rw [if_pos h]
  cases hf:(D.map fun t=>(t,v)).find? fun p=>decide (t=p.1) with
  | none=>
   rw [List.find?_eq_none] at hf
   have:=hf (t,v) (List.mem_map.2 ⟨t,h,rfl⟩)
   simp at this
  | some p=>
   have:=List.mem_of_find?_eq_some hf
   obtain ⟨u,_,rfl⟩:=List.mem_map.1 this
   rfl
 ·rw [if_neg h]
  have:(D.map fun t=>(t,v)).find? (fun p=>decide (t=p.1))=none:=by
   rw [List.find?_eq_none]
   rintro p hp
   obtain ⟨u,hu,rfl⟩:=List.mem_map.1 hp
   simp only [decide_eq_true_eq]
   rintro rfl
   exact h hu
  rw [this]; rfl
theorem EMap.look {H:AH} {g:Nat} {D:List GE} (h:EMap H g D) (t:GE):A2q Tryz.prog 123 (.map (some g)) (.agg (A4q t).toArray) false H=some (.bool (decide (t∈D))):=by
 have:=MapIs.look (P:=Tryz.prog) (ok:=false) Tryz.underlying123 B3g C4u geK_eq h t
 rw [B4n] at this
 unfold geK at this
 rw [this]
 by_cases hd:t∈D <;> simp [hd]
theorem EMap.add {H:AH} {g:Nat} {D:List GE} (h:EMap H g D) (hw:Wf H) {t:GE} (ht:t∉D):∃ H',A2g Tryz.prog 123 (.map (some g)) (.agg (A4q t).toArray) (.bool true) H=some H'∧EMap H' g (D++[t])∧Chg (fun y=>y=g) H H'∧H'.next=H.next:=by
 obtain ⟨H',h1,h2,h3,h4⟩:=MapIs.add (P:=Tryz.prog) Tryz.underlying123 C4u geK_eq h hw (a:=t) (by rw [B4n,if_neg ht]) (.bool true)
 exact ⟨H',h1,by unfold EMap; rw [List.map_append]; exact h2,h3,h4⟩
structure NB (H:AH) (base gb:Nat) (cl av ev:Value) (os oa oe:Option Nat) (n:Nat) (sigma:List ByteArray) (arcs:List ArcD) (es:List EndD):Prop where
 bx:Arr H gb 0 4 [cl,.int .i64 (n:Int),av,ev]
 sg:Buf H 1 cl (sigma.map A5a) os
 ar:Buf H 5 av (arcs.map ArcD.cells) oa
 en:Buf H 2 ev (es.map EndD.cells) oe
 b0:base≤gb
 bs:∀ y,os=some y→base≤y∧y≠gb
 ba:∀ y,oa=some y→base≤y∧y≠gb∧os≠some y
 be:∀ y,oe=some y→base≤y∧y≠gb∧os≠some y∧oa≠some y
section
variable {H H':AH} {base gb n:Nat} {cl av ev:Value} {os oa oe:Option Nat} {sigma:List ByteArray} {arcs:List ArcD} {es:List EndD}
theorem NB.chg (h:NB H base gb cl av ev os oa oe n sigma arcs es) (hw:Wf H) {X:Nat→Prop} (hc:Chg X H H') (hx:∀ y,X y→y≠gb∧os≠some y∧oa≠some y∧oe≠some y):NB H' base gb cl av ev os oa oe n sigma arcs es:=
 { h with
  bx:=h.bx.keep (hc.old gb (h.bx.lt hw) fun hy=>(hx gb hy).1 rfl)
  sg:=h.sg.chg hw hc fun y hy hX=>(hx y hX).2.1 hy
  ar:=h.ar.chg hw hc fun y hy hX=>(hx y hX).2.2.1 hy
  en:=h.en.chg hw hc fun y hy hX=>(hx y hX).2.2.2 hy }
theorem NB.kept (h:NB H base gb cl av ev os oa oe n sigma arcs es) (hw:Wf H) (hk:Kept H H'):NB H' base gb cl av ev os oa oe n sigma arcs es:=h.chg hw (hk.chg (X:=none')) fun y hy=>hy.elim
theorem NB.pushArc (h:NB H base gb cl av ev os oa oe n sigma arcs es) (hw:Wf H) (a:ArcD) (hl:arcs.length≤1073741823):
  ∃ b cap av' H1 H2 oa',av=.slice b arcs.length cap∧A4a Tryz.prog 23 1 [(0,.agg a.cells.toArray)] H=some (.slice (some ⟨H.next,0,some 0⟩) 1 1,(H.new 5 a.cells).2)∧
   A2a Tryz.prog .append [23,23] [.slice b arcs.length cap,.slice (some ⟨H.next,0,some 0⟩) 1 1] (H.new 5 a.cells).2=some (av',H1)∧
   A3e Tryz.prog 23 H1 av' (.pointer (some ⟨gb,2,some 0⟩))=some H2∧NB H2 base gb cl av' ev os oa' oe n sigma (arcs++[a]) es∧Chg (fun y=>base≤y∧(y=gb∨oa=some y)) H H2∧∀ y,oa'=some y→oa=some y∨H.next≤y:=by
 obtain ⟨b,cap,av',H1,oa',rfl,e1,e2,e3,e4⟩:=h.ar.push hw (x:=a.cells) rfl
 rw [List.length_map] at e1
 have hbs:=C6u (H:=H) (x:=.agg a.cells.toArray) rfl rfl
 have va:∀ xs:Array Value,A7a (.agg xs)=xs.toList:=fun _=>rfl
 simp only [va] at hbs
 have ha:=app1_23 (H:=H) (base:=b) (len:=arcs.length) (cap:=cap) (x:=a.cells) rfl hl
 rw [e1] at ha
 have hgb:=h.bx.lt hw
 have bx1:=h.bx.keep (e3.old gb hgb fun hy=>(h.ba gb hy).2.1 rfl)
 obtain ⟨H2,w1,ar1,v1,z1⟩:=bx1.write e3.wf (i:=2) (vs:=[av']) (by simp)
 have sc:setCells [cl,.int .i64 (n:Int),.slice b arcs.length cap,ev] 2 [av']=[cl,.int .i64 (n:Int),av',ev]:=rfl
 rw [List.length_map] at ar1
 rw [sc] at ar1
 have st:A3e Tryz.prog 23 H1 av' (.pointer (some ⟨gb,2,some 0⟩))=some H2:=by rw [A4d C0v e2.isCell,w1]
 have old:∀ y,oa'=some y→oa=some y∨H.next≤y:=e4
 have z0:Chg (fun y=>base≤y∧(y=gb∨oa=some y)) H H1:=e3.weak fun y hy=>⟨(h.ba y hy).1,.inr hy⟩
 have z2:Chg (fun y=>base≤y∧(y=gb∨oa=some y)) H1 H2:=z1.weak fun y hy=>⟨by rw [hy]; exact h.b0,.inl hy⟩
 refine ⟨b,cap,av',H1,H2,oa',by rw [List.length_map],hbs,ha,st,⟨ar1,?_,?_,?_,h.b0,h.bs,fun y hy=>?_,fun y hy=>?_⟩,z0.trans z2,old⟩
 ·exact (h.sg.chg hw e3 fun y hy hya=>(h.ba y hya).2.2 hy).chg e3.wf z1 fun y hy hyg=>(h.bs y hy).2 hyg
 ·rw [List.map_append]
  refine e2.chg e3.wf z1 fun y hy hyg=>?_
  rcases old y hy with h1 | h1
  ·exact (h.ba y h1).2.1 hyg
  ·omega
 ·exact (h.en.chg hw e3 fun y hy hya=>(h.be y hy).2.2.2 hya).chg e3.wf z1 fun y hy hyg=>(h.be y hy).2.1 hyg
 ·rcases old y hy with h1 | h1
  ·exact h.ba y h1
  ·have h0:=h.b0
   exact ⟨by omega,by omega,fun hs=>by have:=h.sg.lt hw y hs; omega⟩
 ·have h5:=h.be y hy
  refine ⟨h5.1,h5.2.1,h5.2.2.1,fun ha=>?_⟩
  rcases old y ha with h1 | h1
  ·exact h5.2.2.2 h1
  ·have:=h.en.lt hw y hy; omega
theorem NB.pushEnd (h:NB H base gb cl av ev os oa oe n sigma arcs es) (hw:Wf H) (x:EndD) (hl:es.length≤1073741823):
  ∃ b cap ev' H1 H2 oe',ev=.slice b es.length cap∧A4a Tryz.prog 24 1 [(0,.agg x.cells.toArray)] H=some (.slice (some ⟨H.next,0,some 0⟩) 1 1,(H.new 2 x.cells).2)∧
   A2a Tryz.prog .append [24,24] [.slice b es.length cap,.slice (some ⟨H.next,0,some 0⟩) 1 1] (H.new 2 x.cells).2=some (ev',H1)∧
   A3e Tryz.prog 24 H1 ev' (.pointer (some ⟨gb,3,some 0⟩))=some H2∧NB H2 base gb cl av ev' os oa oe' n sigma arcs (es++[x])∧Chg (fun y=>base≤y∧(y=gb∨oe=some y)) H H2∧∀ y,oe'=some y→oe=some y∨H.next≤y:=by
 obtain ⟨b,cap,ev',H1,oe',rfl,e1,e2,e3,e4⟩:=h.en.push hw (x:=x.cells) rfl
 rw [List.length_map] at e1
 have hbs:=C7l (H:=H) (x:=.agg x.cells.toArray) rfl rfl
 have va:∀ xs:Array Value,A7a (.agg xs)=xs.toList:=fun _=>rfl
 simp only [va] at hbs
 have ha:=app1_24 (H:=H) (base:=b) (len:=es.length) (cap:=cap) (x:=x.cells) rfl hl
 rw [e1] at ha
 have hgb:=h.bx.lt hw
 have bx1:=h.bx.keep (e3.old gb hgb fun hy=>(h.be gb hy).2.1 rfl)
 obtain ⟨H2,w1,ar1,v1,z1⟩:=bx1.write e3.wf (i:=3) (vs:=[ev']) (by simp)
 have sc:setCells [cl,.int .i64 (n:Int),av,.slice b es.length cap] 3 [ev']=[cl,.int .i64 (n:Int),av,ev']:=rfl
 rw [List.length_map] at ar1
 rw [sc] at ar1
 have st:A3e Tryz.prog 24 H1 ev' (.pointer (some ⟨gb,3,some 0⟩))=some H2:=by rw [A4d C9m e2.isCell,w1]
 have old:∀ y,oe'=some y→oe=some y∨H.next≤y:=e4
 have z0:Chg (fun y=>base≤y∧(y=gb∨oe=some y)) H H1:=e3.weak fun y hy=>⟨(h.be y hy).1,.inr hy⟩
 have z2:Chg (fun y=>base≤y∧(y=gb∨oe=some y)) H1 H2:=z1.weak fun y hy=>⟨by rw [hy]; exact h.b0,.inl hy⟩
 refine ⟨b,cap,ev',H1,H2,oe',by rw [List.length_map],hbs,ha,st,⟨ar1,?_,?_,?_,h.b0,h.bs,h.ba,fun y hy=>?_⟩,z0.trans z2,old⟩
 ·exact (h.sg.chg hw e3 fun y hy hye=>(h.be y hye).2.2.1 hy).chg e3.wf z1 fun y hy hyg=>(h.bs y hy).2 hyg
 ·exact (h.ar.chg hw e3 fun y hy hye=>(h.be y hye).2.2.2 hy).chg e3.wf z1 fun y hy hyg=>(h.ba y hy).2.1 hyg
 ·rw [List.map_append]
  refine e2.chg e3.wf z1 fun y hy hyg=>?_
  rcases old y hy with h1 | h1
  ·exact (h.be y h1).2.1 hyg
  ·omega
 ·rcases old y hy with h1 | h1
  ·exact h.be y h1
  ·have h0:=h.b0
   exact ⟨by omega,by omega,fun hs=>by have:=h.sg.lt hw y hs; omega,fun ha=>by have:=h.ar.lt hw y ha; omega⟩
end
def B9j (sigma:List ByteArray) (s:Nat) (e:GE):ArcD:=⟨s,A6y sigma e.2.1,A6y sigma e.2.2.1,e.1,e.2.2.2⟩
theorem graphNet {H:AH} {X:Nat→Prop} {g n:Nat} {sigma:List ByteArray} {ends costs:List Int} {E:List (List GE)}
  (h:GrX H X g sigma (A8p E) ends costs) (hE:E.length=n) (he:ends.length=n) (hcl:costs.length=n) (hn1:1≤n) (hn:n≤3000) (hsg:sigma.length≤1048576) (hto:∀ r∈E,∀ e∈r,e.1 < n∧e.2.1 < sigma.length∧e.2.2.1 < sigma.length) (htot:(E.map List.length).sum≤1048576) (hw:Wf H):
  Sh.Call Tryz.prog (knows 7) 44 [.pointer (some ⟨g,0,some 0⟩)] H (fun r H'=>Kept H H'∧∃ M:NetD,(∀ H'',(∀ y,H.next≤y→H''.objs.get y=H'.objs.get y)→Nonempty (B2a H'' r M))∧M.sigma=sigma∧M.states=(n:Int)∧M.arcs.length≤(E.map List.length).sum∧(∀ a,a∈M.arcs↔∃ (s:Nat) (r:List GE),E[s]?=some r∧∃ e∈r,a=B9j sigma s e)∧M.ends.length≤n∧∀ x,x∈M.ends↔∃ s:Nat,s < n∧0 < ends.getD s 0∧x=⟨(s:Int),costs.getD s 0⟩):=by
 refine A3a rfl Tryz.func44 rfl (Nat.le_of_ble_eq_true rfl) ?_
 have hres:Tryz.f44.results.toList=[.cell 2 26]:=rfl
 obtain ⟨sv,av,ev,cv,vals,hR⟩:=h.read
 have hpre:∀ i,((E.take i).map List.length).sum≤(E.map List.length).sum:=fun i=>by
  have h1:((E.take i).map List.length).sum+((E.drop i).map List.length).sum=(E.map List.length).sum:=by
   rw [← List.sum_append,← List.map_append,List.take_append_drop]
  omega
 have hrl:∀ (s:Nat) r,E[s]?=some r→r.length≤1048576:=fun s r hr=>by
  have h1:=hpre (s+1)
  have h2:E.take (s+1)=E.take s++[r]:=by rw [List.take_add_one,hr]; rfl
  rw [h2,List.map_append,List.sum_append] at h1
  simp at h1; omega
 have hP:PG H g n 1048576 E ends sv av ev cv vals sigma costs:=⟨hR,hE,he,hn1,hn,fun s r hr=>⟨hrl s r hr,fun e he'=>(hto r (List.mem_of_getElem? hr) e he').1⟩⟩
 have hlenA:∀ H',A2a Tryz.prog .len [68] [av] H'=some (.int .i64 (n:Int),H'):=fun H'=>by
  rw [hR.jag.sl.len Tryz.underlying68,List.length_map,hR.jag.len]; unfold A8p; rw [List.length_map,hE]
 simp only [↓Sh.dn,sx,Nat.reduceBEq,reduceCtorEq,Nat.reduceEqDiff,A7i]
 have k0:=Kept.new hw 4 [.slice none 0 0,.int .i64 0,.slice none 0 0,.slice none 0 0]
 have o0:=Sh.Obj.new (H:=H) 4 [.slice none 0 0,.int .i64 0,.slice none 0 0,.slice none 0 0]
 have x0:H.next < (H.new 4 [.slice none 0 0,.int .i64 0,.slice none 0 0,.slice none 0 0]).2.next:=Nat.lt_succ_self _
 obtain ⟨go,hgo⟩:∃ y,H.next=y:=⟨_,rfl⟩
 rw [hgo] at o0 x0
 generalize (H.new 4 [.slice none 0 0,.int .i64 0,.slice none 0 0,.slice none 0 0]).2=H0 at k0 o0 x0 ⊢
 have k1:=Kept.new k0.wf 4 [.slice none 0 0,.int .i64 0,.slice none 0 0,.slice none 0 0]
 have o1:=Sh.Obj.new (H:=H0) 4 [.slice none 0 0,.int .i64 0,.slice none 0 0,.slice none 0 0]
 have x1:H0.next < (H0.new 4 [.slice none 0 0,.int .i64 0,.slice none 0 0,.slice none 0 0]).2.next:=Nat.lt_succ_self _
 have m1:∀ x,(H0.new 4 [.slice none 0 0,.int .i64 0,.slice none 0 0,.slice none 0 0]).2.objs.get H0.next=some x→A17 x x=true:=by
  intro x hx
  have:=o1
  unfold Sh.Obj at this
  rw [this] at hx
  injection hx with hx
  subst hx
  simp [A17,C6m,A3y,A94,A8f,A1i]
 obtain ⟨H1,hH1⟩:∃ K,(H0.new 4 [.slice none 0 0,.int .i64 0,.slice none 0 0,.slice none 0 0]).2=K:=⟨_,rfl⟩
 have nz:=A7i (H:=H0)
 rw [hH1] at k1 o1 x1 m1 nz
 have k01:=k0.trans k1
 have hR0:=hR.kept hw k0
 have hR1:=hR.kept hw k01
 obtain ⟨r2,H2,hd2,hk2,os,hcb,hcf⟩:=C5c hR1.sg (by rw [List.length_map]; exact hsg) k1.wf
 have k02:=k01.trans hk2
 have ic:=hcb.isCell
 have bq:A7j Tryz.prog 26 [(0,r2),(1,.int .i64 (n:Int))]=some (.agg #[r2,.int .i64 (n:Int),.slice none 0 0,.slice none 0 0]):=by
  have va:∀ xs:Array Value,A7a (.agg xs)=xs.toList:=fun _=>rfl
  have hci:isCell (.int .i64 (n:Int))=true:=rfl
  refine A1f (pl:=[(0,1),(1,1),(2,1),(3,1)]) Tryz.underlying26 A52 (by kernel_rfl) ?_
  simp [A1s,va,A8a ic,A8a hci,ic,hci,setCells,A6a,A1c]
 have arr2:=o1.arr.keep (hk2.old H0.next x1)
 obtain ⟨H3,w3,ar3,v3,z3⟩:=arr2.write hk2.wf (i:=0) (vs:=[r2,.int .i64 (n:Int),.slice none 0 0,.slice none 0 0]) (by simp)
 have sc:setCells [.slice none 0 0,.int .i64 0,.slice none 0 0,.slice none 0 0] 0 [r2,.int .i64 (n:Int),.slice none 0 0,.slice none 0 0]=[r2,.int .i64 (n:Int),.slice none 0 0,.slice none 0 0]:=rfl
 rw [sc] at ar3
 have st3:=A65 (H:=H2) (n:=(n:Int)) (p:=⟨H0.next,0,some 0⟩) ic (show isCell (.slice none 0 0)=true from rfl) (show isCell (.slice none 0 0)=true from rfl)
 rw [w3] at st3
 have k03:Kept H0 H3:=(k1.trans hk2).then (Nat.le_refl _) (z3.weak fun y hy=>by omega)
 have hnb:NB H3 H0.next H0.next r2 (.slice none 0 0) (.slice none 0 0) os none none n sigma [] []:=
  ⟨ar3,hcb.chg hk2.wf z3 fun y hy e=>by have:=hcf y hy; omega,.void none,.void none,Nat.le_refl _,fun y hy=>by have:=hcf y hy; exact ⟨by omega,by omega⟩,fun y hy=>(by cases hy),fun y hy=>by cases hy⟩
 have hav:=hR.jag.sl.veq
 have hsv:=hR.sg.veq
 refine B7p (fl:=[(0,true),(1,true),(2,true),(3,false),(5,true),(6,true),(7,true),(8,false),(9,false),(11,false),(4,false),(10,true),(12,true)]) (by kernel_rfl) (by kernel_rfl) k0.wf ?_
 have q0:=hR0.arr.cell 0
 have q1:=hR0.arr.cell 1
 have q0':=hR1.arr.cell 0
 have q1':=hR1.arr.cell 1
 simp only [↓Sh.dn,sx,Nat.reduceBEq,reduceCtorEq,Nat.reduceEqDiff,wpg,B9w,isEff,A6d,isRead,A2l,A1i,A9j,A4i,A6g,forall_eq,forall_eq',q0,q1,q0',q1',hlenA,nz,hH1,hav,hsv]
 refine ⟨m1,_,_,hd2,hk2.wf,?_⟩
 try refine ⟨hk2.grow k1.wf,?_⟩
 have hR2:=hR.kept hw k02
 have q1'':=hR2.arr.cell 1
 have hR3:=hR.kept hw (k0.trans k03)
 have q3:=hR3.arr.cell 1
 simp only [↓Sh.dn,sx,Nat.reduceBEq,reduceCtorEq,Nat.reduceEqDiff,wpg,B9w,isEff,A6d,isRead,A2l,A1i,A9j,A4i,A6g,forall_eq,forall_eq',q1'',hlenA,bq,st3,hav]
 try refine ⟨hk2.grow k1.wf,?_⟩
 try simp only [↓Sh.dn,sx,Nat.reduceBEq,reduceCtorEq,Nat.reduceEqDiff,wpg,B9w,isEff,A6d,isRead,A2l,A1i,A9j,A4i,A6g,forall_eq,forall_eq',q3,hlenA]
 refine ⟨k03.wf,?_⟩
 refine A9e n 25 (List.range' 25 61++[4,5,6,8]) (fun i F H'=>Kept H0 H'∧∃ av' ev' oa oe arcs es,NB H' H0.next H0.next r2 av' ev' os oa oe n sigma arcs es∧arcs.length≤((E.take i).map List.length).sum∧(∀ a,a∈arcs↔∃ (s:Nat) (r:List GE),s < i∧E[s]?=some r∧∃ e∈r,a=B9j sigma s e)∧es.length≤i∧∀ x,x∈es↔∃ s:Nat,s < i∧0 < ends.getD s 0∧x=⟨(s:Int),costs.getD s 0⟩) (by simp only [↓Sh.dn,sx,Nat.reduceBEq,reduceCtorEq,Nat.reduceEqDiff]) ⟨k03,_,_,none,none,[],[],hnb,Nat.zero_le _,fun a=>by simp,Nat.le_refl _,fun x=>by simp⟩ ?_ ?_
 ·rintro i F H' hi hF f25 ⟨hk,av',ev',oa,oe,arcs,es,hN,hal,hai,hel,hei⟩ k
  have f0:=hF 0 rfl
  have f3:=hF 3 rfl
  have f23:=hF 23 rfl
  have f24:=hF 24 rfl
  simp only [↓Sh.dn,sx,Nat.reduceBEq,reduceCtorEq,Nat.reduceEqDiff] at f0 f3 f23 f24
  have hiE:i < E.length:=by omega
  have hr:E[i]?=some E[i]:=List.getElem?_eq_getElem hiE
  have hrt:=hto E[i] (List.getElem_mem hiE)
  have htE:E.take (i+1)=E.take i++[E[i]]:=by rw [List.take_add_one,hr]; rfl
  generalize E[i]=r at hr hrt htE
  have hrl2:=hrl i r hr
  have hsum:((E.take (i+1)).map List.length).sum=((E.take i).map List.length).sum+r.length:=by rw [htE]; simp
  have hp1:=hpre (i+1)
  have hkH:=fun {H'} (hk:Kept H0 H')=>k0.trans hk
  obtain ⟨pr,wr,hiar,hcr0,hsr,hlr⟩:=PG.row hP hr
  have hcr:=A7f ((hkH hk).grow hw) hcr0
  have km:=Kept.push hk.wf (.map [])
  have hm0:EMap (H'.push (.map [])).2 H'.next []:=MapIs.new
  have hN0:=hN.kept hk.wf km
  have hgbl:=hN.bx.lt hk.wf
  have osl:=fun y h=>hN.sg.lt hk.wf y h
  have oal:=fun y h=>hN.ar.lt hk.wf y h
  have oel:=fun y h=>hN.en.lt hk.wf y h
  have hkm:=hk.trans km
  simp only [↓Sh.dn,sx,Nat.reduceBEq,reduceCtorEq,Nat.reduceEqDiff,f23,f24,f25,A1a,hi,decide_true,hiar,hcr,hlr]
  have nx:H'.next < (H'.push (.map [])).2.next:=Nat.lt_succ_self _
  obtain ⟨gm,hgm⟩:∃ gm,H'.next=gm:=⟨_,rfl⟩
  rw [hgm] at hm0 hgbl osl oal oel nx
  refine A9e r.length 33 (List.range' 33 30++[8]) (fun q F'' H''=>Kept H0 H''∧∃ av' oa arcs D,NB H'' H0.next H0.next r2 av' ev' os oa oe n sigma arcs es∧EMap H'' gm D∧(∀ y,oa=some y→y≠gm)∧arcs.length≤((E.take i).map List.length).sum+q∧(∀ e,e∈D↔e∈r.take q)∧∀ a,a∈arcs↔(∃ (s:Nat) (r:List GE),s < i∧E[s]?=some r∧∃ e∈r,a=B9j sigma s e)∨∃ e∈r.take q,a=B9j sigma i e) (by simp only [↓Sh.dn,sx,Nat.reduceBEq,reduceCtorEq,Nat.reduceEqDiff]) ⟨hkm,av',oa,arcs,[],hN0,hm0,fun y hy=>by have:=oal y hy; omega,Nat.le_trans hal (Nat.le_add_right _ _),fun e=>by simp,fun a=>by rw [hai]; simp⟩ ?_ ?_
  ·rintro q F'' H'' hq hF'' f33 ⟨hk'',av',oa,arcs,D,hN,hM,hom,hal,hD,hai⟩ k2
   have g0:=hF'' 0 rfl
   have g3:=hF'' 3 rfl
   have g4:=hF'' 4 rfl
   have g6:=hF'' 6 rfl
   have g31:=hF'' 31 rfl
   have g32:=hF'' 32 rfl
   simp only [↓Sh.dn,sx,Nat.reduceBEq,reduceCtorEq,Nat.reduceEqDiff,f0,f3,hgm] at g0 g3 g4 g6 g31 g32
   obtain ⟨pe,hiae,hce⟩:=PG.edge (hsr.grow ((hkH hk'').grow hw)) hq
   have hrq:r[q]∈r:=List.getElem_mem hq
   have htk:r.take (q+1)=r.take q++[r[q]]:=by rw [List.take_add_one,List.getElem?_eq_getElem hq]; rfl
   generalize r[q]=e at hce hrq htk
   obtain ⟨ht1,ht2,ht3⟩:=hrt e hrq
   have kn:=Kept.new hk''.wf 4 (A4q e)
   have hk3:=hk''.trans kn
   have hN3:=hN.kept hk''.wf kn
   have hM3:EMap (H''.new 4 (A4q e)).2 gm D:=hM.keep (kn.old _ (hM.lt hk''.wf))
   have hlk:=hM3.look e
   have hgml:=hM.lt hk''.wf
   have hall:(H''.new 4 (A4q e)).2.cells ⟨H''.next,0,some 0⟩ 4=some (A4q e):=geAll
   have hj:∀ (p:GE→Prop),(∃ e'∈r.take (q+1),p e')↔(∃ e'∈r.take q,p e')∨p e:=fun p=>by
    rw [htk]
    simp only [List.mem_append,List.mem_singleton]
    constructor
    ·rintro ⟨e',h1 | h1,h2⟩
     ·exact .inl ⟨e',h1,h2⟩
     ·subst h1; exact .inr h2
    ·rintro (⟨e',h1,h2⟩ | h2)
     ·exact ⟨e',.inl h1,h2⟩
     ·exact ⟨e,.inr rfl,h2⟩
   simp only [↓Sh.dn,sx,Nat.reduceBEq,reduceCtorEq,Nat.reduceEqDiff,f33,g6,g31,g32,hiae,hce,A1a,hq,decide_true,Option.map_some,geZero,geStore,geOver,hall,hlk]
   by_cases hin:e∈D
   ·simp only [↓Sh.dn,sx,Nat.reduceBEq,reduceCtorEq,Nat.reduceEqDiff,hin,decide_true,f33,A9a hq (Nat.le_trans hrl2 (by decide))]
    refine k2 _ _ (by repeat (first | refine Same.put ?_ rfl | exact Same.rfl' _)) (by simp only [↓Sh.dn,sx,Nat.reduceBEq,reduceCtorEq,Nat.reduceEqDiff]) ⟨hk3,av',oa,arcs,D,hN3,hM3,hom,by omega,fun e'=>?_,fun a=>?_⟩
    ·rw [hD,htk,List.mem_append,List.mem_singleton]
     exact ⟨.inl,fun h=>h.elim id fun h=>by rw [h]; exact (hD e).1 hin⟩
    ·rw [hai,hj]
     constructor
     ·rintro (h1 | h1)
      ·exact .inl h1
      ·exact .inr (.inl h1)
     ·rintro (h1 | h1 | h1)
      ·exact .inl h1
      ·exact .inr h1
      ·exact .inr ⟨e,(hD e).1 hin,h1⟩
   ·obtain ⟨K1,e1,hM4,c4,n4⟩:=hM3.add hk3.wf hin
    have hN4:=hN3.chg hk3.wf c4 fun y hy=>by
     subst hy
     exact ⟨by omega,fun h=>by have:=osl _ h; omega,fun h=>hom _ h rfl,fun h=>by have:=oel _ h; omega⟩
    have hk4:Kept H0 K1:=hk3.then (Nat.le_refl _) (c4.weak fun y hy=>by rw [hy,← hgm]; exact hk.next)
    have hR4:=hR.kept hw (hkH hk4)
    have ob:=(Sh.Obj.new (H:=H'') 4 (A4q e)).arr.keep (c4.old H''.next (Nat.lt_succ_self _) (by omega))
    have c0:K1.cell ⟨H''.next,0,some 0⟩=some (.int .i64 (e.1:Int)):=ob.cell 0
    have c1:K1.cell ⟨H''.next,1,some 0⟩=some (.int .i64 e.2.1):=ob.cell 1
    have c2:K1.cell ⟨H''.next,2,some 0⟩=some (.int .i64 e.2.2.1):=ob.cell 2
    have c3:K1.cell ⟨H''.next,3,some 0⟩=some (.int .i64 e.2.2.2):=ob.cell 3
    have bx2:=hN4.bx.cell 2
    obtain ⟨r5,K5,hd5,rfl,rfl⟩:=B9z hR4 ht2
    obtain ⟨r6,K6,hd6,rfl,rfl⟩:=B9z hR4 ht3
    obtain ⟨b,cap,av2,K7,K8,oa',rfl,e2,e3,e4,hN8,c8,new8⟩:=hN4.pushArc hk4.wf (B9j sigma i e) (by omega)
    have bl:A7j Tryz.prog 49 [(0,.int .i64 (i:Int)),(1,.string (A6y sigma e.2.1)),(2,.string (A6y sigma e.2.2.1)),(3,.int .i64 (e.1:Int)),(4,.int .i64 e.2.2.2)]=some (.agg (B9j sigma i e).cells.toArray):=bld_49 rfl rfl rfl rfl rfl
    have hk8:Kept H0 K8:=hk4.then (Nat.le_refl _) (c8.weak fun y hy=>hy.1)
    have hgm4:=hM4.lt hk4.wf
    have hM8:EMap K8 gm (D++[e]):=hM4.keep (c8.old gm hgm4 fun hy=>by
     rcases hy.2 with h1 | h1
     ·omega
     ·exact hom gm h1 rfl)
    simp only [↓Sh.dn,sx,Nat.reduceBEq,reduceCtorEq,Nat.reduceEqDiff,hin,decide_false,g6,hall,e1]
    refine A46 (fl:=[(0,[]),(1,[]),(2,[]),(3,[]),(4,[]),(5,[]),(7,[]),(8,[]),(9,[]),(11,[]),(12,[]),(13,[]),(14,[]),(6,[14,12,9,1]),(10,[14,12,1]),(15,[]),(16,[]),(17,[]),(18,[]),(19,[])]) (by kernel_rfl) (by kernel_rfl) (by kernel_rfl) ?_
    simp only [↓Sh.dn,sx,Nat.reduceBEq,reduceCtorEq,Nat.reduceEqDiff,wpr,again,A6d,A2l,A1i,A9j,A4i,A6g,A8f,forall_eq,forall_eq',g0,g3,g4,bx2,c0,c1,c2,c3]
    refine ⟨_,_,hd5,?_⟩
    simp only [↓Sh.dn,sx,Nat.reduceBEq,reduceCtorEq,Nat.reduceEqDiff,wpr,again,A6d,A2l,A1i,A9j,A4i,A6g,A8f,forall_eq,forall_eq',g0,g3,g4,bx2,c0,c1,c2,c3]
    refine ⟨_,_,hd6,?_⟩
    simp only [↓Sh.dn,sx,Nat.reduceBEq,reduceCtorEq,Nat.reduceEqDiff,wpr,again,A6d,A2l,A1i,A9j,A4i,A6g,A8f,forall_eq,forall_eq',g0,g3,g4,bx2,c0,c1,c2,c3,bl,e2,e3,e4,f33,A9a hq (Nat.le_trans hrl2 (by decide))]
    refine k2 _ _ (by repeat (first | refine Same.put ?_ rfl | exact Same.rfl' _)) (by simp only [↓Sh.dn,sx,Nat.reduceBEq,reduceCtorEq,Nat.reduceEqDiff]) ⟨hk8,av2,oa',arcs++[B9j sigma i e],D++[e],hN8,hM8,fun y hy=>?_,by simp only [List.length_append,List.length_singleton]; omega,fun e'=>?_,fun a=>?_⟩
    ·rcases new8 y hy with h1 | h1
     ·exact hom y h1
     ·omega
    ·rw [List.mem_append,hD,htk,List.mem_append]
    ·rw [List.mem_append,List.mem_singleton,hai,hj]
     constructor
     ·rintro ((h1 | h1) | h1)
      ·exact .inl h1
      ·exact .inr (.inl h1)
      ·exact .inr (.inr h1)
     ·rintro (h1 | h1 | h1)
      ·exact .inl (.inl h1)
      ·exact .inl (.inr h1)
      ·exact .inr h1
  ·rintro F'' H'' hF'' f33 ⟨hk'',av',oa,arcs,D,hN,hM,hom,hal,hD,hai⟩
   have g0:=hF'' 0 rfl
   have g3:=hF'' 3 rfl
   have g4:=hF'' 4 rfl
   have g25:=hF'' 25 rfl
   have g32:=hF'' 32 rfl
   simp only [↓Sh.dn,sx,Nat.reduceBEq,reduceCtorEq,Nat.reduceEqDiff,f0,f3,f25] at g0 g3 g4 g25 g32
   rw [List.take_length] at hai
   have hR4:=hR.kept hw (hkH hk'')
   have n2:=hR4.arr.cell 2
   have n3:=hR4.arr.cell 3
   have hie:i < ends.length:=by omega
   have hic:i < costs.length:=by omega
   obtain ⟨pa,ia,ca⟩:=Sl.elem (s:=1) Tryz.underlying69 A2f hR4.en (i:=i) (u:=.int .i64 ends[i]) (by rw [List.getElem?_map,List.getElem?_eq_getElem hie]; rfl)
   obtain ⟨pb,ib,cb⟩:=Sl.elem (s:=1) Tryz.underlying69 A2f hR4.co (i:=i) (u:=.int .i64 costs[i]) (by rw [List.getElem?_map,List.getElem?_eq_getElem hic]; rfl)
   have hge:ends.getD i 0=ends[i]:=by simp [List.getD,hie]
   have hgc:costs.getD i 0=costs[i]:=by simp [List.getD,hic]
   have hai2:∀ a,a∈arcs↔∃ (s:Nat) (r:List GE),s < i+1∧E[s]?=some r∧∃ e∈r,a=B9j sigma s e:=fun a=>by
    rw [hai]
    constructor
    ·rintro (⟨s,r',h1,h2⟩ | ⟨e,h1,h2⟩)
     ·exact ⟨s,r',by omega,h2⟩
     ·exact ⟨i,r,by omega,hr,e,h1,h2⟩
    ·rintro ⟨s,r',h1,h2,e,h3,h4⟩
     by_cases hs:s=i
     ·subst hs
      rw [hr] at h2
      exact .inr ⟨e,by rw [Option.some.inj h2]; exact h3,h4⟩
     ·exact .inl ⟨s,r',by omega,h2,e,h3,h4⟩
   simp only [↓Sh.dn,sx,Nat.reduceBEq,reduceCtorEq,Nat.reduceEqDiff,f33,g0,g4,g32,A1a,Nat.lt_irrefl,decide_false,n2,ia,ca]
   by_cases hpos:0 < ends[i]
   ·obtain ⟨b,cap,ev2,K7,K8,oe',rfl,e2,e3,e4,hN8,c8,_⟩:=hN.pushEnd hk''.wf ⟨(i:Int),costs[i]⟩ (by omega)
    have bx3:=hN.bx.cell 3
    have bl:A7j Tryz.prog 51 [(0,.int .i64 (i:Int)),(1,.int .i64 costs[i])]=some (.agg (EndD.cells ⟨(i:Int),costs[i]⟩).toArray):=bld_51 rfl rfl
    have hk8:Kept H0 K8:=hk''.then (Nat.le_refl _) (c8.weak fun y hy=>hy.1)
    simp only [↓Sh.dn,sx,Nat.reduceBEq,reduceCtorEq,Nat.reduceEqDiff,hpos,decide_true]
    refine A46 (fl:=[(0,[]),(1,[]),(2,[]),(3,[]),(4,[]),(5,[]),(6,[]),(7,[]),(8,[]),(9,[]),(10,[]),(11,[]),(12,[]),(13,[]),(14,[])]) (by kernel_rfl) (by kernel_rfl) (by kernel_rfl) ?_
    simp only [↓Sh.dn,sx,Nat.reduceBEq,reduceCtorEq,Nat.reduceEqDiff,wpr,again,A6d,A2l,A1i,A9j,A4i,A6g,A8f,forall_eq,forall_eq',g0,g3,g4,g25,bx3,n3,ib,cb,bl,e2,e3,e4,A9a hi (Nat.le_trans hn (by decide))]
    refine k _ _ ?_ (by simp only [↓Sh.dn,sx,Nat.reduceBEq,reduceCtorEq,Nat.reduceEqDiff]) ⟨hk8,av',ev2,oa,oe',arcs,es++[⟨(i:Int),costs[i]⟩],hN8,by rw [hsum]; exact hal,hai2,by simp; omega,fun x=>?_⟩
    ·repeat refine Same.put ?_ rfl
     exact Same.trans (by repeat (first | refine Same.put ?_ rfl | exact Same.rfl' _)) (hF''.sub rfl)
    ·rw [List.mem_append,List.mem_singleton,hei]
     constructor
     ·rintro (⟨s,h1,h2⟩ | h1)
      ·exact ⟨s,by omega,h2⟩
      ·exact ⟨i,by omega,by rw [hge]; exact hpos,by rw [hgc]; exact h1⟩
     ·rintro ⟨s,h1,h2,h3⟩
      by_cases hs:s=i
      ·subst hs; rw [hgc] at h3; exact .inr h3
      ·exact .inl ⟨s,by omega,h2,h3⟩
   ·simp only [↓Sh.dn,sx,Nat.reduceBEq,reduceCtorEq,Nat.reduceEqDiff,hpos,decide_false,g25,A9a hi (Nat.le_trans hn (by decide))]
    refine k _ _ ?_ (by simp only [↓Sh.dn,sx,Nat.reduceBEq,reduceCtorEq,Nat.reduceEqDiff]) ⟨hk'',av',ev',oa,oe,arcs,es,hN,by rw [hsum]; exact hal,hai2,by omega,fun x=>?_⟩
    ·repeat refine Same.put ?_ rfl
     exact Same.trans (by repeat (first | refine Same.put ?_ rfl | exact Same.rfl' _)) (hF''.sub rfl)
    ·rw [hei]
     constructor
     ·rintro ⟨s,h1,h2⟩; exact ⟨s,by omega,h2⟩
     ·rintro ⟨s,h1,h2,h3⟩
      by_cases hs:s=i
      ·subst hs; rw [hge] at h2; exact absurd h2 hpos
      ·exact ⟨s,by omega,h2,h3⟩
 ·rintro F H' hF f25 ⟨hk,av',ev',oa,oe,arcs,es,hN,hal,hai,hel,hei⟩
  have f2:=hF 2 rfl
  have f3:=hF 3 rfl
  have f24:=hF 24 rfl
  simp only [↓Sh.dn,sx,Nat.reduceBEq,reduceCtorEq,Nat.reduceEqDiff,hgo] at f2 f3 f24
  rw [List.take_of_length_le (by omega)] at hal
  have o0':Sh.Obj H' go 4 [.slice none 0 0,.int .i64 0,.slice none 0 0,.slice none 0 0] true:=by
   unfold Sh.Obj at o0 ⊢
   rw [hk.old go x0]; exact o0
  obtain ⟨H6,w6,ar6,v6,z6⟩:=o0'.arr.write hk.wf (i:=0) (vs:=[r2,.int .i64 (n:Int),av',ev']) (by simp)
  have sc6:setCells [.slice none 0 0,.int .i64 0,.slice none 0 0,.slice none 0 0] 0 [r2,.int .i64 (n:Int),av',ev']=[r2,.int .i64 (n:Int),av',ev']:=rfl
  rw [sc6] at ar6
  have st6:=A65 (H:=H') (n:=(n:Int)) (p:=⟨go,0,some 0⟩) ic hN.ar.isCell hN.en.isCell
  rw [w6] at st6
  have hca:=hN.bx.cells (i:=0) (n:=4) (by simp)
  have hcr:=ar6.cells (i:=0) (n:=4) (by simp)
  have hgb:=hN.b0
  have hN6:=hN.chg hk.wf z6 fun y hy=>by
   subst hy
   exact ⟨by omega,fun h=>by have:=(hN.bs _ h).1; omega,fun h=>by have:=(hN.ba _ h).1; omega,fun h=>by have:=(hN.be _ h).1; omega⟩
  simp only [↓Sh.dn,sx,Nat.reduceBEq,reduceCtorEq,Nat.reduceEqDiff,f2,f3,f24,f25,A1a,Nat.lt_irrefl,decide_false,hca,Option.map_some,List.drop_zero,List.take_succ_cons,List.take_zero,st6,hres,hcr]
  refine ⟨(k0.trans hk).then (Nat.le_of_eq hgo) (z6.weak fun y hy=>by omega),⟨sigma,(n:Int),arcs,es⟩,fun H'' hh=>⟨⟨r2,av',ev',rfl,(hN6.sg.keep fun y hy=>hh y (by have:=(hN6.bs y hy).1; omega)).toSl,(hN6.ar.keep fun y hy=>hh y (by have:=(hN6.ba y hy).1; omega)).toSl,(hN6.en.keep fun y hy=>hh y (by have:=(hN6.be y hy).1; omega)).toSl⟩⟩,rfl,rfl,hal,fun a=>?_,hel,hei⟩
  rw [hai]
  constructor
  ·rintro ⟨s,r,_,h2⟩; exact ⟨s,r,h2⟩
  ·rintro ⟨s,r,h1,h2⟩
   exact ⟨s,r,by rw [← hE]; exact (List.getElem?_eq_some_iff.1 h1).1,h1,h2⟩
end Go.Proofs.YtcgbiedfbacgpaaGreat
/- (*graph.Graph).Arc: an arc is noted. -/
namespace Go.Proofs.YtcgbiedfbacgpaaGreat
open Go Go.Proofs Go.Proofs.Sh
theorem graphArc {H:AH} {g:Nat} {sv av ev cv:Value} {ot:Option Nat} {vals:List Value} {rows:List (List (List Value))} {obs:List (Option Nat)} {s:Nat} {r:List (List Value)} {x0 x1 x2 x3:Int}
  (hg:Arr H g 0 4 [sv,av,ev,cv]) (hj:Jag H av ot 4 vals rows obs) (hgj:¬JIn ot obs g) (hr:rows[s]?=some r) (hl:r.length≤1073741823) (hw:Wf H):
  Sh.Call Tryz.prog (knows 7) 42 [.pointer (some ⟨g,0,some 0⟩),.int .i64 (s:Int),.int .i64 x0,.int .i64 x1,.int .i64 x2,.int .i64 x3] H (fun _ H'=>Chg (JIn ot obs) H H'∧∃ vals' obs',Jag H' av ot 4 vals' (rows.set s (r++[[.int .i64 x0,.int .i64 x1,.int .i64 x2,.int .i64 x3]])) obs'∧∀ y,JIn ot obs' y→JIn ot obs y∨H.next≤y):=by
 refine A3a rfl Tryz.func42 rfl (Nat.le_of_ble_eq_true rfl) ?_
 have hres:Tryz.f42.results.toList=[]:=rfl
 have hn:=hg.cell 1
 obtain ⟨a,cap,w',H2,H3,o',p,e1,e2,e3,e4,e5,e6,e7,e8,e9⟩:=hj.pushAt Tryz.underlying68 B6c hw hr (x:=[.int .i64 x0,.int .i64 x1,.int .i64 x2,.int .i64 x3]) rfl
 have hb:=bld_95 (v0:=.int .i64 x0) (v1:=.int .i64 x1) (v2:=.int .i64 x2) (v3:=.int .i64 x3) rfl rfl rfl rfl
 have hbs:=C3m (H:=H) (x:=.agg #[.int .i64 x0,.int .i64 x1,.int .i64 x2,.int .i64 x3]) rfl rfl
 have ha:=app1_92 (H:=H) (base:=a) (len:=r.length) (cap:=cap) (x:=[.int .i64 x0,.int .i64 x1,.int .i64 x2,.int .i64 x3]) rfl (by omega)
 rw [e1] at ha
 have hn2:=(hg.keep (e7.old g (hg.lt hw) hgj)).cell 1
 have st:A3e Tryz.prog 92 H2 w' (.pointer (some p))=some H3:=by rw [A4d B6c e8,e4]
 have hav:=hj.top.veq
 have va:∀ xs:Array Value,A7a (.agg xs)=xs.toList:=fun _=>rfl
 simp only [va] at hbs
 refine A46 (fl:=[(0,[]),(1,[]),(2,[]),(3,[]),(4,[]),(5,[]),(6,[]),(7,[]),(8,[]),(9,[]),(10,[]),(11,[]),(12,[]),(13,[]),(14,[]),(15,[]),(16,[]),(17,[]),(18,[3]),(19,[]),(20,[])]) (by kernel_rfl) (by kernel_rfl) (by kernel_rfl) ?_
 simp only [↓Sh.dn,sx,Nat.reduceBEq,reduceCtorEq,Nat.reduceEqDiff,wpr,again,A6d,A2l,A1i,A9j,A4i,A6g,A8f,forall_eq,forall_eq',hn,e2,e3,hb,hbs,ha,hn2,st,hres,hav]
 exact ⟨e6,_,_,e5,e9⟩
end Go.Proofs.YtcgbiedfbacgpaaGreat
/- (*graph.Graph).End: an end is noted. -/
namespace Go.Proofs.YtcgbiedfbacgpaaGreat
open Go Go.Proofs Go.Proofs.Sh
def A8y (n c x:Int):Int:=if n=0∨x < c then x else c
theorem graphEnd {H:AH} {g:Nat} {sv av ev cv:Value} {ends costs:List Int} {oe oc:Option Nat} {s:Nat} {x:Int}
  (hg:Arr H g 0 4 [sv,av,ev,cv]) (he:Buf H 1 ev (ends.map fun n=>[.int .i64 n]) oe) (hc:Buf H 1 cv (costs.map fun n=>[.int .i64 n]) oc)
  (hge:oe≠some g) (hgc:oc≠some g) (hec:∀ y,oe=some y→oc≠some y) (hs:s < ends.length) (hs':s < costs.length) (hw:Wf H)
  (h0:0≤ends[s]) (h1:ends[s]≤1048576):
  Sh.Call Tryz.prog (knows 7) 43 [.pointer (some ⟨g,0,some 0⟩),.int .i64 (s:Int),.int .i64 x] H (fun r H'=>Chg (fun y=>oe=some y∨oc=some y) H H'∧H'.next=H.next∧Buf H' 1 ev ((ends.set s (ends[s]+1)).map fun n=>[.int .i64 n]) oe∧Buf H' 1 cv ((costs.set s (A8y ends[s] costs[s] x)).map fun n=>[.int .i64 n]) oc):=by
 refine A3a rfl Tryz.func43 rfl (Nat.le_of_ble_eq_true rfl) ?_
 have hres:Tryz.f43.results.toList=[]:=rfl
 have hn:=hg.cell 2
 have hm:=hg.cell 3
 obtain ⟨q,o,k,hia,hcs,hcc⟩:=he.toSl.at Tryz.underlying69 A2f (i:=s) (x:=[.int .i64 ends[s]]) (by simp [hs]) .i64
 have hy:=hcc 0 _ rfl
 obtain ⟨q',o',k',hia',hcs',hcc'⟩:=hc.toSl.at Tryz.underlying69 A2f (i:=s) (x:=[.int .i64 costs[s]]) (by simp [hs']) .i64
 have hy':=hcc' 0 _ rfl
 simp only [Nat.add_zero] at hy hy'
 have wu:IntKind.wrap .i64 (ends[s]+1)=ends[s]+1:=by rw [wrap64 (by omega) (by omega)]
 have tl : ∀ H1, Chg (fun y => oc = some y) H H1 → H1.next = H.next → ∃ H2, H1.cell ⟨g, 2, some 0⟩ = some ev ∧ H1.cell ⟨q, o, some k⟩ = some (.int .i64 ends[s]) ∧
     H1.write ⟨q, o, some k⟩ [.int .i64 (ends[s] + 1)] = some H2 ∧ Buf H2 1 ev ((ends.set s (ends[s] + 1)).map fun n => [.int .i64 n]) oe ∧ Chg (fun y => oe = some y ∨ oc = some y) H H2 ∧ Chg (fun y => oe = some y) H1 H2 ∧ H2.next = H.next := by
   intro H1 hch hnx
   have he1 := he.chg hw hch fun y h1 h2 => hec y h1 h2
   obtain ⟨q1, o1, k1, hia1, hcs, hcc⟩ := he1.toSl.at Tryz.underlying69 A2f (i := s) (x := [.int .i64 ends[s]]) (by simp [hs]) .i64
   have hy := hcc 0 _ rfl
   simp only [Nat.add_zero] at hy
   obtain ⟨pe, H2, ia1, e1, b1, c1, n1⟩ := Buf.set (P := Tryz.prog) he1 hch.wf (i := s) (x := [.int .i64 (ends[s] + 1)]) (by simpa using hs) rfl
   have ia := ia1 Tryz.underlying69 A2f (j := .i64)
   rw [hia1] at ia
   injection ia with ia; injection ia with ia; injection ia with ia; subst ia
   rw [hia] at hia1
   injection hia1 with ib; injection ib with ib; injection ib with ib; rw [← ib] at hy e1
   have hg1 := hg.keep (hch.old g (hg.lt hw) hgc)
   exact ⟨H2, hg1.cell 2, hy, e1, by simpa only [List.map_set] using b1, (hch.weak fun _ h => Or.inr h).trans (c1.weak fun _ h => Or.inl h), c1, by rw [n1, hnx]⟩
 have st:∀ (H:AH) (a:Addr) (n:Int),A3e Tryz.prog 3 H (.int .i64 n) (.pointer (some a))=H.write a [.int .i64 n]:=fun H a n=>A4d A2f rfl
 have lastC:∀ H1 H2,Buf H1 1 cv ((costs.set s x).map fun n=>[.int .i64 n]) oc→Wf H1→Chg (fun y=>oe=some y) H1 H2→(ends[s]=0∨x < costs[s])→Buf H2 1 cv ((costs.set s (A8y ends[s] costs[s] x)).map fun n=>[.int .i64 n]) oc:=by
  intro H1 H2 hb hw1 hch h
  unfold A8y
  rw [if_pos h]
  exact hb.chg hw1 hch fun y h1 h2=>hec y h2 h1
 obtain ⟨pc,C1,ia2,f1,d1,g1,m1⟩:=Buf.set (P:=Tryz.prog) hc hw (i:=s) (x:=[.int .i64 x]) (by simpa using hs') rfl
 have ia:=ia2 Tryz.underlying69 A2f (j:=.i64)
 rw [hia'] at ia
 injection ia with ia; injection ia with ia; injection ia with ia; subst ia
 have d1':Buf C1 1 cv ((costs.set s x).map fun n=>[.int .i64 n]) oc:=by simpa only [List.map_set] using d1
 by_cases hz:ends[s]=0
 ·have d:decide (ends[s]=0)=true:=by simp [hz]
  obtain ⟨H2,j2,j3,j4,j5,j6,j7,j8⟩:=tl C1 g1 m1
  simp only [↓Sh.dn,sx,Nat.reduceBEq,reduceCtorEq,Nat.reduceEqDiff,hn,hm,hia,hy,hia',hy',d,st,f1,j2,j3,j4,wu,hres]
  exact ⟨j6,j8,j5,lastC _ _ d1' g1.wf j7 (Or.inl hz)⟩
 ·have d:decide (ends[s]=0)=false:=by simp [hz]
  by_cases hx:x < costs[s]
  ·have d':decide (x < costs[s])=true:=by simp [hx]
   obtain ⟨H2,j2,j3,j4,j5,j6,j7,j8⟩:=tl C1 g1 m1
   simp only [↓Sh.dn,sx,Nat.reduceBEq,reduceCtorEq,Nat.reduceEqDiff,hn,hm,hia,hy,hia',hy',d,d',st,f1,j2,j3,j4,wu,hres]
   exact ⟨j6,j8,j5,lastC _ _ d1' g1.wf j7 (Or.inr hx)⟩
  ·have d':decide (x < costs[s])=false:=by simp [hx]
   obtain ⟨H2,j2,j3,j4,j5,j6,j7,j8⟩:=tl H (Chg.refl hw) rfl
   simp only [↓Sh.dn,sx,Nat.reduceBEq,reduceCtorEq,Nat.reduceEqDiff,hn,hm,hia,hy,hia',hy',d,d',st,j2,j3,j4,wu,hres]
   refine ⟨j6,j8,j5,?_⟩
   have e:costs.set s (A8y ends[s] costs[s] x)=costs:=by
    unfold A8y
    rw [if_neg (by simp [hz,hx])]
    exact List.set_getElem_self hs'
   rw [e]; exact hc.chg hw j7 fun y h1 h2=>hec y h2 h1
end Go.Proofs.YtcgbiedfbacgpaaGreat
/- (*graph.Graph).Arc, End, State, of a graph that keeps to its own places. -/
namespace Go.Proofs.YtcgbiedfbacgpaaGreat
open Go Go.Proofs Go.Proofs.Sh
theorem grArcX {H:AH} {X:Nat→Prop} {g:Nat} {sigma:List ByteArray} {rows:List (List (List Value))} {ends costs:List Int} {s:Nat} {r:List (List Value)} {x0 x1 x2 x3:Int}
  (h:GrX H X g sigma rows ends costs) (hr:rows[s]?=some r) (hl:r.length≤1073741823) (hw:Wf H):
  Sh.Call Tryz.prog (knows 7) 42 [.pointer (some ⟨g,0,some 0⟩),.int .i64 (s:Int),.int .i64 x0,.int .i64 x1,.int .i64 x2,.int .i64 x3] H (fun _ H'=>Chg X H H'∧GrX H' (fun y=>X y∨H.next≤y) g sigma (rows.set s (r++[[.int .i64 x0,.int .i64 x1,.int .i64 x2,.int .i64 x3]])) ends costs):=by
 obtain ⟨sv,av,ev,cv,os,ot,oe,oc,vals,obs,h,ho⟩:=h
 refine (graphArc h.arr h.jag h.gj hr hl hw).mono ?_
 rintro _ H' ⟨hc,vals',obs',hj,hin⟩
 have hg:=h.arr.lt hw
 refine ⟨hc.weak fun y hy=>ho y (.inr (.inr (.inl hy))),sv,av,ev,cv,os,ot,oe,oc,vals',obs',?_,?_⟩
 ·exact { h with
  arr:=h.arr.keep (hc.old g hg h.gj)
  sg:=h.sg.chg hw hc h.sj
  jag:=hj
  en:=h.en.chg hw hc h.je
  co:=h.co.chg hw hc h.jc
  fj:=fun _ _=>Nat.zero_le _
  gj:=fun hy=>by
   rcases hin g hy with h1 | h1
   ·exact h.gj h1
   ·omega
  sj:=fun y hy hy2=>by
   rcases hin y hy2 with h1 | h1
   ·exact h.sj y hy h1
   ·have:=h.sg.lt hw y hy; omega
  je:=fun y hy hy2=>by
   rcases hin y hy2 with h1 | h1
   ·exact h.je y hy h1
   ·have:=h.en.lt hw y hy; omega
  jc:=fun y hy hy2=>by
   rcases hin y hy2 with h1 | h1
   ·exact h.jc y hy h1
   ·have:=h.co.lt hw y hy; omega }
 ·rintro y (hy | hy | hy | hy | hy)
  ·exact .inl (ho y (.inl hy))
  ·exact .inl (ho y (.inr (.inl hy)))
  ·rcases hin y hy with h1 | h1
   ·exact .inl (ho y (.inr (.inr (.inl h1))))
   ·exact .inr h1
  ·exact .inl (ho y (.inr (.inr (.inr (.inl hy)))))
  ·exact .inl (ho y (.inr (.inr (.inr (.inr hy)))))
theorem grEndX {H:AH} {X:Nat→Prop} {g:Nat} {sigma:List ByteArray} {rows:List (List (List Value))} {ends costs:List Int} {s:Nat} {x:Int}
  (h:GrX H X g sigma rows ends costs) (hs:s < ends.length) (hs':s < costs.length) (hw:Wf H) (h0:0≤ends[s]) (h1:ends[s]≤1048576):
  Sh.Call Tryz.prog (knows 7) 43 [.pointer (some ⟨g,0,some 0⟩),.int .i64 (s:Int),.int .i64 x] H (fun _ H'=>Chg X H H'∧GrX H' X g sigma rows (ends.set s (ends[s]+1)) (costs.set s (A8y ends[s] costs[s] x))):=by
 obtain ⟨sv,av,ev,cv,os,ot,oe,oc,vals,obs,h,ho⟩:=h
 refine (graphEnd h.arr h.en h.co h.ge h.gc h.ec hs hs' hw h0 h1).mono ?_
 rintro _ H' ⟨hc,hn,he,hcc⟩
 refine ⟨hc.weak fun y hy=>?_,sv,av,ev,cv,os,ot,oe,oc,vals,obs,{ h with arr:=h.arr.keep (hc.old g (h.arr.lt hw) ?_),sg:=h.sg.chg hw hc ?_,jag:=h.jag.chg hw hc ?_,en:=he,co:=hcc },ho⟩
 ·rcases hy with hy | hy
  ·exact ho y (.inr (.inr (.inr (.inl hy))))
  ·exact ho y (.inr (.inr (.inr (.inr hy))))
 ·rintro (hy | hy)
  ·exact h.ge hy
  ·exact h.gc hy
 ·rintro y hy (hy2 | hy2)
  ·exact h.se y hy hy2
  ·exact h.sc y hy hy2
 ·rintro y hy (hy2 | hy2)
  ·exact h.je y hy2 hy
  ·exact h.jc y hy2 hy
theorem B5a {H H2:AH} {s:Nat} {vals:List Value} (hv:veqs vals vals=true) (he:H2.objs.get H.next=(H.new s vals).2.objs.get H.next):B66 H.next (H.new s vals).2 H2:=by
 intro x hx
 have:=Sh.Obj.new (H:=H) s vals
 unfold Sh.Obj at this
 rw [he]
 refine ⟨hx,?_⟩
 rw [this] at hx
 injection hx with hx
 subst hx
 simp [A17,C6m,hv]
theorem grState {H:AH} {X:Nat→Prop} {g:Nat} {sigma:List ByteArray} {rows:List (List (List Value))} {ends costs:List Int}
  (h:GrX H X g sigma rows ends costs) (hl:rows.length≤1048576) (he:ends.length=rows.length) (hc:costs.length=rows.length) (hw:Wf H):
  Sh.Call Tryz.prog (knows 7) 41 [.pointer (some ⟨g,0,some 0⟩)] H (fun r H'=>Chg X H H'∧r=.int .i64 (rows.length:Int)∧GrX H' (fun y=>X y∨H.next≤y) g sigma (rows++[[]]) (ends++[0]) (costs++[0])):=by
 refine A3a rfl Tryz.func41 rfl (Nat.le_of_ble_eq_true rfl) ?_
 have hres:Tryz.f41.results.toList=[.tmp 2]:=rfl
 obtain ⟨sv,av,ev,cv,os,ot,oe,oc,vals,obs,h,ho⟩:=h
 have hg:=h.arr.lt hw
 have b1:=C0q (H:=H) (x:=.slice none 0 0) rfl rfl
 have k1:=Kept.new hw 1 [.slice none 0 0]
 have q1:Buf (H.new 1 [.slice none 0 0]).2 1 (.slice (some ⟨H.next,0,some 0⟩) 1 1) [[.slice none 0 0]] (some H.next):=Buf.fresh (H:=H) (s:=1) (xs:=[[.slice none 0 0]]) hw (by simp) (by simp) 1 rfl
 have m1:=fun H2=>B5a (H:=H) (H2:=H2) (s:=1) (vals:=[.slice none 0 0]) (by simp [A3y,A94,A8f])
 have n1:(H.new 1 [.slice none 0 0]).2.next=H.next+1:=rfl
 obtain ⟨K1,hK1⟩:∃ K,(H.new 1 [.slice none 0 0]).2=K:=⟨_,rfl⟩
 simp only [A7a] at b1
 rw [hK1] at b1 k1 q1 m1 n1
 have b2:=A2v (H:=K1) (x:=.int .i64 0) rfl rfl
 have k2:=Kept.new k1.wf 1 [.int .i64 0]
 have q2:Buf (K1.new 1 [.int .i64 0]).2 1 (.slice (some ⟨K1.next,0,some 0⟩) 1 1) [[.int .i64 0]] (some K1.next):=Buf.fresh (H:=K1) (s:=1) (xs:=[[.int .i64 0]]) k1.wf (by simp) (by simp) 1 rfl
 have m2:=fun H2=>B5a (H:=K1) (H2:=H2) (s:=1) (vals:=[.int .i64 0]) (by simp [A3y,A94,A1i])
 have n2:(K1.new 1 [.int .i64 0]).2.next=K1.next+1:=rfl
 obtain ⟨K2,hK2⟩:∃ K,(K1.new 1 [.int .i64 0]).2=K:=⟨_,rfl⟩
 simp only [A7a] at b2
 rw [hK2] at b2 k2 q2 m2 n2
 have b3:=A2v (H:=K2) (x:=.int .i64 0) rfl rfl
 have k3:=Kept.new k2.wf 1 [.int .i64 0]
 have q3:Buf (K2.new 1 [.int .i64 0]).2 1 (.slice (some ⟨K2.next,0,some 0⟩) 1 1) [[.int .i64 0]] (some K2.next):=Buf.fresh (H:=K2) (s:=1) (xs:=[[.int .i64 0]]) k2.wf (by simp) (by simp) 1 rfl
 have m3:=fun H2=>B5a (H:=K2) (H2:=H2) (s:=1) (vals:=[.int .i64 0]) (by simp [A3y,A94,A1i])
 have n3:(K2.new 1 [.int .i64 0]).2.next=K2.next+1:=rfl
 obtain ⟨K3,hK3⟩:∃ K,(K2.new 1 [.int .i64 0]).2=K:=⟨_,rfl⟩
 simp only [A7a] at b3
 rw [hK3] at b3 k3 q3 m3 n3
 have k12:=k1.trans k2
 have k13:=k12.trans k3
 have h3:GrB K3 0 g sv av ev cv os ot oe oc vals obs sigma rows ends costs:=h.chg hw (k13.chg (X:=none')) fun _ _ h=>h
 have hg3:=h3.arr.lt k3.wf
 obtain ⟨a1,c1,av',A1,ot',rfl,e1,hj1,g1,i1,in1⟩:=h3.jag.addRow k3.wf
 have q1a:=(q1.kept k1.wf (k2.trans k3)).toSl
 have ap1:=app_68 (base:=a1) (len:=rows.length) (cap:=c1) (q1a.srcKind Tryz.underlying68) q1a.newCells (by simp; omega)
 have hfl1:flat [[Value.slice none 0 0]]=[.slice none 0 0]:=by simp [flat]
 have hfl2:flat [[Value.int .i64 0]]=[.int .i64 0]:=by simp [flat]
 simp only [List.length_singleton,hfl1] at ap1
 rw [e1] at ap1
 have otK:∀ y,ot=some y→y < H.next:=fun y hy=>h.jag.top.lt hw y hy
 have jK:∀ y,JIn ot obs y→y < H.next:=fun y hy=>h.jag.lt hw y hy
 have oeK:∀ y,oe=some y→y < H.next:=fun y hy=>h.en.lt hw y hy
 have ocK:∀ y,oc=some y→y < H.next:=fun y hy=>h.co.lt hw y hy
 have x1:=g1.next
 have en1:=h3.en.chg k3.wf g1 fun y hy hyt=>h3.je y hy (.inl hyt)
 have co1:=h3.co.chg k3.wf g1 fun y hy hyt=>h3.jc y hy (.inl hyt)
 have q2a:=(q2.kept k2.wf k3).chg k3.wf g1 fun y hy hyt=>by have:=otK y hyt; have:=Option.some.inj hy; omega
 have q3a:=q3.chg k3.wf g1 fun y hy hyt=>by have:=otK y hyt; have:=Option.some.inj hy; omega
 obtain ⟨a2,c2,hev⟩:=en1.shape
 rw [List.length_map] at hev
 subst hev
 obtain ⟨ev',A2,oe',e2,hj2,g2,ne2⟩:=en1.append g1.wf (xs:=[[.int .i64 0]]) (by simp)
 have ap2:=C7q (base:=a2) (len:=ends.length) (cap:=c2) (q2a.toSl.srcKind Tryz.underlying69) q2a.toSl.newCells (by simp; omega)
 simp only [List.length_singleton,hfl2] at ap2 e2
 rw [e2] at ap2
 have x2:=g2.next
 have co2:=co1.chg g1.wf g2 fun y hy hye=>h3.ec y hye hy
 have q3b:=q3a.chg g1.wf g2 fun y hy hye=>by have:=oeK y hye; have:=Option.some.inj hy; omega
 obtain ⟨a3,c3,hcv⟩:=co2.shape
 rw [List.length_map] at hcv
 subst hcv
 obtain ⟨cv',A3,oc',e3,hj3,g3,ne3⟩:=co2.append g2.wf (xs:=[[.int .i64 0]]) (by simp)
 have ap3:=C7q (base:=a3) (len:=costs.length) (cap:=c3) (q3b.toSl.srcKind Tryz.underlying69) q3b.toSl.newCells (by simp; omega)
 simp only [List.length_singleton,hfl2] at ap3 e3
 rw [e3] at ap3
 have x3:=g3.next
 have arr1:=h3.arr.keep (g1.old g hg3 fun hy=>h3.gj (.inl hy))
 have arr2:=arr1.keep (g2.old g (Nat.lt_of_lt_of_le hg3 x1) h3.ge)
 have arr3:=arr2.keep (g3.old g (Nat.lt_of_lt_of_le hg3 (Nat.le_trans x1 x2)) h3.gc)
 obtain ⟨S1,w1,ar1,v1,z1⟩:=arr3.write g3.wf (i:=1) (vs:=[av']) (by simp)
 have sc1:setCells [sv,.slice a1 rows.length c1,.slice a2 ends.length c2,.slice a3 costs.length c3] 1 [av']=[sv,av',.slice a2 ends.length c2,.slice a3 costs.length c3]:=rfl
 rw [sc1] at ar1
 obtain ⟨S2,w2,ar2,v2,z2⟩:=ar1.write z1.wf (i:=2) (vs:=[ev']) (by simp)
 have sc2:setCells [sv,av',.slice a2 ends.length c2,.slice a3 costs.length c3] 2 [ev']=[sv,av',ev',.slice a3 costs.length c3]:=rfl
 rw [sc2] at ar2
 obtain ⟨S3,w3,ar3,v3,z3⟩:=ar2.write z2.wf (i:=3) (vs:=[cv']) (by simp)
 have sc3:setCells [sv,av',ev',.slice a3 costs.length c3] 3 [cv']=[sv,av',ev',cv']:=rfl
 rw [sc3] at ar3
 have ih1:=hj1.top.isCell
 have ih2:=hj2.isCell
 have ih3:=hj3.isCell
 have st1:A3e Tryz.prog 68 A3 av' (.pointer (some ⟨g,1,some 0⟩))=some S1:=by rw [A4d C8q ih1,w1]
 have st2:A3e Tryz.prog 69 S1 ev' (.pointer (some ⟨g,2,some 0⟩))=some S2:=by rw [A4d B5d ih2,w2]
 have st3:A3e Tryz.prog 69 S2 cv' (.pointer (some ⟨g,3,some 0⟩))=some S3:=by rw [A4d B5d ih3,w3]
 have l1:=h.arr.cell 1
 have l2:K1.cell ⟨g,2,some 0⟩=some (.slice a2 ends.length c2):=(h.arr.keep (k1.old g hg)).cell 2
 have l3:K2.cell ⟨g,3,some 0⟩=some (.slice a3 costs.length c3):=(h.arr.keep (k12.old g hg)).cell 3
 have r2:A1.cell ⟨g,2,some 0⟩=some (.slice a2 ends.length c2):=arr1.cell 2
 have r3:A1.cell ⟨g,3,some 0⟩=some (.slice a3 costs.length c3):=arr1.cell 3
 have r4:A2.cell ⟨g,3,some 0⟩=some (.slice a3 costs.length c3):=arr2.cell 3
 have u1:B66 K1.next K2 A1:=m2 A1 ((g1.old K1.next (by omega) fun hy=>by have:=otK _ hy; omega).trans (k3.old K1.next (by omega)))
 have u2:B66 K2.next K3 A1:=m3 A1 (g1.old K2.next (by omega) fun hy=>by have:=otK _ hy; omega)
 have u3:B66 K2.next K3 A2:=m3 A2 ((g2.old K2.next (by omega) fun hy=>by have:=oeK _ hy; omega).trans (g1.old K2.next (by omega) fun hy=>by have:=otK _ hy; omega))
 have hlenA:∀ H',A2a Tryz.prog .len [68] [av'] H'=some (.int .i64 ((rows.length+1:Nat):Int),H'):=fun H'=>by
  rw [hj1.top.toSl.len Tryz.underlying68]; simp [h.jag.len1]
 have wl:IntKind.wrap .i64 (((rows.length+1:Nat):Int) - 1)=(rows.length:Int):=by rw [wrap64 (by omega) (by omega)]; omega
 have lf:S3.cell ⟨g,1,some 0⟩=some av':=ar3.cell 1
 simp only [↓Sh.dn,sx,Nat.reduceBEq,reduceCtorEq,Nat.reduceEqDiff]
 refine C3o (fl:=[(0,[],[],[]),(1,[],[],[]),(2,[],[],[]),(3,[],[],[]),(4,[],[],[]),(5,[],[],[]),(6,[],[],[]),(7,[],[],[]),(9,[],[],[]),(10,[],[],[]),(11,[],[],[]),(12,[],[],[]),(13,[],[],[]),(15,[],[],[]),(16,[],[],[]),(17,[],[],[]),(18,[],[],[]),(19,[],[],[]),(8,[18,12],[true,true,false],[true,true,false]),(14,[18],[true,false],[true,false]),(20,[],[false],[false]),(21,[],[],[]),(22,[],[],[]),(23,[],[],[]),(24,[],[],[]),(25,[],[],[]),(26,[],[],[]),(27,[],[],[]),(28,[],[],[]),(29,[],[],[])]) (by kernel_rfl) (by kernel_rfl) (by kernel_rfl) ?_
 simp only [↓Sh.dn,sx,Nat.reduceBEq,reduceCtorEq,Nat.reduceEqDiff,wpm,B4c,B6s,A63,again,isEff,A6d,A2l,A1i,A9j,A4i,A6g,A8f,forall_eq,forall_eq',l1,l2,l3,b1,b2,b3,hK1,hK2,hK3,ap1,ap2,ap3,r2,r3,r4,u1,u2,u3,st1,st2,st3,lf,hlenA,wl,hres]
 have hX:∀ y,(ot=some y∨oe=some y∨oc=some y∨y=g)→X y:=by
  rintro y (hy | hy | hy | hy)
  ·exact ho y (.inr (.inr (.inl (.inl hy))))
  ·exact ho y (.inr (.inr (.inr (.inl hy))))
  ·exact ho y (.inr (.inr (.inr (.inr hy))))
  ·exact ho y (.inl hy)
 have tot:Chg X H S3:=((((((k13.chg (X:=X)).trans (g1.weak fun y hy=>hX y (.inl hy))).trans (g2.weak fun y hy=>hX y (.inr (.inl hy)))).trans (g3.weak fun y hy=>hX y (.inr (.inr (.inl hy))))).trans (z1.weak fun y hy=>hX y (.inr (.inr (.inr hy))))).trans (z2.weak fun y hy=>hX y (.inr (.inr (.inr hy))))).trans (z3.weak fun y hy=>hX y (.inr (.inr (.inr hy))))
 refine ⟨tot,sv,av',ev',cv',os,ot',oe',oc',vals++[.slice none 0 0],obs++[none],?_,?_⟩
 ·have hen:(ends++[0]).map intC=ends.map intC++[[.int .i64 0]]:=by simp [intC]
  have hco:(costs++[0]).map intC=costs.map intC++[[.int .i64 0]]:=by simp [intC]
  have jn:∀ y,JIn ot' (obs++[none]) y→JIn ot obs y∨K3.next≤y∧y < A1.next:=fun y hy=>(in1 y hy).imp id fun h=>⟨h,hj1.lt g1.wf y hy⟩
  have en':∀ y,oe'=some y→oe=some y∨y=A1.next∧A1.next < A2.next:=fun y hy=>by
   rcases ne2 with h4 | ⟨h4,h5⟩
   ·exact .inl (by rw [← h4]; exact hy)
   ·rw [h4] at hy; exact .inr ⟨(Option.some.inj hy).symm,h5⟩
  have cn':∀ y,oc'=some y→oc=some y∨y=A2.next:=fun y hy=>by
   rcases ne3 with h4 | ⟨h4,h5⟩
   ·exact .inl (by rw [← h4]; exact hy)
   ·rw [h4] at hy; exact .inr (Option.some.inj hy).symm
  have osK:∀ y,os=some y→y < H.next:=fun y hy=>h.sg.lt hw y hy
  have gtot:∀ {B:AH},Chg (fun y=>y=g) A3 B→True:=fun _=>trivial
  have z12:=z1.trans (z2.trans z3)
  have kS:=(z1.trans z2).trans z3
  refine { arr:=ar3,sg:=?_,jag:=?_,en:=?_,co:=?_,fg:=Nat.zero_le _,fs:=fun _ _=>Nat.zero_le _,fj:=fun _ _=>Nat.zero_le _,fe:=fun _ _=>Nat.zero_le _,fc:=fun _ _=>Nat.zero_le _,gs:=h.gs,gj:=?_,ge:=?_,gc:=?_,sj:=?_,se:=?_,sc:=?_,je:=?_,jc:=?_,ec:=?_ }
  ·exact (((h3.sg.chg k3.wf g1 fun y hy hyt=>h3.sj y hy (.inl hyt)).chg g1.wf g2 fun y hy hye=>h3.se y hy hye).chg g2.wf g3 fun y hy hyc=>h3.sc y hy hyc).chg g3.wf kS fun y hy hyg=>h.gs (by rw [hy,hyg])
  ·refine ((hj1.chg g1.wf g2 fun y hy hye=>?_).chg g2.wf g3 fun y hy hyc=>?_).chg g3.wf kS fun y hy hyg=>?_
   ·rcases jn y hy with h1 | h1
    ·exact h3.je y hye h1
    ·have:=oeK y hye; omega
   ·rcases jn y hy with h1 | h1
    ·exact h3.jc y hyc h1
    ·have:=ocK y hyc; omega
   ·rcases jn y hy with h1 | h1
    ·exact h.gj (hyg ▸ h1)
    ·omega
  ·rw [hen]
   refine (hj2.chg g2.wf g3 fun y hy hyc=>?_).chg g3.wf kS fun y hy hyg=>?_
   ·rcases en' y hy with h1 | ⟨h1,_⟩
    ·exact h3.ec y h1 hyc
    ·have:=ocK y hyc; omega
   ·rcases en' y hy with h1 | ⟨h1,_⟩
    ·exact h.ge (hyg ▸ h1)
    ·omega
  ·rw [hco]
   refine hj3.chg g3.wf kS fun y hy hyg=>?_
   rcases cn' y hy with h1 | h1
   ·exact h.gc (hyg ▸ h1)
   ·omega
  ·intro hy
   rcases jn g hy with h1 | h1
   ·exact h.gj h1
   ·omega
  ·intro hy
   rcases en' g hy with h1 | ⟨h1,_⟩
   ·exact h.ge h1
   ·omega
  ·intro hy
   rcases cn' g hy with h1 | h1
   ·exact h.gc h1
   ·omega
  ·intro y hy hy2
   rcases jn y hy2 with h1 | h1
   ·exact h.sj y hy h1
   ·have:=osK y hy; omega
  ·intro y hy hy2
   rcases en' y hy2 with h1 | ⟨h1,_⟩
   ·exact h.se y hy h1
   ·have:=osK y hy; omega
  ·intro y hy hy2
   rcases cn' y hy2 with h1 | h1
   ·exact h.sc y hy h1
   ·have:=osK y hy; omega
  ·intro y hy hy2
   rcases en' y hy with h1 | ⟨h1,h5⟩
   ·rcases jn y hy2 with h2 | h2
    ·exact h.je y h1 h2
    ·have:=oeK y h1; omega
   ·rcases jn y hy2 with h2 | h2
    ·have:=jK y h2; omega
    ·omega
  ·intro y hy hy2
   rcases cn' y hy with h1 | h1
   ·rcases jn y hy2 with h2 | h2
    ·exact h.jc y h1 h2
    ·have:=ocK y h1; omega
   ·rcases jn y hy2 with h2 | h2
    ·have:=jK y h2; omega
    ·omega
  ·intro y hy hy2
   rcases en' y hy with h1 | ⟨h1,h5⟩
   ·rcases cn' y hy2 with h2 | h2
    ·exact h.ec y h1 h2
    ·have:=oeK y h1; omega
   ·rcases cn' y hy2 with h2 | h2
    ·have:=ocK y h2; omega
    ·omega
 ·rintro y (hy | hy | hy | hy | hy)
  ·exact .inl (ho y (.inl hy))
  ·exact .inl (ho y (.inr (.inl hy)))
  ·rcases in1 y hy with h1 | h1
   ·exact .inl (ho y (.inr (.inr (.inl h1))))
   ·exact .inr (by omega)
  ·rcases ne2 with h4 | ⟨h4,h5⟩
   ·exact .inl (ho y (.inr (.inr (.inr (.inl (by rw [← h4]; exact hy))))))
   ·rw [h4] at hy; have:=Option.some.inj hy; exact .inr (by omega)
  ·rcases ne3 with h4 | ⟨h4,h5⟩
   ·exact .inl (ho y (.inr (.inr (.inr (.inr (by rw [← h4]; exact hy))))))
   ·rw [h4] at hy; have:=Option.some.inj hy; exact .inr (by omega)
end Go.Proofs.YtcgbiedfbacgpaaGreat
/- (*graph.Graph).Add: another graph is put into one. -/
namespace Go.Proofs.YtcgbiedfbacgpaaGreat
open Go Go.Proofs Go.Proofs.Sh
end Go.Proofs.YtcgbiedfbacgpaaGreat
/- cmp.Less, where nothing is no number. -/
namespace Go.Proofs.YtcgbiedfbacgpaaGreat
open Go Go.Proofs Go.Proofs.Sh
theorem B94 {H:AH} {x:ByteArray}:Sh.Call Tryz.prog (knows 7) 112 [Value.string x] H (fun r H'=>H'=H∧r=.bool false):=by
 refine A3a rfl Tryz.func112 rfl (Nat.le_of_ble_eq_true rfl) ?_
 have hres:Tryz.f112.results.toList=[.tmp 2]:=rfl
 simp only [↓Sh.dn,sx,Nat.reduceBEq,reduceCtorEq,Nat.reduceEqDiff,hres,decide_true,Bool.not_true,and_self]
theorem B1l {H:AH} {x y:ByteArray}:Sh.Call Tryz.prog (knows 7) 107 [Value.string x,Value.string y] H (fun r H'=>H'=H∧r=.bool (A0b x y)):=by
 refine A3a rfl Tryz.func107 rfl (Nat.le_of_ble_eq_true rfl) ?_
 have hres:Tryz.f107.results.toList=[.tmp 4]:=rfl
 obtain ⟨r,H1,hd,rfl,rfl⟩:=B94 (H:=H) (x:=x)
 simp only [↓Sh.dn,sx,Nat.reduceBEq,reduceCtorEq,Nat.reduceEqDiff]
 refine ⟨_,_,hd,?_⟩
 simp only [↓Sh.dn,sx,Nat.reduceBEq,reduceCtorEq,Nat.reduceEqDiff,hres,and_self]
 try rfl
theorem A7d {H:AH} {x y:ByteArray}:Does Tryz.prog (knows 7) 107 [Value.string x,Value.string y] H (.bool (A0b x y)) H:=by
 obtain ⟨r,H1,hd,rfl,rfl⟩:=B1l (H:=H) (x:=x) (y:=y)
 exact hd
abbrev A4e (H:AH) (g k n:Nat) (l:List ByteArray):Prop:=Cells H g k n (l.map (Value.string))
section
variable {H:AH} {g k n m cap i:Nat} {l:List ByteArray}
theorem A8c {j:IntKind} (h:i < m):A7b Tryz.prog 22 (.slice (some ⟨g,0,some k⟩) m cap) (.int j (i:Int))=some (.pointer (some ⟨g,i,some k⟩)):=by
 rw [ia_22 h,Nat.mul_one,Nat.zero_add]
theorem A5c (h:A4e H g k n l) (hi:i < l.length):H.cell ⟨g,i,some k⟩=some (Value.string l[i]):=h.cell (by simp [hi])
theorem A7m {x:ByteArray} {p:Addr}:A3e Tryz.prog 9 H (Value.string x) (.pointer (some p))=H.write p [Value.string x]:=A4d A6h rfl
theorem A5j (h:A4e H g k n l) (hw:Wf H) {i j:Nat} (hi:i < l.length) (hj:j < l.length):
  ∃ H1 H2,H.write ⟨g,i,some k⟩ [Value.string l[j]]=some H1∧H1.write ⟨g,j,some k⟩ [Value.string l[i]]=some H2∧A4e H2 g k n (swp l i j)∧Chg (fun y=>y=g) H H2∧H2.next=H.next:=by
 obtain ⟨H1,H2,h1,h2,h3,h4,h5⟩:=Cells.swap h hw (i:=i) (j:=j) (x:=Value.string l[i]) (y:=Value.string l[j]) (by simp [hi]) (by simp [hj])
 exact ⟨H1,H2,h1,h2,by rw [C1q] at h3; exact h3,h4,h5⟩
end
end Go.Proofs.YtcgbiedfbacgpaaGreat
/- slices.BinarySearch of an ascending list of texts. -/
namespace Go.Proofs.YtcgbiedfbacgpaaGreat
open Go Go.Proofs Go.Proofs.Sh
theorem isNaNStr {H:AH} {x:ByteArray}:Sh.Call Tryz.prog (knows 7) 108 [.string x] H (fun r H'=>H'=H∧r=.bool false):=by
 refine A3a rfl Tryz.func108 rfl (Nat.le_of_ble_eq_true rfl) ?_
 have hres:Tryz.f108.results.toList=[.tmp 2]:=rfl
 simp only [↓Sh.dn,sx,Nat.reduceBEq,reduceCtorEq,Nat.reduceEqDiff,hres,decide_true,Bool.not_true,and_self]
theorem B21 {H:AH} {v:Value} {x:ByteArray} {l:List ByteArray} (hs:Sl H v 1 (l.map A5a)) (ha:Asc l) (hl:l.length≤1048576):
  Sh.Call Tryz.prog (knows 7) 88 [v,.string x] H (fun r H'=>H'=H∧∃ k:Nat,r=.tuple #[.int .i64 (k:Int),.bool (A9n l x)]∧k≤l.length∧(l[k]?=some x↔x∈l)):=by
 refine A3a rfl Tryz.func88 rfl (Nat.le_of_ble_eq_true rfl) ?_
 have hres:Tryz.f88.results.toList=[.tmp 4,.tmp 5]:=rfl
 have hlen:=hs.len Tryz.underlying22 H
 simp only [↓Sh.dn,sx,Nat.reduceBEq,reduceCtorEq,Nat.reduceEqDiff,hlen,List.length_map]
 refine A4b (fun m F H'=>H'=H∧∃ a b:Nat,m=b - a∧a≤b∧b≤l.length∧F.get 7=some (.int .i64 (a:Int))∧F.get 8=some (.int .i64 (b:Int))∧F.get 0=some v∧F.get 1=some (.string x)∧F.get 6=some (.int .i64 (l.length:Int))∧
  (∀ (i:Nat) y,i < a→l[i]?=some y→A0b y x=true)∧(∀ (i:Nat) y,b≤i→l[i]?=some y→A0b y x=false)) (m:=l.length)
  ⟨rfl,0,l.length,by omega,by omega,by omega,by simp only [↓Sh.dn,sx,Nat.reduceBEq,reduceCtorEq,Nat.reduceEqDiff]; rfl,by simp only [↓Sh.dn,sx,Nat.reduceBEq,reduceCtorEq,Nat.reduceEqDiff],by simp only [↓Sh.dn,sx,Nat.reduceBEq,reduceCtorEq,Nat.reduceEqDiff],by simp only [↓Sh.dn,sx,Nat.reduceBEq,reduceCtorEq,Nat.reduceEqDiff],by simp only [↓Sh.dn,sx,Nat.reduceBEq,reduceCtorEq,Nat.reduceEqDiff],fun i y h=>by omega,fun i y h1 h2=>by have:=(List.getElem?_eq_some_iff.1 h2).1; omega⟩ ?_
 rintro m F H' ⟨rfl,a,b,rfl,hab,hbn,f7,f8,f0,f1,f6,hlo,hhi⟩ k
 by_cases hlt:a < b
 ·have hm:(a+b) / 2 < l.length:=by omega
  have hw2:IntKind.wrap .i64 (((a+b) / 2:Nat):Int)=(((a+b) / 2:Nat):Int):=wrap64 (by omega) (by omega)
  obtain ⟨g,o,kk,hia,hc,hcc⟩:=hs.at Tryz.underlying22 A6h (i:=(a+b) / 2) (x:=A5a l[(a+b) / 2]) (by simp [hm]) .i64
  have hy:=hcc 0 _ rfl
  simp only [Nat.add_zero] at hy
  obtain ⟨r,H1,hd,rfl,rfl⟩:=B1l (H:=H') (x:=l[(a+b) / 2]) (y:=x)
  have hget:l[(a+b) / 2]?=some l[(a+b) / 2]:=List.getElem?_eq_getElem hm
  simp only [↓Sh.dn,sx,Nat.reduceBEq,reduceCtorEq,Nat.reduceEqDiff,f0,f1,f6,f7,f8,A1a,hlt,decide_true,C0k,half a b (by omega),hw2,hia,hy,forall_const,reduceCtorEq,false_implies,and_true,true_and]
  refine ⟨_,_,hd,?_⟩
  cases hpv:A0b l[(a+b) / 2] x with
  | true=>
   have hw3:IntKind.wrap .i64 ((((a+b) / 2:Nat):Int)+1)=(((a+b) / 2+1:Nat):Int):=wrap_succ (n:=l.length) (by omega) hl
   simp only [↓Sh.dn,sx,Nat.reduceBEq,reduceCtorEq,Nat.reduceEqDiff,forall_const,reduceCtorEq,false_implies,and_true,true_and,hw3]
   refine k (b - ((a+b) / 2+1)) _ _ (by omega) ⟨rfl,(a+b) / 2+1,b,rfl,by omega,hbn,by simp only [↓Sh.dn,sx,Nat.reduceBEq,reduceCtorEq,Nat.reduceEqDiff],by simp only [↓Sh.dn,sx,Nat.reduceBEq,reduceCtorEq,Nat.reduceEqDiff,f8],by simp only [↓Sh.dn,sx,Nat.reduceBEq,reduceCtorEq,Nat.reduceEqDiff,f0],by simp only [↓Sh.dn,sx,Nat.reduceBEq,reduceCtorEq,Nat.reduceEqDiff,f1],by simp only [↓Sh.dn,sx,Nat.reduceBEq,reduceCtorEq,Nat.reduceEqDiff,f6],fun i y hi hy=>?_,hhi⟩
   by_cases he:i=(a+b) / 2
   ·subst he; rw [hget] at hy; rw [← Option.some.inj hy]; exact hpv
   ·exact A6k (ha _ _ _ _ (by omega) hy hget) hpv
  | false=>
   simp only [↓Sh.dn,sx,Nat.reduceBEq,reduceCtorEq,Nat.reduceEqDiff,forall_const,reduceCtorEq,false_implies,and_true,true_and]
   refine k ((a+b) / 2 - a) _ _ (by omega) ⟨rfl,a,(a+b) / 2,rfl,by omega,by omega,by simp only [↓Sh.dn,sx,Nat.reduceBEq,reduceCtorEq,Nat.reduceEqDiff,f7],by simp only [↓Sh.dn,sx,Nat.reduceBEq,reduceCtorEq,Nat.reduceEqDiff],by simp only [↓Sh.dn,sx,Nat.reduceBEq,reduceCtorEq,Nat.reduceEqDiff,f0],by simp only [↓Sh.dn,sx,Nat.reduceBEq,reduceCtorEq,Nat.reduceEqDiff,f1],by simp only [↓Sh.dn,sx,Nat.reduceBEq,reduceCtorEq,Nat.reduceEqDiff,f6],hlo,fun i y h1 hy=>?_⟩
   by_cases he:i=(a+b) / 2
   ·subst he; rw [hget] at hy; rw [← Option.some.inj hy]; exact hpv
   ·cases hlt2:A0b y x with
    | false=>rfl
    | true=>rw [A6k (ha _ _ _ _ (by omega) hget hy) hlt2] at hpv; cases hpv
 ·have hab':a=b:=by omega
  subst hab'
  have hp:=B4s ha x hlo hhi
  by_cases hla:a < l.length
  ·obtain ⟨g,o,kk,hia,hc,hcc⟩:=hs.at Tryz.underlying22 A6h (i:=a) (x:=A5a l[a]) (by simp [hla]) .i64
   have hy:=hcc 0 _ rfl
   simp only [Nat.add_zero] at hy
   have hget:l[a]?=some l[a]:=List.getElem?_eq_getElem hla
   by_cases hex:l[a]=x
   ·have hin:A9n l x=true:=A0g.2 (hp.1 (by rw [hget,hex]))
    simp only [↓Sh.dn,sx,Nat.reduceBEq,reduceCtorEq,Nat.reduceEqDiff,f0,f1,f6,f7,f8,A1a,hlt,hla,hia,hy,hex,decide_true,decide_false,hres,hin,forall_const,reduceCtorEq,false_implies,and_true,true_and]
    exact ⟨a,rfl,hbn,hp⟩
   ·have hin : A9n l x = false := by
      cases h : A9n l x with
      | false => rfl
      | true => have := hp.2 (A0g.1 h); rw [hget] at this; exact absurd (Option.some.inj this) hex
    obtain ⟨r, H1, hd, rfl, rfl⟩ := isNaNStr (H := H') (x := l[a])
    simp only [↓Sh.dn, sx, Nat.reduceBEq, reduceCtorEq, Nat.reduceEqDiff, f0, f1, f6, f7, f8, A1a, hlt, hla, hia, hy, hex, decide_true, decide_false, hres, hin, forall_const, reduceCtorEq, false_implies, and_true, true_and]
    refine ⟨_, _, hd, ?_⟩
    simp only [↓Sh.dn, sx, Nat.reduceBEq, reduceCtorEq, Nat.reduceEqDiff, f7, forall_const, reduceCtorEq, false_implies, and_true, true_and, hres]
    exact ⟨a, rfl, hbn, hp⟩
  ·have hin : A9n l x = false := by
     cases h : A9n l x with
     | false => rfl
     | true => have := hp.2 (A0g.1 h); rw [List.getElem?_eq_none (by omega)] at this; cases this
   simp only [↓Sh.dn, sx, Nat.reduceBEq, reduceCtorEq, Nat.reduceEqDiff, f0, f1, f6, f7, f8, A1a, hlt, hla, decide_true, decide_false, hres, hin, forall_const, reduceCtorEq, false_implies, and_true, true_and]
   exact ⟨a, rfl, hbn, hp⟩
end Go.Proofs.YtcgbiedfbacgpaaGreat
/- The number of a symbol; a word as numbers. -/
namespace Go.Proofs.YtcgbiedfbacgpaaGreat
open Go Go.Proofs Go.Proofs.Sh
theorem place {H:AH} {v:Value} {x:ByteArray} {l:List ByteArray} (hs:Sl H v 1 (l.map A5a)) (ha:Asc l) (hl:l.length≤1048576):
  Sh.Call Tryz.prog (knows 7) 56 [v,.string x] H (fun r H'=>H'=H∧r=.int .i64 (A8r l x)):=by
 refine A3a rfl Tryz.func56 rfl (Nat.le_of_ble_eq_true rfl) ?_
 have hres:Tryz.f56.results.toList=[.tmp 4]:=rfl
 obtain ⟨r,H1,hd,rfl,k,rfl,_,hk⟩:=B21 (x:=x) hs ha hl
 simp only [↓Sh.dn,sx,Nat.reduceBEq,reduceCtorEq,Nat.reduceEqDiff]
 refine ⟨_,_,hd,?_⟩
 cases hin:A9n l x with
 | true=>
  have:=A40 ha (hk.2 (A0g.1 hin))
  simp only [↓Sh.dn,sx,Nat.reduceBEq,reduceCtorEq,Nat.reduceEqDiff,hres,this]
 | false=>
  have:=B2n (l:=l) (x:=x) (fun h=>by rw [A0g.2 h] at hin; cases hin)
  simp only [↓Sh.dn,sx,Nat.reduceBEq,reduceCtorEq,Nat.reduceEqDiff,hres,this]
theorem B9c {l:List ByteArray} {x:ByteArray} (ha:Asc l):decide (A8r l x < 0)=!A9n l x:=by
 cases hin:A9n l x with
 | true=>
  obtain ⟨k,hk⟩:=List.mem_iff_getElem?.1 (A0g.1 hin)
  rw [A40 ha hk]; simp
 | false=>
  rw [B2n (fun h=>by rw [A0g.2 h] at hin; cases hin)]; rfl
def C3f (l:List ByteArray) (s:ByteArray):List Value:=[.int .i64 (A8r l s)]
theorem C1u {H:AH} {v u:Value} {l w:List ByteArray} (hs:Sl H v 1 (l.map A5a)) (ha:Asc l) (hl:l.length≤1048576) (hu:Sl H u 1 (w.map A5a)) (hlw:w.length≤1048576) (hw:Wf H):
  Sh.Call Tryz.prog (knows 7) 40 [v,u] H (fun r H'=>Kept H H'∧∃ z,r=.tuple #[z,.bool (w.all (A9n l))]∧(w.all (A9n l)=true→∃ b,Buf H' 1 z (w.map (C3f l)) b∧∀ g,b=some g→H.next≤g)):=by
 refine A3a rfl Tryz.func40 rfl (Nat.le_of_ble_eq_true rfl) ?_
 have hres:Tryz.f40.results.toList=[.tmp 4,.tmp 5]:=rfl
 have hlen:=hu.len Tryz.underlying22
 rw [List.length_map] at hlen
 have hmk:=mk_69 (H:=H) (l:=0) (c:=w.length) (Nat.zero_le _) (by omega)
 have hk1:Kept H (H.new 1 (List.replicate w.length (.int .i64 0))).2:=Kept.new hw 1 _
 have hb1:=Buf.room hw (.int .i64 0) (c:=w.length) (by omega)
 have e0:((0:Nat):Int)=0:=rfl
 rw [e0] at hmk
 simp only [↓Sh.dn,sx,Nat.reduceBEq,reduceCtorEq,Nat.reduceEqDiff,hlen,hmk]
 have hfar:∀ g,(if w.length=0 then none else some H.next)=some g→H.next≤g:=by
  intro g h
  split at h
  ·cases h
  ·injection h with h; omega
 generalize (H.new 1 (List.replicate w.length (.int .i64 0))).2=H1 at hk1 hb1 ⊢
 refine A9e w.length 15 (List.range' 15 14++[6,8,9]) (fun i F H'=>Kept H H'∧(w.take i).all (A9n l)=true∧∃ z b,F.get 6=some z∧Buf H' 1 z ((w.take i).map (C3f l)) b∧∀ g,b=some g→H.next≤g) (by simp only [↓Sh.dn,sx,Nat.reduceBEq,reduceCtorEq,Nat.reduceEqDiff]) ⟨hk1,rfl,.slice (some ⟨H.next,0,some 0⟩) 0 w.length,_,by simp only [↓Sh.dn,sx,Nat.reduceBEq,reduceCtorEq,Nat.reduceEqDiff],by simpa using hb1,hfar⟩ ?_ ?_
 ·rintro i F H' hlt hF f15 ⟨hk,hall,z,b,f6,hb,hbf⟩ k
  have f0:=hF 0 rfl
  have f13:=hF 13 rfl
  have f14:=hF 14 rfl
  simp only [↓Sh.dn,sx,Nat.reduceBEq,reduceCtorEq,Nat.reduceEqDiff] at f0 f13 f14
  have hs':=hs.grow (hk.grow hw)
  have hu':=hu.grow (hk.grow hw)
  obtain ⟨g,o,kk,hia,hc,hcc⟩:=hu'.at Tryz.underlying22 A6h (i:=i) (x:=A5a w[i]) (by simp [hlt]) .i64
  have hy:=hcc 0 _ rfl
  simp only [Nat.add_zero] at hy
  have htake:w.take (i+1)=w.take i++[w[i]]:=by rw [List.take_add_one,List.getElem?_eq_getElem hlt]; rfl
  obtain ⟨r,H2,hd,rfl,rfl⟩:=place (x:=w[i]) hs' ha hl
  simp only [↓Sh.dn,sx,Nat.reduceBEq,reduceCtorEq,Nat.reduceEqDiff,f0,f13,f14,f15,A1a,hlt,decide_true,hia,hy]
  refine ⟨_,_,hd,?_⟩
  cases hin:A9n l w[i] with
  | false=>
   have hno:w.all (A9n l)=false:=List.all_eq_false.2 ⟨_,List.getElem_mem hlt,by rw [hin]; simp⟩
   simp only [↓Sh.dn,sx,Nat.reduceBEq,reduceCtorEq,Nat.reduceEqDiff,B9c ha,hin,hres,hno]
   exact ⟨hk,_,rfl⟩
  | true=>
   obtain ⟨a,cap,rfl⟩:=hb.shape
   have hk3:=hk.news 1 [.int .i64 (A8r l w[i])]
   have hb3:=hb.kept hk.wf (Kept.new hk.wf 1 [.int .i64 (A8r l w[i])])
   have hbld:=A2v (H:=H2) (x:=.int .i64 (A8r l w[i])) rfl rfl
   have hnew:Sl (H2.new 1 [.int .i64 (A8r l w[i])]).2 (.slice (some ⟨H2.next,0,some 0⟩) 1 1) 1 [[.int .i64 (A8r l w[i])]]:=
    (Buf.fresh (H:=H2) (s:=1) (xs:=[[.int .i64 (A8r l w[i])]]) hk.wf (by simp) (by simp) 1 rfl).toSl
   have happ:=C7q (H:=(H2.new 1 [.int .i64 (A8r l w[i])]).2) (base:=a) (len:=((w.take i).map (C3f l)).length) (cap:=cap) (hnew.srcKind Tryz.underlying69) hnew.newCells (by simp; omega)
   obtain ⟨z',H4,b',e1,e2,e3,e4⟩:=hb3.append hk3.wf (xs:=[[.int .i64 (A8r l w[i])]]) (by simp)
   rw [e1] at happ
   have hk4 : Kept H H4 := ⟨fun y hy => by
       rw [e3.old y (Nat.lt_of_lt_of_le hy hk3.next) (fun hyb => by have := hbf y hyb; omega)]
       exact hk3.old y hy, Nat.le_trans hk3.next e3.next, e3.wf⟩
   simp only [↓Sh.dn,sx,Nat.reduceBEq,reduceCtorEq,Nat.reduceEqDiff,B9c ha,hin,f6,f15,hbld,A7a,happ,wrap_succ hlt hlw]
   refine k _ _ (by repeat (first | refine Same.put ?_ rfl | exact Same.rfl' _)) (by simp only [↓Sh.dn,sx,Nat.reduceBEq,reduceCtorEq,Nat.reduceEqDiff]) ⟨hk4,?_,z',b',by simp only [↓Sh.dn,sx,Nat.reduceBEq,reduceCtorEq,Nat.reduceEqDiff],?_,fun g hg=>?_⟩
   ·rw [htake,List.all_append,hall]; simp [hin]
   ·rw [htake,List.map_append]; exact e2
   ·rcases e4 with h4 | ⟨h4,_⟩
    ·exact hbf g (by rw [← h4,hg])
    ·rw [h4] at hg; injection hg with hg
     have:=hk3.next
     omega
 ·rintro F H' hF f15 ⟨hk,hall,z,b,f6,hb,hbf⟩
  have f14:=hF 14 rfl
  simp only [↓Sh.dn,sx,Nat.reduceBEq,reduceCtorEq,Nat.reduceEqDiff] at f14
  rw [List.take_length] at hall hb
  simp only [↓Sh.dn,sx,Nat.reduceBEq,reduceCtorEq,Nat.reduceEqDiff,f14,f15,f6,A1a,Nat.lt_irrefl,decide_false,hres,hall]
  exact ⟨hk,z,rfl,b,hb,hbf⟩
end Go.Proofs.YtcgbiedfbacgpaaGreat
/- (*graph.Graph).Arc and End, of a graph that is being made. -/
namespace Go.Proofs.YtcgbiedfbacgpaaGreat
open Go Go.Proofs Go.Proofs.Sh
end Go.Proofs.YtcgbiedfbacgpaaGreat
/- graph.Of: the graph of a net. -/
namespace Go.Proofs.YtcgbiedfbacgpaaGreat
open Go Go.Proofs Go.Proofs.Sh
end Go.Proofs.YtcgbiedfbacgpaaGreat
/- (*graph.Graph).Back, told edge by edge. -/
namespace Go.Proofs.YtcgbiedfbacgpaaGreat
open Go Go.Proofs Go.Proofs.Sh
end Go.Proofs.YtcgbiedfbacgpaaGreat
/- (*graph.Graph).closed: what is reached from states without reading a symbol. -/
namespace Go.Proofs.YtcgbiedfbacgpaaGreat
open Go Go.Proofs Go.Proofs.Sh
end Go.Proofs.YtcgbiedfbacgpaaGreat
/- slices.IndexFunc and ContainsFunc: whether some element is so. -/
namespace Go.Proofs.YtcgbiedfbacgpaaGreat
open Go Go.Proofs Go.Proofs.Sh
end Go.Proofs.YtcgbiedfbacgpaaGreat
/- (*graph.Graph).Begin, Step, Run, HasEnd. -/
namespace Go.Proofs.YtcgbiedfbacgpaaGreat
open Go Go.Proofs Go.Proofs.Sh
end Go.Proofs.YtcgbiedfbacgpaaGreat
/- (*graph.Graph).Back: the graph with its arcs the other way round. -/
namespace Go.Proofs.YtcgbiedfbacgpaaGreat
open Go Go.Proofs Go.Proofs.Sh
end Go.Proofs.YtcgbiedfbacgpaaGreat
/- (*graph.Graph).From, Lasting. -/
namespace Go.Proofs.YtcgbiedfbacgpaaGreat
open Go Go.Proofs Go.Proofs.Sh
end Go.Proofs.YtcgbiedfbacgpaaGreat
/- What is wrong with a net of any kind, by the program. -/
namespace Go.Proofs.YtcgbiedfbacgpaaGreat
open Go Go.Proofs Go.Proofs.Sh
end Go.Proofs.YtcgbiedfbacgpaaGreat
/- slices.IndexFunc and ContainsFunc: whether some element is so. -/
namespace Go.Proofs.YtcgbiedfbacgpaaGreat
open Go Go.Proofs Go.Proofs.Sh
end Go.Proofs.YtcgbiedfbacgpaaGreat
/- Whether a net has a cost out of bounds. -/
namespace Go.Proofs.YtcgbiedfbacgpaaGreat
open Go Go.Proofs Go.Proofs.Sh
end Go.Proofs.YtcgbiedfbacgpaaGreat
/- What is wrong with an acceptor, by the program. -/
namespace Go.Proofs.YtcgbiedfbacgpaaGreat
open Go Go.Proofs Go.Proofs.Sh
end Go.Proofs.YtcgbiedfbacgpaaGreat
/- auto.given, Accepts, Begins. -/
namespace Go.Proofs.YtcgbiedfbacgpaaGreat
open Go Go.Proofs Go.Proofs.Sh
def C0c (N:NetD):List (List (Nat×Int×Int×Int)):=rowsOf ArcD.fr (fun a=>(a.to.toNat,A8r N.sigma a.inn,A8r N.sigma a.out,a.cost)) N.states.toNat N.arcs
theorem B5v {N:NetD} (hok:B3a N):A8p (C0c N)=C7w N N.arcs:=by
 unfold A8p C0c C7w rowsOf
 rw [List.map_map]
 refine List.map_congr_left fun s _=>?_
 simp only [Function.comp,List.map_map]
 refine List.map_congr_left fun a ha=>?_
 have:=hok.arc a (List.mem_filter.1 ha).1
 simp only [Function.comp,A4q,edgeC]
 rw [show ((a.to.toNat:Nat):Int)=a.to by omega]
theorem symIx_lt {l:List ByteArray} {x:ByteArray} (ha:Asc l):A8r l x < 0↔x∉l:=by
 have:=B9c (x:=x) ha
 rw [← A0g]
 cases h:A9n l x with
 | true=>rw [h] at this; simpa using this
 | false=>rw [h] at this; simpa using this
theorem B1m {N:NetD} (hok:B3a N):A2b∉N.sigma:=by
 intro h
 have:=hok.sym _ h
 have h0:A8t A2b=false:=rfl
 rw [h0] at this; cases this
theorem Gr.pg {H:AH} {base g:Nat} {N:NetD} (hok:B3a N) (h:Gr H base g N.sigma (C7w N N.arcs) (C3z N N.ends) (C8l N N.ends)):
  ∃ sv av ev cv vals,PG H g N.states.toNat 60000 (C0c N) (C3z N N.ends) sv av ev cv vals N.sigma (C8l N N.ends):=by
 obtain ⟨sv,av,ev,cv,vals,hR⟩:=h.read
 rw [← B5v hok] at hR
 have h1:=hok.st1
 have h2:=hok.st2
 refine ⟨sv,av,ev,cv,vals,hR,by unfold C0c; rw [A4h],by unfold C3z; rw [List.length_map,A4h],by omega,by omega,fun s r hr=>⟨Nat.le_trans (B0c hr) hok.ar,fun e he=>?_⟩⟩
 obtain ⟨a,ha,_,rfl⟩:=(A20 hr e).1 he
 have:=hok.arc a ha
 show a.to.toNat < _
 omega
end Go.Proofs.YtcgbiedfbacgpaaGreat
/- Elements by states: how many there are. -/
namespace Go.Proofs.YtcgbiedfbacgpaaGreat
open Go Go.Proofs Go.Proofs.Sh
theorem A78 {α:Type} {p q r:α→Bool} (h1:∀ a,r a=(p a || q a)) (h2:∀ a,p a=true→q a=false):∀ l:List α,(l.filter p).length+(l.filter q).length=(l.filter r).length
 | []=>rfl
 | a :: l=>by
  have ih:=A78 h1 h2 l
  have e:=h1 a
  cases hp:p a with
  | true=>
   have hq:=h2 a hp
   rw [hp,hq] at e
   simp only [List.filter_cons,hp,hq,e,if_true,Bool.or_false,List.length_cons,Bool.false_eq_true,if_false]; omega
  | false=>
   cases hq:q a with
   | true=>
    rw [hp,hq] at e
    simp only [List.filter_cons,hp,hq,e,if_true,Bool.or_true,List.length_cons,Bool.false_eq_true,if_false]; omega
   | false=>
    rw [hp,hq] at e
    simp only [List.filter_cons,hp,hq,e,Bool.or_self,Bool.false_eq_true,if_false]; exact ih
theorem C6h {α β:Type} {key:α→Int} {f:α→β} {n:Nat} {l:List α}:((rowsOf key f n l).map List.length).sum≤l.length:=by
 have h:∀ n:Nat,((List.range n).map fun (s:Nat)=>(l.filter fun a=>decide (key a=(s:Int))).length).sum=(l.filter fun a=>decide (0≤key a∧key a < (n:Int))).length:=by
  intro n
  induction n with
  | zero=>
   have:(l.filter fun a=>decide (0≤key a∧key a < ((0:Nat):Int)))=[]:=by
    rw [List.filter_eq_nil_iff]
    intro a _
    simp only [decide_eq_true_eq]; omega
   rw [this]; rfl
  | succ n ih=>
   rw [List.range_succ,List.map_append,List.sum_append,ih]
   simp only [List.map_cons,List.map_nil,List.sum_cons,List.sum_nil,Nat.add_zero]
   refine A78 (fun a=>?_) (fun a ha=>?_) l
   ·rw [Bool.eq_iff_iff,Bool.or_eq_true]; simp only [decide_eq_true_eq]; omega
   ·simp only [decide_eq_true_eq,decide_eq_false_iff_not] at ha ⊢; omega
 unfold rowsOf
 rw [List.map_map]
 have e:(List.length ∘ fun (s:Nat)=>(l.filter fun a=>decide (key a=(s:Int))).map f)=fun (s:Nat)=>(l.filter fun a=>decide (key a=(s:Int))).length:=by
  funext s; simp
 rw [e,h]
 exact List.length_filter_le _ _
end Go.Proofs.YtcgbiedfbacgpaaGreat
/- auto.Reverse. -/
namespace Go.Proofs.YtcgbiedfbacgpaaGreat
open Go Go.Proofs Go.Proofs.Sh
theorem C0x {H:AH} (h:Wf H) {y:Nat} (hy:H.next≤y):H.objs.get y=none:=by
 cases e:H.objs.get y with
 | none=>rfl
 | some o=>have:=h y o e; omega
theorem C3x {l:List ByteArray} {x:ByteArray} (ha:Asc l) (hx:x=⟨#[]⟩∨x∈l) (hn:A2b∉l):A6y l (A8r l x)=x:=by
 rcases hx with rfl | hx
 ·have:A8r l ⟨#[]⟩ < 0:=(symIx_lt ha).2 hn
  exact if_pos this
 ·obtain ⟨k,hk⟩:=List.mem_iff_getElem?.1 hx
  rw [A40 ha hk]
  unfold A6y
  rw [if_neg (by omega)]
  simp [List.getD,hk]
end Go.Proofs.YtcgbiedfbacgpaaGreat
/- auto.Of: the net of a list of words. -/
namespace Go.Proofs.YtcgbiedfbacgpaaGreat
open Go Go.Proofs Go.Proofs.Sh
def A9q:List (List ByteArray)→Int
 | []=>0
 | w :: W=>if A6f w≠0 then A6f w else A9q W
theorem A62:∀ {W:List (List ByteArray)} {i:Nat} {q:List ByteArray},(∀ (j:Nat) p,j < i→W[j]?=some p→A6f p=0)→W[i]?=some q→A6f q≠0→A9q W=A6f q
 | [],i,q,_,h,_=>by simp at h
 | w :: W,0,q,_,h,hq=>by
  simp at h
  unfold A9q
  rw [h,if_pos hq]
 | w :: W,i+1,q,ha,h,hq=>by
  unfold A9q
  rw [if_neg (by simpa using ha 0 w (Nat.succ_pos i) rfl)]
  exact A62 (fun j p hj hp=>ha (j+1) p (by omega) hp) h hq
theorem A51:∀ {W:List (List ByteArray)},(∀ q∈W,A6f q=0)→A9q W=0
 | [],_=>rfl
 | w :: W,h=>by
  unfold A9q
  rw [if_neg (by simpa using h w List.mem_cons_self)]
  exact A51 fun q hq=>h q (List.mem_cons_of_mem _ hq)
def B7j (sigma:List ByteArray) (W:List (List ByteArray)):Bool:=W.all fun w=>w.all (A9n sigma)
def A7k (sigma:List ByteArray) (W:List (List ByteArray)):Int:=
 if A1h sigma≠0 then A1h sigma else if 200 < W.length then 3 else if A9q W≠0 then A9q W else if B7j sigma W=false then 4 else if 3000 < (A6i [] W).1.length+1 then 3 else 0
theorem A45 {w:List ByteArray} (h:A6f w=0):w.length≤60:=by
 unfold A6f at h
 split at h
 ·cases h
 ·rename_i h1
  simp only [Bool.or_eq_true,decide_eq_true_eq,not_or] at h1
  omega
structure RowsT (R:List (List GE)) (E:List (Nat×Nat)):Prop where
 len:R.length=E.length+1
 row:∀ (s:Nat) r,R[s]?=some r→∀ e,e∈r↔∃ k x:Nat,E[k]?=some (s,x)∧e=(k+1,(x:Int),(x:Int),0)
 sum:(R.map List.length).sum=E.length
 src:B1d E
theorem RowsT.start:RowsT [[]] []:=⟨rfl,fun s r hr e=>by
 have:r=[]:=by
  cases s with
  | zero=>simpa using hr.symm
  | succ s=>simp at hr
 subst this
 simp,rfl,fun k p hp=>by simp at hp⟩
theorem B67:∀ (R:List (List GE)) (s:Nat) (r r':List GE),R[s]?=some r→((R.set s r').map List.length).sum+r.length=(R.map List.length).sum+r'.length
 | [],s,r,r',h=>by simp at h
 | q :: R,0,r,r',h=>by
  simp at h
  subst h
  simp only [List.set_cons_zero,List.map_cons,List.sum_cons]; omega
 | q :: R,s+1,r,r',h=>by
  have:=B67 R s r r' (by simpa using h)
  simp only [List.set_cons_succ,List.map_cons,List.sum_cons]; omega
theorem RowsT.add {R:List (List GE)} {E:List (Nat×Nat)} (h:RowsT R E) {s x:Nat} (hs:s≤E.length) {r:List GE} (hr:(R++[[]])[s]?=some r):RowsT ((R++[[]]).set s (r++[(E.length+1,(x:Int),(x:Int),0)])) (E++[(s,x)]):=by
 have hrow:∀ (s:Nat) r,(R++[[]])[s]?=some r→∀ e,e∈r↔∃ k x:Nat,E[k]?=some (s,x)∧e=(k+1,(x:Int),(x:Int),0):=fun s r hr e=>by
  rcases Nat.lt_or_ge s R.length with h1 | h1
  ·rw [List.getElem?_append_left h1] at hr; exact h.row s r hr e
  ·rw [List.getElem?_append_right h1] at hr
   have h2:s - R.length=0:=by
    have:=(List.getElem?_eq_some_iff.1 hr).1
    simp at this; omega
   rw [h2] at hr
   simp at hr
   subst hr
   constructor
   ·intro h3; cases h3
   ·rintro ⟨k,x,h3,_⟩
    have h4:=h.src k _ h3
    have h5:=(List.getElem?_eq_some_iff.1 h3).1
    have h6:=h.len
    simp only at h4
    omega
 have hsl:s < (R++[[]]).length:=(List.getElem?_eq_some_iff.1 hr).1
 have hget:∀ (k:Nat) (p:Nat×Nat),(E++[(s,x)])[k]?=some p↔E[k]?=some p∨k=E.length∧p=(s,x):=fun k p=>by
  rcases Nat.lt_trichotomy k E.length with h1 | h1 | h1
  ·rw [List.getElem?_append_left h1]
   exact ⟨.inl,fun h2=>h2.resolve_right fun h3=>by omega⟩
  ·subst h1
   rw [List.getElem?_append_right (Nat.le_refl _),Nat.sub_self,List.getElem?_eq_none (Nat.le_refl E.length)]
   simp [eq_comm]
  ·rw [List.getElem?_eq_none (by simp; omega),List.getElem?_eq_none (by omega)]
   simp; omega
 refine ⟨by simp [h.len],fun s' r' hr' e=>?_,?_,fun k p hp=>?_⟩
 ·rw [List.getElem?_set] at hr'
  by_cases hss:s=s'
  ·subst hss
   rw [if_pos rfl,if_pos hsl] at hr'
   rw [← Option.some.inj hr',List.mem_append,List.mem_singleton,hrow s r hr e]
   constructor
   ·rintro (⟨k,y,h1,h2⟩ | h1)
    ·exact ⟨k,y,(hget k _).2 (.inl h1),h2⟩
    ·exact ⟨E.length,x,(hget _ _).2 (.inr ⟨rfl,rfl⟩),h1⟩
   ·rintro ⟨k,y,h1,h2⟩
    rcases (hget k _).1 h1 with h3 | ⟨h3,h4⟩
    ·exact .inl ⟨k,y,h3,h2⟩
    ·injection h4 with _ h4
     subst h3 h4
     exact .inr h2
  ·rw [if_neg hss] at hr'
   rw [hrow s' r' hr' e]
   constructor
   ·rintro ⟨k,y,h1,h2⟩; exact ⟨k,y,(hget k _).2 (.inl h1),h2⟩
   ·rintro ⟨k,y,h1,h2⟩
    rcases (hget k _).1 h1 with h3 | ⟨_,h4⟩
    ·exact ⟨k,y,h3,h2⟩
    ·injection h4 with h4 _
     exact absurd h4.symm hss
 ·have h1:=B67 (R++[[]]) s r (r++[(E.length+1,(x:Int),(x:Int),0)]) hr
  have h2:((R++[[]]).map List.length).sum=E.length:=by simp [h.sum]
  rw [List.length_append,List.length_singleton] at h1
  rw [List.length_append,List.length_singleton]
  omega
 ·rcases (hget k p).1 hp with h1 | ⟨h1,h2⟩
  ·exact h.src k p h1
  ·rw [h2,h1]; exact hs
theorem B1o {sigma:List ByteArray} (h:A1h sigma=0):A2b∉sigma:=by
 intro hx
 unfold A1h at h
 split at h
 ·cases h
 ·split at h
  ·rename_i h1
   rw [Bool.and_eq_true,List.all_eq_true] at h1
   have:=h1.1 _ hx
   revert this
   decide
  ·cases h
def ixN (sigma:List ByteArray) (x:ByteArray):Nat:=(A8r sigma x).toNat
theorem B9u {sigma:List ByteArray} (ha:Asc sigma) {x:ByteArray} (hx:x∈sigma):∃ k:Nat,sigma[k]?=some x∧A8r sigma x=(k:Int)∧ixN sigma x=k:=by
 obtain ⟨k,hk⟩:=List.mem_iff_getElem?.1 hx
 have:=A40 ha hk
 exact ⟨k,hk,this,by unfold ixN; rw [this]; rfl⟩
theorem ixN_inj {sigma:List ByteArray} (ha:Asc sigma) (x y:ByteArray) (hx:x∈sigma) (hy:y∈sigma) (h:ixN sigma x=ixN sigma y):x=y:=by
 obtain ⟨k,h1,_,h2⟩:=B9u ha hx
 obtain ⟨j,h3,_,h4⟩:=B9u ha hy
 rw [h2,h4] at h
 rw [h,h3] at h1
 exact (Option.some.inj h1).symm
theorem ix_cells {sigma:List ByteArray} (ha:Asc sigma) {w:List ByteArray} (hw:∀ x∈w,x∈sigma):w.map (C3f sigma)=(w.map (ixN sigma)).map natC:=by
 rw [List.map_map]
 refine List.map_congr_left fun x hx=>?_
 obtain ⟨k,_,h1,h2⟩:=B9u ha (hw x hx)
 show [Value.int .i64 (A8r sigma x)]=[.int .i64 ((ixN sigma x:Nat):Int)]
 rw [h1,h2]
structure TG (H:AH) (base gm g:Nat) (sigma:List ByteArray) (E:List (Nat×Nat)) (R:List (List GE)) (es:List Int) (X:Nat→Prop):Prop where
 rt:RowsT R E
 gr:GrX H X g sigma (A8p R) es (List.replicate (E.length+1) 0)
 el:es.length=E.length+1
 mp:TMap H gm E
 xs:∀ y,X y→base≤y∧y≠gm
def OfOut (H H':AH) (sigma:List ByteArray) (W:List (List ByteArray)) (r:Value):Prop:=
 Kept H H'∧∃ mv,r=.tuple #[mv,.int .i64 (A7k sigma W)]∧(A7k sigma W≠0→mv=.agg #[.slice none 0 0,.int .i64 0,.slice none 0 0,.slice none 0 0])∧(A7k sigma W=0→∃ M,Nonempty (B2a H' mv M)∧B8m sigma W M)
theorem grHere {H:AH} {X:Nat→Prop} {g:Nat} {sigma:List ByteArray} {rows:List (List (List Value))} {ends costs:List Int} (h:GrX H X g sigma rows ends costs) (hw:Wf H):GrX H (fun y=>X y∧y < H.next) g sigma rows ends costs:=by
 obtain ⟨sv,av,ev,cv,os,ot,oe,oc,vals,obs,h,ho⟩:=h
 refine ⟨sv,av,ev,cv,os,ot,oe,oc,vals,obs,h,fun y hy=>⟨ho y hy,?_⟩⟩
 rcases hy with rfl | hy | hy | hy | hy
 ·exact h.arr.lt hw
 ·exact h.sg.lt hw y hy
 ·exact h.jag.lt hw y hy
 ·exact h.en.lt hw y hy
 ·exact h.co.lt hw y hy
theorem autoOf {H:AH} {v u:Value} {sigma:List ByteArray} {W:List (List ByteArray)} {vs:List Value} (hs:Sl H v 1 (sigma.map A5a)) (hsl:sigma.length≤1048576) (hsx:∀ x∈sigma,x.size≤1048576)
  (hJ:JagR H u 1 (W.map fun q=>q.map A5a) vs) (hWl:W.length≤1048576) (hWx:∀ q∈W,q.length≤1048576∧∀ x∈q,x.size≤1048576) (hw:Wf H):
  Sh.Call Tryz.prog (knows 7) 19 [v,u] H (fun r H'=>OfOut H H' sigma W r):=by
 refine A3a rfl Tryz.func19 rfl (Nat.le_of_ble_eq_true rfl) ?_
 have hres:Tryz.f19.results.toList=[.cell 4 26,.tmp 5]:=rfl
 simp only [↓Sh.dn,sx,Nat.reduceBEq,reduceCtorEq,Nat.reduceEqDiff,A7i]
 have k0:=Kept.new hw 4 [.slice none 0 0,.int .i64 0,.slice none 0 0,.slice none 0 0]
 have o0:=Sh.Obj.new (H:=H) 4 [.slice none 0 0,.int .i64 0,.slice none 0 0,.slice none 0 0]
 have x0:H.next < (H.new 4 [.slice none 0 0,.int .i64 0,.slice none 0 0,.slice none 0 0]).2.next:=Nat.lt_succ_self _
 have e0:H.next≤H.next:=Nat.le_refl _
 obtain ⟨go,hgo⟩:∃ y,H.next=y:=⟨_,rfl⟩
 rw [hgo] at o0 x0
 simp only [hgo]
 generalize (H.new 4 [.slice none 0 0,.int .i64 0,.slice none 0 0,.slice none 0 0]).2=H0 at k0 o0 x0 ⊢
 have out:∀ {H':AH} {a b c d:Value},Kept H0 H'→isCell a=true→isCell b=true→isCell c=true→isCell d=true→∃ H'',A3e Tryz.prog 26 H' (.agg #[a,b,c,d]) (.pointer (some ⟨go,0,some 0⟩))=some H''∧H''.cells ⟨go,0,some 0⟩ 4=some [a,b,c,d]∧Kept H H''∧Chg (fun y=>y=go) H' H''∧H''.next=H'.next:=by
  intro H' a b c d hk ha hb hc hd
  have o0':Sh.Obj H' go 4 [.slice none 0 0,.int .i64 0,.slice none 0 0,.slice none 0 0] true:=by
   unfold Sh.Obj at o0 ⊢
   rw [hk.old go x0]; exact o0
  obtain ⟨H6,w6,ar6,v6,z6⟩:=o0'.arr.write hk.wf (i:=0) (vs:=[a,b,c,d]) (by simp)
  have sc6:setCells [.slice none 0 0,.int .i64 0,.slice none 0 0,.slice none 0 0] 0 [a,b,c,d]=[a,b,c,d]:=rfl
  rw [sc6] at ar6
  refine ⟨H6,?_,ar6.cells (i:=0) (n:=4) (by simp),(k0.trans hk).then (Nat.le_refl _) (z6.weak fun y hy=>by omega),z6,v6⟩
  rw [A6r (vs:=[a,b,c,d]) A91 rfl (by simp [ha,hb,hc,hd])]
  exact w6
 have bz:A7j Tryz.prog 26 []=some (.agg #[.slice none 0 0,.int .i64 0,.slice none 0 0,.slice none 0 0]):=by
  have va:∀ xs:Array Value,A7a (.agg xs)=xs.toList:=fun _=>rfl
  refine A1f (pl:=[(0,1),(1,1),(2,1),(3,1)]) Tryz.underlying26 A52 (by kernel_rfl) ?_
  simp [A1s,va]
 have outz:∀ {H':AH},Kept H0 H'→∃ H'',A3e Tryz.prog 26 H' (.agg #[.slice none 0 0,.int .i64 0,.slice none 0 0,.slice none 0 0]) (.pointer (some ⟨go,0,some 0⟩))=some H''∧H''.cells ⟨go,0,some 0⟩ 4=some [.slice none 0 0,.int .i64 0,.slice none 0 0,.slice none 0 0]∧Kept H H'':=fun hk=>by
  obtain ⟨Hz,sz,cz,kz,_,_⟩:=out (a:=.slice none 0 0) (b:=.int .i64 0) (c:=.slice none 0 0) (d:=.slice none 0 0) hk rfl rfl rfl rfl
  exact ⟨Hz,sz,cz,kz⟩
 have bad:∀ {Hz:AH} {e:Int},Kept H Hz→A7k sigma W=e→e≠0→OfOut H Hz sigma W (.tuple #[.agg [Value.slice none 0 0,.int .i64 0,.slice none 0 0,.slice none 0 0].toArray,.int .i64 e]):=fun {Hz e} hk he h0=>by
  subst he
  exact ⟨hk,_,rfl,fun _=>rfl,fun h=>absurd h h0⟩
 have hs0:=hs.grow (k0.grow hw)
 have hJ0:=hJ.grow (k0.grow hw)
 have hlenW:∀ H',A2a Tryz.prog .len [29] [u] H'=some (.int .i64 (W.length:Int),H'):=fun H'=>by
  rw [hJ.sl.len Tryz.underlying29,List.length_map,hJ.len,List.length_map]
 obtain ⟨r1,H1,hd1,hk1,rfl⟩:=B1z hs0 hsl hsx k0.wf
 refine ⟨_,_,hd1,?_⟩
 by_cases hS:A1h sigma=0
 case neg=>
  obtain ⟨Hz,sz,cz,kz⟩:=outz hk1
  have ho:A7k sigma W=A1h sigma:=by unfold A7k; rw [if_pos hS]
  simp only [↓Sh.dn,sx,Nat.reduceBEq,reduceCtorEq,Nat.reduceEqDiff,hS,decide_false,bz,sz,hres,cz,Option.map_some]
  exact bad kz ho hS
 simp only [↓Sh.dn,sx,Nat.reduceBEq,reduceCtorEq,Nat.reduceEqDiff,hS,decide_true,hlenW]
 by_cases h2:200 < W.length
 ·obtain ⟨Hz,sz,cz,kz⟩:=outz hk1
  have ho:A7k sigma W=3:=by unfold A7k; rw [if_neg (by simpa using hS),if_pos h2]
  have hd2:decide ((200:Int) < (W.length:Int))=true:=decide_eq_true (by omega)
  simp only [↓Sh.dn,sx,Nat.reduceBEq,reduceCtorEq,Nat.reduceEqDiff,hd2,bz,sz,hres,cz,Option.map_some]
  exact bad kz ho (by decide)
 have hd2:decide ((200:Int) < (W.length:Int))=false:=decide_eq_false (by omega)
 simp only [↓Sh.dn,sx,Nat.reduceBEq,reduceCtorEq,Nat.reduceEqDiff,hd2,hlenW]
 refine A9e W.length 33 (List.range' 33 11++[5,8,9]) (fun i F H'=>Kept H1 H'∧∀ (j:Nat) q,j < i→W[j]?=some q→A6f q=0) (by simp only [↓Sh.dn,sx,Nat.reduceBEq,reduceCtorEq,Nat.reduceEqDiff]) ⟨Kept.refl hk1.wf,fun j q hj=>absurd hj (Nat.not_lt_zero j)⟩ ?_ ?_
 ·rintro i F H' hi hF f33 ⟨hk,hall⟩ k
  have f4:=hF 4 rfl
  have f31:=hF 31 rfl
  have f32:=hF 32 rfl
  simp only [↓Sh.dn,sx,Nat.reduceBEq,reduceCtorEq,Nat.reduceEqDiff] at f4 f31 f32
  have k0':=hk1.trans hk
  obtain ⟨g1,o1,q1,w1,i1,c1,s1⟩:=(hJ0.grow (k0'.grow k0.wf)).at Tryz.underlying29 A5k (i:=i) (r:=W[i].map A5a) (by rw [List.getElem?_map,List.getElem?_eq_getElem hi]; rfl)
  have hWi:=hWx _ (List.getElem_mem hi)
  have hgi:W[i]?=some W[i]:=List.getElem?_eq_getElem hi
  generalize W[i]=w at s1 hWi hgi
  obtain ⟨r2,H2,hd2,hk2,rfl⟩:=symsWord s1 hWi.1 hWi.2 hk.wf
  simp only [↓Sh.dn,sx,Nat.reduceBEq,reduceCtorEq,Nat.reduceEqDiff,f31,f32,f33,A1a,hi,decide_true,i1,c1]
  refine ⟨_,_,hd2,?_⟩
  by_cases hE:A6f w=0
  ·simp only [↓Sh.dn,sx,Nat.reduceBEq,reduceCtorEq,Nat.reduceEqDiff,hE,decide_true,f33,A9a hi (by omega)]
   refine k _ _ (by repeat (first | refine Same.put ?_ rfl | exact Same.rfl' _)) (by simp only [↓Sh.dn,sx,Nat.reduceBEq,reduceCtorEq,Nat.reduceEqDiff]) ⟨hk.trans hk2,fun j q hj hq=>?_⟩
   by_cases hji:j=i
   ·subst hji; rw [hgi] at hq; rw [← Option.some.inj hq]; exact hE
   ·exact hall j q (by omega) hq
  ·obtain ⟨Hz,sz,cz,kz⟩:=outz (k0'.trans hk2)
   have ho:A7k sigma W=A6f w:=by
    have:=A62 hall hgi hE
    unfold A7k; rw [if_neg (by simpa using hS),if_neg h2,if_pos (by rw [this]; exact hE),this]
   simp only [↓Sh.dn,sx,Nat.reduceBEq,reduceCtorEq,Nat.reduceEqDiff,hE,decide_false,f4,bz,sz,hres,cz,Option.map_some]
   exact bad kz ho hE
 ·rintro F H' hF f33 ⟨hk,hall⟩
  have f0:=hF 0 rfl
  have f1:=hF 1 rfl
  have f4:=hF 4 rfl
  have f32:=hF 32 rfl
  simp only [↓Sh.dn,sx,Nat.reduceBEq,reduceCtorEq,Nat.reduceEqDiff] at f0 f1 f4 f32
  have hWE:∀ q∈W,A6f q=0:=fun q hq=>by
   obtain ⟨j,hj⟩:=List.mem_iff_getElem?.1 hq
   exact hall j q (List.getElem?_eq_some_iff.1 hj).1 hj
  have hWE0:=A51 hWE
  have hasc:=A1v hS
  have k0':=hk1.trans hk
  obtain ⟨r3,H3,hd3,hk3,g,rfl,hG3⟩:=graphNew (n:=1) (hs0.grow (k0'.grow k0.wf)) hsl (by decide) hk.wf
  simp only [↓Sh.dn,sx,Nat.reduceBEq,reduceCtorEq,Nat.reduceEqDiff,f32,f33,A1a,Nat.lt_irrefl,decide_false,f0]
  refine ⟨_,_,hd3,?_⟩
  have kp:=Kept.push hk3.wf (.map [])
  have m1:TMap (H3.push (.map [])).2 H3.next []:=MapIs.new
  have hx3:H3.next < (H3.push (.map [])).2.next:=Nat.lt_succ_self _
  have hX4:=(hG3.own hk3.wf).kept hk3.wf kp
  have hn3:=hk3.next
  simp only [↓Sh.dn,sx,Nat.reduceBEq,reduceCtorEq,Nat.reduceEqDiff,f1,hlenW]
  have tg0:TG (H3.push (.map [])).2 H'.next H3.next g sigma [] [[]] [0] (fun y=>H'.next≤y∧y < H3.next):=⟨RowsT.start,hX4,rfl,m1,fun y hy=>⟨hy.1,by omega⟩⟩
  have k4:Kept H0 (H3.push (.map [])).2:=(k0'.trans hk3).trans kp
  obtain ⟨base,hbase⟩:∃ y,H'.next=y:=⟨_,rfl⟩
  obtain ⟨gm,hgm⟩:∃ y,H3.next=y:=⟨_,rfl⟩
  have hb0:H0.next≤base:=by rw [← hbase]; exact k0'.next
  rw [hbase,hgm] at tg0
  rw [hgm] at hx3
  simp only [hgm]
  generalize (H3.push (.map [])).2=H4 at k4 hx3 tg0 ⊢
  have hgb:base≤gm:=by rw [← hbase,← hgm]; exact hn3
  clear hX4 m1 kp hG3 hd3 hk3 hn3
  refine A9e W.length 49 (List.range' 49 48++[13,14,15,16,18,19,20]) (fun i F H'=>Kept H0 H'∧gm < H'.next∧∃ E T es R X,A6i [] ((W.map (List.map (ixN sigma))).take i)=(E,T)∧TG H' base gm g sigma E R es X∧E.length≤60 * i∧(∀ t,0≤es.getD t 0∧es.getD t 0≤(i:Int)∧(0 < es.getD t 0↔t∈T))∧∀ (j:Nat) q,j < i→W[j]?=some q→∀ x∈q,x∈sigma) (by simp only [↓Sh.dn,sx,Nat.reduceBEq,reduceCtorEq,Nat.reduceEqDiff])
   ⟨k4,hx3,[],[],[0],[[]],_,rfl,tg0,Nat.le_refl _,fun t=>?_,fun j q hj=>absurd hj (Nat.not_lt_zero j)⟩ ?_ ?_
  ·cases t with
   | zero=>simp
   | succ t=>simp
  ·clear tg0 k4 hx3 hF hall f32 f33
   clear hk k0'
   rintro i F H5 hi hF f49 ⟨hk5,hgm5,E,T,es,R,X,hE,tg,hEl,hes,hin⟩ k
   have n0:=hF 0 rfl
   have n4:=hF 4 rfl
   have f10:=hF 10 rfl
   have f11:=hF 11 rfl
   have f47:=hF 47 rfl
   have f48:=hF 48 rfl
   simp only [↓Sh.dn,sx,Nat.reduceBEq,reduceCtorEq,Nat.reduceEqDiff,f0,f4] at n0 n4 f10 f11 f47 f48
   clear f0 f1 f4
   have f0:=n0
   have f4:=n4
   obtain ⟨g1,o1,q1,w1,i1,c1,s1⟩:=(hJ0.grow (hk5.grow k0.wf)).at Tryz.underlying29 A5k (i:=i) (r:=W[i].map A5a) (by rw [List.getElem?_map,List.getElem?_eq_getElem hi]; rfl)
   have hWi:=hWx _ (List.getElem_mem hi)
   have hgi:W[i]?=some W[i]:=List.getElem?_eq_getElem hi
   have hwl:=A45 (hWE _ (List.getElem_mem hi))
   generalize W[i]=w at s1 hWi hgi hwl
   obtain ⟨r6,H6,hd6,hk6,z,rfl,hz⟩:=C1u (hs0.grow (hk5.grow k0.wf)) hasc hsl s1 hWi.1 hk5.wf
   simp only [↓Sh.dn,sx,Nat.reduceBEq,reduceCtorEq,Nat.reduceEqDiff,f0,f47,f48,f49,A1a,hi,decide_true,i1,c1]
   refine ⟨_,_,hd6,?_⟩
   cases hall:w.all (A9n sigma) with
   | false=>
    obtain ⟨Hz,sz,cz,kz⟩:=outz (hk5.trans hk6)
    have ho:A7k sigma W=4:=by
     have hov:B7j sigma W=false:=by
      cases h:B7j sigma W with
      | false=>rfl
      | true=>
       have:=List.all_eq_true.1 h w (List.mem_of_getElem? hgi)
       rw [hall] at this; cases this
     unfold A7k; rw [if_neg (by simpa using hS),if_neg h2,if_neg (by simpa using hWE0),if_pos hov]
    simp only [↓Sh.dn,sx,Nat.reduceBEq,reduceCtorEq,Nat.reduceEqDiff,f4,bz,sz,hres,cz,Option.map_some]
    exact bad kz ho (by decide)
   | true=>
   have hws:∀ x∈w,x∈sigma:=fun x hx=>A0g.1 (List.all_eq_true.1 hall x hx)
   obtain ⟨b,hb,hbf⟩:=hz hall
   rw [ix_cells hasc hws] at hb
   obtain ⟨ix,hix⟩:∃ ix,w.map (ixN sigma)=ix:=⟨_,rfl⟩
   rw [hix] at hb
   have hixl:ix.length≤60:=by rw [← hix,List.length_map]; exact hwl
   have hlz:∀ H',A2a Tryz.prog .len [69] [z] H'=some (.int .i64 (ix.length:Int),H'):=fun H'=>by
    rw [hb.toSl.len Tryz.underlying69,List.length_map]
   have hn6:=hk6.next
   obtain ⟨Z,hZ⟩:∃ Z:Nat→Prop,(fun y=>(X y∧y < H5.next)∨H6.next≤y)=Z:=⟨_,rfl⟩
   have hZx:∀ y,Z y→base≤y∧y≠gm:=fun y hy=>by
    rw [← hZ] at hy
    rcases hy with hy | hy
    ·exact tg.xs y hy.1
    ·exact ⟨by omega,by omega⟩
   have hbZ:∀ y,b=some y→¬Z y∧y≠gm:=fun y hy=>by
    have h3:=hbf y hy
    have h4:=hb.lt hk6.wf y hy
    refine ⟨fun h5=>?_,by omega⟩
    rw [← hZ] at h5
    rcases h5 with h5 | h5
    ·omega
    ·omega
   have tg6:TG H6 base gm g sigma E R es Z:=⟨tg.rt,((grHere tg.gr hk5.wf).kept hk5.wf hk6).mono (fun y hy=>by rw [← hZ]; exact .inl hy),tg.el,MapIs.keep tg.mp (hk6.old gm hgm5),hZx⟩
   simp only [↓Sh.dn,sx,Nat.reduceBEq,reduceCtorEq,Nat.reduceEqDiff,hlz]
   refine A9e ix.length 64 (List.range' 64 29++[16,18,19,20]) (fun q F2 H7=>Kept H0 H7∧H6.next≤H7.next∧Buf H7 1 z (ix.map natC) b∧∃ E2 es2 R2 s,walkT E 0 (ix.take q)=(E2,s)∧F2.get 16=some (.int .i64 ((s:Nat):Int))∧TG H7 base gm g sigma E2 R2 es2 Z∧s≤E2.length∧E2.length≤E.length+q∧∀ t,es2.getD t 0=es.getD t 0) (by simp only [↓Sh.dn,sx,Nat.reduceBEq,reduceCtorEq,Nat.reduceEqDiff])
    ⟨hk5.trans hk6,Nat.le_refl _,hb,E,es,R,0,rfl,by simp only [↓Sh.dn,sx,Nat.reduceBEq,reduceCtorEq,Nat.reduceEqDiff]; rfl,tg6,Nat.zero_le _,Nat.le_refl _,fun t=>rfl⟩ ?_ ?_
   ·rintro q F2 H7 hq hF2 f64 ⟨hk7,hn7,hbz,E2,es2,R2,s,hE2,f16,tg2,hs2,hl2,hes2⟩ k2
    have g10:=hF2 10 rfl
    have g11:=hF2 11 rfl
    have g62:=hF2 62 rfl
    have g63:=hF2 63 rfl
    simp only [↓Sh.dn,sx,Nat.reduceBEq,reduceCtorEq,Nat.reduceEqDiff,f10,f11] at g10 g11 g62 g63
    obtain ⟨pz,iz,cz⟩:=B5j Tryz.underlying69 A2f hbz.toSl hq
    have htk:ix.take (q+1)=ix.take q++[ix[q]]:=by rw [List.take_add_one,List.getElem?_eq_getElem hq]; rfl
    generalize ix[q]=x at cz htk
    have hlook:=tg2.mp.look s x
    have hstep:walkT E 0 (ix.take (q+1))=A2m E2 s x:=by rw [htk,A96,hE2]
    have wq:=A9a hq (Nat.le_trans hixl (by decide))
    cases hf:E2.findIdx? (fun p=>decide ((s,x)=p)) with
    | some j=>
     have hst:A2m E2 s x=(E2,j+1):=by unfold A2m; rw [hf]
     have hj:=(List.findIdx?_eq_some_iff_getElem.1 hf).1
     rw [hf] at hlook
     simp only [↓Sh.dn,sx,Nat.reduceBEq,reduceCtorEq,Nat.reduceEqDiff,g10,g11,g62,g63,f16,f64,A1a,hq,decide_true,iz,cz,B23,hlook,wq]
     exact k2 _ _ (by repeat (first | refine Same.put ?_ rfl | exact Same.rfl' _)) (by simp only [↓Sh.dn,sx,Nat.reduceBEq,reduceCtorEq,Nat.reduceEqDiff]) ⟨hk7,hn7,hbz,E2,es2,R2,j+1,by rw [hstep,hst],by simp only [↓Sh.dn,sx,Nat.reduceBEq,reduceCtorEq,Nat.reduceEqDiff],tg2,hj,by omega,hes2⟩
    | none=>
     have hst:A2m E2 s x=(E2++[(s,x)],E2.length+1):=by unfold A2m; rw [hf]
     rw [hf] at hlook
     have hgl:(A8p R2).length=E2.length+1:=by unfold A8p; rw [List.length_map,tg2.rt.len]
     obtain ⟨r8,H8,hd8,hc8,rfl,hX8⟩:=grState tg2.gr (by rw [hgl]; omega) (by rw [hgl,tg2.el]) (by rw [hgl,List.length_replicate]) hk7.wf
     rw [hgl] at hd8
     have hn8:=hc8.next
     have hZ8:=hX8.mono (Z:=Z) (fun y hy=>by
      rcases hy with hy | hy
      ·exact hy
      ·rw [← hZ]; exact .inr (by omega))
     have mp8:TMap H8 gm E2:=MapIs.keep tg2.mp (hc8.old gm (by omega) fun hy=>(hZx gm hy).2 rfl)
     obtain ⟨H9,a1,a2,a3,a4⟩:=mp8.add hc8.wf hf
     have hZ9:=hZ8.chg hc8.wf a3 fun y hy h=>(hZx y hy).2 h
     obtain ⟨r,hr⟩:∃ r,(R2++[[]])[s]?=some r:=⟨_,List.getElem?_eq_getElem (by rw [List.length_append,tg2.rt.len,List.length_singleton]; omega)⟩
     have hgc:A8p R2++[[]]=A8p (R2++[[]]):=by simp [A8p]
     have hr':(A8p R2++[[]])[s]?=some (r.map A4q):=by
      rw [hgc]; unfold A8p; rw [List.getElem?_map,hr]; rfl
     have hrl:r.length≤E2.length:=by
      have h3:=B67 _ s r [] hr
      have h4:((R2++[[]]).map List.length).sum=E2.length:=by simp [tg2.rt.sum]
      simp only [List.length_nil] at h3
      omega
     obtain ⟨r10,H10,hd10,hc10,hX10⟩:=grArcX (s:=s) (x0:=((E2.length+1:Nat):Int)) (x1:=(x:Int)) (x2:=(x:Int)) (x3:=0) hZ9 hr' (by rw [List.length_map]; omega) a3.wf
     have hn10:=hc10.next
     have hset:(A8p R2++[[]]).set s (r.map A4q++[[Value.int .i64 ((E2.length+1:Nat):Int),Value.int .i64 (x:Int),Value.int .i64 (x:Int),Value.int .i64 0]])=A8p ((R2++[[]]).set s (r++[(E2.length+1,(x:Int),(x:Int),0)])):=by
      rw [hgc]; unfold A8p; rw [List.map_set,List.map_append (l₁:=r)]; rfl
     have hlE:(E2++[(s,x)]).length=E2.length+1:=by simp
     have hrep:List.replicate (E2.length+1) (0:Int)++[0]=List.replicate ((E2++[(s,x)]).length+1) 0:=by rw [hlE,← List.replicate_succ']
     rw [hset,hrep] at hX10
     have tg10:TG H10 base gm g sigma (E2++[(s,x)]) ((R2++[[]]).set s (r++[(E2.length+1,(x:Int),(x:Int),0)])) (es2++[0]) Z:=⟨tg2.rt.add hs2 hr,hX10.mono (fun y hy=>by
      rcases hy with hy | hy
      ·exact hy
      ·rw [← hZ]; exact .inr (by omega)),by rw [hlE,List.length_append,tg2.el]; rfl,MapIs.keep a2 (hc10.old gm (by omega) fun hy=>(hZx gm hy).2 rfl),hZx⟩
     have hk8:Kept H0 H8:=hk7.then hb0 (hc8.weak fun y hy=>(hZx y hy).1)
     have hk9:Kept H0 H9:=hk8.then hb0 (a3.weak fun y hy=>by rw [hy]; exact hgb)
     have hk10:Kept H0 H10:=hk9.then hb0 (hc10.weak fun y hy=>(hZx y hy).1)
     have hbz10:=((hbz.chg hk7.wf hc8 fun y hy=>(hbZ y hy).1).chg hc8.wf a3 fun y hy=>(hbZ y hy).2).chg a3.wf hc10 fun y hy=>(hbZ y hy).1
     simp only [↓Sh.dn,sx,Nat.reduceBEq,reduceCtorEq,Nat.reduceEqDiff,g10,g11,g62,g63,f16,f64,A1a,hq,decide_true,iz,cz,B23,hlook]
     refine ⟨_,_,hd8,?_⟩
     simp only [↓Sh.dn,sx,Nat.reduceBEq,reduceCtorEq,Nat.reduceEqDiff,g10,g11,f16,B23,a1]
     refine ⟨_,_,hd10,?_⟩
     simp only [↓Sh.dn,sx,Nat.reduceBEq,reduceCtorEq,Nat.reduceEqDiff,f64,wq]
     refine k2 _ _ (by repeat (first | refine Same.put ?_ rfl | exact Same.rfl' _)) (by simp only [↓Sh.dn,sx,Nat.reduceBEq,reduceCtorEq,Nat.reduceEqDiff]) ⟨hk10,by omega,hbz10,E2++[(s,x)],es2++[0],_,E2.length+1,by rw [hstep,hst],by simp only [↓Sh.dn,sx,Nat.reduceBEq,reduceCtorEq,Nat.reduceEqDiff],tg10,by omega,by omega,fun t=>?_⟩
     rw [← hes2]
     rcases Nat.lt_trichotomy t es2.length with h3 | h3 | h3
     ·simp [List.getD,List.getElem?_append_left h3]
     ·subst h3; simp [List.getD]
     ·rw [List.getD_eq_getElem?_getD,List.getD_eq_getElem?_getD,List.getElem?_eq_none (by simp; omega),List.getElem?_eq_none (by omega)]
   ·rintro F2 H7 hF2 f64 ⟨hk7,hn7,hbz,E2,es2,R2,s,hE2,f16,tg2,hs2,hl2,hes2⟩
    have g10:=hF2 10 rfl
    have g49:=hF2 49 rfl
    have g63:=hF2 63 rfl
    simp only [↓Sh.dn,sx,Nat.reduceBEq,reduceCtorEq,Nat.reduceEqDiff,f10,f49] at g10 g49 g63
    rw [List.take_length] at hE2
    have hse:s < es2.length:=by rw [tg2.el]; omega
    have hget:es2[s]=es2.getD s 0:=by simp [List.getD,hse]
    obtain ⟨h3,h4,h5⟩:=hes s
    rw [← hes2] at h3 h4 h5
    obtain ⟨r8,H8,hd8,hc8,hX8⟩:=grEndX (s:=s) (x:=0) tg2.gr hse (by rw [List.length_replicate]; omega) hk7.wf (by rw [hget]; exact h3) (by rw [hget]; omega)
    have hcz:∀ (l:List Int) (h:s < l.length),l=List.replicate (E2.length+1) 0→A8y es2[s] (l[s]'h) 0=0:=fun l h hl=>by subst hl; simp [A8y]
    have hrp:(List.replicate (E2.length+1) (0:Int)).set s 0=List.replicate (E2.length+1) 0:=by
     refine List.ext_getElem? fun j=>?_
     rw [List.getElem?_set]
     by_cases hj:s=j
     ·subst hj; rw [if_pos rfl,if_pos (by simp; omega),List.getElem?_replicate,if_pos (by omega)]
     ·rw [if_neg hj]
    rw [hcz _ _ rfl,hrp] at hX8
    have hn8:=hc8.next
    have hix1:(W.map (List.map (ixN sigma))).take (i+1)=(W.map (List.map (ixN sigma))).take i++[ix]:=by
     rw [List.take_add_one,List.getElem?_map,hgi]
     simp [hix]
    simp only [↓Sh.dn,sx,Nat.reduceBEq,reduceCtorEq,Nat.reduceEqDiff,f64,g10,g49,g63,f16,A1a,Nat.lt_irrefl,decide_false]
    refine ⟨_,_,hd8,?_⟩
    simp only [↓Sh.dn,sx,Nat.reduceBEq,reduceCtorEq,Nat.reduceEqDiff,g49,A9a hi (by omega)]
    refine k _ _ ?_ (by simp only [↓Sh.dn,sx,Nat.reduceBEq,reduceCtorEq,Nat.reduceEqDiff]) ⟨hk7.then hb0 (hc8.weak fun y hy=>(hZx y hy).1),by omega,E2,T++[s],es2.set s (es2[s]+1),R2,Z,?_,⟨tg2.rt,hX8,by rw [List.length_set,tg2.el],MapIs.keep tg2.mp (hc8.old gm (by omega) fun hy=>(hZx gm hy).2 rfl),hZx⟩,by omega,fun t=>?_,fun j q hj hq=>?_⟩
    ·repeat refine Same.put ?_ rfl
     exact Same.trans (by repeat (first | refine Same.put ?_ rfl | exact Same.rfl' _)) (hF2.sub rfl)
    ·rw [hix1,A57,hE,hE2]
    ·obtain ⟨h6,h7,h8⟩:=hes t
     rw [← hes2] at h6 h7 h8
     by_cases ht:s=t
     ·subst ht
      have:(es2.set s (es2[s]+1)).getD s 0=es2[s]+1:=by simp [List.getD,hse]
      rw [this,hget]
      exact ⟨by omega,by omega,⟨fun _=>by simp,fun _=>by omega⟩⟩
     ·have:(es2.set s (es2[s]+1)).getD t 0=es2.getD t 0:=by simp [List.getD,List.getElem?_set,ht]
      rw [this,h8,List.mem_append,List.mem_singleton]
      exact ⟨h6,by omega,⟨.inl,fun h9=>h9.resolve_right fun h10=>ht h10.symm⟩⟩
    ·by_cases hj2:j=i
     ·subst hj2
      rw [hgi] at hq
      rw [← Option.some.inj hq]; exact hws
     ·exact hin j q (by omega) hq
  ·clear tg0 k4 hx3 hall f32 f33
   clear hk k0'
   rintro F5 H5 hF5 f49 ⟨hk5,hgm5,E,T,es,R,X,hE,tg,hEl,hes,hin⟩
   have n4:=hF5 4 rfl
   have f10:=hF5 10 rfl
   have f48:=hF5 48 rfl
   simp only [↓Sh.dn,sx,Nat.reduceBEq,reduceCtorEq,Nat.reduceEqDiff,f4] at n4 f10 f48
   have hin':∀ w∈W,∀ x∈w,x∈sigma:=fun w hw x hx=>by
    obtain ⟨j,hj⟩:=List.mem_iff_getElem?.1 hw
    exact hin j w (List.getElem?_eq_some_iff.1 hj).1 hj x hx
   have hov:¬B7j sigma W=false:=by
    intro h
    have:B7j sigma W=true:=List.all_eq_true.2 fun w hw=>List.all_eq_true.2 fun x hx=>A0g.2 (hin' w hw x hx)
    rw [h] at this; cases this
   have htk:(W.map (List.map (ixN sigma))).take W.length=W.map (List.map (ixN sigma)):=List.take_of_length_le (by rw [List.length_map]; exact Nat.le_refl _)
   rw [htk] at hE
   have hmp:=B6w (S:=fun x=>x∈sigma) (f:=ixN sigma) (ixN_inj hasc) (W:=W) (E:=[]) (fun p hp=>by cases hp) hin'
   have hmp0:mapT (ixN sigma) []=[]:=rfl
   rw [hmp0,hE] at hmp
   injection hmp with hE1 hT1
   have hlE:E.length=(A6i [] W).1.length:=by rw [hE1]; unfold mapT; rw [List.length_map]
   obtain ⟨sv,av,ev,cv,vals,hR⟩:=tg.gr.read
   have c1:=hR.arr.cell 1
   have hlenA:∀ H',A2a Tryz.prog .len [68] [av] H'=some (.int .i64 ((E.length+1:Nat):Int),H'):=fun H'=>by
    rw [hR.jag.sl.len Tryz.underlying68,List.length_map,hR.jag.len]; unfold A8p; rw [List.length_map,tg.rt.len]
   have hcell:H5.cell ⟨g,1,some 0⟩=some av:=c1
   simp only [↓Sh.dn,sx,Nat.reduceBEq,reduceCtorEq,Nat.reduceEqDiff,f48,f49,f10,A1a,Nat.lt_irrefl,decide_false,hcell,hlenA]
   by_cases h3:3000 < E.length+1
   ·obtain ⟨Hz,sz,cz,kz⟩:=outz hk5
    have ho:A7k sigma W=3:=by unfold A7k; rw [if_neg (by simpa using hS),if_neg h2,if_neg (by simpa using hWE0),if_neg hov,if_pos (by omega)]
    have d3:decide ((3000:Int) < ((E.length+1:Nat):Int))=true:=decide_eq_true (by omega)
    simp only [↓Sh.dn,sx,Nat.reduceBEq,reduceCtorEq,Nat.reduceEqDiff,d3,n4,bz,sz,hres,cz,Option.map_some]
    exact bad kz ho (by decide)
   have ho:A7k sigma W=0:=by unfold A7k; rw [if_neg (by simpa using hS),if_neg h2,if_neg (by simpa using hWE0),if_neg hov,if_neg (by omega)]
   have d3:decide ((3000:Int) < ((E.length+1:Nat):Int))=false:=decide_eq_false (by omega)
   have hsig:∀ p∈E,∃ k:Nat,∃ x,sigma[p.2]?=some x∧x∈sigma∧A8r sigma x=(p.2:Int):=fun p hp=>by
    rw [hE1] at hp
    obtain ⟨p0,h4,rfl⟩:=List.mem_map.1 hp
    have h5:=A0y (S:=fun x=>x∈sigma) (W:=W) (E:=[]) (fun p hp=>by cases hp) hin' p0 h4
    obtain ⟨k,h6,h7,h8⟩:=B9u hasc h5
    exact ⟨k,p0.2,by rw [h8]; exact h6,h5,by rw [h7,h8]⟩
   have hto:∀ r∈R,∀ e∈r,e.1 < E.length+1∧e.2.1 < sigma.length∧e.2.2.1 < sigma.length:=fun r hr e he=>by
    obtain ⟨s,hs⟩:=List.mem_iff_getElem?.1 hr
    obtain ⟨k,x,h4,rfl⟩:=(tg.rt.row s r hs e).1 he
    have h5:=(List.getElem?_eq_some_iff.1 h4).1
    obtain ⟨_,y,h6,_⟩:=hsig _ (List.mem_of_getElem? h4)
    have h7:=(List.getElem?_eq_some_iff.1 h6).1
    simp only at h7
    exact ⟨by simp only; omega,by simp only; omega,by simp only; omega⟩
   obtain ⟨r9,H9,hd9,hk9,M,hM,m1,m2,m3,m4,m5,m6⟩:=graphNet (n:=E.length+1) tg.gr tg.rt.len tg.el (by simp) (by omega) (by omega) hsl hto (by rw [tg.rt.sum]; omega) hk5.wf
   have k19:=hk5.trans hk9
   obtain ⟨⟨sgM,arM,enM,rfl,q1,q2,q3⟩⟩:=hM H9 fun y _=>rfl
   obtain ⟨H10,s10,c10,k10,z10,x10⟩:=out k19 q1.isCell (show isCell (.int .i64 M.states)=true from rfl) q2.isCell q3.isCell
   simp only [↓Sh.dn,sx,Nat.reduceBEq,reduceCtorEq,Nat.reduceEqDiff,d3,f10]
   refine ⟨_,_,hd9,?_⟩
   simp only [↓Sh.dn,sx,Nat.reduceBEq,reduceCtorEq,Nat.reduceEqDiff,n4,s10,hres,c10,Option.map_some]
   rw [← ho]
   refine ⟨k10,_,rfl,fun h=>absurd ho h,fun _=>⟨M,?_,?_⟩⟩
   ·exact hM H10 fun y hy => by
      by_cases hyl : y < H9.next
      · exact z10.old y hyl (by have := hk5.next; omega)
      · have e1 := C0x hk9.wf (y := y) (by omega)
        have e2 := C0x k10.wf (y := y) (by omega)
        rw [e1, e2]
   ·have hno:A2b∉sigma:=B1o hS
    obtain ⟨_,hend⟩:=B9h (W:=W) (E:=[]) (fun k p hp=>by simp at hp)
    have hget:∀ (k s:Nat) (x:ByteArray),(A6i [] W).1[k]?=some (s,x)→E[k]?=some (s,ixN sigma x):=fun k s x h=>by
     rw [hE1]; unfold mapT; rw [List.getElem?_map,h]; rfl
    have hback:∀ (k s j:Nat),E[k]?=some (s,j)→∃ x,(A6i [] W).1[k]?=some (s,x)∧j=ixN sigma x:=fun k s j h=>by
     rw [hE1] at h; unfold mapT at h; rw [List.getElem?_map] at h
     obtain ⟨p,h5,h6⟩:=Option.map_eq_some_iff.1 h
     injection h6 with h6 h7
     exact ⟨p.2,by rw [h5,← h6],h7.symm⟩
    have hsymT:=A0y (S:=fun x=>x∈sigma) (W:=W) (E:=[]) (fun p hp=>by cases hp) hin'
    have htx:∀ (k s:Nat) (x:ByteArray),(A6i [] W).1[k]?=some (s,x)→A6y sigma ((ixN sigma x:Nat):Int)=x:=fun k s x h=>by
     have hx:=hsymT _ (List.mem_of_getElem? h)
     obtain ⟨j,_,h6,h7⟩:=B9u hasc hx
     rw [h7,← h6]
     exact C3x hasc (.inr hx) hno
    refine ⟨m1,by rw [m2,← hlE]; omega,by rw [tg.rt.sum] at m3; omega,fun a=>?_,by omega,fun e=>?_⟩
    ·rw [m4]
     constructor
     ·rintro ⟨s,r,h4,e,he,rfl⟩
      obtain ⟨k,j,h5,rfl⟩:=(tg.rt.row s r h4 e).1 he
      obtain ⟨x,h6,rfl⟩:=hback k s j h5
      refine ⟨k,s,x,h6,?_⟩
      unfold B9j
      simp only [htx k s x h6]
      rfl
     ·rintro ⟨k,s,x,h4,rfl⟩
      have h5:=hget k s x h4
      have h6:=tg.rt.src k _ h5
      have h7:=(List.getElem?_eq_some_iff.1 h5).1
      obtain ⟨r,hr⟩:∃ r,R[s]?=some r:=⟨_,List.getElem?_eq_getElem (by rw [tg.rt.len]; simp only at h6; omega)⟩
      refine ⟨s,r,hr,_,(tg.rt.row s r hr _).2 ⟨k,_,h5,rfl⟩,?_⟩
      unfold B9j
      simp only [htx k s x h4]
      rfl
    ·rw [m6]
     have hrep:∀ t:Nat,(List.replicate (E.length+1) (0:Int)).getD t 0=0:=fun t=>by
      rw [List.getD_eq_getElem?_getD,List.getElem?_replicate]
      split <;> rfl
     constructor
     ·rintro ⟨s,h4,h5,rfl⟩
      refine ⟨s,?_,by rw [hrep]⟩
      rw [← hT1]
      exact ((hes s).2.2).1 h5
     ·rintro ⟨t,h4,rfl⟩
      have h5:=hend t h4
      rw [← hT1] at h4
      exact ⟨t,by omega,((hes t).2.2).2 h4,by rw [hrep]⟩
end Go.Proofs.YtcgbiedfbacgpaaGreat
/- The maps of texts of a tree, one for each state. -/
namespace Go.Proofs.YtcgbiedfbacgpaaGreat
open Go Go.Proofs Go.Proofs.Sh
def strK (x:ByteArray):Value:=.string x
theorem C5f (a:ByteArray):A0n Tryz.prog 9 (strK a)=true:=by
 unfold A0n strK
 simp only [plainKey,keyT,A4g,Tryz.underlying9,Bool.and_self]; rfl
theorem C9w (a b:ByteArray):eqT Tryz.prog A4g 9 (strK a) (strK b)=some (decide (a=b)):=by
 unfold strK
 show eqT Tryz.prog (19+1) _ _ _=_
 rw [eqT.eq_def]
 simp only [Tryz.underlying9,A2o]
def rowS (s:Nat):Nat→List (Nat×ByteArray)→List (ByteArray×Value)
 | _,[]=>[]
 | k,p :: E=>if p.1=s then (p.2,.int .i64 ((k+1:Nat):Int)) :: rowS s (k+1) E else rowS s (k+1) E
theorem B5q (s:Nat) (p:Nat×ByteArray):∀ (k:Nat) (E:List (Nat×ByteArray)),rowS s k (E++[p])=rowS s k E++(if p.1=s then [(p.2,.int .i64 ((k+E.length+1:Nat):Int))] else [])
 | k,[]=>by simp [rowS]
 | k,q :: E=>by
  have ih:=B5q s p (k+1) E
  rw [show k+1+E.length+1=k+(E.length+1)+1 by omega] at ih
  simp only [List.cons_append,rowS,ih,List.length_cons]
  by_cases h:q.1=s
  ·rw [if_pos h,if_pos h,List.cons_append]
  ·rw [if_neg h,if_neg h]
theorem B7q (s:Nat) (x:ByteArray):∀ (k:Nat) (E:List (Nat×ByteArray)),A7p (rowS s k E) x=(E.findIdx? fun p=>decide ((s,x)=p)).map fun i=>.int .i64 ((k+i+1:Nat):Int)
  | k,[]=>rfl
  | k,p :: E=>by
    have ih:=B7q s x (k+1) E
    have hn : ∀ o : Option Nat, (o.map fun i => Value.int .i64 ((k + 1 + i + 1 : Nat) : Int)) = (o.map (· + 1)).map fun i => Value.int .i64 ((k + i + 1 : Nat) : Int) := fun o => by
      cases o with
      | none=>rfl
      | some i=>simp only [Option.map_some]; rw [show k+1+i+1=k+(i+1)+1 by omega]
    rw [hn] at ih
    rw [List.findIdx?_cons]
    by_cases h:p.1=s
    · by_cases h2:x=p.2
      · have h3:decide ((s,x)=p)=true:=decide_eq_true (by rw [← h,h2])
        rw [h3]
        simp [rowS,h,A7p,h2]
      · have h3:decide ((s,x)=p)=false:=decide_eq_false fun e=>h2 (by rw [← e])
        rw [h3]
        unfold A7p at ih ⊢
        simp only [rowS,h,if_true,List.find?_cons,decide_eq_false h2,ih,Bool.false_eq_true,if_false]
    · have h3:decide ((s,x)=p)=false:=decide_eq_false fun e=>h (by rw [← e])
      rw [h3]
      simp only [rowS,h,if_false,ih,Bool.false_eq_true]
def SMap (H:AH) (g s:Nat) (E:List (Nat×ByteArray)):Prop:=MapIs H g strK (rowS s 0 E)
theorem SMap.look {H:AH} {g s:Nat} {E:List (Nat×ByteArray)} (h:SMap H g s E) (x:ByteArray):
  A2q Tryz.prog 85 (.map (some g)) (.string x) true H=some (match E.findIdx? (fun p=>decide ((s,x)=p)) with | some k=>.tuple #[.int .i64 ((k+1:Nat):Int),.bool true] | none=>.tuple #[.int .i64 0,.bool false]):=by
 have:=MapIs.look (P:=Tryz.prog) (ok:=true) Tryz.underlying85 A01 C5f C9w h x
 unfold strK at this
 rw [this,B7q]
 cases E.findIdx? (fun p=>decide ((s,x)=p)) with
 | none=>rfl
 | some k=>simp only [Option.map_some,Option.getD_some,Option.isSome_some,cond_true,Nat.zero_add]
theorem SMap.add {H:AH} {g s:Nat} {E:List (Nat×ByteArray)} (h:SMap H g s E) (hw:Wf H) {x:ByteArray} (hn:E.findIdx? (fun p=>decide ((s,x)=p))=none):
  ∃ H',A2g Tryz.prog 85 (.map (some g)) (.string x) (.int .i64 ((E.length+1:Nat):Int)) H=some H'∧SMap H' g s (E++[(s,x)])∧Chg (fun y=>y=g) H H'∧H'.next=H.next:=by
 obtain ⟨H',h1,h2,h3,h4⟩:=MapIs.add (P:=Tryz.prog) Tryz.underlying85 C5f C9w h hw (a:=x) (by rw [B7q,hn]; rfl) (.int .i64 ((E.length+1:Nat):Int))
 refine ⟨H',h1,?_,h3,h4⟩
 unfold SMap
 rw [B5q,if_pos rfl,Nat.zero_add]
 exact h2
theorem SMap.other {H:AH} {g s t:Nat} {E:List (Nat×ByteArray)} {x:ByteArray} (h:SMap H g s E) (hs:t≠s):SMap H g s (E++[(t,x)]):=by
 unfold SMap
 rw [B5q,if_neg hs,List.append_nil]
 exact h
end Go.Proofs.YtcgbiedfbacgpaaGreat
/- The row of the maps of a tree. -/
namespace Go.Proofs.YtcgbiedfbacgpaaGreat
open Go Go.Proofs Go.Proofs.Sh
structure SMaps (H:AH) (base:Nat) (z:Value) (oz:Option Nat) (gs:List Nat) (E:List (Nat×ByteArray)):Prop where
 bf:Buf H 1 z (gs.map fun g=>[Value.map (some g)]) oz
 len:gs.length=E.length+1
 nod:gs.Nodup
 mp:∀ (s:Nat) g,gs[s]?=some g→SMap H g s E
 fr:∀ g∈gs,base≤g∧oz≠some g
 fz:∀ y,oz=some y→base≤y
theorem B0t (s:Nat):∀ (k:Nat) (E:List (Nat×ByteArray)),(∀ p∈E,p.1≠s)→rowS s k E=[]
 | _,[],_=>rfl
 | k,p :: E,h=>by
  unfold rowS
  rw [if_neg (h p List.mem_cons_self)]
  exact B0t s (k+1) E fun q hq=>h q (List.mem_cons_of_mem _ hq)
theorem SMaps.kept {H H':AH} {base:Nat} {z:Value} {oz:Option Nat} {gs:List Nat} {E:List (Nat×ByteArray)} (h:SMaps H base z oz gs E) (hw:Wf H) (hk:Kept H H'):SMaps H' base z oz gs E:=
 ⟨h.bf.kept hw hk,h.len,h.nod,fun s g hg=>MapIs.keep (h.mp s g hg) (hk.old g (MapIs.lt (h.mp s g hg) hw)),h.fr,h.fz⟩
theorem SMaps.at {H:AH} {base:Nat} {z:Value} {oz:Option Nat} {gs:List Nat} {E:List (Nat×ByteArray)} (h:SMaps H base z oz gs E) {s:Nat} (hs:s≤E.length):
  ∃ g p,gs[s]?=some g∧A7b Tryz.prog 86 z (.int .i64 (s:Int))=some (.pointer (some p))∧H.cell p=some (.map (some g))∧SMap H g s E:=by
 obtain ⟨g,hg⟩:∃ g,gs[s]?=some g:=⟨_,List.getElem?_eq_getElem (by rw [h.len]; omega)⟩
 obtain ⟨p,h1,h2⟩:=Sl.elem (s:=1) Tryz.underlying86 B46 h.bf.toSl (i:=s) (u:=.map (some g)) (by rw [List.getElem?_map,hg]; rfl)
 exact ⟨g,p,hg,h1,h2,h.mp s g hg⟩
theorem SMaps.lens {H:AH} {base:Nat} {z:Value} {oz:Option Nat} {gs:List Nat} {E:List (Nat×ByteArray)} (h:SMaps H base z oz gs E) (H':AH):A2a Tryz.prog .len [86] [z] H'=some (.int .i64 ((E.length+1:Nat):Int),H'):=by
 rw [h.bf.toSl.len Tryz.underlying86,List.length_map,h.len]
theorem SMaps.more {H:AH} {base:Nat} {z:Value} {oz:Option Nat} {gs:List Nat} {E:List (Nat×ByteArray)} (h:SMaps H base z oz gs E) (hw:Wf H) (hb:base≤H.next) (hsrc:B1d E) {s g:Nat} {x:ByteArray} (hs:s≤E.length) (hg:gs[s]?=some g) (hn:E.findIdx? (fun p=>decide ((s,x)=p))=none) (hl:E.length≤1073741822):
  ∃ H1 a cap z' H3 oz',A2g Tryz.prog 85 (.map (some g)) (.string x) (.int .i64 ((E.length+1:Nat):Int)) H=some H1∧z=.slice a (E.length+1) cap∧
   A4a Tryz.prog 86 1 [(0,.map (some H1.next))] (H1.push (.map [])).2=some (.slice (some ⟨(H1.push (.map [])).2.next,0,some 0⟩) 1 1,((H1.push (.map [])).2.new 1 [.map (some H1.next)]).2)∧
   A2a Tryz.prog .append [86,86] [.slice a (E.length+1) cap,.slice (some ⟨(H1.push (.map [])).2.next,0,some 0⟩) 1 1] ((H1.push (.map [])).2.new 1 [.map (some H1.next)]).2=some (z',H3)∧
   SMaps H3 base z' oz' (gs++[H1.next]) (E++[(s,x)])∧Chg (fun y=>y∈gs∨oz=some y) H H3∧H1.next=H.next∧(∀ y,oz'=some y→oz=some y∨H1.next < y):=by
 obtain ⟨H1,a1,a2,a3,a4⟩:=(h.mp s g hg).add hw hn
 have kp:=Kept.push a3.wf (.map [])
 have hgm:=List.mem_of_getElem? hg
 have hgl:=MapIs.lt (h.mp s g hg) hw
 have b1:Buf H1 1 z (gs.map fun g=>[Value.map (some g)]) oz:=h.bf.chg hw a3 fun y hy hX=>by rw [hX] at hy; exact (h.fr g hgm).2 hy
 have b2:=b1.kept a3.wf kp
 obtain ⟨a,cap,z',H3,oz',e1,e2,e3,e4,e5⟩:=b2.push kp.wf (x:=[.map (some H1.next)]) rfl
 rw [List.length_map,h.len] at e1 e2
 have ha:=app1_86 (H:=(H1.push (.map [])).2) (base:=a) (len:=E.length+1) (cap:=cap) (x:=[.map (some H1.next)]) rfl (by omega)
 rw [e2] at ha
 have hbs:=B8u (H:=(H1.push (.map [])).2) (x:=.map (some H1.next)) rfl rfl
 have hpn:(H1.push (.map [])).2.next=H1.next+1:=rfl
 have hold:∀ g'∈gs,g' < H.next:=fun g' hg'=>by
  obtain ⟨j,hj⟩:=List.mem_iff_getElem?.1 hg'
  exact MapIs.lt (h.mp j g' hj) hw
 have hoz:∀ y,oz=some y→y < H.next:=h.bf.lt hw
 have hoz':∀ y,oz'=some y→oz=some y∨H1.next < y:=fun y hy=>by
  rcases e5 y hy with h1 | h1
  ·exact .inl h1
  ·exact .inr (by omega)
 refine ⟨H1,a,cap,z',H3,oz',a1,e1,hbs,ha,⟨?_,by simp [h.len],?_,fun t g' hg'=>?_,fun g' hg'=>?_,fun y hy=>?_⟩,((a3.weak fun y hy=>by rw [hy]; exact .inl hgm).trans kp.chg).trans (e4.weak fun y hy=>.inr hy),a4,hoz'⟩
 ·rw [List.map_append]; exact e3
 ·rw [List.nodup_append]
  refine ⟨h.nod,by simp,fun y hy w hw2=>?_⟩
  rw [List.mem_singleton.1 hw2]
  have:=hold y hy
  omega
 ·rcases Nat.lt_trichotomy t gs.length with h1 | h1 | h1
  ·rw [List.getElem?_append_left h1] at hg'
   have hgt:=hold g' (List.mem_of_getElem? hg')
   have hkeep:H3.objs.get g'=H1.objs.get g':=by
    rw [e4.old g' (by omega) fun hy=>(h.fr g' (List.mem_of_getElem? hg')).2 hy,kp.old g' (by omega)]
   by_cases hts:t=s
   ·subst hts
    rw [hg] at hg'
    rw [← Option.some.inj hg'] at hkeep ⊢
    exact MapIs.keep a2 hkeep
   ·have hne : g' ≠ g := fun e => hts (by
      have h2 := (List.getElem?_eq_some_iff.1 hg').2
      have h3 := (List.getElem?_eq_some_iff.1 hg).2
      exact (List.getElem_inj h.nod).1 (by rw [h2, h3, e]))
    have := (h.mp t g' hg').other (x := x) (Ne.symm hts)
    exact MapIs.keep this (by rw [hkeep, a3.old g' hgt hne])
  ·subst h1
   rw [List.getElem?_append_right (Nat.le_refl _),Nat.sub_self] at hg'
   simp at hg'
   subst hg'
   have h0:SMap H3 H1.next gs.length (E++[(s,x)]):=by
    unfold SMap
    rw [B0t]
    ·exact MapIs.keep (MapIs.new (H:=H1) (f:=strK)) (e4.old _ (by omega) fun hy=>by have:=hoz _ hy; omega)
    ·intro p hp
     rcases List.mem_append.1 hp with h1 | h1
     ·obtain ⟨k,hk⟩:=List.mem_iff_getElem?.1 h1
      have:=hsrc k p hk
      have:=(List.getElem?_eq_some_iff.1 hk).1
      have:=h.len
      omega
     ·rw [List.mem_singleton.1 h1]
      have:=h.len
      simp only; omega
   exact h0
  ·rw [List.getElem?_eq_none (by simp; omega)] at hg'; cases hg'
 ·rcases List.mem_append.1 hg' with h1 | h1
  ·refine ⟨(h.fr g' h1).1,fun hy=>?_⟩
   rcases hoz' g' hy with h2 | h2
   ·exact (h.fr g' h1).2 h2
   ·have:=hold g' h1; omega
  ·rw [List.mem_singleton.1 h1]
   refine ⟨by omega,fun hy=>?_⟩
   rcases hoz' _ hy with h2 | h2
   ·have:=hoz _ h2; omega
   ·omega
 ·rcases hoz' y hy with h1 | h1
  ·exact h.fz y h1
  ·omega
end Go.Proofs.YtcgbiedfbacgpaaGreat
/- The reference's Of: what is wrong with it. -/
namespace Go.Proofs.YtcgbiedfbacgpaaGreat
open Go Go.Proofs Go.Proofs.Sh
def RefOut (H H':AH) (sigma:List ByteArray) (W:List (List ByteArray)) (r:Value):Prop:=
 Kept H H'∧∃ mv,r=.tuple #[mv,.int .i64 (A7k sigma W)]∧∃ a m c d,mv=.agg #[a,.int .i64 m,c,d]∧isCell a=true∧isCell c=true∧isCell d=true
structure OT (H:AH) (base gb gm:Nat) (cl av ev z:Value) (os oa oe oz:Option Nat) (sigma:List ByteArray) (gs:List Nat) (E:List (Nat×ByteArray)) (D:List Nat) (arcs:List ArcD) (es:List EndD):Prop where
 nb:NB H base gb cl av ev os oa oe 1 sigma arcs es
 sm:SMaps H base z oz gs E
 bm:BMap H gm D
 gmb:base≤gm
 m1:gm≠gb∧os≠some gm∧oa≠some gm∧oe≠some gm∧oz≠some gm∧gm∉gs
 m2:∀ y,y∈gs∨oz=some y→y≠gb∧os≠some y∧oa≠some y∧oe≠some y
section
variable {H:AH} {base gb gm:Nat} {cl av ev z:Value} {os oa oe oz:Option Nat} {sigma:List ByteArray} {gs:List Nat} {E:List (Nat×ByteArray)} {D:List Nat} {arcs:List ArcD} {es:List EndD}
theorem OT.kept {H':AH} (h:OT H base gb gm cl av ev z os oa oe oz sigma gs E D arcs es) (hw:Wf H) (hk:Kept H H'):OT H' base gb gm cl av ev z os oa oe oz sigma gs E D arcs es:=
 ⟨h.nb.kept hw hk,h.sm.kept hw hk,MapIs.keep h.bm (hk.old gm (MapIs.lt h.bm hw)),h.gmb,h.m1,h.m2⟩
theorem SMaps.chg {H H':AH} {base:Nat} {z:Value} {oz:Option Nat} {gs:List Nat} {E:List (Nat×ByteArray)} (h:SMaps H base z oz gs E) (hw:Wf H) {X:Nat→Prop} (hc:Chg X H H') (hx:∀ y,X y→y∉gs∧oz≠some y):SMaps H' base z oz gs E:=
 ⟨h.bf.chg hw hc fun y hy hX=>(hx y hX).2 hy,h.len,h.nod,fun s g hg=>MapIs.keep (h.mp s g hg) (hc.old g (MapIs.lt (h.mp s g hg) hw) fun hX=>(hx g hX).1 (List.mem_of_getElem? hg)),h.fr,h.fz⟩
theorem SMaps.lt {H:AH} {base:Nat} {z:Value} {oz:Option Nat} {gs:List Nat} {E:List (Nat×ByteArray)} (h:SMaps H base z oz gs E) (hw:Wf H):∀ y,y∈gs∨oz=some y→y < H.next:=by
 rintro y (hy | hy)
 ·obtain ⟨j,hj⟩:=List.mem_iff_getElem?.1 hy
  exact MapIs.lt (h.mp j y hj) hw
 ·exact h.bf.lt hw y hy
theorem OT.more (h:OT H base gb gm cl av ev z os oa oe oz sigma gs E D arcs es) (hw:Wf H) (hsrc:B1d E) {s g:Nat} {x:ByteArray} (hs:s≤E.length) (hg:gs[s]?=some g) (hn:E.findIdx? (fun p=>decide ((s,x)=p))=none) (hl:E.length≤1000000) (ha:arcs.length=E.length):
  ∃ H1 a cap z' H3 oz',A2g Tryz.prog 85 (.map (some g)) (.string x) (.int .i64 ((E.length+1:Nat):Int)) H=some H1∧z=.slice a (E.length+1) cap∧
   A4a Tryz.prog 86 1 [(0,.map (some H1.next))] (H1.push (.map [])).2=some (.slice (some ⟨(H1.push (.map [])).2.next,0,some 0⟩) 1 1,((H1.push (.map [])).2.new 1 [.map (some H1.next)]).2)∧
   A2a Tryz.prog .append [86,86] [.slice a (E.length+1) cap,.slice (some ⟨(H1.push (.map [])).2.next,0,some 0⟩) 1 1] ((H1.push (.map [])).2.new 1 [.map (some H1.next)]).2=some (z',H3)∧
   H3.cell ⟨gb,2,some 0⟩=some av∧
   ∃ b cap2 av' H4 H5 oa',av=.slice b E.length cap2∧A4a Tryz.prog 23 1 [(0,.agg (ArcD.cells ⟨(s:Int),x,x,((E.length+1:Nat):Int),0⟩).toArray)] H3=some (.slice (some ⟨H3.next,0,some 0⟩) 1 1,(H3.new 5 (ArcD.cells ⟨(s:Int),x,x,((E.length+1:Nat):Int),0⟩)).2)∧
   A2a Tryz.prog .append [23,23] [.slice b E.length cap2,.slice (some ⟨H3.next,0,some 0⟩) 1 1] (H3.new 5 (ArcD.cells ⟨(s:Int),x,x,((E.length+1:Nat):Int),0⟩)).2=some (av',H4)∧
   A3e Tryz.prog 23 H4 av' (.pointer (some ⟨gb,2,some 0⟩))=some H5∧
   OT H5 base gb gm cl av' ev z' os oa' oe oz' sigma (gs++[H1.next]) (E++[(s,x)]) D (arcs++[⟨(s:Int),x,x,((E.length+1:Nat):Int),0⟩]) es∧Chg (fun y=>base≤y) H H3∧Chg (fun y=>base≤y) H H5:=by
 have hbn:base≤H.next:=Nat.le_trans h.gmb (Nat.le_of_lt (MapIs.lt h.bm hw))
 obtain ⟨H1,a,cap,z',H3,oz',a1,a2,a3,a4,a5,a6,a7,a8⟩:=h.sm.more hw hbn hsrc hs hg hn (by omega)
 have nb3:=h.nb.chg hw a6 fun y hy=>h.m2 y hy
 have bm3:BMap H3 gm D:=MapIs.keep h.bm (a6.old gm (MapIs.lt h.bm hw) fun hy=>by
  rcases hy with hy | hy
  ·exact h.m1.2.2.2.2.2 hy
  ·exact h.m1.2.2.2.2.1 hy)
 have bx2:=nb3.bx.cell 2
 obtain ⟨b,cap2,av',H4,H5,oa',rfl,b1,b2,b3,b4,b5,b6⟩:=nb3.pushArc a6.wf ⟨(s:Int),x,x,((E.length+1:Nat):Int),0⟩ (by omega)
 rw [ha] at b2 bx2
 have old:∀ y,y∈gs++[H1.next]∨oz'=some y→(y∈gs∨oz=some y)∨H.next≤y:=fun y hy=>by
  rcases hy with hy | hy
  ·rcases List.mem_append.1 hy with hy | hy
   ·exact .inl (.inl hy)
   ·rw [List.mem_singleton.1 hy]; exact .inr (by omega)
  ·rcases a8 y hy with h1 | h1
   ·exact .inl (.inr h1)
   ·exact .inr (by omega)
 have hgl:=MapIs.lt h.bm hw
 have hgbl:=h.nb.bx.lt hw
 have hsl:=h.nb.sg.lt hw
 have hal:=h.nb.ar.lt hw
 have hel:=h.nb.en.lt hw
 have m3:∀ y,y∈gs++[H1.next]∨oz'=some y→y≠gb∧os≠some y∧oa≠some y∧oe≠some y:=fun y hy=>by
  rcases old y hy with h1 | h1
  ·exact h.m2 y h1
  ·exact ⟨by omega,fun e=>by have:=hsl y e; omega,fun e=>by have:=hal y e; omega,fun e=>by have:=hel y e; omega⟩
 have sm5:=a5.chg a6.wf b5 fun y hy=>⟨fun hm=>by
  have h3:=m3 y (.inl hm)
  rcases hy.2 with h1 | h1
  ·exact h3.1 h1
  ·exact h3.2.2.1 h1,fun hm=>by
  have h3:=m3 y (.inr hm)
  rcases hy.2 with h1 | h1
  ·exact h3.1 h1
  ·exact h3.2.2.1 h1⟩
 have h3l:=a5.lt a6.wf
 have z6:Chg (fun y=>base≤y) H H3:=a6.weak fun y hy=>by
  rcases hy with hy | hy
  ·exact (h.sm.fr y hy).1
  ·exact h.sm.fz y hy
 refine ⟨H1,a,cap,z',H3,oz',a1,a2,a3,a4,by rw [bx2,ha]; rfl,b,cap2,av',H4,H5,oa',by rw [ha],b1,b2,b3,⟨b4,sm5,?_,h.gmb,⟨h.m1.1,h.m1.2.1,fun e=>?_,h.m1.2.2.2.1,fun e=>?_,fun e=>?_⟩,fun y hy=>?_⟩,z6,z6.trans (b5.weak fun y hy=>hy.1)⟩
 ·exact MapIs.keep bm3 (b5.old gm (MapIs.lt bm3 a6.wf) fun hy => by
    rcases hy.2 with h1 | h1
    · exact h.m1.1 h1
    · exact h.m1.2.2.1 h1)
 ·rcases b6 gm e with h1 | h1
  ·exact h.m1.2.2.1 h1
  ·have:=a6.next; omega
 ·rcases a8 gm e with h1 | h1
  ·exact h.m1.2.2.2.2.1 h1
  ·omega
 ·rcases List.mem_append.1 e with h1 | h1
  ·exact h.m1.2.2.2.2.2 h1
  ·have:=List.mem_singleton.1 h1; omega
 ·have h1:=m3 y hy
  refine ⟨h1.1,h1.2.1,fun e=>?_,h1.2.2.2⟩
  rcases b6 y e with h2 | h2
  ·exact h1.2.2.1 h2
  ·have:=h3l y hy; omega
theorem OT.mark (h:OT H base gb gm cl av ev z os oa oe oz sigma gs E D arcs es) (hw:Wf H) {t:Nat} (ht:t∉D) (hl:es.length≤1000000):
  ∃ H1,A2g Tryz.prog 87 (.map (some gm)) (.int .i64 (t:Int)) (.bool true) H=some H1∧H1.cell ⟨gb,3,some 0⟩=some ev∧
   ∃ b cap2 ev' H4 H5 oe',ev=.slice b es.length cap2∧A4a Tryz.prog 24 1 [(0,.agg (EndD.cells ⟨(t:Int),0⟩).toArray)] H1=some (.slice (some ⟨H1.next,0,some 0⟩) 1 1,(H1.new 2 (EndD.cells ⟨(t:Int),0⟩)).2)∧
   A2a Tryz.prog .append [24,24] [.slice b es.length cap2,.slice (some ⟨H1.next,0,some 0⟩) 1 1] (H1.new 2 (EndD.cells ⟨(t:Int),0⟩)).2=some (ev',H4)∧
   A3e Tryz.prog 24 H4 ev' (.pointer (some ⟨gb,3,some 0⟩))=some H5∧
   OT H5 base gb gm cl av ev' z os oa oe' oz sigma gs E (D++[t]) arcs (es++[⟨(t:Int),0⟩])∧Chg (fun y=>base≤y) H H5:=by
 obtain ⟨H1,a1,a2,a3,a4⟩:=h.bm.add hw ht
 have nb3:=h.nb.chg hw a3 fun y hy=>by rw [hy]; exact ⟨h.m1.1,h.m1.2.1,h.m1.2.2.1,h.m1.2.2.2.1⟩
 have sm3:=h.sm.chg hw a3 fun y hy=>by rw [hy]; exact ⟨h.m1.2.2.2.2.2,h.m1.2.2.2.2.1⟩
 have bx2:=nb3.bx.cell 3
 obtain ⟨b,cap2,ev',H4,H5,oe',rfl,b1,b2,b3,b4,b5,b6⟩:=nb3.pushEnd a3.wf ⟨(t:Int),0⟩ (by omega)
 have hgl:=MapIs.lt h.bm hw
 refine ⟨H1,a1,by rw [bx2]; rfl,b,cap2,ev',H4,H5,oe',rfl,b1,b2,b3,⟨b4,sm3.chg a3.wf b5 fun y hy=>⟨fun hm=>?_,fun hm=>?_⟩,MapIs.keep a2 (b5.old gm (by omega) fun hy=>?_),h.gmb,⟨h.m1.1,h.m1.2.1,h.m1.2.2.1,fun e=>?_,h.m1.2.2.2.2.1,h.m1.2.2.2.2.2⟩,fun y hy=>?_⟩,(a3.weak fun y hy=>by rw [hy]; exact h.gmb).trans (b5.weak fun y hy=>hy.1)⟩
 ·have h3:=h.m2 y (.inl hm)
  rcases hy.2 with h1 | h1
  ·exact h3.1 h1
  ·exact h3.2.2.2 h1
 ·have h3:=h.m2 y (.inr hm)
  rcases hy.2 with h1 | h1
  ·exact h3.1 h1
  ·exact h3.2.2.2 h1
 ·rcases hy.2 with h1 | h1
  ·exact h.m1.1 h1
  ·exact h.m1.2.2.2.1 h1
 ·rcases b6 gm e with h1 | h1
  ·exact h.m1.2.2.2.1 h1
  ·omega
 ·have h1:=h.m2 y hy
  refine ⟨h1.1,h1.2.1,h1.2.2.1,fun e=>?_⟩
  rcases b6 y e with h2 | h2
  ·exact h1.2.2.2 h2
  ·have:=h.sm.lt hw y hy; omega
theorem OT.start {H6:AH} (hw:Wf H6) (hb:base≤H6.next) (h2:Buf H6 1 cl (sigma.map A5a) os) (h3:∀ y,os=some y→base≤y):
  OT (((((H6.new 4 [cl,.int .i64 1,.slice none 0 0,.slice none 0 0]).2.push (.map [])).2.new 1 [.map (some (H6.new 4 [cl,.int .i64 1,.slice none 0 0,.slice none 0 0]).2.next)]).2.push (.map [])).2) base H6.next (((H6.new 4 [cl,.int .i64 1,.slice none 0 0,.slice none 0 0]).2.push (.map [])).2.new 1 [.map (some (H6.new 4 [cl,.int .i64 1,.slice none 0 0,.slice none 0 0]).2.next)]).2.next cl (.slice none 0 0) (.slice none 0 0)
   (.slice (some ⟨((H6.new 4 [cl,.int .i64 1,.slice none 0 0,.slice none 0 0]).2.push (.map [])).2.next,0,some 0⟩) 1 1) os none none (some ((H6.new 4 [cl,.int .i64 1,.slice none 0 0,.slice none 0 0]).2.push (.map [])).2.next) sigma [(H6.new 4 [cl,.int .i64 1,.slice none 0 0,.slice none 0 0]).2.next] [] [] [] []∧
  Kept H6 (((((H6.new 4 [cl,.int .i64 1,.slice none 0 0,.slice none 0 0]).2.push (.map [])).2.new 1 [.map (some (H6.new 4 [cl,.int .i64 1,.slice none 0 0,.slice none 0 0]).2.next)]).2.push (.map [])).2):=by
 have k1:=Kept.new hw 4 [cl,.int .i64 1,.slice none 0 0,.slice none 0 0]
 have o1:=(Sh.Obj.new (H:=H6) 4 [cl,.int .i64 1,.slice none 0 0,.slice none 0 0]).arr
 have n1:(H6.new 4 [cl,.int .i64 1,.slice none 0 0,.slice none 0 0]).2.next=H6.next+1:=rfl
 obtain ⟨K1,hK1⟩:∃ K,(H6.new 4 [cl,.int .i64 1,.slice none 0 0,.slice none 0 0]).2=K:=⟨_,rfl⟩
 simp only [hK1] at k1 o1 n1 ⊢
 have k2:=Kept.push k1.wf (.map [])
 have m2:MapIs (K1.push (.map [])).2 K1.next strK []:=MapIs.new
 have n2:(K1.push (.map [])).2.next=K1.next+1:=rfl
 obtain ⟨K2,hK2⟩:∃ K,(K1.push (.map [])).2=K:=⟨_,rfl⟩
 simp only [hK2] at k2 m2 n2 ⊢
 have k3:=Kept.new k2.wf 1 [.map (some K1.next)]
 have b3:Buf (K2.new 1 [.map (some K1.next)]).2 1 (.slice (some ⟨K2.next,0,some 0⟩) 1 1) ([K1.next].map fun g=>[Value.map (some g)]) (some K2.next):=Buf.fresh (H:=K2) (s:=1) (xs:=[[.map (some K1.next)]]) k2.wf (by intro x hx; rw [List.mem_singleton.1 hx]; rfl) (by simp) 1 rfl
 have n3:(K2.new 1 [.map (some K1.next)]).2.next=K2.next+1:=rfl
 obtain ⟨K3,hK3⟩:∃ K,(K2.new 1 [.map (some K1.next)]).2=K:=⟨_,rfl⟩
 simp only [hK3] at k3 b3 n3 ⊢
 have k4:=Kept.push k3.wf (.map [])
 have m4:BMap (K3.push (.map [])).2 K3.next []:=MapIs.new
 have hlo:=h2.lt hw
 have k14:=(k2.trans k3).trans k4
 have k04:=k1.trans k14
 refine ⟨⟨⟨o1.keep (k14.old _ (by omega)),h2.kept hw k04,.void none,.void none,hb,fun y hy=>⟨h3 y hy,by have:=hlo y hy; omega⟩,fun y hy=>by (cases hy),fun y hy=>by (cases hy)⟩,⟨b3.kept k3.wf k4,rfl,by simp,fun s g hg=>?_,fun g hg=>?_,fun y hy=>?_⟩,m4,by omega,⟨by omega,fun e=>by have:=hlo _ e; omega,fun e=>by (cases e),fun e=>by (cases e),fun e=>by have:=Option.some.inj e; omega,fun e=>by have:=List.mem_singleton.1 e; omega⟩,fun y hy=>?_⟩,k04⟩
 ·cases s with
  | succ s=>simp at hg
  | zero=>
   simp at hg
   subst hg
   have:MapIs (K3.push (.map [])).2 K1.next strK []:=MapIs.keep m2 ((k3.trans k4).old _ (by omega))
   exact this
 ·rw [List.mem_singleton.1 hg]
  exact ⟨by omega,fun e=>by have:=Option.some.inj e; omega⟩
 ·have:=Option.some.inj hy; omega
 ·have : H6.next < y := by
    rcases hy with h1 | h1
    · rw [List.mem_singleton.1 h1]; omega
    · have := Option.some.inj h1; omega
  exact ⟨by omega, fun e => by have := hlo _ e; omega, fun e => by (cases e), fun e => by (cases e)⟩
end
theorem refOf {H:AH} {v u:Value} {sigma:List ByteArray} {W:List (List ByteArray)} {vs:List Value} (hs:Sl H v 1 (sigma.map A5a)) (hsl:sigma.length≤1048576) (hsx:∀ x∈sigma,x.size≤1048576)
  (hJ:JagR H u 1 (W.map fun q=>q.map A5a) vs) (hWl:W.length≤1048576) (hWx:∀ q∈W,q.length≤1048576∧∀ x∈q,x.size≤1048576) (hw:Wf H):
  Sh.Call Tryz.prog (knows 7) 20 [v,u] H (fun r H'=>RefOut H H' sigma W r):=by
 refine A3a rfl Tryz.func20 rfl (Nat.le_of_ble_eq_true rfl) ?_
 have hres:Tryz.f20.results.toList=[.cell 4 26,.tmp 5]:=rfl
 simp only [↓Sh.dn,sx,Nat.reduceBEq,reduceCtorEq,Nat.reduceEqDiff,A7i]
 have k0:=Kept.new hw 4 [.slice none 0 0,.int .i64 0,.slice none 0 0,.slice none 0 0]
 have o0:=Sh.Obj.new (H:=H) 4 [.slice none 0 0,.int .i64 0,.slice none 0 0,.slice none 0 0]
 have x0:H.next < (H.new 4 [.slice none 0 0,.int .i64 0,.slice none 0 0,.slice none 0 0]).2.next:=Nat.lt_succ_self _
 have e0:H.next≤H.next:=Nat.le_refl _
 obtain ⟨go,hgo⟩:∃ y,H.next=y:=⟨_,rfl⟩
 rw [hgo] at o0 x0
 simp only [hgo]
 generalize (H.new 4 [.slice none 0 0,.int .i64 0,.slice none 0 0,.slice none 0 0]).2=H0 at k0 o0 x0 ⊢
 have out:∀ {H':AH} {a b c d:Value},Kept H0 H'→isCell a=true→isCell b=true→isCell c=true→isCell d=true→∃ H'',A3e Tryz.prog 26 H' (.agg #[a,b,c,d]) (.pointer (some ⟨go,0,some 0⟩))=some H''∧H''.cells ⟨go,0,some 0⟩ 4=some [a,b,c,d]∧Kept H H''∧Chg (fun y=>y=go) H' H''∧H''.next=H'.next:=by
  intro H' a b c d hk ha hb hc hd
  have o0':Sh.Obj H' go 4 [.slice none 0 0,.int .i64 0,.slice none 0 0,.slice none 0 0] true:=by
   unfold Sh.Obj at o0 ⊢
   rw [hk.old go x0]; exact o0
  obtain ⟨H6,w6,ar6,v6,z6⟩:=o0'.arr.write hk.wf (i:=0) (vs:=[a,b,c,d]) (by simp)
  have sc6:setCells [.slice none 0 0,.int .i64 0,.slice none 0 0,.slice none 0 0] 0 [a,b,c,d]=[a,b,c,d]:=rfl
  rw [sc6] at ar6
  refine ⟨H6,?_,ar6.cells (i:=0) (n:=4) (by simp),(k0.trans hk).then (Nat.le_refl _) (z6.weak fun y hy=>by omega),z6,v6⟩
  rw [A6r (vs:=[a,b,c,d]) A91 rfl (by simp [ha,hb,hc,hd])]
  exact w6
 have bz:A7j Tryz.prog 26 []=some (.agg #[.slice none 0 0,.int .i64 0,.slice none 0 0,.slice none 0 0]):=by
  have va:∀ xs:Array Value,A7a (.agg xs)=xs.toList:=fun _=>rfl
  refine A1f (pl:=[(0,1),(1,1),(2,1),(3,1)]) Tryz.underlying26 A52 (by kernel_rfl) ?_
  simp [A1s,va]
 have outz:∀ {H':AH},Kept H0 H'→∃ H'',A3e Tryz.prog 26 H' (.agg #[.slice none 0 0,.int .i64 0,.slice none 0 0,.slice none 0 0]) (.pointer (some ⟨go,0,some 0⟩))=some H''∧H''.cells ⟨go,0,some 0⟩ 4=some [.slice none 0 0,.int .i64 0,.slice none 0 0,.slice none 0 0]∧Kept H H'':=fun hk=>by
  obtain ⟨Hz,sz,cz,kz,_,_⟩:=out (a:=.slice none 0 0) (b:=.int .i64 0) (c:=.slice none 0 0) (d:=.slice none 0 0) hk rfl rfl rfl rfl
  exact ⟨Hz,sz,cz,kz⟩
 have bad:∀ {Hz:AH} {e:Int},Kept H Hz→A7k sigma W=e→RefOut H Hz sigma W (.tuple #[.agg [Value.slice none 0 0,.int .i64 0,.slice none 0 0,.slice none 0 0].toArray,.int .i64 e]):=fun {Hz e} hk he=>by
  subst he
  exact ⟨hk,_,rfl,.slice none 0 0,0,.slice none 0 0,.slice none 0 0,rfl,rfl,rfl,rfl⟩
 have hs0:=hs.grow (k0.grow hw)
 have hJ0:=hJ.grow (k0.grow hw)
 have hlenW:∀ H',A2a Tryz.prog .len [29] [u] H'=some (.int .i64 (W.length:Int),H'):=fun H'=>by
  rw [hJ.sl.len Tryz.underlying29,List.length_map,hJ.len,List.length_map]
 obtain ⟨r1,H1,hd1,hk1,rfl⟩:=C4c hs0 hsl hsx k0.wf
 refine ⟨_,_,hd1,?_⟩
 by_cases hS:A1h sigma=0
 case neg=>
  obtain ⟨Hz,sz,cz,kz⟩:=outz hk1
  have ho:A7k sigma W=A1h sigma:=by unfold A7k; rw [if_pos hS]
  simp only [↓Sh.dn,sx,Nat.reduceBEq,reduceCtorEq,Nat.reduceEqDiff,hS,decide_false,bz,sz,hres,cz,Option.map_some]
  exact bad kz ho
 simp only [↓Sh.dn,sx,Nat.reduceBEq,reduceCtorEq,Nat.reduceEqDiff,hS,decide_true,hlenW]
 by_cases h2:200 < W.length
 ·obtain ⟨Hz,sz,cz,kz⟩:=outz hk1
  have ho:A7k sigma W=3:=by unfold A7k; rw [if_neg (by simpa using hS),if_pos h2]
  have hd2:decide ((200:Int) < (W.length:Int))=true:=decide_eq_true (by omega)
  simp only [↓Sh.dn,sx,Nat.reduceBEq,reduceCtorEq,Nat.reduceEqDiff,hd2,bz,sz,hres,cz,Option.map_some]
  exact bad kz ho
 have hd2:decide ((200:Int) < (W.length:Int))=false:=decide_eq_false (by omega)
 simp only [↓Sh.dn,sx,Nat.reduceBEq,reduceCtorEq,Nat.reduceEqDiff,hd2]
 refine A9e W.length 7 (List.range' 29 15++[5,7,8]) (fun i F H'=>Kept H1 H'∧∀ (j:Nat) q,j < i→W[j]?=some q→A6f q=0) (by simp only [↓Sh.dn,sx,Nat.reduceBEq,reduceCtorEq,Nat.reduceEqDiff]) ⟨Kept.refl hk1.wf,fun j q hj=>absurd hj (Nat.not_lt_zero j)⟩ ?_ ?_
 ·rintro i F H' hi hF f7 ⟨hk,hall⟩ k
  have f1:=hF 1 rfl
  have f4:=hF 4 rfl
  simp only [↓Sh.dn,sx,Nat.reduceBEq,reduceCtorEq,Nat.reduceEqDiff] at f1 f4
  have k0':=hk1.trans hk
  obtain ⟨g1,o1,q1,w1,i1,c1,s1⟩:=(hJ0.grow (k0'.grow k0.wf)).at Tryz.underlying29 A5k (i:=i) (r:=W[i].map A5a) (by rw [List.getElem?_map,List.getElem?_eq_getElem hi]; rfl)
  have hWi:=hWx _ (List.getElem_mem hi)
  have hgi:W[i]?=some W[i]:=List.getElem?_eq_getElem hi
  generalize W[i]=w at s1 hWi hgi
  obtain ⟨r2,H2,hd2,hk2,rfl⟩:=C2t s1 hWi.1 hWi.2 hk.wf
  simp only [↓Sh.dn,sx,Nat.reduceBEq,reduceCtorEq,Nat.reduceEqDiff,f1,f7,hlenW,A1a,hi,decide_true,i1,c1]
  refine ⟨_,_,hd2,?_⟩
  by_cases hE:A6f w=0
  ·simp only [↓Sh.dn,sx,Nat.reduceBEq,reduceCtorEq,Nat.reduceEqDiff,hE,decide_true,f7,A9a hi (by omega)]
   refine k _ _ (by repeat (first | refine Same.put ?_ rfl | exact Same.rfl' _)) (by simp only [↓Sh.dn,sx,Nat.reduceBEq,reduceCtorEq,Nat.reduceEqDiff]) ⟨hk.trans hk2,fun j q hj hq=>?_⟩
   by_cases hji:j=i
   ·subst hji; rw [hgi] at hq; rw [← Option.some.inj hq]; exact hE
   ·exact hall j q (by omega) hq
  ·obtain ⟨Hz,sz,cz,kz⟩:=outz (k0'.trans hk2)
   have ho:A7k sigma W=A6f w:=by
    have:=A62 hall hgi hE
    unfold A7k; rw [if_neg (by simpa using hS),if_neg h2,if_pos (by rw [this]; exact hE),this]
   simp only [↓Sh.dn,sx,Nat.reduceBEq,reduceCtorEq,Nat.reduceEqDiff,hE,decide_false,f4,bz,sz,hres,cz,Option.map_some]
   exact bad kz ho
 ·rintro F H' hF f7 ⟨hk,hall⟩
  have f0:=hF 0 rfl
  have f1:=hF 1 rfl
  have f4:=hF 4 rfl
  simp only [↓Sh.dn,sx,Nat.reduceBEq,reduceCtorEq,Nat.reduceEqDiff] at f0 f1 f4
  have hWE:∀ q∈W,A6f q=0:=fun q hq=>by
   obtain ⟨j,hj⟩:=List.mem_iff_getElem?.1 hq
   exact hall j q (List.getElem?_eq_some_iff.1 hj).1 hj
  have hWE0:=A51 hWE
  have hasc:=A1v hS
  have k0':=hk1.trans hk
  simp only [↓Sh.dn,sx,Nat.reduceBEq,reduceCtorEq,Nat.reduceEqDiff,f1,f7,hlenW,A1a,Nat.lt_irrefl,decide_false]
  refine A9e W.length 9 (List.range' 44 26++[5,9,10]) (fun i F H5=>Kept H0 H5∧∀ (j:Nat) q,j < i→W[j]?=some q→∀ x∈q,x∈sigma) (by simp only [↓Sh.dn,sx,Nat.reduceBEq,reduceCtorEq,Nat.reduceEqDiff]) ⟨k0',fun j q hj=>absurd hj (Nat.not_lt_zero j)⟩ ?_ ?_
  ·rintro i F5 H5 hi hF5 f9 ⟨hk5,hin⟩ k
   have g0:=hF5 0 rfl
   have g1:=hF5 1 rfl
   have g4:=hF5 4 rfl
   simp only [↓Sh.dn,sx,Nat.reduceBEq,reduceCtorEq,Nat.reduceEqDiff,f0,f1,f4] at g0 g1 g4
   have hW:∀ {H'},Kept H0 H'→_:=fun {H'} (hk:Kept H0 H')=>(hJ0.grow (hk.grow k0.wf)).at Tryz.underlying29 A5k (i:=i) (r:=W[i].map A5a) (by rw [List.getElem?_map,List.getElem?_eq_getElem hi]; rfl)
   have hgi:W[i]?=some W[i]:=List.getElem?_eq_getElem hi
   have hwl:=A45 (hWE _ (List.getElem_mem hi))
   generalize W[i]=w at hW hgi hwl
   simp only [↓Sh.dn,sx,Nat.reduceBEq,reduceCtorEq,Nat.reduceEqDiff,g1,f9,hlenW,A1a,hi,decide_true]
   refine A9e w.length 10 (List.range' 50 20++[5,10]) (fun q F2 H7=>Kept H0 H7∧∀ x∈w.take q,x∈sigma) (by simp only [↓Sh.dn,sx,Nat.reduceBEq,reduceCtorEq,Nat.reduceEqDiff]) ⟨hk5,fun x hx=>by simp at hx⟩ ?_ ?_
   ·rintro q F2 H7 hq hF2 f10 ⟨hk7,hx⟩ k2
    have p0:=hF2 0 rfl
    have p1:=hF2 1 rfl
    have p4:=hF2 4 rfl
    have p9:=hF2 9 rfl
    simp only [↓Sh.dn,sx,Nat.reduceBEq,reduceCtorEq,Nat.reduceEqDiff,g0,g1,g4,f9] at p0 p1 p4 p9
    obtain ⟨gj,oj,kj,wj,i1,c1,s1⟩:=hW hk7
    have hlw:=fun H'=>s1.len Tryz.underlying22 H'
    simp only [List.length_map] at hlw
    obtain ⟨pe,i2,c2⟩:=Sl.elem (s:=1) Tryz.underlying22 A6h s1 (i:=q) (u:=.string w[q]) (by rw [List.getElem?_map,List.getElem?_eq_getElem hq]; rfl)
    have htk:w.take (q+1)=w.take q++[w[q]]:=by rw [List.take_add_one,List.getElem?_eq_getElem hq]; rfl
    have hqm:w[q]∈w:=List.getElem_mem hq
    generalize w[q]=x at c2 htk hqm
    obtain ⟨r8,H8,hd8,hk8,rfl⟩:=isIn (x:=x) (hs0.grow (hk7.grow k0.wf)) hasc hsl hk7.wf
    simp only [↓Sh.dn,sx,Nat.reduceBEq,reduceCtorEq,Nat.reduceEqDiff,p0,p1,p9,f10,i1,c1,hlw,A1a,hq,decide_true,i2,c2]
    refine ⟨_,_,hd8,?_⟩
    cases hin2:A9n sigma x with
    | false=>
     obtain ⟨Hz,sz,cz,kz⟩:=outz (hk7.trans hk8)
     have ho:A7k sigma W=4:=by
      have hov:B7j sigma W=false:=by
       cases h:B7j sigma W with
       | false=>rfl
       | true=>
        have:=List.all_eq_true.1 (List.all_eq_true.1 h w (List.mem_of_getElem? hgi)) x hqm
        rw [hin2] at this; cases this
      unfold A7k; rw [if_neg (by simpa using hS),if_neg h2,if_neg (by simpa using hWE0),if_pos hov]
     simp only [↓Sh.dn,sx,Nat.reduceBEq,reduceCtorEq,Nat.reduceEqDiff,p4,bz,sz,hres,cz,Option.map_some]
     exact bad kz ho
    | true=>
     simp only [↓Sh.dn,sx,Nat.reduceBEq,reduceCtorEq,Nat.reduceEqDiff,f10,A9a hq (by omega)]
     refine k2 _ _ (by repeat (first | refine Same.put ?_ rfl | exact Same.rfl' _)) (by simp only [↓Sh.dn,sx,Nat.reduceBEq,reduceCtorEq,Nat.reduceEqDiff]) ⟨hk7.trans hk8,fun y hy=>?_⟩
     rw [htk] at hy
     rcases List.mem_append.1 hy with h3 | h3
     ·exact hx y h3
     ·rw [List.mem_singleton.1 h3]; exact A0g.1 hin2
   ·rintro F2 H7 hF2 f10 ⟨hk7,hx⟩
    have p1:=hF2 1 rfl
    have p9:=hF2 9 rfl
    simp only [↓Sh.dn,sx,Nat.reduceBEq,reduceCtorEq,Nat.reduceEqDiff,g1,f9] at p1 p9
    obtain ⟨gj,oj,kj,wj,i1,c1,s1⟩:=hW hk7
    have hlw:=fun H'=>s1.len Tryz.underlying22 H'
    simp only [List.length_map] at hlw
    rw [List.take_length] at hx
    simp only [↓Sh.dn,sx,Nat.reduceBEq,reduceCtorEq,Nat.reduceEqDiff,p1,p9,f10,i1,c1,hlw,A1a,Nat.lt_irrefl,decide_false,A9a hi (by omega)]
    refine k _ _ ?_ (by simp only [↓Sh.dn,sx,Nat.reduceBEq,reduceCtorEq,Nat.reduceEqDiff]) ⟨hk7,fun j q hj hq=>?_⟩
    ·repeat refine Same.put ?_ rfl
     exact Same.trans (by repeat (first | refine Same.put ?_ rfl | exact Same.rfl' _)) (hF2.sub rfl)
    ·by_cases hj2:j=i
     ·subst hj2
      rw [hgi] at hq
      rw [← Option.some.inj hq]; exact hx
     ·exact hin j q (by omega) hq
  ·rintro F5 H5 hF5 f9 ⟨hk5,hin⟩
   have g0:=hF5 0 rfl
   have g1:=hF5 1 rfl
   have g4:=hF5 4 rfl
   simp only [↓Sh.dn,sx,Nat.reduceBEq,reduceCtorEq,Nat.reduceEqDiff,f0,f1,f4] at g0 g1 g4
   clear hk k0' hF hF5 f0 f1 f4 f7 hall
   have hin':∀ w∈W,∀ x∈w,x∈sigma:=fun w hw x hx=>by
    obtain ⟨j,hj⟩:=List.mem_iff_getElem?.1 hw
    exact hin j w (List.getElem?_eq_some_iff.1 hj).1 hj x hx
   have hov:¬B7j sigma W=false:=by
    intro h
    have:B7j sigma W=true:=List.all_eq_true.2 fun w hw=>List.all_eq_true.2 fun x hx=>A0g.2 (hin' w hw x hx)
    rw [h] at this; cases this
   have hs5:=hs0.grow (hk5.grow k0.wf)
   obtain ⟨cl,H6,os,e1,e2,e3,e4⟩:=(Buf.void (H:=H5) (s:=1) none).append hk5.wf (xs:=sigma.map A5a) (fun x hx=>by obtain ⟨y,_,rfl⟩:=List.mem_map.1 hx; rfl)
   have happ:=C6g (base:=none) (len:=0) (cap:=0) (hs5.srcKind Tryz.underlying22) hs5.newCells (by rw [List.length_map]; omega)
   rw [e1] at happ
   rw [List.nil_append] at e2
   have hk6:Kept H5 H6:=e3.kept fun g hg h=>by cases h
   have bn:A7j Tryz.prog 26 [(0,cl),(1,.int .i64 1)]=some (.agg #[cl,.int .i64 1,.slice none 0 0,.slice none 0 0]):=by
    have va:∀ xs:Array Value,A7a (.agg xs)=xs.toList:=fun _=>rfl
    have hi:isCell (.int .i64 1)=true:=rfl
    refine A1f (pl:=[(0,1),(1,1),(2,1),(3,1)]) Tryz.underlying26 A52 (by kernel_rfl) ?_
    simp [A1s,va,A8a e2.isCell,A8a hi,e2.isCell,hi,setCells,A6a,A1c]
   have k7:=Kept.new hk6.wf 4 [cl,.int .i64 1,.slice none 0 0,.slice none 0 0]
   have hbm:=B8u (H:=((H6.new 4 [cl,.int .i64 1,.slice none 0 0,.slice none 0 0]).2.push (.map [])).2) (x:=.map (some (H6.new 4 [cl,.int .i64 1,.slice none 0 0,.slice none 0 0]).2.next)) rfl rfl
   have vm:∀ o,A7a (Value.map o)=[.map o]:=fun _=>rfl
   simp only [↓Sh.dn,sx,Nat.reduceBEq,reduceCtorEq,Nat.reduceEqDiff,vm,g0,g1,f9,hlenW,A1a,Nat.lt_irrefl,decide_false,happ,bn,hbm,A7i,A65 e2.isCell (show isCell (.slice none 0 0)=true from rfl) (show isCell (.slice none 0 0)=true from rfl),A1l]
   have hbase:H0.next≤H5.next:=hk5.next
   have hos:∀ y,os=some y→H5.next≤y:=by
    intro y hy
    rcases e4 with h4 | ⟨h4,_⟩
    ·rw [h4] at hy; cases hy
    ·rw [h4] at hy; rw [← Option.some.inj hy]; exact Nat.le_refl _
   obtain ⟨ot0,ks⟩:=OT.start (sigma:=sigma) (base:=H5.next) hk6.wf hk6.next e2 hos
   have kall:=hk6.trans ks
   obtain ⟨base,hbs⟩:∃ y,H5.next=y:=⟨_,rfl⟩
   obtain ⟨gb,hgb⟩:∃ y,H6.next=y:=⟨_,rfl⟩
   rw [hbs] at hbase ot0
   rw [hgb] at ot0
   simp only [hgb]
   obtain ⟨K1,hK1⟩:∃ K,(H6.new 4 [cl,.int .i64 1,.slice none 0 0,.slice none 0 0]).2=K:=⟨_,rfl⟩
   simp only [hK1] at ot0 kall ⊢
   obtain ⟨K2,hK2⟩:∃ K,(K1.push (.map [])).2=K:=⟨_,rfl⟩
   simp only [hK2] at ot0 kall ⊢
   obtain ⟨K3,hK3⟩:∃ K,(K2.new 1 [.map (some K1.next)]).2=K:=⟨_,rfl⟩
   simp only [hK3] at ot0 kall ⊢
   obtain ⟨gm,hgm⟩:∃ y,K3.next=y:=⟨_,rfl⟩
   simp only [hgm] at ot0 ⊢
   generalize (K3.push (.map [])).2=K4 at ot0 kall ⊢
   have k4:=hk5.trans kall
   clear hK1 hK2 hK3 hgm hgb hbm k7 bn happ e1 e2 e3 e4 ks kall hos
   refine A9e W.length 14 (List.range' 76 86++[12,14,15,16,17,18]) (fun i F H'=>Kept H0 H'∧∃ av ev z oa oe oz gs E T D arcs es,A6i [] (W.take i)=(E,T)∧F.get 12=some z∧OT H' base gb gm cl av ev z os oa oe oz sigma gs E D arcs es∧B1d E∧E.length≤60 * i∧es.length≤i∧arcs.length=E.length) (by simp only [↓Sh.dn,sx,Nat.reduceBEq,reduceCtorEq,Nat.reduceEqDiff])
    ⟨k4,_,_,_,none,none,_,_,[],[],[],[],[],rfl,by simp only [↓Sh.dn,sx,Nat.reduceBEq,reduceCtorEq,Nat.reduceEqDiff],ot0,fun k p hp=>by simp at hp,Nat.le_refl _,Nat.le_refl _,rfl⟩ ?_ ?_
   ·rintro i F H7 hi hF f14 ⟨hk7,av,ev,z,oa,oe,oz,gs,E,T,D,arcs,es,hE,f12,ot,hsrc,hEl,hel,hal⟩ k
    have n1:=hF 1 rfl
    have n4:=hF 4 rfl
    have n11:=hF 11 rfl
    have n13:=hF 13 rfl
    simp only [↓Sh.dn,sx,Nat.reduceBEq,reduceCtorEq,Nat.reduceEqDiff,g1,g4] at n1 n4 n11 n13
    have hWat:∀ {H'},Kept H0 H'→_:=fun {H'} (hk:Kept H0 H')=>(hJ0.grow (hk.grow k0.wf)).at Tryz.underlying29 A5k (i:=i) (r:=W[i].map A5a) (by rw [List.getElem?_map,List.getElem?_eq_getElem hi]; rfl)
    have hgi:W[i]?=some W[i]:=List.getElem?_eq_getElem hi
    have hwl:=A45 (hWE _ (List.getElem_mem hi))
    generalize W[i]=w at hWat hgi hwl
    simp only [↓Sh.dn,sx,Nat.reduceBEq,reduceCtorEq,Nat.reduceEqDiff,n1,f14,hlenW,A1a,hi,decide_true]
    refine A9e w.length 16 (List.range' 82 67++[12,15,16,17,18]) (fun q F2 H8=>Kept H0 H8∧∃ av z oa oz gs E2 s arcs,walkT E 0 (w.take q)=(E2,s)∧F2.get 12=some z∧F2.get 15=some (.int .i64 ((s:Nat):Int))∧OT H8 base gb gm cl av ev z os oa oe oz sigma gs E2 D arcs es∧B1d E2∧s≤E2.length∧E2.length≤E.length+q∧arcs.length=E2.length) (by simp only [↓Sh.dn,sx,Nat.reduceBEq,reduceCtorEq,Nat.reduceEqDiff])
     ⟨hk7,_,_,_,_,_,E,0,arcs,rfl,by simp only [↓Sh.dn,sx,Nat.reduceBEq,reduceCtorEq,Nat.reduceEqDiff,f12],by simp only [↓Sh.dn,sx,Nat.reduceBEq,reduceCtorEq,Nat.reduceEqDiff]; rfl,ot,hsrc,Nat.zero_le _,Nat.le_refl _,hal⟩ ?_ ?_
    ·rintro q F2 H8 hq hF2 f16 ⟨hk8,av,z,oa,oz,gs,E2,s,arcs,hE2,p12,p15,ot2,hsrc2,hs2,hl2,hal2⟩ k2
     have p1:=hF2 1 rfl
     have p11:=hF2 11 rfl
     have p14:=hF2 14 rfl
     simp only [↓Sh.dn,sx,Nat.reduceBEq,reduceCtorEq,Nat.reduceEqDiff,n1,n11,f14] at p1 p11 p14
     obtain ⟨gj,oj,kj,wj,i1,c1,s1⟩:=hWat hk8
     have hlw:=fun H'=>s1.len Tryz.underlying22 H'
     simp only [List.length_map] at hlw
     obtain ⟨pe,i2,c2⟩:=Sl.elem (s:=1) Tryz.underlying22 A6h s1 (i:=q) (u:=.string w[q]) (by rw [List.getElem?_map,List.getElem?_eq_getElem hq]; rfl)
     have htk:w.take (q+1)=w.take q++[w[q]]:=by rw [List.take_add_one,List.getElem?_eq_getElem hq]; rfl
     have hx0:(w.map A5a)[q]?=some [.string w[q]]:=by rw [List.getElem?_map,List.getElem?_eq_getElem hq]; rfl
     generalize w[q]=x at c2 htk hx0
     have hstep:walkT E 0 (w.take (q+1))=A2m E2 s x:=by rw [htk,A96,hE2]
     have wq:=A9a hq (by omega)
     obtain ⟨g,pg,hgs,ia,ca,hsm⟩:=ot2.sm.at hs2
     have hlook:=hsm.look x
     cases hf:E2.findIdx? (fun p=>decide ((s,x)=p)) with
     | some j=>
      have hst:A2m E2 s x=(E2,j+1):=by unfold A2m; rw [hf]
      have hj:=(List.findIdx?_eq_some_iff_getElem.1 hf).1
      rw [hf] at hlook
      simp only [↓Sh.dn,sx,Nat.reduceBEq,reduceCtorEq,Nat.reduceEqDiff,p1,p11,p12,p14,p15,f16,i1,c1,i2,c2,ia,ca,hlw,A1a,hq,decide_true,hlook,wq]
      exact k2 _ _ (by repeat (first | refine Same.put ?_ rfl | exact Same.rfl' _)) (by simp only [↓Sh.dn,sx,Nat.reduceBEq,reduceCtorEq,Nat.reduceEqDiff]) ⟨hk8,av,z,oa,oz,gs,E2,j+1,arcs,by rw [hstep,hst],by simp only [↓Sh.dn,sx,Nat.reduceBEq,reduceCtorEq,Nat.reduceEqDiff,p12],by simp only [↓Sh.dn,sx,Nat.reduceBEq,reduceCtorEq,Nat.reduceEqDiff],ot2,hsrc2,hj,by omega,hal2⟩
     | none=>
      have hst:A2m E2 s x=(E2++[(s,x)],E2.length+1):=by unfold A2m; rw [hf]
      rw [hf] at hlook
      have hlens:=ot2.sm.lens
      obtain ⟨H9,a,cap,z2,H10,oz2,m1,rfl,m3,m4,m5,b,cap2,av2,H11,H12,oa2,rfl,m6,m7,m8,ot3,hc10,hc12⟩:=ot2.more hk8.wf hsrc2 hs2 hgs hf (by omega) hal2
      have hsrc3:=(B3w hsrc2 hs2 x).1
      rw [hst] at hsrc3
      simp only at hsrc3
      simp only [↓Sh.dn,sx,Nat.reduceBEq,reduceCtorEq,Nat.reduceEqDiff,p1,p11,p12,p14,p15,f16,i1,c1,i2,c2,ia,ca,hlw,A1a,hq,decide_true,hlook,hlens]
      refine (A1b (by kernel_rfl)).2 ?_
      simp only [↓Sh.dn,sx,Nat.reduceBEq,reduceCtorEq,Nat.reduceEqDiff,p1,p11,p12,p14,p15,f16,i1,c1,i2,c2,ia,ca,m1,m3,m4]
      refine (A1b (by kernel_rfl)).2 ?_
      have va:∀ xs:Array Value,A7a (.agg xs)=xs.toList:=fun _=>rfl
      have bl:A7j Tryz.prog 49 [(0,.int .i64 (s:Int)),(1,.string x),(2,.string x),(3,.int .i64 ((E2.length+1:Nat):Int))]=some (.agg (ArcD.cells ⟨(s:Int),x,x,((E2.length+1:Nat):Int),0⟩).toArray):=by
       refine A1f (pl:=[(0,1),(1,1),(2,1),(3,1),(4,1)]) Tryz.underlying49 A72 (by kernel_rfl) ?_
       simp [A1s,va,ArcD.cells,isCell,setCells,A7a,A6a,A1c]
      have hk10:=hk8.then hbase hc10
      obtain ⟨gj',oj',kj',wj',i1',c1',s1'⟩:=hWat hk10
      obtain ⟨pe',i2',c2'⟩:=Sl.elem (s:=1) Tryz.underlying22 A6h s1' (i:=q) (u:=.string x) hx0
      simp only [↓Sh.dn,sx,Nat.reduceBEq,reduceCtorEq,Nat.reduceEqDiff,p1,p11,p12,p14,p15,f16,i1',c1',i2',c2',m5,bl,m6,m7,m8,wq]
      exact k2 _ _ (by repeat (first | refine Same.put ?_ rfl | exact Same.rfl' _)) (by simp only [↓Sh.dn,sx,Nat.reduceBEq,reduceCtorEq,Nat.reduceEqDiff]) ⟨hk8.then hbase hc12,_,_,_,_,_,E2++[(s,x)],E2.length+1,_,by rw [hstep,hst],by simp only [↓Sh.dn,sx,Nat.reduceBEq,reduceCtorEq,Nat.reduceEqDiff],by simp only [↓Sh.dn,sx,Nat.reduceBEq,reduceCtorEq,Nat.reduceEqDiff],ot3,hsrc3,by simp,by simp; omega,by simp [hal2]⟩
    ·rintro F2 H8 hF2 f16 ⟨hk8,av,z,oa,oz,gs,E2,s,arcs,hE2,p12,p15,ot2,hsrc2,hs2,hl2,hal2⟩
     have p1:=hF2 1 rfl
     have p11:=hF2 11 rfl
     have p13:=hF2 13 rfl
     have p14:=hF2 14 rfl
     simp only [↓Sh.dn,sx,Nat.reduceBEq,reduceCtorEq,Nat.reduceEqDiff,n1,n11,n13,f14] at p1 p11 p13 p14
     obtain ⟨gj,oj,kj,wj,i1,c1,s1⟩:=hWat hk8
     have hlw:=fun H'=>s1.len Tryz.underlying22 H'
     simp only [List.length_map] at hlw
     rw [List.take_length] at hE2
     have hT:A6i [] (W.take (i+1))=(E2,T++[s]):=by
      rw [List.take_add_one,hgi]
      show A6i [] (W.take i++[w])=_
      rw [A57,hE,hE2]
     have hlook:=ot2.bm.look s
     have wi:=A9a hi (by omega)
     simp only [↓Sh.dn,sx,Nat.reduceBEq,reduceCtorEq,Nat.reduceEqDiff,p1,p14,f16,i1,c1,hlw,A1a,Nat.lt_irrefl,decide_false,p13,p15,hlook]
     by_cases hD:s∈D
     ·simp only [↓Sh.dn,sx,Nat.reduceBEq,reduceCtorEq,Nat.reduceEqDiff,hD,decide_true,p14,wi]
      refine k _ _ ?_ (by simp only [↓Sh.dn,sx,Nat.reduceBEq,reduceCtorEq,Nat.reduceEqDiff]) ⟨hk8,av,ev,z,oa,oe,oz,gs,E2,_,D,arcs,es,hT,by simp only [↓Sh.dn,sx,Nat.reduceBEq,reduceCtorEq,Nat.reduceEqDiff,p12],ot2,hsrc2,by omega,by omega,hal2⟩
      repeat refine Same.put ?_ rfl
      exact Same.trans (by repeat (first | refine Same.put ?_ rfl | exact Same.rfl' _)) (hF2.sub rfl)
     ·obtain ⟨H9,m1,m2,b,cap2,ev2,H10,H11,oe2,rfl,m3,m4,m5,ot3,hc11⟩:=ot2.mark hk8.wf hD (by omega)
      have va:∀ xs:Array Value,A7a (.agg xs)=xs.toList:=fun _=>rfl
      have bl:A7j Tryz.prog 51 [(0,.int .i64 (s:Int))]=some (.agg (EndD.cells ⟨(s:Int),0⟩).toArray):=by
       refine A1f (pl:=[(0,1),(1,1)]) Tryz.underlying51 A82 (by kernel_rfl) ?_
       simp [A1s,va,EndD.cells,isCell,setCells,A7a,A6a,A1c]
      simp only [↓Sh.dn,sx,Nat.reduceBEq,reduceCtorEq,Nat.reduceEqDiff,hD,decide_false,p11,p13,p15,m1,m2,bl,m3,m4,m5,p14,wi]
      refine k _ _ ?_ (by simp only [↓Sh.dn,sx,Nat.reduceBEq,reduceCtorEq,Nat.reduceEqDiff]) ⟨hk8.then hbase hc11,_,_,z,_,_,oz,gs,E2,_,_,arcs,_,hT,by simp only [↓Sh.dn,sx,Nat.reduceBEq,reduceCtorEq,Nat.reduceEqDiff,p12],ot3,hsrc2,by omega,by simp; omega,hal2⟩
      repeat refine Same.put ?_ rfl
      exact Same.trans (by repeat (first | refine Same.put ?_ rfl | exact Same.rfl' _)) (hF2.sub rfl)
   ·rintro F H7 hF f14 ⟨hk7,av,ev,z,oa,oe,oz,gs,E,T,D,arcs,es,hE,f12,ot,hsrc,hEl,hel,hal⟩
    have n1:=hF 1 rfl
    have n4:=hF 4 rfl
    have n11:=hF 11 rfl
    simp only [↓Sh.dn,sx,Nat.reduceBEq,reduceCtorEq,Nat.reduceEqDiff,g1,g4] at n1 n4 n11
    rw [List.take_length] at hE
    have hlE:E.length=(A6i [] W).1.length:=by rw [hE]
    have hlens:=ot.sm.lens
    obtain ⟨H8,w8,ar8,v8,z8⟩:=ot.nb.bx.write hk7.wf (i:=1) (vs:=[.int .i64 ((E.length+1:Nat):Int)]) (by simp)
    have sc:setCells [cl,.int .i64 ((1:Nat):Int),av,ev] 1 [.int .i64 ((E.length+1:Nat):Int)]=[cl,.int .i64 ((E.length+1:Nat):Int),av,ev]:=rfl
    rw [sc] at ar8
    have st:A3e Tryz.prog 3 H7 (.int .i64 ((E.length+1:Nat):Int)) (.pointer (some ⟨gb,1,some 0⟩))=some H8:=by rw [A4d A2f rfl,w8]
    have hc1:=ar8.cell 1
    have hk8:Kept H0 H8:=hk7.then hbase (z8.weak fun y hy=>by rw [hy]; exact ot.nb.b0)
    have hc1':H8.cell ⟨gb,1,some 0⟩=some (.int .i64 ((E.length+1:Nat):Int)):=hc1
    simp only [↓Sh.dn,sx,Nat.reduceBEq,reduceCtorEq,Nat.reduceEqDiff,n1,n11,f12,f14,hlenW,A1a,Nat.lt_irrefl,decide_false,hlens,st,hc1']
    by_cases h3:3000 < E.length+1
    ·obtain ⟨Hz,sz,cz,kz⟩:=outz hk8
     have ho:A7k sigma W=3:=by unfold A7k; rw [if_neg (by simpa using hS),if_neg h2,if_neg (by simpa using hWE0),if_neg hov,if_pos (by omega)]
     have d3:decide ((3000:Int) < ((E.length+1:Nat):Int))=true:=decide_eq_true (by omega)
     simp only [↓Sh.dn,sx,Nat.reduceBEq,reduceCtorEq,Nat.reduceEqDiff,d3,n4,bz,sz,hres,cz,Option.map_some]
     exact bad kz ho
    ·have ho:A7k sigma W=0:=by unfold A7k; rw [if_neg (by simpa using hS),if_neg h2,if_neg (by simpa using hWE0),if_neg hov,if_neg (by omega)]
     have d3:decide ((3000:Int) < ((E.length+1:Nat):Int))=false:=decide_eq_false (by omega)
     have hca:=ar8.cells (i:=0) (n:=4) (by simp)
     obtain ⟨Hz,sz,cz,kz,_,_⟩:=out (a:=cl) (b:=.int .i64 ((E.length+1:Nat):Int)) (c:=av) (d:=ev) hk8 ot.nb.sg.isCell rfl ot.nb.ar.isCell ot.nb.en.isCell
     simp only [↓Sh.dn,sx,Nat.reduceBEq,reduceCtorEq,Nat.reduceEqDiff,d3,n4,n11,hca,Option.map_some,List.drop_zero,List.take_succ_cons,List.take_zero,sz,hres,cz]
     rw [← ho]
     exact ⟨kz,_,rfl,_,_,_,_,rfl,ot.nb.sg.isCell,ot.nb.ar.isCell,ot.nb.en.isCell⟩
end Go.Proofs.YtcgbiedfbacgpaaGreat
/- Whether lists of texts are equal; a text is put into a list; ascending lists. -/
namespace Go.Proofs.YtcgbiedfbacgpaaGreat
open Go Go.Proofs Go.Proofs.Sh
def ordW:List ByteArray→List ByteArray→Int
 | [],[]=>0
 | [],_ :: _=>-1
 | _ :: _,[]=>1
 | a :: x,b :: y=>if A0b a b=true then -1 else if a=b then ordW x y else 1
theorem B4t:∀ l,ordW l l=0
 | []=>rfl
 | a :: x=>by simp [ordW,A3g,B4t x]
theorem C4r:∀ {l m:List ByteArray},ordW l m=0↔l=m
 | [],[]=>by simp [ordW]
 | [],_ :: _=>by simp [ordW]
 | _ :: _,[]=>by simp [ordW]
 | a :: x,b :: y=>by
  unfold ordW
  by_cases h:A0b a b=true
  ·rw [if_pos h]
   constructor
   ·intro h1; cases h1
   ·intro h1; injection h1 with h1 _; rw [h1,A3g] at h; cases h
  ·rw [if_neg h]
   by_cases h2:a=b
   ·rw [if_pos h2,C4r,h2]; simp
   ·rw [if_neg h2]; simp [h2]
theorem A43:∀ {i:Nat} {l m:List ByteArray},l.take i=m.take i→ordW l m=ordW (l.drop i) (m.drop i)
 | 0,l,m,_=>rfl
 | i+1,[],[],_=>rfl
 | i+1,[],_ :: _,h=>by simp at h
 | i+1,_ :: _,[],h=>by simp at h
 | i+1,a :: x,b :: y,h=>by
  simp only [List.take_succ_cons,List.cons.injEq] at h
  obtain ⟨h1,h2⟩:=h
  subst h1
  simp only [List.drop_succ_cons]
  rw [← A43 h2]
  unfold ordW
  rw [A3g]
  cases x <;> cases y <;> simp [ordW]
theorem C1o {H:AH} {v u:Value} {l m:List ByteArray} (hl:Sl H v 1 (l.map A5a)) (hm:Sl H u 1 (m.map A5a)) (hll:l.length≤1048576) (hml:m.length≤1048576) (hw:Wf H):
  Sh.Call Tryz.prog (knows 7) 36 [v,u] H (fun r H'=>H'=H∧r=.int .i64 (ordW l m)):=by
 refine A3a rfl Tryz.func36 rfl (Nat.le_of_ble_eq_true rfl) ?_
 have hres:Tryz.f36.results.toList=[.tmp 4]:=rfl
 have hlen:=fun H'=>hl.len Tryz.underlying22 H'
 have mlen:=fun H'=>hm.len Tryz.underlying22 H'
 simp only [List.length_map] at hlen mlen
 simp only [↓Sh.dn,sx,Nat.reduceBEq,reduceCtorEq,Nat.reduceEqDiff]
 have hmin:min l.length m.length≤1048576:=by omega
 refine A9e (min l.length m.length) 5 (List.range' 5 31) (fun i F H'=>H'=H∧l.take i=m.take i) (by simp only [↓Sh.dn,sx,Nat.reduceBEq,reduceCtorEq,Nat.reduceEqDiff]) ⟨rfl,rfl⟩ ?_ ?_
 ·rintro i F H' hi hF f5 ⟨rfl,htk⟩ k
  have f0:=hF 0 rfl
  have f1:=hF 1 rfl
  simp only [↓Sh.dn,sx,Nat.reduceBEq,reduceCtorEq,Nat.reduceEqDiff] at f0 f1
  have hi1:i < l.length:=by omega
  have hi2:i < m.length:=by omega
  obtain ⟨p1,hia1,hc1⟩:=Sl.elem (s:=1) Tryz.underlying22 A6h hl (i:=i) (u:=.string l[i]) (by rw [List.getElem?_map,List.getElem?_eq_getElem hi1]; rfl)
  obtain ⟨p2,hia2,hc2⟩:=Sl.elem (s:=1) Tryz.underlying22 A6h hm (i:=i) (u:=.string m[i]) (by rw [List.getElem?_map,List.getElem?_eq_getElem hi2]; rfl)
  have ho:∀ k:Int,ordW (l[i] :: l.drop (i+1)) (m[i] :: m.drop (i+1))=k→ordW l m=k:=fun k hk=>by
   rw [A43 htk,List.drop_eq_getElem_cons hi1,List.drop_eq_getElem_cons hi2]; exact hk
  have ht1:l.take (i+1)=l.take i++[l[i]]:=by rw [List.take_add_one,List.getElem?_eq_getElem hi1]; rfl
  have ht2:m.take (i+1)=m.take i++[m[i]]:=by rw [List.take_add_one,List.getElem?_eq_getElem hi2]; rfl
  generalize l[i]=x at hc1 ho ht1
  generalize m[i]=y at hc2 ho ht2
  simp only [↓Sh.dn,sx,Nat.reduceBEq,reduceCtorEq,Nat.reduceEqDiff,f0,f1,f5,hlen,mlen,A1a,hi1,hi2,decide_true,hia1,hc1,hia2,hc2]
  cases hlt:A0b x y with
  | true=>
   have:=ho (-1) (by simp [ordW,hlt])
   simp only [↓Sh.dn,sx,Nat.reduceBEq,reduceCtorEq,Nat.reduceEqDiff,hres,this]
  | false=>
   by_cases hxy:x=y
   ·simp only [↓Sh.dn,sx,Nat.reduceBEq,reduceCtorEq,Nat.reduceEqDiff,f0,f1,f5,hia1,hc1,hia2,hc2,hlt,hxy,decide_true,A3g,wrap_succ hi hmin]
    exact k _ _ (by repeat (first | refine Same.put ?_ rfl | exact Same.rfl' _)) (by simp only [↓Sh.dn,sx,Nat.reduceBEq,reduceCtorEq,Nat.reduceEqDiff]) ⟨rfl,by rw [ht1,ht2,htk,hxy]⟩
   ·have:=ho 1 (by simp [ordW,hlt,hxy])
    simp only [↓Sh.dn,sx,Nat.reduceBEq,reduceCtorEq,Nat.reduceEqDiff,f0,f1,f5,hia1,hc1,hia2,hc2,hlt,hxy,decide_false,hres,this]
 ·rintro F H' hF f5 ⟨rfl,htk⟩
  have f0:=hF 0 rfl
  have f1:=hF 1 rfl
  simp only [↓Sh.dn,sx,Nat.reduceBEq,reduceCtorEq,Nat.reduceEqDiff] at f0 f1
  by_cases h1:l.length < m.length
  ·have e:min l.length m.length=l.length:=by omega
   rw [e] at f5 htk
   have:ordW l m=-1:=by
    rw [A43 htk,List.drop_length,List.drop_eq_getElem_cons h1]; rfl
   simp only [↓Sh.dn,sx,Nat.reduceBEq,reduceCtorEq,Nat.reduceEqDiff,f0,f1,f5,hlen,mlen,A1a,Nat.lt_irrefl,h1,decide_true,decide_false,hres,this]
  ·have e:min l.length m.length=m.length:=by omega
   rw [e] at f5 htk
   by_cases h2:m.length < l.length
   ·have : ordW l m = 1 := by
      rw [A43 htk, List.drop_length, List.drop_eq_getElem_cons h2]; rfl
    simp only [↓Sh.dn, sx, Nat.reduceBEq, reduceCtorEq, Nat.reduceEqDiff, f0, f1, f5, hlen, mlen, A1a, Nat.lt_irrefl, h1, h2, decide_true, decide_false, hres, this]
   ·have heq : l = m := by
      rw [List.take_length, List.take_of_length_le (by omega)] at htk
      exact htk
    have : ordW l m = 0 := by rw [heq, B4t]
    simp only [↓Sh.dn, sx, Nat.reduceBEq, reduceCtorEq, Nat.reduceEqDiff, f0, f1, f5, hlen, mlen, A1a, Nat.lt_irrefl, h1, h2, decide_true, decide_false, hres, this]
theorem refOrder {H:AH} {v u:Value} {l m:List ByteArray} (hl:Sl H v 1 (l.map A5a)) (hm:Sl H u 1 (m.map A5a)) (hll:l.length≤1048576) (hml:m.length≤1048576) (hw:Wf H):
  Sh.Call Tryz.prog (knows 7) 36 [v,u] H (fun r H'=>H'=H∧∃ k:Int,r=.int .i64 k∧(k=0↔l=m)):=by
 refine (C1o hl hm hll hml hw).mono ?_
 rintro r H' ⟨rfl,rfl⟩
 exact ⟨rfl,_,rfl,C4r⟩
def cmpW (l m:List ByteArray):Int:=if l.length < m.length then -1 else if m.length < l.length then 1 else ordW l m
theorem C7j {H:AH} {v u:Value} {l m:List ByteArray} (hl:Sl H v 1 (l.map A5a)) (hm:Sl H u 1 (m.map A5a)) (hll:l.length≤1048576) (hml:m.length≤1048576) (hw:Wf H):
  Sh.Call Tryz.prog (knows 7) 106 [v,u] H (fun r H'=>H'=H∧r=.int .i64 (cmpW l m)):=by
 refine A3a rfl Tryz.func106 rfl (Nat.le_of_ble_eq_true rfl) ?_
 have hres:Tryz.f106.results.toList=[.tmp 4]:=rfl
 have hlen:=fun H'=>hl.len Tryz.underlying22 H'
 have mlen:=fun H'=>hm.len Tryz.underlying22 H'
 simp only [List.length_map] at hlen mlen
 simp only [↓Sh.dn,sx,Nat.reduceBEq,reduceCtorEq,Nat.reduceEqDiff,hlen,mlen,A1a]
 by_cases h1:l.length < m.length
 ·have:cmpW l m=-1:=by unfold cmpW; rw [if_pos h1]
  simp only [↓Sh.dn,sx,Nat.reduceBEq,reduceCtorEq,Nat.reduceEqDiff,h1,decide_true,hres,this]
 by_cases h2:m.length < l.length
 ·have:cmpW l m=1:=by unfold cmpW; rw [if_neg h1,if_pos h2]
  simp only [↓Sh.dn,sx,Nat.reduceBEq,reduceCtorEq,Nat.reduceEqDiff,h1,h2,hlen,mlen,A1a,decide_true,decide_false,hres,this]
 have:cmpW l m=ordW l m:=by unfold cmpW; rw [if_neg h1,if_neg h2]
 obtain ⟨r,H1,hd,rfl,rfl⟩:=C1o hl hm hll hml hw
 simp only [↓Sh.dn,sx,Nat.reduceBEq,reduceCtorEq,Nat.reduceEqDiff,h1,h2,hlen,mlen,A1a,decide_false]
 refine ⟨_,_,hd,?_⟩
 simp only [↓Sh.dn,sx,Nat.reduceBEq,reduceCtorEq,Nat.reduceEqDiff,hres,this]
theorem C9y {H:AH} {v u:Value} {l m:List ByteArray} (hl:Sl H v 1 (l.map A5a)) (hm:Sl H u 1 (m.map A5a)) (hll:l.length≤1048576) (hml:m.length≤1048576) (hw:Wf H):
  Sh.Call Tryz.prog (knows 7) 17 [v,u] H (fun r H'=>H'=H∧r=.bool (decide (l=m))):=by
 refine A3a rfl Tryz.func17 rfl (Nat.le_of_ble_eq_true rfl) ?_
 have hres:Tryz.f17.results.toList=[.tmp 4]:=rfl
 obtain ⟨r,H1,hd,rfl,k,rfl,hk⟩:=refOrder hl hm hll hml hw
 simp only [↓Sh.dn,sx,Nat.reduceBEq,reduceCtorEq,Nat.reduceEqDiff]
 refine ⟨_,_,hd,?_⟩
 have:decide (k=0)=decide (l=m):=decide_eq_decide.2 hk
 simp only [↓Sh.dn,sx,Nat.reduceBEq,reduceCtorEq,Nat.reduceEqDiff,hres,this]
structure LS (H:AH) (base:Nat) (z:Value) (l:List ByteArray) (ob:Option Nat):Prop where
 bf:Buf H 1 z (l.map A5a) ob
 fr:∀ y,ob=some y→base≤y
theorem LS.void (H:AH) (base:Nat):LS H base (.slice none 0 0) [] none:=⟨.void none,fun y hy=>by cases hy⟩
theorem LS.kept {H H':AH} {base:Nat} {z:Value} {l:List ByteArray} {ob:Option Nat} (h:LS H base z l ob) (hw:Wf H) (hk:Kept H H'):LS H' base z l ob:=⟨h.bf.kept hw hk,h.fr⟩
theorem C1n {base:Nat} {H':AH} {z:Value} {ob:Option Nat} {l:List ByteArray} (x:ByteArray) (hb:base≤H'.next) (hw:Wf H') (hl:LS H' base z l ob) (hn:l.length≤1073741823):
  ∃ a cap w' H4 ob', z = .slice a l.length cap ∧ A4a Tryz.prog 22 1 [(0, .string x)] H' = some (.slice (some ⟨H'.next, 0, some 0⟩) 1 1, (H'.new 1 [.string x]).2) ∧
      A2a Tryz.prog .append [22, 22] [.slice a l.length cap, .slice (some ⟨H'.next, 0, some 0⟩) 1 1] (H'.new 1 [.string x]).2 = some (w', H4) ∧
      LS H4 base w' (l ++ [x]) ob' ∧ Chg (fun y => ob = some y) H' H4 := by
 obtain ⟨a,cap,w',H4,ob',e1,e2,e3,e4,e5⟩:=hl.bf.push hw (x:=A5a x) rfl
 rw [List.length_map] at e1 e2
 have ha:=app1_22 (H:=H') (base:=a) (len:=l.length) (cap:=cap) (x:=A5a x) rfl hn
 rw [e2] at ha
 refine ⟨a,cap,w',H4,ob',e1,B0v (H:=H') (x:=.string x) rfl rfl,ha,⟨by rw [List.map_append]; exact e3,fun y hy=>?_⟩,e4⟩
 rcases e5 y hy with h1 | h1
 ·exact hl.fr y h1
 ·omega
theorem C7o {x:ByteArray} {l:List ByteArray} (h:Asc (x :: l)):Asc l:=fun i j a b hij ha hb=>h (i+1) (j+1) a b (by omega) (by simpa using ha) (by simpa using hb)
theorem B4q {x:ByteArray} {l:List ByteArray} (h:Asc (x :: l)) {y:ByteArray} (hy:y∈l):A0b x y=true:=by
 obtain ⟨i,hi⟩:=List.mem_iff_getElem?.1 hy
 exact h 0 (i+1) x y (by omega) rfl (by simpa using hi)
theorem C6q:∀ {l m:List ByteArray},Asc l→Asc m→(∀ x,x∈l↔x∈m)→l=m
 | [],[],_,_,_=>rfl
 | [],y :: m,_,_,h=>by have:=(h y).2 List.mem_cons_self; cases this
 | x :: l,[],_,_,h=>by have:=(h x).1 List.mem_cons_self; cases this
 | x :: l,y :: m,hl,hm,h=>by
  have irr:∀ a,A0b a a=false:=A3g
  have asym:∀ a b,A0b a b=true→A0b b a=true→False:=fun a b h1 h2=>by
   have:=A6k h1 h2
   rw [irr] at this; cases this
  have hxy:x=y:=by
   rcases List.mem_cons.1 ((h x).1 List.mem_cons_self) with h1 | h1
   ·exact h1
   ·rcases List.mem_cons.1 ((h y).2 List.mem_cons_self) with h2 | h2
    ·exact h2.symm
    ·exact (asym _ _ (B4q hm h1) (B4q hl h2)).elim
  subst hxy
  congr 1
  refine C6q (C7o hl) (C7o hm) fun z=>?_
  constructor
  ·intro hz
   rcases List.mem_cons.1 ((h z).1 (List.mem_cons_of_mem _ hz)) with h1 | h1
   ·subst h1; have:=B4q hl hz; rw [irr] at this; cases this
   ·exact h1
  ·intro hz
   rcases List.mem_cons.1 ((h z).2 (List.mem_cons_of_mem _ hz)) with h1 | h1
   ·subst h1; have:=B4q hm hz; rw [irr] at this; cases this
   ·exact h1
end Go.Proofs.YtcgbiedfbacgpaaGreat
