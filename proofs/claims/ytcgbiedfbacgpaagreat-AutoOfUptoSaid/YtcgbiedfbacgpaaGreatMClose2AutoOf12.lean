/- A part of the proof: LawKit, LawAutoOf. -/
import Derived.Test.YtcgbiedfbacgpaaGreatMClose2AutoOf9
import Derived.Test.YtcgbiedfbacgpaaGreatMClose2AutoOf10
import Derived.Test.YtcgbiedfbacgpaaGreatMClose2AutoOf11
import Derived.ProofKit
import Derived.Test.YtcgbiedfbacgpaaGreatMClose2AutoOf7
set_option linter.unusedVariables false
set_option linter.unusedSimpArgs false
/- What laws of a net and a word have alike. -/
set_option maxHeartbeats 4000000
set_option maxRecDepth 20000
set_option linter.unusedSimpArgs false
set_option linter.unusedVariables false
namespace Go.Proofs.YtcgbiedfbacgpaaGreat
open Go Go.Proofs Go.Proofs.Sh
theorem A0z {H:AH}:Sh.Call Tryz.prog (knows 7) 7 [] H (fun r H'=>H'=H∧r=.bool true):=⟨_,_,⟨0,rfl⟩,rfl,rfl⟩
theorem one_jag {H:AH} {u:Value} {w:List ByteArray} (hu:Sl H u 1 (w.map A5a)) (hw:Wf H):JagR (H.new 1 [u]).2 (.slice (some ⟨H.next,0,some 0⟩) 1 1) 1 ([w].map fun w=>w.map A5a) [u]:=by
 have k:=Kept.new hw 1 [u]
 refine ⟨(Buf.fresh (H:=H) (s:=1) (xs:=[[u]]) hw (by intro x hx; rw [List.mem_singleton.1 hx]; rfl) (by simp) 1 rfl).toSl,rfl,fun i w' r h1 h2=>?_⟩
 cases i with
 | zero=>
  simp only [List.map_cons,List.map_nil,List.getElem?_cons_zero,Option.some.injEq] at h1 h2
  subst h1 h2
  exact hu.grow (k.grow hw)
 | succ i=>simp at h1
theorem C8b {L:List ByteArray} {m:Nat} (h:A7r L+L.length≤m):L.length≤m∧∀ x∈L,x.size≤m:=⟨by omega,fun x hx=>by have:=C7n hx; omega⟩
end Go.Proofs.YtcgbiedfbacgpaaGreat
/- For every alphabet and every list of lists of texts: auto.Of answers with a net of just these words. -/
namespace Go.Proofs.YtcgbiedfbacgpaaGreat
open Go Go.Proofs Go.Proofs.Sh
theorem C2l {l:List ByteArray} (h:Asc l):l.Pairwise fun a b=>A0b a b=true:=by
 rw [List.pairwise_iff_getElem]
 intro i j hi hj hij
 exact h i j _ _ hij (List.getElem?_eq_getElem hi) (List.getElem?_eq_getElem hj)
theorem C0m {α:Type} [DecidableEq α]:∀ {l m:List α},l.Nodup→(∀ x∈l,x∈m)→l.length≤m.length
 | [],m,_,_=>Nat.zero_le _
 | x :: l,m,hn,h=>by
  rw [List.nodup_cons] at hn
  have h1:x∈m:=h x List.mem_cons_self
  have h2:=C0m (m:=m.erase x) hn.2 fun y hy=>(List.mem_erase_of_ne (fun (e:y=x)=>hn.1 (by rw [← e]; exact hy))).2 (h y (List.mem_cons_of_mem _ hy))
  rw [List.length_erase_of_mem h1] at h2
  have:=List.length_pos_of_mem h1
  simp only [List.length_cons]; omega
theorem B4k {sigma:List ByteArray} {W:List (List ByteArray)} (h:A7k sigma W=0):A1h sigma=0∧W.length≤200∧(∀ w∈W,A6f w=0)∧(∀ w∈W,∀ x∈w,x∈sigma)∧(A6i [] W).1.length+1≤3000:=by
 unfold A7k at h
 split at h
 ·rename_i h1; exact absurd h h1
 rename_i h1
 split at h
 ·cases h
 rename_i h2
 split at h
 ·rename_i h3; exact absurd h h3
 rename_i h3
 split at h
 ·cases h
 rename_i h4
 split at h
 ·cases h
 rename_i h5
 refine ⟨by simpa using h1,by omega,fun w hw=>?_,fun w hw x hx=>?_,by omega⟩
 ·by_cases he:A6f w=0
  ·exact he
  ·exfalso
   apply h3
   have:∀ {W:List (List ByteArray)},w∈W→A9q W≠0:=by
    intro W
    induction W with
    | nil=>intro h; cases h
    | cons v W ih=>
     intro hm
     unfold A9q
     by_cases hv:A6f v=0
     ·rw [if_neg (by simpa using hv)]
      rcases List.mem_cons.1 hm with h | h
      ·rw [h] at he; exact absurd hv he
      ·exact ih h
     ·rw [if_pos hv]; exact hv
   exact this hw
 ·have:B7j sigma W=true:=by simpa using h4
  exact A0g.1 (List.all_eq_true.1 (List.all_eq_true.1 this w hw) x hx)
theorem of_words {sigma:List ByteArray} {W:List (List ByteArray)} {M:NetD} (ht:B8m sigma W M) (hz:A7k sigma W=0):A2t M=0∧∃ l,A6q M 200=(l,false,0)∧l.Pairwise shLt∧(∀ w,w∈l↔w∈W)∧l.length≤200:=by
 obtain ⟨h1,h2,h3,h4,h5⟩:=B4k hz
 have ha:=tree_acc ht h1 h4 h5
 have hacc:=B9v ht h4 (B1o h1)
 have hlen:∀ w∈W,w.length≤60:=fun w hw=>A45 (h3 w hw)
 have hasc:(A5l M).Pairwise shLt:=by
  unfold A5l
  rw [ht.sg]
  exact C8x (C2l (A1v h1)) _ _
 have hmem:∀ w,w∈A5l M↔w∈W:=fun w=>by
  unfold A5l
  rw [C9s,hacc]
  exact ⟨fun h=>h.2,fun h=>⟨⟨hlen w h,fun x hx=>by rw [ht.sg]; exact h4 w h x hx⟩,h⟩⟩
 have hnd:(A5l M).Nodup:=hasc.imp fun {a b} hab (e:a=b)=>sh_irr b (by rw [e] at hab; exact hab)
 have hle:(A5l M).length≤200:=Nat.le_trans (C0m hnd fun w hw=>(hmem w).1 hw) h2
 have hlong:¬B9q M:=fun ⟨w,h6,_,h7⟩=>by
  have:=hlen w ((hacc w).1 h7)
  omega
 refine ⟨ha,A5l M,?_,hasc,hmem,hle⟩
 unfold A6q
 rw [if_neg (by simpa using ha),if_neg (by omega)]
 unfold B8a
 have hk:((200:Int)).toNat=200:=rfl
 have hb:¬tB (B9q M)=true:=fun h=>hlong (B2t.1 h)
 rw [hk,if_neg (by omega),if_neg hb]
theorem rows_in {H:AH} {f:Nat} {cs:List Value} {K:Type} {d:DataW K} (h:RD Tryz.prog H f 29 cs d):∃ u,∃ W:List (List ByteArray),∃ vs,cs=[u]∧JagR H u 1 (W.map fun w=>w.map A5a) vs∧W.length < Rows.uptoBulk d∧∀ w∈W,A7r w+w.length < Rows.uptoBulk d:=by
 obtain ⟨u,L,ds,rfl,h1,h2,h3,h4⟩:=C5z (α:={p:Value×List ByteArray // Sl H p.1 1 (p.2.map A5a)}) (enc:=fun a=>[a.1.1]) (fun a y=>A7r a.1.2+a.1.2.length < Rows.uptoBulk y) Tryz.underlying29 cells_22 (fun f x y hy=>by
  obtain ⟨u,L,h1,h2,h3⟩:=C2s hy
  exact ⟨⟨(u,L),h2⟩,h1,h3⟩) h
 have hex:∀ (i:Nat) a,L[i]?=some a→∃ w:List ByteArray,Sl H a.1.1 1 (w.map A5a)∧A7r w+w.length < Rows.uptoBulk d:=fun i a ha=>by
  have hi:=(List.getElem?_eq_some_iff.1 ha).1
  obtain ⟨a',e1,e2⟩:=h3 i a _ ha (List.getElem?_eq_getElem (by omega:i < ds.length)) rfl
  have e3:a'.1.1=a.1.1:=List.head_eq_of_cons_eq e1
  refine ⟨a'.1.2,by rw [← e3]; exact a'.2,?_⟩
  have:=C7f (List.getElem_mem (by omega:i < ds.length))
  omega
 have hch:∃ W:List (List ByteArray),W.length=L.length∧∀ (i:Nat) a w,L[i]?=some a→W[i]?=some w→Sl H a.1.1 1 (w.map A5a)∧A7r w+w.length < Rows.uptoBulk d:=by
  clear h1 h2 h3
  induction L with
  | nil=>exact ⟨[],rfl,fun i a w ha=>by simp at ha⟩
  | cons b L ih=>
   obtain ⟨W,e1,e2⟩:=ih fun i a ha=>hex (i+1) a (by simpa using ha)
   obtain ⟨w0,e3⟩:=hex 0 b rfl
   refine ⟨w0 :: W,by simp [e1],fun i a w ha hw=>?_⟩
   cases i with
   | zero=>
    simp only [List.getElem?_cons_zero,Option.some.injEq] at ha hw
    subst ha hw
    exact e3
   | succ i=>exact e2 i a w (by simpa using ha) (by simpa using hw)
 obtain ⟨W,e1,e2⟩:=hch
 have hlb:=C9f ds
 refine ⟨u,W,L.map fun a=>a.1.1,rfl,⟨?_,by simp [e1],fun i w r hw hr=>?_⟩,by omega,fun w hw=>?_⟩
 ·rw [List.map_map]; exact h1
 ·rw [List.getElem?_map] at hw hr
  obtain ⟨a,ha,rfl⟩:=Option.map_eq_some_iff.1 hw
  obtain ⟨q,hq,rfl⟩:=Option.map_eq_some_iff.1 hr
  exact (e2 i a q ha hq).1
 ·obtain ⟨i,hi⟩:=List.mem_iff_getElem?.1 hw
  have:=(List.getElem?_eq_some_iff.1 hi).1
  exact (e2 i _ w (List.getElem?_eq_getElem (by omega)) hi).2
theorem C4m {H:AH} {v u:Value} {sigma:List ByteArray} {W:List (List ByteArray)} {vs:List Value} (hs:Sl H v 1 (sigma.map A5a)) (hsl:sigma.length≤1048576) (hsx:∀ x∈sigma,x.size≤1048576)
  (hJ:JagR H u 1 (W.map fun q=>q.map A5a) vs) (hWl:W.length≤1048576) (hWx:∀ q∈W,q.length≤1048576∧∀ x∈q,x.size≤1048576) (hw:Wf H):
  Sh.Call Tryz.prog (knows 7) 5 [v,u] H (fun r _=>r=.bool true):=by
 refine A3a rfl Tryz.func5 rfl (Nat.le_of_ble_eq_true rfl) ?_
 have hres:Tryz.f5.results.toList=[.tmp 4]:=rfl
 have hbs:=B0e (H:=H) (x:=v) (by rw [A8a hs.isCell]; rfl) (by rw [A8a hs.isCell]; simp [hs.isCell])
 rw [A8a hs.isCell] at hbs
 have kn:=Kept.new hw 1 [v]
 have hlenW:∀ H',A2a Tryz.prog .len [29] [u] H'=some (.int .i64 (W.length:Int),H'):=fun H'=>by
  rw [hJ.sl.len Tryz.underlying29,List.length_map,hJ.len,List.length_map]
 obtain ⟨r,K1,hd1,rfl,rfl⟩:=isLong (one_jag hs hw) (by simp) (fun w' hw'=>by rw [List.mem_singleton.1 hw']; exact ⟨hsl,hsx⟩) kn.wf
 simp only [↓Sh.dn,sx,Nat.reduceBEq,reduceCtorEq,Nat.reduceEqDiff,hbs]
 refine ⟨_,_,hd1,?_⟩
 generalize (H.new 1 [v]).2=H1 at kn ⊢
 have hs1:=hs.grow (kn.grow hw)
 have hJ1:=hJ.grow (kn.grow hw)
 cases hlg:decide (16384 < A0s [sigma]) with
 | true=>
  obtain ⟨r,H3,hd3,rfl,rfl⟩:=A0z (H:=H1)
  simp only [↓Sh.dn,sx,Nat.reduceBEq,reduceCtorEq,Nat.reduceEqDiff]
  refine ⟨_,_,hd3,?_⟩
  simp only [↓Sh.dn,sx,Nat.reduceBEq,reduceCtorEq,Nat.reduceEqDiff,hres]
 | false=>
 obtain ⟨r,K1,hd1,rfl,rfl⟩:=isLong hJ1 hWl hWx kn.wf
 simp only [↓Sh.dn,sx,Nat.reduceBEq,reduceCtorEq,Nat.reduceEqDiff]
 refine ⟨_,_,hd1,?_⟩
 cases hlg2:decide (16384 < A0s W) with
 | true=>
  obtain ⟨r,H3,hd3,rfl,rfl⟩:=A0z (H:=K1)
  simp only [↓Sh.dn,sx,Nat.reduceBEq,reduceCtorEq,Nat.reduceEqDiff]
  refine ⟨_,_,hd3,?_⟩
  simp only [↓Sh.dn,sx,Nat.reduceBEq,reduceCtorEq,Nat.reduceEqDiff,hres]
 | false=>
 have d4:decide ((4000:Int) < (W.length:Int))=decide (4000 < W.length):=decide_eq_decide.2 (by omega)
 simp only [↓Sh.dn,sx,Nat.reduceBEq,reduceCtorEq,Nat.reduceEqDiff,hlenW,d4]
 cases hlg3:decide (4000 < W.length) with
 | true=>
  obtain ⟨r,H3,hd3,rfl,rfl⟩:=A0z (H:=K1)
  simp only [↓Sh.dn,sx,Nat.reduceBEq,reduceCtorEq,Nat.reduceEqDiff]
  refine ⟨_,_,hd3,?_⟩
  simp only [↓Sh.dn,sx,Nat.reduceBEq,reduceCtorEq,Nat.reduceEqDiff,hres]
 | false=>
 obtain ⟨r4,H4,hd4,hk4,mv,rfl,hme,hmo⟩:=autoOf hs1 hsl hsx hJ1 hWl hWx kn.wf
 simp only [↓Sh.dn,sx,Nat.reduceBEq,reduceCtorEq,Nat.reduceEqDiff]
 refine ⟨_,_,hd4,?_⟩
 have hs4:=hs1.grow (hk4.grow kn.wf)
 have hJ4:=hJ1.grow (hk4.grow kn.wf)
 have hM:∃ M:NetD,Nonempty (B2a H4 mv M)∧(A7k sigma W=0→B8m sigma W M)∧(A7k sigma W≠0→M=⟨[],0,[],[]⟩):=by
  by_cases hz:A7k sigma W=0
  ·obtain ⟨M,h1,h2⟩:=hmo hz
   exact ⟨M,h1,fun _=>h2,fun h=>absurd hz h⟩
  ·refine ⟨⟨[],0,[],[]⟩,⟨?_⟩,fun h=>absurd h hz,fun _=>rfl⟩
   rw [hme hz]
   exact ⟨_,_,_,rfl,(Buf.void (H:=H4) (s:=1) none).toSl,(Buf.void (H:=H4) (s:=5) none).toSl,(Buf.void (H:=H4) (s:=2) none).toSl⟩
 obtain ⟨M,⟨hMa⟩,hM1,hM2⟩:=hM
 have hMs:A6z M:=by
  by_cases hz:A7k sigma W=0
  ·have hr:=hM1 hz
   exact ⟨by rw [hr.sg]; exact hsl,by have:=hr.al; omega,by have:=hr.el; omega,by rw [hr.sg]; exact hsx⟩
  ·rw [hM2 hz]; exact ⟨by simp,by simp,by simp,by simp⟩
 obtain ⟨sgM,arM,enM,rfl,q1,q2,q3⟩:=hMa
 have hc1:=NetBox.of (N:=M) hk4.wf q1 q2 q3
 have kc:=Kept.new hk4.wf 4 [sgM,.int .i64 M.states,arM,enM]
 have hs5:=hs4.grow (kc.grow hk4.wf)
 have hJ5:=hJ4.grow (kc.grow hk4.wf)
 simp only [↓Sh.dn,sx,Nat.reduceBEq,reduceCtorEq,Nat.reduceEqDiff,A7i,A65 q1.isCell q2.isCell q3.isCell,A1l,Option.map_some]
 generalize (H4.new 4 [sgM,.int .i64 M.states,arM,enM]).2=H5 at hc1 kc hs5 hJ5 ⊢
 generalize H4.next=gm at hc1 ⊢
 obtain ⟨r6,H6,hd6,hk6,mv2,rfl,a2,m2,c2,d2,rfl,i1,i2,i3⟩:=refOf hs5 hsl hsx hJ5 hWl hWx kc.wf
 have hc6:=hc1.kept kc.wf hk6
 have kd:=Kept.new hk6.wf 4 [a2,.int .i64 m2,c2,d2]
 have hc7:=hc6.kept hk6.wf kd
 have hs7:=hs5.grow ((hk6.trans kd).grow kc.wf)
 have hJ7:=hJ5.grow ((hk6.trans kd).grow kc.wf)
 refine ⟨_,_,hd6,?_⟩
 simp only [↓Sh.dn,sx,Nat.reduceBEq,reduceCtorEq,Nat.reduceEqDiff,A7i,A65 i1 i2 i3,A1l,Option.map_some,decide_true]
 generalize (H6.new 4 [a2,.int .i64 m2,c2,d2]).2=H7 at kd hc7 hs7 hJ7 ⊢
 by_cases hz:A7k sigma W=0
 case neg=>
  have hM3:=hM2 hz
  subst hM3
  have bz:A7j Tryz.prog 26 []=some (.agg #[.slice none 0 0,.int .i64 0,.slice none 0 0,.slice none 0 0]):=by
   have va:∀ xs:Array Value,A7a (.agg xs)=xs.toList:=fun _=>rfl
   refine A1f (pl:=[(0,1),(1,1),(2,1),(3,1)]) Tryz.underlying26 A52 (by kernel_rfl) ?_
   simp [A1s,va]
  have zn:B2a H7 (.agg #[.slice none 0 0,.int .i64 0,.slice none 0 0,.slice none 0 0]) ⟨[],0,[],[]⟩:=⟨_,_,_,rfl,(Buf.void (H:=H7) (s:=1) none).toSl,(Buf.void (H:=H7) (s:=5) none).toSl,(Buf.void (H:=H7) (s:=2) none).toSl⟩
  obtain ⟨r8,H8,hd8,hk8,rfl⟩:=sameNet hc7.netAt zn hMs kd.wf
  obtain ⟨r9,H9,hd9,rfl,rfl⟩:=A0z (H:=H8)
  simp only [↓Sh.dn,sx,Nat.reduceBEq,reduceCtorEq,Nat.reduceEqDiff,hc7.c0,hc7.c1,hc7.c2,hc7.c3,hc7.ca,A8b hc7,A9b hc7,A0c hc7,hz,decide_false,bz,Option.map_some]
  refine ⟨_,_,hd8,?_⟩
  simp only [↓Sh.dn,sx,Nat.reduceBEq,reduceCtorEq,Nat.reduceEqDiff]
  refine ⟨_,_,hd9,?_⟩
  simp only [↓Sh.dn,sx,Nat.reduceBEq,reduceCtorEq,Nat.reduceEqDiff,hres]
 have hT:=hM1 hz
 obtain ⟨ha,l,hl,hp,hm,hl2⟩:=of_words hT hz
 obtain ⟨z1,z2,z3,z4,z5⟩:=B4k hz
 have hwl:∀ w∈W,w.length≤60:=fun w hw=>A45 (z3 w hw)
 obtain ⟨r8,H8,hd8,hk8,lv,rfl,ws,hK⟩:=refWords (most:=200) hc7.netAt hMs kd.wf
 rw [hl] at hd8 hK
 simp only at hd8 hK
 have hc8:=hc7.kept kd.wf hk8
 have hs8:=hs7.grow (hk8.grow kd.wf)
 have hJ8:=hJ7.grow (hk8.grow kd.wf)
 obtain ⟨r9,H9,hd9,hk9,lw,rfl,l2,hS2,hp2,hm2⟩:=C5n hJ8 z2 (fun q hq=>⟨by have:=hwl q hq; omega,(hWx q hq).2⟩) z3 hk8.wf
 have hll:l2=l:=B5n sh_irr sh_tr hp2 hp fun w=>by rw [hm2,hm]
 subst hll
 have hc9:=hc8.kept hk8.wf hk9
 have hs9:=hs8.grow (hk9.grow hk8.wf)
 obtain ⟨ws2,hK2⟩:=hS2.jag
 simp only [↓Sh.dn,sx,Nat.reduceBEq,reduceCtorEq,Nat.reduceEqDiff,hc7.c0,hc7.c1,hc7.c2,hc7.c3,hc7.ca,A8b hc7,A9b hc7,A0c hc7,hz,decide_true,Option.map_some]
 refine ⟨_,_,hd8,?_⟩
 simp only [↓Sh.dn,sx,Nat.reduceBEq,reduceCtorEq,Nat.reduceEqDiff]
 refine ⟨_,_,hd9,?_⟩
 obtain ⟨r10,H10,hd10,rfl,rfl⟩:=C9y hc9.hsg hs9 (by simpa using hMs.sg) (by simpa using hsl) hk9.wf
 simp only [↓Sh.dn,sx,Nat.reduceBEq,reduceCtorEq,Nat.reduceEqDiff,hc9.c0,hc9.c1,hc9.c2,hc9.c3,hc9.ca,A8b hc9,A9b hc9,A0c hc9,Option.map_some]
 refine ⟨_,_,hd10,?_⟩
 obtain ⟨r11,H11,hd11,hk11,rfl⟩:=B1g hc9.netAt hMs hk9.wf
 simp only [↓Sh.dn,sx,Nat.reduceBEq,reduceCtorEq,Nat.reduceEqDiff,hT.sg,decide_true,hc9.c0,hc9.c1,hc9.c2,hc9.c3,hc9.ca,A8b hc9,A9b hc9,A0c hc9,Option.map_some]
 refine ⟨_,_,hd11,?_⟩
 have hKw:=(hK.grow (hk9.grow hk8.wf)).grow (hk11.grow hk9.wf)
 obtain ⟨r12,H12,hd12,e12,rfl⟩:=B02 hKw (hK2.grow (hk11.grow hk9.wf)) (by omega) (fun w hw=>by have:=hwl w ((hm2 w).1 hw); omega) hk11.wf
 obtain ⟨r13,H13,hd13,e13,rfl⟩:=A0z (H:=H12)
 simp only [↓Sh.dn,sx,Nat.reduceBEq,reduceCtorEq,Nat.reduceEqDiff,ha,decide_true]
 refine ⟨_,_,hd12,?_⟩
 simp only [↓Sh.dn,sx,Nat.reduceBEq,reduceCtorEq,Nat.reduceEqDiff]
 refine ⟨_,_,hd13,?_⟩
 simp only [↓Sh.dn,sx,Nat.reduceBEq,reduceCtorEq,Nat.reduceEqDiff,hres]
theorem lawMain {H:AH} {avs:List Value} {K:Type} {ds:List (DataW K)} (hb:Rows.uptoBulkAll ds≤1048576) (hw:Wf H) (hr:RDs Tryz.prog H [22,29] avs ds) (hfl:Flat Tryz.prog [22,29] avs):
  Sh.Call Tryz.prog (knows 7) 5 avs H (fun r _=>r=.bool true):=by
 obtain ⟨v,vs,d,ds,rfl,rfl,⟨f,h1⟩,h2⟩:=hr.cons_inv
 obtain ⟨v2,vs,d2,ds,rfl,rfl,⟨f2,h3⟩,h4⟩:=h2.cons_inv
 obtain ⟨rfl,rfl⟩:=h4.nil_inv
 simp only [Rows.uptoBulkAll,Nat.add_zero] at hb
 obtain ⟨u,L,hu,hsl,hLb⟩:=C2s h1
 obtain ⟨hl,hx⟩:=C8b (L:=L) (m:=1048576) (by omega)
 obtain ⟨u2,W,vs2,hu2,hJ,hW1,hW2⟩:=rows_in h3
 have e1:v=u:=by
  cases v with
  | agg cs=>
   have:=hfl 0 _ _ rfl rfl
   unfold B2v at this
   rw [Tryz.underlying22] at this
   cases this
  | _=>exact List.head_eq_of_cons_eq hu
 have e2:v2=u2:=by
  cases v2 with
  | agg cs=>
   have:=hfl 1 _ _ rfl rfl
   unfold B2v at this
   rw [Tryz.underlying29] at this
   cases this
  | _=>exact List.head_eq_of_cons_eq hu2
 subst e1 e2
 exact C4m hsl hl hx hJ (by omega) (fun q hq=>C8b (L:=q) (m:=1048576) (by have:=hW2 q hq; omega)) hw
end Go.Proofs.YtcgbiedfbacgpaaGreat
