/- A part of the proof: AutoFinds, RefBefore, InsSortStr, SortSmallStr, BreakPatStr, HeapSortStr, PartitionStr, PartInsStr, PdqStr, SortStrsStr, SortStrings, RefSymbols, RefWalk, RefWalk2, RefShort, RowsTotal, RefWords, RefFinds, IsOver, IsLong, DataIn. -/
import Derived.Test.YtcgbiedfbacgpaaGreatMCloseAutoFinds10
import Derived.Test.YtcgbiedfbacgpaaGreatMCloseAutoFinds14
import Derived.Test.YtcgbiedfbacgpaaGreatMCloseAutoFinds15
import Derived.Test.YtcgbiedfbacgpaaGreatMCloseAutoFinds7
import Derived.Test.YtcgbiedfbacgpaaGreatMCloseAutoFinds4
import Derived.Test.YtcgbiedfbacgpaaGreatMCloseAutoFinds2
import Derived.Test.YtcgbiedfbacgpaaGreatMCloseAutoFinds5
import Derived.Test.YtcgbiedfbacgpaaGreatRows
set_option linter.unusedVariables false
set_option linter.unusedSimpArgs false
/- auto.Empty, auto.Finite, auto.First. -/
set_option maxHeartbeats 4000000
set_option maxRecDepth 20000
set_option linter.unusedSimpArgs false
set_option linter.unusedVariables false
namespace Go.Proofs.YtcgbiedfbacgpaaGreat
open Go Go.Proofs Go.Proofs.Sh
def hasW (N:NetD) (K:Nat):Prop:=∃ w:List ByteArray,K≤w.length∧(∀ x∈w,x∈N.sigma)∧A2u N w
noncomputable def A1n (N:NetD):Bool×Int:=if A1h N≠0 then (false,A1h N) else (!tB (hasW N 0),0)
noncomputable def A5k (N:NetD):Bool×Int:=if A1h N≠0 then (false,A1h N) else (!tB (hasW N N.states.toNat),0)
noncomputable def A6f (N:NetD):List ByteArray×Bool×Int:=if A1h N≠0 then ([],false,A1h N) else match A2n N with
 | []=>if tB (B3j N)=true then ([],false,3) else ([],false,0)
 | w :: _=>(w,true,0)
theorem C0g {N:NetD}:¬hasW N 0↔A2n N=[]∧¬B3j N:=by
 constructor
 ·intro h
  refine ⟨List.eq_nil_iff_forall_not_mem.2 fun w hw=>?_,fun ⟨w,h1,h2,h3⟩=>h ⟨w,Nat.zero_le _,h2,h3⟩⟩
  obtain ⟨⟨_,h2⟩,h3⟩:=B6e.1 hw
  exact h ⟨w,Nat.zero_le _,h2,h3⟩
 ·rintro ⟨h1,h2⟩ ⟨w,_,h3,h4⟩
  by_cases h5:w.length≤60
  ·have:w∈A2n N:=B6e.2 ⟨⟨h5,h3⟩,h4⟩
   rw [h1] at this; cases this
  ·exact h2 ⟨w,by omega,h3,h4⟩
section
variable {N:NetD} {R:List (List (Nat×Int×Int×Int))} {es:List Int} {us:Nat→Prop} {f:Nat→Nat}
theorem B2q (hacc:∀ u:List Nat,(∀ k∈u,k < N.sigma.length)→(accS (A2c R fun k=>k < 0) (fun (k:Nat)=>A2c R fun x=>x=(k:Int)) (fun s=>0 < es.getD s 0) (Clo (A2c R fun k=>k < 0) fun s=>s=0) u↔A2u N (textOf N.sigma u)))
  (hsy:∀ (s:Nat) r,R[s]?=some r→∀ e∈r,e.2.1 < (N.sigma.length:Int)) (K:Nat):(∃ j,K≤j∧exP R es j 0)↔hasW N K:=by
 constructor
 ·rintro ⟨j,h1,h2⟩
  obtain ⟨w,⟨h3,h4⟩,h5⟩:=A5w (A:=fun (k:Nat)=>A2c R fun x=>x=(k:Int)) (q:=fun k=>k < N.sigma.length) (fun s t hst=>by
   obtain ⟨r,k1,e,k2,k3,k4⟩:=hst
   have:=hsy s r k1 e k2
   exact ⟨e.2.1.toNat,by omega,r,k1,e,k2,k3,by omega⟩) (S:=Clo (A2c R fun k=>k < 0) fun s=>s=0) (fun a b h1 h2=>.step h1 h2) ⟨0,.base rfl,h2⟩
  refine ⟨textOf N.sigma w,by unfold textOf; rw [List.length_map]; omega,fun x hx=>?_,(hacc w h4).1 h5⟩
  obtain ⟨k,hk,rfl⟩:=List.mem_map.1 hx
  have:=h4 k hk
  simp only [List.getD,List.getElem?_eq_getElem this,Option.getD_some]
  exact List.getElem_mem _
 ·rintro ⟨w,h1,h2,h3⟩
  obtain ⟨u,hu,rfl⟩:∃ u:List Nat,(∀ k∈u,k < N.sigma.length)∧textOf N.sigma u=w:=by
   clear h1 h3
   induction w with
   | nil=>exact ⟨[],(fun k hk=>by cases hk),rfl⟩
   | cons x w ih=>
    obtain ⟨u,h3,h4⟩:=ih fun y hy=>h2 y (List.mem_cons_of_mem _ hy)
    obtain ⟨k,hk⟩:=List.mem_iff_getElem?.1 (h2 x List.mem_cons_self)
    have hkl:=(List.getElem?_eq_some_iff.1 hk).1
    refine ⟨k :: u,fun j hj=>?_,?_⟩
    ·rcases List.mem_cons.1 hj with rfl | hj
     ·exact hkl
     ·exact h3 j hj
    ·show N.sigma.getD k A8a :: textOf N.sigma u=x :: w
     rw [h4]
     simp [List.getD,hk]
  obtain ⟨s,h4,h5⟩:=A7n (any:=A2c R fun x=>0≤x) C9p ((hacc u hu).2 h3)
  refine ⟨u.length,by unfold textOf at h1; rw [List.length_map] at h1; exact h1,A9n ?_ h5⟩
  exact h4
theorem A60 (s t:Nat):A2c R (fun _=>True) s t↔B6s (A2c R fun k=>k < 0) (A2c R fun k=>0≤k) s t:=by
 constructor
 ·rintro ⟨r,h1,e,h2,h3,_⟩
  by_cases h:e.2.1 < 0
  ·exact .inl ⟨r,h1,e,h2,h3,h⟩
  ·exact .inr ⟨r,h1,e,h2,h3,by show 0≤e.2.1; omega⟩
 ·rintro (⟨r,h1,e,h2,h3,_⟩ | ⟨r,h1,e,h2,h3,_⟩)
  ·exact ⟨r,h1,e,h2,h3,trivial⟩
  ·exact ⟨r,h1,e,h2,h3,trivial⟩
theorem B8i (hok:A3r N):Clo (fun s t=>A2c (A3h N) (fun _=>True) t s) (fun s=>0 < (A7j N N.ends).getD s 0) 0↔hasW N 0:=by
 rw [← B2q (fun u hu=>B1j hok hu) A57 0]
 have e:(fun s t=>A2c (A3h N) (fun _=>True) t s)=fun a b=>A2c (A3h N) (fun k=>k < 0) b a∨A2c (A3h N) (fun k=>0≤k) b a:=by
  funext a b; exact propext (A60 b a)
 rw [e]
 have h:=A8s (E:=A2c (A3h N) fun k=>k < 0) (any:=A2c (A3h N) fun k=>0≤k) (end_:=fun s=>0 < (A7j N N.ends).getD s 0) (m:=0) (s:=0)
 refine Iff.trans h ?_
 constructor
 ·rintro ⟨j,hj⟩; exact ⟨0+j,Nat.zero_le _,hj⟩
 ·rintro ⟨j,_,hj⟩; exact ⟨j,by rw [Nat.zero_add]; exact hj⟩
theorem B92 {m K:Nat} (hok:A3r N) (hT:TrimOf (fun x s t=>A2c (A3h N) (fun k=>k=x) s t) (fun x s t=>A2c R (fun k=>k=x) s t) us f (fun s=>0 < (A7j N N.ends).getD s 0) (fun s=>0 < es.getD s 0))
  (hto:∀ (s:Nat) r,R[s]?=some r→∀ e∈r,e.1 < m) (h0:0 < m) (hm:m≤K):(∀ s t,A2c R (fun k=>0≤k) s t→¬Both (adjE R) s t)↔¬hasW N K:=by
 rw [← B2q (fun u hu=>trim_acc hok hT hu) (trim_sym hT) K]
 have earc:∀ a b,B6s (A2c R fun k=>k < 0) (A2c R fun k=>0≤k) a b↔Arc (adjE R) a b:=fun a b=>by
  unfold Arc; rw [B4c]; exact (A60 a b).symm
 constructor
 ·rintro h ⟨j,hj,hex⟩
  obtain ⟨u,v,huv,hcl⟩:=B24 (n:=m) (fun s t hst=>by
   obtain ⟨r,h1,e,h2,h3,_⟩:=hst
   rw [← h3]; exact hto s r h1 e h2) h0 hex (by omega)
  exact h u v huv ⟨.step (.base rfl) ((earc u v).1 (.inr huv)),A41 (fun a b=>(earc a b).1) hcl⟩
 ·intro h s t hst hb
  obtain ⟨r,h1,e,h2,h3,h4⟩:=id hst
  obtain ⟨a,b,ha,hb2,rfl,rfl,_⟩:=(hT.edge e.2.1 s t).1 ⟨r,h1,e,h2,h3,rfl⟩
  refine h (B9x hst (A41 (fun a b=>(earc a b).2) hb.2) (A41 (fun a b ⟨x,hx⟩=>?_) (hT.root ha)) (B09 (A41 (fun a b ⟨x,hx⟩=>?_) (hT.leaf hb2))) K)
  ·obtain ⟨r,h1,e,h2,h3,_⟩:=hx
   exact (A60 a b).1 ⟨r,h1,e,h2,h3,trivial⟩
  ·obtain ⟨r,h1,e,h2,h3,_⟩:=hx
   exact (A60 b a).1 ⟨r,h1,e,h2,h3,trivial⟩
theorem C7o (hok:A3r N):(A8m N.sigma.length (A3h N) (A7j N N.ends) 61).map (textOf N.sigma)=A2n N:=by
 unfold A2n
 conv=>rhs; rw [← B99 N.sigma]
 rw [C0y]
 have:B4l (List.range N.sigma.length) (fun u=>A2u N (u.map fun k=>N.sigma.getD k A8a)) 60=A8m N.sigma.length (A3h N) (A7j N N.ends) 61:=
  B5d fun u hu=>(B1j hok fun k hk=>List.mem_range.1 (hu k hk)).symm
 rw [this]
 rfl
end
theorem C9v {H:AH} {v:Value} {N:NetD} (h:A0y H v N) (hsm:A3j N) (hw:Wf H):
  Sh.Call Tryz.prog (knows 7) 11 [v] H (fun r H'=>Kept H H'∧r=.tuple #[.bool (A1n N).1,.int .i64 (A1n N).2]):=by
 refine A2a rfl Tryz.func11 rfl (Nat.le_of_ble_eq_true rfl) ?_
 have hres:Tryz.f11.results.toList=[.tmp 2,.tmp 3]:=rfl
 obtain ⟨sg,ar,en,rfl,hsg,har,hen⟩:=h; have hb1:=NetBox.of (N:=N) hw hsg har hen; have hk1:Kept H (H.new 4 [sg,.int .i64 N.states,ar,en]).2:=Kept.new hw 4 _; simp only [↓Sh.dn,sx,Nat.reduceEqDiff,A9s hsg.isCell har.isCell hen.isCell]; generalize H.next=gg at hb1 ⊢; generalize (H.new 4 [sg,.int .i64 N.states,ar,en]).2=H1 at hb1 hk1 ⊢
 obtain ⟨r,H2,hd2,hk2,rfl⟩:=A4y hb1.netAt hsm hk1.wf
 have hb2:=hb1.kept hk1.wf hk2
 simp only [sx,hb1.ca]
 refine ⟨_,_,hd2,?_⟩
 have hk12:=hk1.trans hk2
 by_cases hA:A1h N=0
 case neg=>
  have ho:A1n N=(false,A1h N):=by unfold A1n; rw [if_pos hA]
  simp only [↓Sh.dn,sx,Nat.reduceEqDiff,hA,decide_false,hres,ho]
  exact hk12
 have ho:A1n N=(!tB (hasW N 0),0):=by unfold A1n; rw [if_neg (by simpa using hA)]
 have hok:=A5v hA
 have hs40:N.sigma.length≤1000:=by have:=B9i hok; omega
 obtain ⟨r,H3,hd3,hk3,g,rfl,base,hbase,hG⟩:=B08 hb2.netAt hok hsm hk2.wf
 obtain ⟨sv,av,ev,cv,vals,hPG⟩:=Gr.pg hok hG
 obtain ⟨r,H4,hd4,hk4,B,hB,hBl,hBi⟩:=A59 hPG (by omega) hk3.wf
 obtain ⟨b,hb⟩:∃ b,B[0]?=some b:=⟨B[0]'(by rw [hBl]; exact hPG.n1),List.getElem?_eq_getElem _⟩
 obtain ⟨q,e1,e2⟩:=Sl.elem (s:=1) Tryz.underlying58 A8h hB (i:=0) (u:=.bool b) (by rw [List.getElem?_map,hb]; rfl)
 have e1':A9a Tryz.prog 58 r (.int .i64 0)=some (.pointer (some q)):=e1
 have hbt:b=tB (hasW N 0):=by
  rw [Bool.eq_iff_iff,A0s,← B8i hok,← hBi,hb]
  simp
 simp only [↓Sh.dn,sx,Nat.reduceEqDiff,hA,decide_true,hb2.ca]
 refine ⟨_,_,hd3,?_⟩
 refine ⟨_,_,hd4,?_⟩
 simp only [sx,Nat.reduceEqDiff,e1',e2,hres,ho,hbt]
 exact (hk12.trans hk3).trans hk4
theorem C6m {H:AH} {v:Value} {N:NetD} (h:A0y H v N) (hsm:A3j N) (hw:Wf H):
  Sh.Call Tryz.prog (knows 7) 13 [v] H (fun r H'=>Kept H H'∧r=.tuple #[.bool (A5k N).1,.int .i64 (A5k N).2]):=by
 refine A2a rfl Tryz.func13 rfl (Nat.le_of_ble_eq_true rfl) ?_
 have hres:Tryz.f13.results.toList=[.tmp 2,.tmp 3]:=rfl
 obtain ⟨sg,ar,en,rfl,hsg,har,hen⟩:=h; have hb1:=NetBox.of (N:=N) hw hsg har hen; have hk1:Kept H (H.new 4 [sg,.int .i64 N.states,ar,en]).2:=Kept.new hw 4 _; simp only [↓Sh.dn,sx,Nat.reduceEqDiff,A9s hsg.isCell har.isCell hen.isCell]; generalize H.next=gg at hb1 ⊢; generalize (H.new 4 [sg,.int .i64 N.states,ar,en]).2=H1 at hb1 hk1 ⊢
 obtain ⟨r,H2,hd2,hk2,rfl⟩:=A4y hb1.netAt hsm hk1.wf
 have hb2:=hb1.kept hk1.wf hk2
 simp only [sx,hb1.ca]
 refine ⟨_,_,hd2,?_⟩
 have hk12:=hk1.trans hk2
 by_cases hA:A1h N=0
 case neg=>
  have ho:A5k N=(false,A1h N):=by unfold A5k; rw [if_pos hA]
  simp only [↓Sh.dn,sx,Nat.reduceEqDiff,hA,decide_false,hres,ho]
  exact hk12
 have ho:A5k N=(!tB (hasW N N.states.toNat),0):=by unfold A5k; rw [if_neg (by simpa using hA)]
 have hok:=A5v hA
 have hs40:N.sigma.length≤1000:=by have:=B9i hok; omega
 obtain ⟨r,H3,hd3,hk3,g,rfl,base,hbase,hG⟩:=B08 hb2.netAt hok hsm hk2.wf
 obtain ⟨sv,av,ev,cv,vals,hPG⟩:=Gr.pg hok hG
 obtain ⟨r,H4,hd4,hk4,g4,rfl,m,R,es,⟨sv4,av4,ev4,cv4,vals4,cs4,hP4⟩,hmn,U,hT⟩:=C30 hPG (by omega) (by unfold A4o; rw [List.length_map,A9e]) hk3.wf
 obtain ⟨r,H5,hd5,hk5,b,rfl,hbi⟩:=B97 hP4 (by omega) hk4.wf
 have hbt:b=!tB (hasW N N.states.toNat):=by
  rw [B92 hok hT (fun s r hr=>(hP4.to s r hr).2) hP4.n1 hmn] at hbi
  rw [Bool.eq_iff_iff,hbi,Bool.not_eq_true',← Bool.not_eq_true,A0s]
 simp only [↓Sh.dn,sx,Nat.reduceEqDiff,hA,decide_true,hb2.ca]
 refine ⟨_,_,hd3,?_⟩
 refine ⟨_,_,hd4,?_⟩
 refine ⟨_,_,hd5,?_⟩
 simp only [sx,Nat.reduceEqDiff,hres,ho,hbt]
 exact ((hk12.trans hk3).trans hk4).trans hk5
theorem C60 {H:AH} {v:Value} {N:NetD} (h:A0y H v N) (hsm:A3j N) (hw:Wf H):
  Sh.Call Tryz.prog (knows 7) 15 [v] H (fun r H'=>Kept H H'∧∃ lv,r=.tuple #[lv,.bool (A6f N).2.1,.int .i64 (A6f N).2.2]∧Sl H' lv 1 ((A6f N).1.map A5b)):=by
 refine A2a rfl Tryz.func15 rfl (Nat.le_of_ble_eq_true rfl) ?_
 have hres:Tryz.f15.results.toList=[.tmp 2,.tmp 3,.tmp 4]:=rfl
 obtain ⟨sg,ar,en,rfl,hsg,har,hen⟩:=h; have hb1:=NetBox.of (N:=N) hw hsg har hen; have hk1:Kept H (H.new 4 [sg,.int .i64 N.states,ar,en]).2:=Kept.new hw 4 _; simp only [↓Sh.dn,sx,Nat.reduceEqDiff,A9s hsg.isCell har.isCell hen.isCell]; generalize H.next=gg at hb1 ⊢; generalize (H.new 4 [sg,.int .i64 N.states,ar,en]).2=H1 at hb1 hk1 ⊢
 obtain ⟨r,H2,hd2,hk2,rfl⟩:=A4y hb1.netAt hsm hk1.wf
 have hb2:=hb1.kept hk1.wf hk2
 simp only [sx,hb1.ca]
 refine ⟨_,_,hd2,?_⟩
 have hk12:=hk1.trans hk2
 by_cases hA:A1h N=0
 case neg=>
  have ho:A6f N=([],false,A1h N):=by unfold A6f; rw [if_pos hA]
  simp only [↓Sh.dn,sx,Nat.reduceEqDiff,hA,decide_false,hres,ho]
  exact ⟨hk12,_,rfl,Sl.nil _ _⟩
 have hok:=A5v hA
 have hs40:N.sigma.length≤1000:=by have:=B9i hok; omega
 obtain ⟨r,H3,hd3,hk3,g,rfl,base,hbase,hG⟩:=B08 hb2.netAt hok hsm hk2.wf
 obtain ⟨sv,av,ev,cv,vals,hPG⟩:=Gr.pg hok hG
 obtain ⟨r,H4,hd4,hk4,B,hB,hBl,hBi⟩:=A59 hPG (by omega) hk3.wf
 obtain ⟨b,hb⟩:∃ b,B[0]?=some b:=⟨B[0]'(by rw [hBl]; exact hPG.n1),List.getElem?_eq_getElem _⟩
 obtain ⟨q,e1,e2⟩:=Sl.elem (s:=1) Tryz.underlying58 A8h hB (i:=0) (u:=.bool b) (by rw [List.getElem?_map,hb]; rfl)
 have e1':A9a Tryz.prog 58 r (.int .i64 0)=some (.pointer (some q)):=e1
 have hbt:b=tB (hasW N 0):=by
  rw [Bool.eq_iff_iff,A0s,← B8i hok,← hBi,hb]
  simp
 simp only [↓Sh.dn,sx,Nat.reduceEqDiff,hA,decide_true,hb2.ca]
 refine ⟨_,_,hd3,?_⟩
 refine ⟨_,_,hd4,?_⟩
 simp only [sx,e1',e2]
 have hk34:=(hk12.trans hk3).trans hk4
 cases b with
 | false=>
  obtain ⟨n1,n2⟩:=C0g.1 fun h=>by have h2:=A0s.2 h; rw [← hbt] at h2; cases h2
  have nl:tB (B3j N)=false:=by
   cases hl:tB (B3j N) with
   | false=>rfl
   | true=>exact absurd (A0s.1 hl) n2
  have ho:A6f N=([],false,0):=by unfold A6f; rw [if_neg (by simpa using hA),n1,nl]; simp
  simp only [↓Sh.dn,sx,Nat.reduceEqDiff,hres,ho]
  exact ⟨hk34,_,rfl,Sl.nil _ _⟩
 | true=>
  obtain ⟨r5,H5,hd5,hk5,oo,vs,hW,hvl,hvr⟩:=C6l (mx:=1) (long:=60) (hPG.kept hk3.wf hk4) A57 hs40 (by omega) (by omega) hk4.wf
  have hall:=C7o hok
  have hFPin:∀ u∈A8m N.sigma.length (A3h N) (A7j N N.ends) 61,(∀ k∈u,k < N.sigma.length)∧u.length≤60:=fun u hu=>by
   unfold A8m A8j at hu
   obtain ⟨m,hm1,hm2⟩:=List.mem_flatMap.1 hu
   have:=List.mem_range.1 hm1
   exact ⟨fun k hk=>List.mem_range.1 ((B2t.1 hm2).1.2 k hk),by rw [(B2t.1 hm2).1.1]; omega⟩
  generalize hFP:A8m N.sigma.length (A3h N) (A7j N N.ends) (60+1)=FP at hvl hvr
  have hFP':A8m N.sigma.length (A3h N) (A7j N N.ends) 61=FP:=hFP
  rw [hFP'] at hall hFPin
  have hlz:∀ H',A4a Tryz.prog .len [65] [r5] H'=some (.int .i64 (((FP.take 1).length:Nat):Int),H'):=fun H'=>by
   rw [hW.toSl.len Tryz.underlying65,List.length_map,hvl]
  simp only [↓Sh.dn,sx,Nat.reduceEqDiff]
  refine ⟨_,_,by first | exact hd5 | simpa using hd5,?_⟩
  simp only [sx,hlz]
  cases hFPc:FP with
  | nil=>
   rw [hFPc] at hall
   have hal:A2n N=[]:=hall.symm
   have hl:tB (B3j N)=true:=by
    cases hl:tB (B3j N) with
    | true=>rfl
    | false=>
     have h1:¬B3j N:=fun h=>by rw [A0s.2 h] at hl; cases hl
     exact absurd (A0s.1 hbt.symm) (C0g.2 ⟨hal,h1⟩)
   have ho:A6f N=([],false,3):=by unfold A6f; rw [if_neg (by simpa using hA),hal,hl]; simp
   have hz:decide ((((([]:List (List Nat)).take 1).length:Nat):Int)=0)=true:=rfl
   simp only [↓Sh.dn,sx,Nat.reduceEqDiff,hz,hres,ho]
   exact ⟨hk34.trans hk5,_,rfl,Sl.nil _ _⟩
  | cons u FP2=>
   subst hFPc
   have hal:A2n N=textOf N.sigma u :: FP2.map (textOf N.sigma):=hall.symm
   have ho:A6f N=(textOf N.sigma u,true,0):=by unfold A6f; rw [if_neg (by simpa using hA),hal]
   have hz:decide (((((u :: FP2).take 1).length:Nat):Int)=0)=false:=rfl
   obtain ⟨x,hx⟩:∃ x,vs[0]?=some x:=⟨vs[0]'(by rw [hvl]; simp),List.getElem?_eq_getElem _⟩
   have hxu:=hvr 0 x u hx rfl
   obtain ⟨p5,i5,c5⟩:=Sl.elem (s:=1) Tryz.underlying65 A3y hW.toSl (i:=0) (u:=x) (by rw [List.getElem?_map,hx]; rfl)
   have i5':A9a Tryz.prog 65 r5 (.int .i64 0)=some (.pointer (some p5)):=i5
   obtain ⟨hu1,hu2⟩:=hFPin u List.mem_cons_self
   have hk45:=hk4.trans hk5
   have hsg:=hPG.gr.sg.grow (hk45.grow hk3.wf)
   have c0:=A2b (hk45.grow hk3.wf) (hPG.gr.arr.cell 0)
   obtain ⟨r6,H6,hd6,hk6,o6,hL6⟩:=C8m hsg hxu (by omega) hu1 hk5.wf
   simp only [↓Sh.dn,sx,hz]
   refine (A7a (by kernel_rfl)).2 ?_
   simp only [↓Sh.dn,sx,Nat.reduceEqDiff,c0,i5',c5]
   refine ⟨_,_,hd6,?_⟩
   simp only [sx,Nat.reduceEqDiff,hres,ho]
   exact ⟨(hk34.trans hk5).trans hk6,r6,rfl,hL6.bf.toSl⟩
end Go.Proofs.YtcgbiedfbacgpaaGreat
/- The reference's before, isLonger. -/
namespace Go.Proofs.YtcgbiedfbacgpaaGreat
open Go Go.Proofs Go.Proofs.Sh
theorem B20 {H:AH} {rv u:Value} {ot:Option Nat} {vals:List Value} {obs:List (Option Nat)} {n:Nat} {R:List (List (ByteArray×Nat))} {X:List Bool}
  (hJ:Jag H rv ot 2 vals (A4h R) obs) (hRl:R.length=n) (hRr:∀ r∈R,r.length≤180000000∧∀ e∈r,e.2 < n) (hX:Sl H u 1 (X.map A3l)) (hXl:X.length=n) (h1:1≤n) (hn:n≤3000) (hw:Wf H):
  Sh.Call Tryz.prog (knows 7) 64 [rv,u] H (fun r H'=>B9b H H' r n (Clo (A2t R true) fun t=>∃ s,X[s]?=some true∧∃ x,x≠A8a∧A8d R x s t)):=by
 refine A2a rfl Tryz.func64 rfl (Nat.le_of_ble_eq_true rfl) ?_
 have hres:Tryz.f64.results.toList=[.tmp 4]:=rfl
 have hlen:=fun H'=>hX.len Tryz.underlying58 H'
 simp only [List.length_map,hXl] at hlen
 have hmk:=B74 (H:=H) (l:=n) (c:=n) (Nat.le_refl _) (by omega)
 have k1:=Kept.new hw 1 (List.replicate n (.bool false))
 have f1:=Buf.fill hw (.bool false) (c:=n) (by omega)
 rw [if_neg (by omega)] at f1
 have hM1:MB (H.new 1 (List.replicate n (.bool false))).2 H.next n (.slice (some ⟨H.next,0,some 0⟩) n n) (some H.next) (List.replicate n false) []:=
  ⟨Marks.empty n,by rw [List.map_replicate]; exact f1,fun y hy=>by rw [← Option.some.inj hy]; exact Nat.le_refl _⟩
 have hx1:H.next < (H.new 1 (List.replicate n (.bool false))).2.next:=Nat.lt_succ_self _
 simp only [↓Sh.dn,sx,Nat.reduceEqDiff,hlen,hmk]
 generalize (Value.slice (some ⟨H.next,0,some 0⟩) n n)=mv at hM1 ⊢
 generalize (H.new 1 (List.replicate n (.bool false))).2=H1 at k1 hM1 hx1 ⊢
 refine A9c n 6 (List.range' 6 45) (fun i F H'=>Kept H H'∧∃ seen out,MB H' H.next n mv (some H.next) seen out∧∀ t,t∈out↔∃ s,s < i∧X[s]?=some true∧∃ x,x≠A8a∧A8d R x s t) (by simp only [sx]) ⟨k1,_,_,hM1,fun t=>by simp⟩ ?_ ?_
 ·rintro i F H' hi hF f6 ⟨hk,seen,out,hM,hiff⟩ k
  have f0:=hF 0 rfl
  have f1:=hF 1 rfl
  have f5:=hF 5 rfl
  simp only [sx,reduceCtorEq,Nat.reduceEqDiff] at f0 f1 f5
  obtain ⟨b,hbx⟩:∃ b,X[i]?=some b:=⟨X[i]'(by rw [hXl]; exact hi),List.getElem?_eq_getElem _⟩
  have hXb:∀ {H'},Kept H H'→∃ p,A9a Tryz.prog 58 u (.int .i64 (i:Int))=some (.pointer (some p))∧H'.cell p=some (.bool b):=fun hk=>
   Sl.elem (s:=1) Tryz.underlying58 A8h (hX.grow (hk.grow hw)) (i:=i) (u:=.bool b) (by rw [List.getElem?_map,hbx]; rfl)
  obtain ⟨r,hr⟩:∃ r,R[i]?=some r:=⟨R[i]'(by rw [hRl]; exact hi),List.getElem?_eq_getElem _⟩
  have hr':(A4h R)[i]?=some (r.map A2h):=by unfold A4h; rw [List.getElem?_map,hr]; rfl
  obtain ⟨hrl,hrt⟩:=hRr r (List.mem_of_getElem? hr)
  obtain ⟨qb,e4,e5⟩:=hXb hk
  simp only [↓Sh.dn,sx,Nat.reduceEqDiff,f1,f6,hlen,A1a,hi,decide_true]
  cases b with
  | false=>
   refine Sh.wp_inLoop.2 ?_
   simp only [↓Sh.dn,sx,Nat.reduceBEq,Nat.reduceEqDiff,f1,f6,e4,e5,A3a hi (Nat.le_trans hn (by decide))]
   refine k _ _ (by repeat (first | refine Same.put ?_ rfl | exact Same.rfl' _)) (by simp only [sx]) ⟨hk,seen,out,hM,fun t=>?_⟩
   rw [hiff]
   constructor
   ·rintro ⟨s,h1,h2⟩; exact ⟨s,by omega,h2⟩
   ·rintro ⟨s,h1,h2,h3⟩
    by_cases hs:s=i
    ·subst hs; rw [hbx] at h2; cases h2
    ·exact ⟨s,by omega,h2,h3⟩
  | true=>
  refine A9c r.length 7 (List.range' 7 44) (fun q F'' H''=>Kept H H''∧∃ seen' out',MB H'' H.next n mv (some H.next) seen' out'∧∀ t,t∈out'↔t∈out∨∃ e∈r.take q,e.2=t∧e.1≠A8a) (by simp only [sx]) ⟨hk,seen,out,hM,fun t=>by simp⟩ ?_ ?_
  ·rintro q F'' H'' hq hF'' f7 ⟨hk'',seen',out',hM',hiff'⟩ k2
   have g0:=hF'' 0 rfl
   have g1:=hF'' 1 rfl
   have g5:=hF'' 5 rfl
   have g6:=hF'' 6 rfl
   simp only [sx,reduceCtorEq,Nat.reduceEqDiff,f0,f1,f5,f6] at g0 g1 g5 g6
   obtain ⟨qb,e4,e5⟩:=hXb hk''
   obtain ⟨ga,oa,ka,wr,hia,hc1,hs1⟩:=(hJ.kept hw hk'').read.at Tryz.underlying57 A3q hr'
   have hl1:=fun H'=>hs1.len Tryz.underlying97 H'
   simp only [List.length_map] at hl1
   obtain ⟨g',o',k',hia2,hcs2,hcc2⟩:=hs1.at Tryz.underlying97 A1t (i:=q) (x:=A2h r[q]) (by simp [hq]) .i64
   have hrq:r[q]∈r:=List.getElem_mem hq
   have htk:r.take (q+1)=r.take q++[r[q]]:=by rw [List.take_add_one,List.getElem?_eq_getElem hq]; rfl
   generalize r[q]=e at hcs2 hcc2 hrq htk
   have c0:=hcc2 0 (.string e.1) rfl
   have c1:=hcc2 1 (.int .i64 (e.2:Int)) rfl
   have hjn:∀ t,(∃ e'∈r.take (q+1),e'.2=t∧e'.1≠A8a)↔(∃ e'∈r.take q,e'.2=t∧e'.1≠A8a)∨e.2=t∧e.1≠A8a:=fun t=>by
    rw [htk]
    simp only [List.mem_append,List.mem_singleton]
    constructor
    ·rintro ⟨e',h1 | h1,h2⟩
     ·exact .inl ⟨e',h1,h2⟩
     ·subst h1; exact .inr h2
    ·rintro (⟨e',h1,h2⟩ | h2)
     ·exact ⟨e',.inl h1,h2⟩
     ·exact ⟨e,.inr rfl,h2⟩
   have hrl':r.length≤4611686018427387904:=Nat.le_trans hrl (by decide)
   have c0':=c0
   simp only [Nat.add_zero] at c0'
   simp only [↓Sh.dn,sx,reduceCtorEq,Nat.reduceEqDiff,g0,g1,g6,f7,e4,e5,hia,hc1,hl1,A1a,hq,decide_true,hia2,c0']
   by_cases he:e.1=⟨#[]⟩
   ·simp only [↓Sh.dn,sx,Nat.reduceEqDiff,he,decide_true,f7,A3a hq hrl']
    refine k2 _ _ (by repeat (first | refine Same.put ?_ rfl | exact Same.rfl' _)) (by simp only [sx]) ⟨hk'',seen',out',hM',fun t=>?_⟩
    rw [hjn,hiff']
    have:¬(e.2=t∧e.1≠A8a):=fun h=>h.2 he
    simp [this]
   ·obtain ⟨p2,H3,seen2,out2,d1,d2,d3,d4,d5⟩:=hM'.put Tryz.underlying58 A8h hk''.wf (hrt e hrq)
    have st:A6e Tryz.prog 4 H'' (.bool true) (.pointer (some p2))=some H3:=by rw [A1c A8h rfl]; exact d2
    simp only [↓Sh.dn,sx,reduceCtorEq,Nat.reduceEqDiff,he,decide_false,g0,g5,g6,f7,hia,hc1,hia2,c1,d1,st,A3a hq hrl']
    refine k2 _ _ (by repeat (first | refine Same.put ?_ rfl | exact Same.rfl' _)) (by simp only [sx]) ⟨hk''.then (Nat.le_refl _) (d4.weak fun y hy=>hM'.fr y hy),seen2,out2,d3,fun t=>?_⟩
    rw [d5,hjn,hiff']
    constructor
    ·rintro ((h1 | h1) | h1)
     ·exact .inl h1
     ·exact .inr (.inl h1)
     ·exact .inr (.inr ⟨h1.symm,he⟩)
    ·rintro (h1 | h1 | ⟨h1,_⟩)
     ·exact .inl (.inl h1)
     ·exact .inl (.inr h1)
     ·exact .inr h1.symm
  ·rintro F'' H'' hF'' f7 ⟨hk'',seen',out',hM',hiff'⟩
   have g0:=hF'' 0 rfl
   have g1:=hF'' 1 rfl
   have g6:=hF'' 6 rfl
   simp only [sx,reduceCtorEq,Nat.reduceEqDiff,f0,f1,f6] at g0 g1 g6
   obtain ⟨qb,e4,e5⟩:=hXb hk''
   obtain ⟨ga,oa,ka,wr,hia,hc1,hs1⟩:=(hJ.kept hw hk'').read.at Tryz.underlying57 A3q hr'
   have hl1:=fun H'=>hs1.len Tryz.underlying97 H'
   simp only [List.length_map] at hl1
   rw [List.take_length] at hiff'
   simp only [↓Sh.dn,sx,Nat.reduceBEq,reduceCtorEq,Nat.reduceEqDiff,g0,g1,g6,f7,e4,e5,hia,hc1,hl1,A1a,Nat.lt_irrefl,decide_false,A3a hi (Nat.le_trans hn (by decide))]
   refine k _ _ ?_ (by simp only [sx]) ⟨hk'',seen',out',hM',fun t=>?_⟩
   ·repeat refine Same.put ?_ rfl
    exact Same.trans (by repeat (first | refine Same.put ?_ rfl | exact Same.rfl' _)) (hF''.sub rfl)
   ·rw [hiff',hiff]
    constructor
    ·rintro (⟨s,h1,h2⟩ | ⟨e,h1,h2,h3⟩)
     ·exact ⟨s,by omega,h2⟩
     ·exact ⟨i,by omega,hbx,e.1,h3,r,hr,by rw [← h2]; exact h1⟩
    ·rintro ⟨s,h1,h2,x,h3,h4⟩
     by_cases hs:s=i
     ·subst hs
      obtain ⟨r',h5,h6⟩:=h4
      rw [hr] at h5
      exact .inr ⟨(x,t),by rw [Option.some.inj h5]; exact h6,rfl,h3⟩
     ·exact .inl ⟨s,by omega,h2,x,h3,h4⟩
 ·rintro F H' hF f6 ⟨hk,seen,out,hM,hiff⟩
  have f0:=hF 0 rfl
  have f1:=hF 1 rfl
  have f5:=hF 5 rfl
  simp only [sx,reduceCtorEq,Nat.reduceEqDiff] at f0 f1 f5
  obtain ⟨rr,H4,hd4,hc4,seen2,hb4,hsl,hiff4⟩:=B0f (em:=true) hk (hJ.kept hw hk) hRl hRr hM.bf (fun y hy=>by rw [← Option.some.inj hy]; exact Nat.le_refl _) (fun y hy hj=>by have:=hJ.lt hw y hj; have:=Option.some.inj hy; omega) hM.ms.len hn
  simp only [↓Sh.dn,sx,reduceCtorEq,Nat.reduceEqDiff,f0,f1,f5,f6,hlen,A1a,Nat.lt_irrefl,decide_false]
  refine ⟨_,_,hd4,?_⟩
  simp only [sx,hres]
  refine ⟨hk.then (Nat.le_refl _) (hc4.weak fun y hy=>by rw [← Option.some.inj hy]; exact Nat.le_refl _),seen2,some H.next,hb4,fun y hy=>by rw [← Option.some.inj hy]; exact Nat.le_refl _,hsl,fun t=>?_⟩
  rw [hiff4]
  have:(fun s=>seen[s]?=some true)=fun t=>∃ s,X[s]?=some true∧∃ x,x≠A8a∧A8d R x s t:=by
   funext t
   apply propext
   rw [hM.ms.iff,hiff]
   constructor
   ·rintro ⟨s,_,h1⟩; exact ⟨s,h1⟩
   ·rintro ⟨s,h1,h2⟩; exact ⟨s,by rw [← hXl]; exact (List.getElem?_eq_some_iff.1 h1).1,h1,h2⟩
  rw [this]
def anyE (E:List (List (ByteArray×Nat))) (s t:Nat):Prop:=∃ x,x≠A8a∧A8d E x s t
def exE (E:List (List (ByteArray×Nat))) (ends:List Bool):Nat→Nat→Prop:=A8g (A8d E A8a) (anyE E) (fun s=>ends[s]?=some true)
theorem B4j {R E:List (List (ByteArray×Nat))} (hg:∀ x t s,A8d R x t s↔A8d E x s t):A2t R true=fun a b=>A8d E A8a b a:=by
 funext s t
 apply propext
 unfold A2t
 constructor
 ·rintro ⟨x,h1,h2⟩; rw [← hg,← h2 rfl]; exact h1
 ·intro h; exact ⟨A8a,(hg _ _ _).2 h,fun _=>rfl⟩
theorem B9e {R E:List (List (ByteArray×Nat))} (hg:∀ x t s,A8d R x t s↔A8d E x s t) {X:List Bool} {Q:Nat→Prop} (hX:∀ t:Nat,X[t]?=some true↔Q t):
  Clo (A2t R true) (fun t=>∃ s,X[s]?=some true∧∃ x,x≠A8a∧A8d R x s t)=Clo (fun a b=>A8d E A8a b a) fun s=>∃ t,anyE E s t∧Q t:=by
 rw [B4j hg]
 congr 1
 funext t
 apply propext
 constructor
 ·rintro ⟨s,h1,x,h2,h3⟩; exact ⟨s,⟨x,h2,(hg _ _ _).1 h3⟩,(hX s).1 h1⟩
 ·rintro ⟨s,⟨x,h2,h3⟩,h1⟩; exact ⟨s,(hX s).2 h1,x,h2,(hg _ _ _).2 h3⟩
theorem B1v {H:AH} {v ev bv:Value} {vals:List Value} {n m:Nat} {E:List (List (ByteArray×Nat))} {ends:List Bool} (h:RG H v n E ends ev bv vals) (hm:m≤4000) (hw:Wf H):
  Sh.Call Tryz.prog (knows 7) 33 [v,.int .i64 (m:Int)] H (fun r H'=>Kept H H'∧r=.bool (tB (A6m (A8d E A8a) (anyE E) (fun s=>ends[s]?=some true) m 0))):=by
 refine A2a rfl Tryz.func33 rfl (Nat.le_of_ble_eq_true rfl) ?_
 have hres:Tryz.f33.results.toList=[.tmp 4]:=rfl
 have hn1:=h.n1
 have hn2:=h.n2
 have hrb:=RBox.of h hw
 have hk1:Kept H (H.new 3 [.int .i64 0,ev,bv]).2:=Kept.new hw 3 _
 have hE:=h.ed.sl.isCell
 have hB:=h.en.isCell
 rw [h.eq]
 simp only [↓Sh.dn,sx,Nat.reduceEqDiff,B4z hE hB]
 generalize (H.new 3 [.int .i64 0,ev,bv]).2=H1 at hrb hk1 ⊢
 generalize H.next=gb at hrb ⊢
 obtain ⟨rv,H3,hd3,hk3,R,ot,vs,obs,hJ,hin,hRl,hRr,hRg⟩:=A02 hrb.rg hk1.wf
 have hrb3:=hrb.kept hk1.wf hk3
 obtain ⟨r4,H4,hd4,hk4,B,hB4,hBl,hBi⟩:=C2h hrb3.rg hk3.wf
 simp only [sx,hrb.ca]
 refine ⟨_,_,hd3,?_⟩
 simp only [sx,hrb3.ca]
 refine ⟨_,_,hd4,?_⟩
 have hB0:∀ t:Nat,B[t]?=some true↔A6m (A8d E A8a) (anyE E) (fun s=>ends[s]?=some true) 0 t:=fun t=>by
  rw [hBi]
  have:(fun s t=>∃ x,A8d E x t s)=fun a b=>A8d E A8a b a∨anyE E b a:=by
   funext a b
   apply propext
   constructor
   ·rintro ⟨x,hx⟩
    by_cases hx0:x=A8a
    ·subst hx0; exact .inl hx
    ·exact .inr ⟨x,hx0,hx⟩
   ·rintro (hx | ⟨x,_,hx⟩)
    ·exact ⟨_,hx⟩
    ·exact ⟨_,hx⟩
  rw [this]
  rfl
 have hk34:=hk3.trans hk4
 refine A9c m 7 (List.range' 12 8++[6,7]) (fun i F H'=>Kept H4 H'∧∃ z,F.get 6=some z∧∃ X:List Bool,Sl H' z 1 (X.map A3l)∧X.length=n∧∀ t:Nat,X[t]?=some true↔A6m (A8d E A8a) (anyE E) (fun s=>ends[s]?=some true) i t) (by simp only [sx]) ⟨Kept.refl hk4.wf,_,by simp only [sx,Nat.reduceEqDiff],B,hB4,hBl,hB0⟩ ?_ ?_
 ·rintro i F H' hi hF f7 ⟨hk,z,f6,X,hX,hXl,hXi⟩ k
  have f1:=hF 1 rfl
  have f5:=hF 5 rfl
  simp only [sx,Nat.reduceEqDiff] at f1 f5
  obtain ⟨r5,H5,hd5,hk5,B5,o5,hB5,hB5o,hB5l,hB5i⟩:=B20 ((hJ.kept hk3.wf hk4).kept hk4.wf hk) hRl hRr hX hXl hn1 hn2 hk.wf
  simp only [↓Sh.dn,sx,Nat.reduceEqDiff,f1,f5,f6,f7,A1a,hi,decide_true]
  refine ⟨_,_,hd5,?_⟩
  simp only [A3a hi (by omega)]
  refine k _ _ (by repeat (first | refine Same.put ?_ rfl | exact Same.rfl' _)) (by simp only [sx]) ⟨hk.trans hk5,r5,by simp only [sx,Nat.reduceEqDiff],B5,hB5.toSl,hB5l,fun t=>?_⟩
  rw [hB5i,B9e hRg hXi]
  rfl
 ·rintro F H' hF f7 ⟨hk,z,f6,X,hX,hXl,hXi⟩
  have f1:=hF 1 rfl
  have f2:=hF 2 rfl
  simp only [sx,Nat.reduceEqDiff] at f1 f2
  have hlX:=fun H'=>hX.len Tryz.underlying58 H'
  simp only [List.length_map,hXl] at hlX
  have hpos:decide ((0:Int) < (n:Int))=true:=by simp; omega
  obtain ⟨b,hb⟩:∃ b,X[0]?=some b:=⟨X[0]'(by rw [hXl]; exact hn1),List.getElem?_eq_getElem _⟩
  obtain ⟨q,e1,e2⟩:=Sl.elem (s:=1) Tryz.underlying58 A8h hX (i:=0) (u:=.bool b) (by rw [List.getElem?_map,hb]; rfl)
  have e1':A9a Tryz.prog 58 z (.int .i64 0)=some (.pointer (some q)):=e1
  have c0:=(hrb3.kept hk3.wf (hk4.trans hk)).c0
  have hbt:b=tB (A6m (A8d E A8a) (anyE E) (fun s=>ends[s]?=some true) m 0):=by
   rw [Bool.eq_iff_iff,A0s,← hXi,hb]
   simp
  simp only [↓Sh.dn,sx,Nat.reduceEqDiff,f1,f2,f6,f7,A1a,Nat.lt_irrefl,decide_false,hlX,hpos,c0,e1',e2,hres,hbt]
  exact (hk1.trans hk34).trans hk
end Go.Proofs.YtcgbiedfbacgpaaGreat
/- insertionSortOrdered. -/
namespace Go.Proofs.YtcgbiedfbacgpaaGreat
open Go Go.Proofs Go.Proofs.Sh
theorem B2b {H:AH} {g k n cap a b:Nat} {l:List ByteArray} (hv:A3e H g k n l) (hw:Wf H) (hl:l.length≤1048576) (hab:a≤b) (hb:b≤l.length):
  Sh.Call Tryz.prog (knows 7) 129 [.slice (some ⟨g,0,some k⟩) l.length cap,.int .i64 (a:Int),.int .i64 (b:Int)] H
   (fun r H'=>∃ l',Mix a b l l'∧Srt A3b a b l'∧A3e H' g k n l'∧Chg (fun y=>y=g) H H'):=by
 refine A2a rfl Tryz.func129 rfl (Nat.le_of_ble_eq_true rfl) ?_
 have hres:Tryz.f129.results.toList=[]:=rfl
 have hTO:=strTO
 have w1:IntKind.wrap .i64 ((a:Int)+1)=((a+1:Nat):Int):=by rw [wrap64 (by omega) (by omega)]; rfl
 simp only [↓Sh.dn,sx,w1]
 let Adj (i:Nat) (m:List ByteArray):Prop:=∀ (p:Nat) x y,a≤p→p+1 < i→m[p]?=some x→m[p+1]?=some y→A3b y x=false
 refine A1b (fun m F H' => ∃ (i : Nat) (l1 : List ByteArray), m = b - i ∧ a + 1 ≤ i ∧ (i ≤ b ∨ i = a + 1) ∧ Mix a b l l1 ∧ Adj i l1 ∧ A3e H' g k n l1 ∧ Chg (fun y => y = g) H H' ∧
     F.get 0 = some (.slice (some ⟨g, 0, some k⟩) l.length cap) ∧ F.get 1 = some (.int .i64 (a : Int)) ∧ F.get 2 = some (.int .i64 (b : Int)) ∧ F.get 6 = some (.int .i64 (i : Int))) (m := b - (a + 1))
   ⟨a + 1, l, rfl, by omega, .inr rfl, .refl l, fun p x y h1 h2 => by omega, hv, Chg.refl hw, by simp only [sx, reduceCtorEq], by simp only [sx, Nat.reduceEqDiff], by simp only [sx, Nat.reduceEqDiff], by simp only [sx]⟩ ?_
 rintro m F H' ⟨i,l1,rfl,hai,hib,hm,hadj,hv1,hc1,f0,f1,f2,f6⟩ kk
 by_cases hlt:i < b
 ·simp only [↓Sh.dn,sx,Nat.reduceEqDiff,f2,f6,A1a,hlt,decide_true]
  refine A1b (fun m F' H2 => ∃ (j : Nat) (l2 : List ByteArray), m = j ∧ a ≤ j ∧ j ≤ i ∧ Mix a b l l2 ∧ (∀ (p : Nat) x y, a ≤ p → p + 1 < i + 1 → p + 1 ≠ j → l2[p]? = some x → l2[p + 1]? = some y → A3b y x = false) ∧
      (∀ x y, a < j → j < i → l2[j - 1]? = some x → l2[j + 1]? = some y → A3b y x = false) ∧ A3e H2 g k n l2 ∧ Chg (fun y => y = g) H H2 ∧
      F'.get 0 = some (.slice (some ⟨g, 0, some k⟩) l.length cap) ∧ F'.get 1 = some (.int .i64 (a : Int)) ∧ F'.get 2 = some (.int .i64 (b : Int)) ∧ F'.get 6 = some (.int .i64 (i : Int)) ∧ F'.get 7 = some (.int .i64 (j : Int))) (m := i)
    ⟨i, l1, rfl, by omega, Nat.le_refl _, hm, fun p x y h1 h2 h3 => hadj p x y h1 (by omega), fun x y h1 h2 => by omega, hv1, hc1, by simp only [sx, reduceCtorEq, f0], by simp only [sx, Nat.reduceEqDiff, f1], by simp only [sx, Nat.reduceEqDiff, f2], by simp only [sx, Nat.reduceEqDiff, f6], by simp only [sx]⟩ ?_
  rintro j F' H2 ⟨_,l2,rfl,haj,hji,hm2,hA,hB,hv2,hc2,g0,g1,g2,g6,g7⟩ k2
  have hlen:=hm2.length
  have wi:IntKind.wrap .i64 ((i:Int)+1)=((i+1:Nat):Int):=by rw [wrap64 (by omega) (by omega)]; rfl
  simp only [↓Sh.dn]
  refine (A7a (by kernel_rfl)).2 ?_
  by_cases hgt:a < j
  ·have wj:IntKind.wrap .i64 ((j:Int) - 1)=((j - 1:Nat):Int):=by rw [wrap64 (by omega) (by omega)]; omega
   have hj1:j < l2.length:=by omega
   have hj2:j - 1 < l2.length:=by omega
   have i1:=A2d (g:=g) (k:=k) (cap:=cap) (m:=l.length) (i:=j) (j:=.i64) (by omega)
   have i2:=A2d (g:=g) (k:=k) (cap:=cap) (m:=l.length) (i:=j - 1) (j:=.i64) (by omega)
   have r1:=A7c hv2 hj1
   have r2:=A7c hv2 hj2
   have q1:l2[j]?=some l2[j]:=List.getElem?_eq_getElem hj1
   have q2:l2[j - 1]?=some l2[j - 1]:=List.getElem?_eq_getElem hj2
   simp only [↓Sh.dn,sx,reduceCtorEq,Nat.reduceEqDiff,g0,g1,g7,A1a,hgt,decide_true,wj,i1,i2,r1,r2]
   refine ⟨_,_,A6d,?_⟩
   cases hc:A3b l2[j] l2[j - 1] with
   | true=>
    simp only [↓Sh.dn,sx]
    refine (A7a (by kernel_rfl)).2 ?_
    obtain ⟨K1,K2,e1,e2,e3,e4,e5⟩:=A1j hv2 hc2.wf hj1 hj2
    simp only [↓Sh.dn,sx,reduceCtorEq,Nat.reduceEqDiff,g0,g7,wj,i1,i2,r1,r2,A5m,e1,e2]
    refine k2 (j - 1) _ _ (by omega) ⟨j - 1,swp l2 j (j - 1),rfl,by omega,by omega,hm2.swap (by omega) (by omega) (by omega) (by omega),fun p x y h1 h2 h3 hx hy=>?_,fun x y h1 h2 hx hy=>?_,e3,hc2.trans e4,by simp only [sx,reduceCtorEq,g0],by simp only [sx,Nat.reduceEqDiff,g1],by simp only [sx,Nat.reduceEqDiff,g2],by simp only [sx,Nat.reduceEqDiff,g6],by simp only [sx]⟩
    ·rw [swp_get hj1 hj2] at hx hy
     by_cases hp1:p+1=j
     ·have hp:p=j - 1:=by omega
      rw [if_pos hp,q1] at hx
      rw [if_neg (by omega),if_pos hp1,q2] at hy
      rw [← Option.some.inj hx,← Option.some.inj hy]
      exact hTO.asymm hc
     ·by_cases hp2:p=j
      ·rw [if_neg (by omega),if_pos hp2,q2] at hx
       rw [if_neg (by omega),if_neg (by omega)] at hy
       rw [← Option.some.inj hx]
       exact hB _ _ hgt (by omega) q2 (by rw [← hp2]; exact hy)
      ·rw [if_neg (by omega),if_neg hp2] at hx
       rw [if_neg (by omega),if_neg (by omega)] at hy
       exact hA p x y h1 h2 hp1 hx hy
    ·rw [swp_get hj1 hj2] at hx hy
     rw [if_neg (by omega),if_neg (by omega)] at hx
     rw [if_neg (by omega),if_pos (by omega),q2] at hy
     rw [← Option.some.inj hy]
     exact hA (j - 2) _ _ (by omega) (by omega) (by omega) (by rw [show j - 2=j - 1 - 1 by omega]; exact hx) (by rw [show j - 2+1=j - 1 by omega]; exact q2)
   | false=>
    simp only [↓Sh.dn,sx,Nat.reduceBEq,Nat.reduceEqDiff,g6,wi]
    refine kk (b - (i+1)) _ _ (by omega) ⟨i+1,l2,rfl,by omega,.inl (by omega),hm2,fun p x y h1 h2 hx hy=>?_,hv2,hc2,by simp only [sx,reduceCtorEq,g0],by simp only [sx,Nat.reduceEqDiff,g1],by simp only [sx,Nat.reduceEqDiff,g2],by simp only [sx]⟩
    by_cases hp:p+1=j
    ·have hp':p=j - 1:=by omega
     rw [hp',q2] at hx
     rw [hp,q1] at hy
     rw [← Option.some.inj hx,← Option.some.inj hy]; exact hc
    ·exact hA p x y h1 h2 hp hx hy
  ·simp only [↓Sh.dn,sx,Nat.reduceBEq,Nat.reduceEqDiff,g1,g7,A1a,hgt,decide_false,g6,wi]
   exact kk (b - (i+1)) _ _ (by omega) ⟨i+1,l2,rfl,by omega,.inl (by omega),hm2,fun p x y h1 h2 hx hy=>hA p x y h1 h2 (by omega) hx hy,hv2,hc2,by simp only [sx,reduceCtorEq,g0],by simp only [sx,Nat.reduceEqDiff,g1],by simp only [sx,Nat.reduceEqDiff,g2],by simp only [sx]⟩
 ·simp only [↓Sh.dn,sx,Nat.reduceEqDiff,f2,f6,A1a,hlt,decide_false,hres]
  exact ⟨l1,hm,B2c hTO fun p x y h1 h2 hx hy=>hadj p x y h1 (by omega) hx hy,hv1,hc1⟩
end Go.Proofs.YtcgbiedfbacgpaaGreat
/- Small parts of the sort: reverseRange, order2, median, choosePivot. -/
namespace Go.Proofs.YtcgbiedfbacgpaaGreat
open Go Go.Proofs Go.Proofs.Sh
section
variable {H:AH} {g k n cap a b:Nat} {l:List ByteArray}
theorem B2g (hv:A3e H g k n l) (hw:Wf H) (hl:l.length≤1048576) (hab:a < b) (hb:b≤l.length):
  Sh.Call Tryz.prog (knows 7) 133 [.slice (some ⟨g,0,some k⟩) l.length cap,.int .i64 (a:Int),.int .i64 (b:Int)] H
   (fun r H'=>∃ l',Mix a b l l'∧A3e H' g k n l'∧Chg (fun y=>y=g) H H'):=by
 refine A2a rfl Tryz.func133 rfl (Nat.le_of_ble_eq_true rfl) ?_
 have hres:Tryz.f133.results.toList=[]:=rfl
 have w1:IntKind.wrap .i64 ((b:Int) - 1)=((b - 1:Nat):Int):=by rw [wrap64 (by omega) (by omega)]; omega
 simp only [↓Sh.dn,sx,Nat.reduceEqDiff,w1]
 refine A1b (fun m F H' => ∃ (i j : Nat) (l1 : List ByteArray), m = b - i ∧ a ≤ i ∧ i + j + 1 = a + b ∧ i ≤ b ∧ Mix a b l l1 ∧ A3e H' g k n l1 ∧ Chg (fun y => y = g) H H' ∧
     F.get 0 = some (.slice (some ⟨g, 0, some k⟩) l.length cap) ∧ F.get 6 = some (.int .i64 (i : Int)) ∧ F.get 7 = some (.int .i64 (j : Int))) (m := b - a)
   ⟨a, b - 1, l, rfl, by omega, by omega, by omega, .refl l, hv, Chg.refl hw, by simp only [sx, reduceCtorEq], by simp only [sx, Nat.reduceEqDiff], by simp only [sx]⟩ ?_
 rintro m F H' ⟨i,j,l1,rfl,hai,hij,hib,hm,hv1,hc1,f0,f6,f7⟩ kk
 have hlen:=hm.length
 by_cases hlt:i < j
 ·have hi:i < l1.length:=by omega
  have hj:j < l1.length:=by omega
  have wi:IntKind.wrap .i64 ((i:Int)+1)=((i+1:Nat):Int):=by rw [wrap64 (by omega) (by omega)]; rfl
  have wj:IntKind.wrap .i64 ((j:Int) - 1)=((j - 1:Nat):Int):=by rw [wrap64 (by omega) (by omega)]; omega
  have i1:=A2d (g:=g) (k:=k) (cap:=cap) (m:=l.length) (i:=i) (j:=.i64) (by omega)
  have i2:=A2d (g:=g) (k:=k) (cap:=cap) (m:=l.length) (i:=j) (j:=.i64) (by omega)
  have r1:=A7c hv1 hi
  have r2:=A7c hv1 hj
  obtain ⟨K1,K2,e1,e2,e3,e4,e5⟩:=A1j hv1 hc1.wf hi hj
  simp only [↓Sh.dn,sx,Nat.reduceEqDiff,f6,f7,A1a,hlt,decide_true]
  refine (A7a (by kernel_rfl)).2 ?_
  simp only [↓Sh.dn,sx,reduceCtorEq,Nat.reduceEqDiff,f0,f6,f7,i1,i2,r1,r2,A5m,e1,e2,wi,wj]
  exact kk (b - (i+1)) _ _ (by omega) ⟨i+1,j - 1,swp l1 i j,rfl,by omega,by omega,by omega,hm.swap (by omega) (by omega) (by omega) (by omega),e3,hc1.trans e4,by simp only [sx,reduceCtorEq,f0],by simp only [sx,Nat.reduceEqDiff],by simp only [sx]⟩
 ·simp only [↓Sh.dn,sx,Nat.reduceEqDiff,f6,f7,A1a,hlt,decide_false,hres]
  exact ⟨l1,hm,hv1,hc1⟩
def B1g (H:AH) (p:Nat) (c:Int):Prop:=Arr H p 0 1 [.int .i64 c]
theorem B6f {i j p:Nat} {c:Int} (hv:A3e H g k n l) (hp:B1g H p c) (hpg:p≠g) (hw:Wf H) (hi:i < l.length) (hj:j < l.length):
  Sh.Call Tryz.prog (knows 7) 147 [.slice (some ⟨g,0,some k⟩) l.length cap,.int .i64 (i:Int),.int .i64 (j:Int),.pointer (some ⟨p,0,some 0⟩)] H
   (fun r H'=>∃ i' j':Nat,r=.tuple #[.int .i64 (i':Int),.int .i64 (j':Int)]∧(i'=i∧j'=j∨i'=j∧j'=i)∧A3e H' g k n l∧∃ c',B1g H' p c'∧Chg (fun y=>y=p) H H'):=by
 refine A2a rfl Tryz.func147 rfl (Nat.le_of_ble_eq_true rfl) ?_
 have hres:Tryz.f147.results.toList=[.tmp 8,.tmp 9]:=rfl
 have i1:=A2d (g:=g) (k:=k) (cap:=cap) (m:=l.length) (i:=i) (j:=.i64) hi
 have i2:=A2d (g:=g) (k:=k) (cap:=cap) (m:=l.length) (i:=j) (j:=.i64) hj
 have r1:=A7c hv hi
 have r2:=A7c hv hj
 have r3:H.cell ⟨p,0,some 0⟩=some (.int .i64 c):=hp.cell 0
 simp only [↓Sh.dn,sx]
 refine (A7a (by kernel_rfl)).2 ?_
 simp only [↓Sh.dn,sx,reduceCtorEq,Nat.reduceEqDiff,i1,i2,r1,r2]
 refine ⟨_,_,A6d,?_⟩
 cases hc:A3b l[j] l[i] with
 | true=>
  obtain ⟨K1,e1,e2,e3,e4⟩:=hp.write hw (i:=0) (vs:=[.int .i64 (IntKind.wrap .i64 (c+1))]) (by simp)
  have st:A6e Tryz.prog 3 H (.int .i64 (IntKind.wrap .i64 (c+1))) (.pointer (some ⟨p,0,some 0⟩))=H.write ⟨p,0,some 0⟩ [.int .i64 (IntKind.wrap .i64 (c+1))]:=A1c A3c rfl
  simp only [↓Sh.dn,sx,Nat.reduceEqDiff,r3,st,e1,hres]
  exact ⟨j,i,rfl,.inr ⟨rfl,rfl⟩,hv.chg hw e4 (fun h=>hpg h.symm),_,e2,e4⟩
 | false=>
  simp only [↓Sh.dn,sx,Nat.reduceEqDiff,hres]
  exact ⟨i,j,rfl,.inl ⟨rfl,rfl⟩,hv,c,hp,Chg.refl hw⟩
theorem B4f {i j m p:Nat} {c:Int} (hv:A3e H g k n l) (hp:B1g H p c) (hpg:p≠g) (hw:Wf H) (hi:i < l.length) (hj:j < l.length) (hm:m < l.length):
  Sh.Call Tryz.prog (knows 7) 145 [.slice (some ⟨g,0,some k⟩) l.length cap,.int .i64 (i:Int),.int .i64 (j:Int),.int .i64 (m:Int),.pointer (some ⟨p,0,some 0⟩)] H
   (fun r H'=>∃ q:Nat,r=.int .i64 (q:Int)∧(q=i∨q=j∨q=m)∧A3e H' g k n l∧∃ c',B1g H' p c'∧Chg (fun y=>y=p) H H'):=by
 refine A2a rfl Tryz.func145 rfl (Nat.le_of_ble_eq_true rfl) ?_
 have hres:Tryz.f145.results.toList=[.tmp 10]:=rfl
 obtain ⟨r,H1,hd1,i1,j1,rfl,h1,hv1,c1,hp1,hc1⟩:=B6f (cap:=cap) hv hp hpg hw hi hj
 have hi1:i1 < l.length:=by omega
 have hj1:j1 < l.length:=by omega
 obtain ⟨r,H2,hd2,j2,m2,rfl,h2,hv2,c2,hp2,hc2⟩:=B6f (cap:=cap) hv1 hp1 hpg hc1.wf hj1 hm
 have hj2:j2 < l.length:=by omega
 obtain ⟨r,H3,hd3,i3,j3,rfl,h3,hv3,c3,hp3,hc3⟩:=B6f (cap:=cap) hv2 hp2 hpg hc2.wf hi1 hj2
 simp only [↓Sh.dn,sx,reduceCtorEq,Nat.reduceEqDiff]
 refine ⟨_,_,hd1,?_⟩
 simp only [sx]
 refine ⟨_,_,hd2,?_⟩
 simp only [sx]
 refine ⟨_,_,hd3,?_⟩
 simp only [sx,hres]
 exact ⟨j3,rfl,by omega,hv3,c3,hp3,(hc1.trans hc2).trans hc3⟩
theorem A8p {i p:Nat} {c:Int} (hv:A3e H g k n l) (hp:B1g H p c) (hpg:p≠g) (hw:Wf H) (hl:l.length≤1048576) (h0:1≤i) (hi:i+1 < l.length):
  Sh.Call Tryz.prog (knows 7) 144 [.slice (some ⟨g,0,some k⟩) l.length cap,.int .i64 (i:Int),.pointer (some ⟨p,0,some 0⟩)] H
   (fun r H'=>∃ q:Nat,r=.int .i64 (q:Int)∧(i≤q+1∧q≤i+1)∧A3e H' g k n l∧∃ c',B1g H' p c'∧Chg (fun y=>y=p) H H'):=by
 refine A2a rfl Tryz.func144 rfl (Nat.le_of_ble_eq_true rfl) ?_
 have hres:Tryz.f144.results.toList=[.tmp 6]:=rfl
 have w1:IntKind.wrap .i64 ((i:Int) - 1)=((i - 1:Nat):Int):=by rw [wrap64 (by omega) (by omega)]; omega
 have w2:IntKind.wrap .i64 ((i:Int)+1)=((i+1:Nat):Int):=by rw [wrap64 (by omega) (by omega)]; rfl
 obtain ⟨r,H1,hd1,q,rfl,h1,hv1,c1,hp1,hc1⟩:=B4f (cap:=cap) (i:=i - 1) (j:=i) (m:=i+1) hv hp hpg hw (by omega) (by omega) hi
 simp only [↓Sh.dn,sx,reduceCtorEq,Nat.reduceEqDiff,w1,w2]
 refine ⟨_,_,hd1,?_⟩
 simp only [sx,hres]
 exact ⟨q,rfl,by omega,by omega,hv1,c1,hp1,hc1⟩
theorem B8l (hv:A3e H g k n l) (hw:Wf H) (hl:l.length≤1048576) (hab:a+12 < b) (hb:b≤l.length):
  Sh.Call Tryz.prog (knows 7) 132 [.slice (some ⟨g,0,some k⟩) l.length cap,.int .i64 (a:Int),.int .i64 (b:Int)] H
   (fun r H'=>∃ q:Nat,∃ h:Int,r=.tuple #[.int .i64 (q:Int),.int .i64 h]∧a≤q∧q < b∧A3e H' g k n l∧Kept H H'):=by
 refine A2a rfl Tryz.func132 rfl (Nat.le_of_ble_eq_true rfl) ?_
 have hres:Tryz.f132.results.toList=[.tmp 6,.tmp 7]:=rfl
 have al:anew Tryz.prog 3 H (.int .i64 0)=some (.pointer (some ⟨H.next,0,some 0⟩),(H.new 1 [.int .i64 0]).2):=A1s A3c rfl
 have w0:IntKind.wrap .i64 ((b:Int) - (a:Int))=((b - a:Nat):Int):=by rw [wrap64 (by omega) (by omega)]; omega
 have hq4:(Int.tdiv ((b - a:Nat):Int) 4)=(((b - a) / 4:Nat):Int):=by rw [Int.tdiv_eq_ediv_of_nonneg (by omega)]; rfl
 have A84:∀ {t:TypeId} {c:Bool} {x y:Int},y≠0→abin Tryz.prog t c .quo (.int .i64 x) (.int .i64 y)=some (.int .i64 (IntKind.wrap .i64 (x.tdiv y))):=by
  intro t c x y h
  simp only [abin,A1f,cond_true,aint,A9o,show (y == 0)=false from by simpa using h,cond_false]
 have wq:IntKind.wrap .i64 (((b - a) / 4:Nat):Int)=(((b - a) / 4:Nat):Int):=wrap64 (by omega) (by omega)
 have m1:IntKind.wrap .i64 ((((b - a) / 4:Nat):Int) * 1)=(((b - a) / 4 * 1:Nat):Int):=by rw [wrap64 (by omega) (by omega)]; omega
 have m2:IntKind.wrap .i64 ((((b - a) / 4:Nat):Int) * 2)=(((b - a) / 4 * 2:Nat):Int):=by rw [wrap64 (by omega) (by omega)]; omega
 have m3:IntKind.wrap .i64 ((((b - a) / 4:Nat):Int) * 3)=(((b - a) / 4 * 3:Nat):Int):=by rw [wrap64 (by omega) (by omega)]; omega
 have p1:IntKind.wrap .i64 ((a:Int)+(((b - a) / 4 * 1:Nat):Int))=((a+(b - a) / 4 * 1:Nat):Int):=by rw [wrap64 (by omega) (by omega)]; rfl
 have p2:IntKind.wrap .i64 ((a:Int)+(((b - a) / 4 * 2:Nat):Int))=((a+(b - a) / 4 * 2:Nat):Int):=by rw [wrap64 (by omega) (by omega)]; rfl
 have p3:IntKind.wrap .i64 ((a:Int)+(((b - a) / 4 * 3:Nat):Int))=((a+(b - a) / 4 * 3:Nat):Int):=by rw [wrap64 (by omega) (by omega)]; rfl
 have d8:decide ((8:Int)≤((b - a:Nat):Int))=true:=by simp; omega
 have hk1:Kept H (H.new 1 [.int .i64 0]).2:=Kept.new hw 1 _
 have hv0:A3e (H.new 1 [.int .i64 0]).2 g k n l:=hv.kept hw hk1
 have hp0:B1g (H.new 1 [.int .i64 0]).2 H.next 0:=(Obj.new (H:=H) 1 [.int .i64 0]).arr
 have hpg:H.next≠g:=by have:=hv.lt hw; omega
 simp only [↓Sh.dn,sx,Nat.reduceEqDiff,al,w0,A84 (show (4:Int)≠0 by decide),hq4,wq,m1,m2,m3,p1,p2,p3,d8]
 generalize (H.new 1 [.int .i64 0]).2=H1 at hk1 hv0 hp0 ⊢
 by_cases h50:50≤b - a
 ·have d50:decide ((50:Int)≤((b - a:Nat):Int))=true:=by simp; omega
  obtain ⟨r,H2,hd2,q1,rfl,h1,hv1,c1,hp1,hc1⟩:=A8p (cap:=cap) (i:=a+(b - a) / 4 * 1) hv0 hp0 hpg hk1.wf hl (by omega) (by omega)
  obtain ⟨r,H3,hd3,q2,rfl,h2,hv2,c2,hp2,hc2⟩:=A8p (cap:=cap) (i:=a+(b - a) / 4 * 2) hv1 hp1 hpg hc1.wf hl (by omega) (by omega)
  obtain ⟨r,H4,hd4,q3,rfl,h3,hv3,c3,hp3,hc3⟩:=A8p (cap:=cap) (i:=a+(b - a) / 4 * 3) hv2 hp2 hpg hc2.wf hl (by omega) (by omega)
  obtain ⟨r,H5,hd5,q4,rfl,h4,hv4,c4,hp4,hc4⟩:=B4f (cap:=cap) (i:=q1) (j:=q2) (m:=q3) hv3 hp3 hpg hc3.wf (by omega) (by omega) (by omega)
  have r9:H5.cell ⟨H.next,0,some 0⟩=some (.int .i64 c4):=hp4.cell 0
  have hkk:Kept H H5:=(((hk1.chg.trans hc1).trans hc2).trans hc3 |>.trans hc4).kept fun x hx=>by omega
  simp only [↓Sh.dn,sx,reduceCtorEq,Nat.reduceEqDiff,d50]
  refine ⟨_,_,hd2,?_⟩
  try simp only [↓Sh.dn,sx,Nat.reduceBEq,reduceCtorEq,Nat.reduceEqDiff]
  refine ⟨_,_,hd3,?_⟩
  try simp only [↓Sh.dn,sx,Nat.reduceBEq,reduceCtorEq,Nat.reduceEqDiff]
  refine ⟨_,_,hd4,?_⟩
  try simp only [↓Sh.dn,sx,Nat.reduceBEq,reduceCtorEq,Nat.reduceEqDiff]
  refine ⟨_,_,hd5,?_⟩
  simp only [sx,r9]
  by_cases z0:c4=0
  ·simp only [↓Sh.dn,sx,Nat.reduceEqDiff,z0,decide_true,hres]
   exact ⟨q4,1,rfl,by omega,by omega,hv4,hkk⟩
  ·simp only [↓Sh.dn,sx,Nat.reduceEqDiff,z0,decide_false]
   by_cases z1:c4=12
   ·simp only [↓Sh.dn,sx,Nat.reduceEqDiff,z1,decide_true,hres]
    exact ⟨q4,2,rfl,by omega,by omega,hv4,hkk⟩
   ·simp only [↓Sh.dn,sx,Nat.reduceEqDiff,z1,decide_false,hres]
    exact ⟨q4,0,rfl,by omega,by omega,hv4,hkk⟩
 ·have d50:decide ((50:Int)≤((b - a:Nat):Int))=false:=by simp; omega
  obtain ⟨r,H5,hd5,q4,rfl,h4,hv4,c4,hp4,hc4⟩:=B4f (cap:=cap) (i:=a+(b - a) / 4 * 1) (j:=a+(b - a) / 4 * 2) (m:=a+(b - a) / 4 * 3) hv0 hp0 hpg hk1.wf (by omega) (by omega) (by omega)
  have r9:H5.cell ⟨H.next,0,some 0⟩=some (.int .i64 c4):=hp4.cell 0
  have hkk:Kept H H5:=(hk1.chg.trans hc4).kept fun x hx=>by omega
  simp only [↓Sh.dn,sx,reduceCtorEq,Nat.reduceEqDiff,d50]
  refine ⟨_,_,hd5,?_⟩
  simp only [sx,r9]
  by_cases z0:c4=0
  ·simp only [↓Sh.dn,sx,Nat.reduceEqDiff,z0,decide_true,hres]
   exact ⟨q4,1,rfl,by omega,by omega,hv4,hkk⟩
  ·simp only [↓Sh.dn,sx,Nat.reduceEqDiff,z0,decide_false]
   by_cases z1:c4=12
   ·simp only [↓Sh.dn,sx,Nat.reduceEqDiff,z1,decide_true,hres]
    exact ⟨q4,2,rfl,by omega,by omega,hv4,hkk⟩
   ·simp only [↓Sh.dn,sx,Nat.reduceEqDiff,z1,decide_false,hres]
    exact ⟨q4,0,rfl,by omega,by omega,hv4,hkk⟩
end
end Go.Proofs.YtcgbiedfbacgpaaGreat
/- breakPatternsOrdered. -/
namespace Go.Proofs.YtcgbiedfbacgpaaGreat
open Go Go.Proofs Go.Proofs.Sh
section
variable {H:AH} {g k n cap a b:Nat} {l:List ByteArray}
theorem C6n {p:Nat} {z:Int} (hp:Arr H p 0 1 [.int .u64 z]) (hw:Wf H):
  Sh.Call Tryz.prog (knows 7) 139 [.pointer (some ⟨p,0,some 0⟩)] H (fun r H'=>∃ z',r=.int .u64 z'∧Arr H' p 0 1 [.int .u64 z']∧Chg (fun y=>y=p) H H'):=by
 refine A2a rfl Tryz.func139 rfl (Nat.le_of_ble_eq_true rfl) ?_
 have hres:Tryz.f139.results.toList=[.tmp 2]:=rfl
 have st:∀ (H:AH) (z:Int),A6e Tryz.prog 168 H (.int .u64 z) (.pointer (some ⟨p,0,some 0⟩))=H.write ⟨p,0,some 0⟩ [.int .u64 z]:=fun H z=>A1c A01 rfl
 obtain ⟨s1,h1⟩:∃ s,A4l true .u64 z 13=some (.int .u64 s):=A50 (b:=13)
 have r0:H.cell ⟨p,0,some 0⟩=some (.int .u64 z):=hp.cell 0
 obtain ⟨K1,e1,a1,n1,c1⟩:=hp.write hw (i:=0) (vs:=[.int .u64 (IntKind.wrap .u64 ((BitVec.ofInt IntKind.u64.bits z) ^^^ (BitVec.ofInt IntKind.u64.bits s1)).toNat)]) (by simp)
 simp only [↓Sh.dn,sx]
 refine (A7a (by kernel_rfl)).2 ?_
 simp only [↓Sh.dn,sx,reduceCtorEq,Nat.reduceEqDiff,r0,C1t,h1,C7k,st,e1]
 generalize IntKind.wrap .u64 ((BitVec.ofInt IntKind.u64.bits z) ^^^ (BitVec.ofInt IntKind.u64.bits s1)).toNat=z1 at a1 e1 ⊢
 obtain ⟨s2,h2⟩:∃ s,A4l false .u64 z1 7=some (.int .u64 s):=A50 (b:=7)
 have r1:K1.cell ⟨p,0,some 0⟩=some (.int .u64 z1):=a1.cell 0
 obtain ⟨K2,e2,a2,n2,c2⟩:=a1.write c1.wf (i:=0) (vs:=[.int .u64 (IntKind.wrap .u64 ((BitVec.ofInt IntKind.u64.bits z1) ^^^ (BitVec.ofInt IntKind.u64.bits s2)).toNat)]) (by simp [setCells])
 refine (A7a (by kernel_rfl)).2 ?_
 simp only [↓Sh.dn,sx,reduceCtorEq,Nat.reduceEqDiff,r1,C4l,h2,C7k,st,e2]
 generalize IntKind.wrap .u64 ((BitVec.ofInt IntKind.u64.bits z1) ^^^ (BitVec.ofInt IntKind.u64.bits s2)).toNat=z2 at a2 e2 ⊢
 obtain ⟨s3,h3⟩:∃ s,A4l true .u64 z2 17=some (.int .u64 s):=A50 (b:=17)
 have r2:K2.cell ⟨p,0,some 0⟩=some (.int .u64 z2):=a2.cell 0
 obtain ⟨K3,e3,a3,n3,c3⟩:=a2.write c2.wf (i:=0) (vs:=[.int .u64 (IntKind.wrap .u64 ((BitVec.ofInt IntKind.u64.bits z2) ^^^ (BitVec.ofInt IntKind.u64.bits s3)).toNat)]) (by simp [setCells])
 refine (A7a (by kernel_rfl)).2 ?_
 simp only [↓Sh.dn,sx,reduceCtorEq,Nat.reduceEqDiff,r2,C1t,h3,C7k,st,e3]
 generalize IntKind.wrap .u64 ((BitVec.ofInt IntKind.u64.bits z2) ^^^ (BitVec.ofInt IntKind.u64.bits s3)).toNat=z3 at a3 e3 ⊢
 have r3:K3.cell ⟨p,0,some 0⟩=some (.int .u64 z3):=a3.cell 0
 simp only [sx,r3,hres]
 exact ⟨z3,rfl,a3,(c1.trans c2).trans c3⟩
theorem B3b (hv:A3e H g k n l) (hw:Wf H) (hl:l.length≤1048576) (hab:a+12 < b) (hb:b≤l.length):
  Sh.Call Tryz.prog (knows 7) 131 [.slice (some ⟨g,0,some k⟩) l.length cap,.int .i64 (a:Int),.int .i64 (b:Int)] H
   (fun r H'=>∃ l',Mix a b l l'∧A3e H' g k n l'∧Chg (fun y=>y=g) H H'):=by
 refine A2a rfl Tryz.func131 rfl (Nat.le_of_ble_eq_true rfl) ?_
 have hres:Tryz.f131.results.toList=[]:=rfl
 have w0:IntKind.wrap .i64 ((b:Int) - (a:Int))=((b - a:Nat):Int):=by rw [wrap64 (by omega) (by omega)]; omega
 have d8:decide ((8:Int)≤((b - a:Nat):Int))=true:=by simp; omega
 have wu:IntKind.wrap .u64 ((b - a:Nat):Int)=((b - a:Nat):Int):=A8u (by omega) (by omega)
 have al:anew Tryz.prog 168 H (.int .u64 0)=some (.pointer (some ⟨H.next,0,some 0⟩),(H.new 1 [.int .u64 0]).2):=A1s A01 rfl
 have st:∀ (H:AH) (p:Addr) (z:Int),A6e Tryz.prog 168 H (.int .u64 z) (.pointer (some p))=H.write p [.int .u64 z]:=fun H p z=>A1c A01 rfl
 have ov:(H.new 1 [.int .u64 0]).2.write ⟨H.next,0,some 0⟩ [.int .u64 ((b - a:Nat):Int)]=some (H.new 1 [.int .u64 ((b - a:Nat):Int)]).2:=A5o rfl
 have hq4:(Int.tdiv ((b - a:Nat):Int) 4)=(((b - a) / 4:Nat):Int):=by rw [Int.tdiv_eq_ediv_of_nonneg (by omega)]; rfl
 have wq:IntKind.wrap .i64 (((b - a) / 4:Nat):Int)=(((b - a) / 4:Nat):Int):=wrap64 (by omega) (by omega)
 have m2:IntKind.wrap .i64 ((((b - a) / 4:Nat):Int) * 2)=(((b - a) / 4 * 2:Nat):Int):=by rw [wrap64 (by omega) (by omega)]; omega
 have p2:IntKind.wrap .i64 ((a:Int)+(((b - a) / 4 * 2:Nat):Int))=((a+(b - a) / 4 * 2:Nat):Int):=by rw [wrap64 (by omega) (by omega)]; rfl
 have q1:IntKind.wrap .i64 (((a+(b - a) / 4 * 2:Nat):Int) - 1)=((a+(b - a) / 4 * 2 - 1:Nat):Int):=by rw [wrap64 (by omega) (by omega)]; omega
 have q2:IntKind.wrap .i64 (((a+(b - a) / 4 * 2:Nat):Int)+1)=((a+(b - a) / 4 * 2+1:Nat):Int):=by rw [wrap64 (by omega) (by omega)]; rfl
 have hk1:Kept H (H.new 1 [.int .u64 ((b - a:Nat):Int)]).2:=Kept.new hw 1 _
 have hp0:Arr (H.new 1 [.int .u64 ((b - a:Nat):Int)]).2 H.next 0 1 [.int .u64 ((b - a:Nat):Int)]:=(Obj.new (H:=H) 1 _).arr
 have hv0:=hv.kept hw hk1
 have hpg:H.next≠g:=by have:=hv.lt hw; omega
 simp only [↓Sh.dn,sx,Nat.reduceEqDiff,w0,d8,wu,al,st,ov]
 generalize (H.new 1 [.int .u64 ((b - a:Nat):Int)]).2=H1 at hk1 hv0 hp0 ⊢
 obtain ⟨r,H2,hd,rfl,c,rfl,hc1,hc2,hc3⟩:=C4y (H:=H1) (x:=b - a) (by omega)
 refine ⟨_,_,hd,?_⟩
 simp only [sx,A84 (show (4:Int)≠0 by decide),hq4,wq,m2,p2,q1]
 have hc2':=hc2 (by omega)
 have hpos:0 < 2 ^ c:=Nat.two_pow_pos c
 have wc:IntKind.wrap .u64 (((2 ^ c:Nat):Int) - 1)=((2 ^ c - 1:Nat):Int):=by
  rw [A8u (by omega) (by omega)]; omega
 generalize hM:2 ^ c=M at *
 refine A1b (fun m F H' => ∃ (i : Nat) (z : Int) (l1 : List ByteArray), m = a + (b - a) / 4 * 2 + 2 - i ∧ a + (b - a) / 4 * 2 - 1 ≤ i ∧ Mix a b l l1 ∧ A3e H' g k n l1 ∧ Arr H' H.next 0 1 [.int .u64 z] ∧ Chg (fun y => y = g ∨ y = H.next) H2 H' ∧
     F.get 0 = some (.slice (some ⟨g, 0, some k⟩) l.length cap) ∧ F.get 1 = some (.int .i64 (a : Int)) ∧ F.get 6 = some (.int .i64 ((b - a : Nat) : Int)) ∧ F.get 7 = some (.pointer (some ⟨H.next, 0, some 0⟩)) ∧ F.get 8 = some (.int .u64 (M : Int)) ∧ F.get 9 = some (.int .i64 (i : Int))) (m := a + (b - a) / 4 * 2 + 2 - (a + (b - a) / 4 * 2 - 1))
   ⟨a + (b - a) / 4 * 2 - 1, _, l, rfl, by omega, .refl l, hv0, hp0, Chg.refl hk1.wf, by simp only [sx, reduceCtorEq], by simp only [sx, Nat.reduceEqDiff], by simp only [sx, Nat.reduceEqDiff], by simp only [sx, Nat.reduceEqDiff], by simp only [sx, Nat.reduceEqDiff], by simp only [sx]⟩ ?_
 rintro m F H' ⟨i,z,l1,rfl,hai,hm,hv1,hp1,hch,f0,f1,f6,f7,f8,f9⟩ kk
 have hlen:=hm.length
 by_cases hlt:i≤a+(b - a) / 4 * 2+1
 ·have dl:decide ((i:Int)≤((a+(b - a) / 4 * 2+1:Nat):Int))=true:=by simp; omega
  obtain ⟨r,H3,hd3,z',rfl,hp2,hc3'⟩:=C6n hp1 hch.wf
  have hv2:=hv1.chg hch.wf hc3' (fun h=>hpg h.symm)
  obtain ⟨o,ho1,ho2⟩:=and_le z' (m:=M - 1) (by omega)
  have wo:IntKind.wrap .i64 (o:Int)=(o:Int):=wrap64 (by omega) (by omega)
  simp only [↓Sh.dn,sx,Nat.reduceEqDiff,f1,f6,f9,A84 (show (4:Int)≠0 by decide),hq4,wq,m2,p2,q2,dl,f7]
  refine ⟨_,_,hd3,?_⟩
  simp only [sx,f8,wc,b_and,ho2,wo]
  have key:∀ (o':Nat) (F':Fr),o' < b - a→F'.get 0=some (.slice (some ⟨g,0,some k⟩) l.length cap)→F'.get 1=some (.int .i64 (a:Int))→F'.get 6=some (.int .i64 ((b - a:Nat):Int))→F'.get 7=some (.pointer (some ⟨H.next,0,some 0⟩))→F'.get 8=some (.int .u64 (M:Int))→F'.get 9=some (.int .i64 (i:Int))→F'.get 10=some (.int .i64 (o':Int))→True:=fun _ _ _ _ _ _ _ _ _ _=>trivial
  have wi:IntKind.wrap .i64 ((i:Int)+1)=((i+1:Nat):Int):=by rw [wrap64 (by omega) (by omega)]; rfl
  by_cases hbig:b - a≤o
  ·have db:decide (((b - a:Nat):Int)≤(o:Int))=true:=by simp; omega
   have ws:IntKind.wrap .i64 ((o:Int) - ((b - a:Nat):Int))=((o - (b - a):Nat):Int):=by rw [wrap64 (by omega) (by omega)]; omega
   have wa:IntKind.wrap .i64 ((a:Int)+((o - (b - a):Nat):Int))=((a+(o - (b - a)):Nat):Int):=by rw [wrap64 (by omega) (by omega)]; rfl
   have hi:i < l1.length:=by omega
   have hj:a+(o - (b - a)) < l1.length:=by omega
   have i1:=A2d (g:=g) (k:=k) (cap:=cap) (m:=l.length) (i:=i) (j:=.i64) (by omega)
   have i2:=A2d (g:=g) (k:=k) (cap:=cap) (m:=l.length) (i:=a+(o - (b - a))) (j:=.i64) (by omega)
   have r1:=A7c hv2 hi
   have r2:=A7c hv2 hj
   obtain ⟨K1,K2,e1,e2,e3,e4,e5⟩:=A1j hv2 hc3'.wf hi hj
   simp only [↓Sh.dn,sx,Nat.reduceEqDiff,db,f6,ws]
   refine (A7a (by kernel_rfl)).2 ?_
   simp only [↓Sh.dn,sx,reduceCtorEq,Nat.reduceEqDiff,f0,f1,f9,wa,i1,i2,r1,r2,A5m,e1,e2,wi]
   exact kk (a+(b - a) / 4 * 2+2 - (i+1)) _ _ (by omega) ⟨i+1,z',swp l1 i (a+(o - (b - a))),rfl,by omega,hm.swap (by omega) (by omega) (by omega) (by omega),e3,hp2.keep (e4.old _ (hp2.lt hc3'.wf) hpg),(hch.trans (hc3'.weak fun _ h=>.inr h)).trans (e4.weak fun _ h=>.inl h),by simp only [sx,reduceCtorEq,f0],by simp only [sx,Nat.reduceEqDiff,f1],by simp only [sx,Nat.reduceEqDiff,f6],by simp only [sx,Nat.reduceEqDiff,f7],by simp only [sx,Nat.reduceEqDiff,f8],by simp only [sx]⟩
  ·have db:decide (((b - a:Nat):Int)≤(o:Int))=false:=by simp; omega
   have wa:IntKind.wrap .i64 ((a:Int)+(o:Int))=((a+o:Nat):Int):=by rw [wrap64 (by omega) (by omega)]; rfl
   have hi:i < l1.length:=by omega
   have hj:a+o < l1.length:=by omega
   have i1:=A2d (g:=g) (k:=k) (cap:=cap) (m:=l.length) (i:=i) (j:=.i64) (by omega)
   have i2:=A2d (g:=g) (k:=k) (cap:=cap) (m:=l.length) (i:=a+o) (j:=.i64) (by omega)
   have r1:=A7c hv2 hi
   have r2:=A7c hv2 hj
   obtain ⟨K1,K2,e1,e2,e3,e4,e5⟩:=A1j hv2 hc3'.wf hi hj
   simp only [↓Sh.dn,sx,db]
   refine (A7a (by kernel_rfl)).2 ?_
   simp only [↓Sh.dn,sx,reduceCtorEq,Nat.reduceEqDiff,f0,f1,f9,wa,i1,i2,r1,r2,A5m,e1,e2,wi]
   exact kk (a+(b - a) / 4 * 2+2 - (i+1)) _ _ (by omega) ⟨i+1,z',swp l1 i (a+o),rfl,by omega,hm.swap (by omega) (by omega) (by omega) (by omega),e3,hp2.keep (e4.old _ (hp2.lt hc3'.wf) hpg),(hch.trans (hc3'.weak fun _ h=>.inr h)).trans (e4.weak fun _ h=>.inl h),by simp only [sx,reduceCtorEq,f0],by simp only [sx,Nat.reduceEqDiff,f1],by simp only [sx,Nat.reduceEqDiff,f6],by simp only [sx,Nat.reduceEqDiff,f7],by simp only [sx,Nat.reduceEqDiff,f8],by simp only [sx]⟩
 ·have dl:decide ((i:Int)≤((a+(b - a) / 4 * 2+1:Nat):Int))=false:=by simp; omega
  simp only [↓Sh.dn,sx,Nat.reduceEqDiff,f1,f6,f9,A84 (show (4:Int)≠0 by decide),hq4,wq,m2,p2,q2,dl,hres]
  refine ⟨l1,hm,hv1,?_⟩
  exact ⟨fun x hx hxg=>(hch.old x (Nat.lt_of_lt_of_le hx hk1.next) (fun h=>by rcases h with h | h; exact hxg h; omega)).trans (hk1.old x hx),Nat.le_trans hk1.next hch.next,hch.wf⟩
end
end Go.Proofs.YtcgbiedfbacgpaaGreat
/- siftDownOrdered, heapSortOrdered. -/
namespace Go.Proofs.YtcgbiedfbacgpaaGreat
open Go Go.Proofs Go.Proofs.Sh
def A47 (l:List ByteArray) (f lo hi:Nat):Prop:=∀ (q r:Nat) x y,lo≤r→(q=2 * r+1∨q=2 * r+2)→q < hi→l[f+r]?=some x→l[f+q]?=some y→A3b x y=false
theorem C5l {l:List ByteArray} {f hi:Nat} (h:A47 l f 0 hi) (hl:f+hi≤l.length):∀ (q:Nat) x y,q < hi→l[f]?=some x→l[f+q]?=some y→A3b x y=false:=by
 intro q
 induction q using Nat.strongRecOn with
 | _ q ih=>
  intro x y hq hx hy
  by_cases h0:q=0
  ·subst h0
   rw [Nat.add_zero,hx] at hy
   rw [← Option.some.inj hy]; exact strTO.irrefl x
  ·have hr:(q - 1) / 2 < q:=by omega
   have hz:l[f+(q - 1) / 2]?=some (l[f+(q - 1) / 2]'(by omega)):=List.getElem?_eq_getElem (by omega)
   exact strTO.le_trans (h q ((q - 1) / 2) _ _ (Nat.zero_le _) (by omega) hq hz hy) (ih _ hr x _ (by omega) hx hz)
section
variable {H:AH} {g k n cap:Nat} {l:List ByteArray}
theorem B5f {lo hi f:Nat} (hv:A3e H g k n l) (hw:Wf H) (hl:l.length≤1048576) (hlo:lo≤hi) (hb:f+hi≤l.length) (hh:A47 l f (lo+1) hi):
  Sh.Call Tryz.prog (knows 7) 143 [.slice (some ⟨g,0,some k⟩) l.length cap,.int .i64 (lo:Int),.int .i64 (hi:Int),.int .i64 (f:Int)] H
   (fun r H'=>∃ l',Mix (f+lo) (f+hi) l l'∧A47 l' f lo hi∧A3e H' g k n l'∧Chg (fun y=>y=g) H H'):=by
 refine A2a rfl Tryz.func143 rfl (Nat.le_of_ble_eq_true rfl) ?_
 have hres:Tryz.f143.results.toList=[]:=rfl
 have hTO:=strTO
 simp only [↓Sh.dn,sx]
 refine A1b (fun m F H' => ∃ (r : Nat) (l1 : List ByteArray), m = hi - r ∧ lo ≤ r ∧ r ≤ hi ∧ Mix (f + lo) (f + hi) l l1 ∧
     (∀ (q p : Nat) x y, lo ≤ p → p ≠ r → (q = 2 * p + 1 ∨ q = 2 * p + 2) → q < hi → l1[f + p]? = some x → l1[f + q]? = some y → A3b x y = false) ∧
     (∀ (q p : Nat) x y, lo ≤ p → (r = 2 * p + 1 ∨ r = 2 * p + 2) → (q = 2 * r + 1 ∨ q = 2 * r + 2) → q < hi → l1[f + p]? = some x → l1[f + q]? = some y → A3b x y = false) ∧
     A3e H' g k n l1 ∧ Chg (fun y => y = g) H H' ∧
     F.get 0 = some (.slice (some ⟨g, 0, some k⟩) l.length cap) ∧ F.get 2 = some (.int .i64 (hi : Int)) ∧ F.get 3 = some (.int .i64 (f : Int)) ∧ F.get 8 = some (.int .i64 (r : Int))) (m := hi - lo)
   ⟨lo, l, rfl, Nat.le_refl _, hlo, .refl l, fun q p x y h1 h2 h3 h4 hx hy => hh q p x y (by omega) h3 h4 hx hy, fun q p x y h1 h2 => by omega, hv, Chg.refl hw, by simp only [sx, reduceCtorEq], by simp only [sx, Nat.reduceEqDiff], by simp only [sx, Nat.reduceEqDiff], by simp only [sx]⟩ ?_
 rintro m F H' ⟨r,l1,rfl,hr,hrh,hm,hA,hB,hv1,hc1,f0,f2,f3,f8⟩ kk
 have hlen:=hm.length
 have w1:IntKind.wrap .i64 ((2:Int) * (r:Int))=((2 * r:Nat):Int):=by rw [wrap64 (by omega) (by omega)]; rfl
 have w2:IntKind.wrap .i64 (((2 * r:Nat):Int)+1)=((2 * r+1:Nat):Int):=by rw [wrap64 (by omega) (by omega)]; rfl
 have w3:IntKind.wrap .i64 (((2 * r+1:Nat):Int)+1)=((2 * r+1+1:Nat):Int):=by rw [wrap64 (by omega) (by omega)]; rfl
 simp only [↓Sh.dn,sx,Nat.reduceEqDiff,f2,f8,w1,w2]
 by_cases hend:hi≤2 * r+1
 ·have d:decide ((hi:Int)≤((2 * r+1:Nat):Int))=true:=by simp; omega
  simp only [↓Sh.dn,sx,Nat.reduceBEq,d,hres]
  exact ⟨l1,hm,fun q p x y h1 h2 h3 hx hy=>hA q p x y h1 (by omega) h2 h3 hx hy,hv1,hc1⟩
 have d:decide ((hi:Int)≤((2 * r+1:Nat):Int))=false:=by simp; omega
 simp only [↓Sh.dn,sx,d]
 have jr:f+r < l1.length:=by omega
 have ir:=A2d (g:=g) (k:=k) (cap:=cap) (m:=l.length) (i:=f+r) (j:=.i64) (by omega)
 have gr:=A7c hv1 jr
 have qr:l1[f+r]?=some l1[f+r]:=List.getElem?_eq_getElem jr
 have wfr:IntKind.wrap .i64 ((f:Int)+(r:Int))=((f+r:Nat):Int):=by rw [wrap64 (by omega) (by omega)]; rfl
 refine B4d (fun F' H2=>H2=H'∧F'.get 0=some (.slice (some ⟨g,0,some k⟩) l.length cap)∧F'.get 2=some (.int .i64 (hi:Int))∧F'.get 3=some (.int .i64 (f:Int))∧F'.get 8=some (.int .i64 (r:Int))∧F'.get 9=some (.int .i64 ((2 * r+1:Nat):Int))∧
  ∃ bb:Bool,F'.get 36=some (.bool bb)∧(bb=true→2 * r+2 < hi∧∀ y z,l1[f+(2 * r+1)]?=some y→l1[f+(2 * r+2)]?=some z→A3b y z=true)∧(bb=false→2 * r+2 < hi→∀ y z,l1[f+(2 * r+1)]?=some y→l1[f+(2 * r+2)]?=some z→A3b y z=false)) rfl ?_ ?_
 ·refine (A7a (by kernel_rfl)).2 ?_
  by_cases h2:2 * r+1+1 < hi
  ·have j1:f+(2 * r+1) < l1.length:=by omega
   have j2:f+(2 * r+1)+1 < l1.length:=by omega
   have i1:=A2d (g:=g) (k:=k) (cap:=cap) (m:=l.length) (i:=f+(2 * r+1)) (j:=.i64) (by omega)
   have i2:=A2d (g:=g) (k:=k) (cap:=cap) (m:=l.length) (i:=f+(2 * r+1)+1) (j:=.i64) (by omega)
   have g1:=A7c hv1 j1
   have g2:=A7c hv1 j2
   have u1:IntKind.wrap .i64 ((f:Int)+((2 * r+1:Nat):Int))=((f+(2 * r+1):Nat):Int):=by rw [wrap64 (by omega) (by omega)]; rfl
   have u2:IntKind.wrap .i64 (((f+(2 * r+1):Nat):Int)+1)=((f+(2 * r+1)+1:Nat):Int):=by rw [wrap64 (by omega) (by omega)]; rfl
   simp only [↓Sh.dn,sx,reduceCtorEq,Nat.reduceEqDiff,f0,f2,f3,w3,A1a,h2,decide_true,u1,u2,i1,i2,g1,g2]
   refine ⟨_,_,A6d,?_⟩
   simp only [sx,f8]
   have e1:l1[f+(2 * r+1)]?=some l1[f+(2 * r+1)]:=List.getElem?_eq_getElem j1
   have e2:l1[f+(2 * r+2)]?=some l1[f+(2 * r+1)+1]:=List.getElem?_eq_getElem j2
   refine ⟨fun hb y z hy hz=>?_,fun hb y z hy hz=>?_⟩
   ·rw [e1] at hy; rw [e2] at hz; rw [← Option.some.inj hy,← Option.some.inj hz]; exact hb
   ·rw [e1] at hy; rw [e2] at hz; rw [← Option.some.inj hy,← Option.some.inj hz]; exact hb
  ·simp only [↓Sh.dn,sx,reduceCtorEq,Nat.reduceEqDiff,f0,f2,f3,f8,w3,A1a,h2,decide_false]
   try (refine fun h=>by omega)
 rintro F1 H2 ⟨rfl,x0,x2,x3,x8,x9,bb,x36,hb1,hb2⟩
 refine B5l (fun F' H3=>H3=H2∧F'.get 0=some (.slice (some ⟨g,0,some k⟩) l.length cap)∧F'.get 2=some (.int .i64 (hi:Int))∧F'.get 3=some (.int .i64 (f:Int))∧F'.get 8=some (.int .i64 (r:Int))∧
  ∃ c:Nat,F'.get 9=some (.int .i64 (c:Int))∧(c=2 * r+1∨c=2 * r+2)∧c < hi∧(∀ (q:Nat) y z,(q=2 * r+1∨q=2 * r+2)→q < hi→l1[f+c]?=some y→l1[f+q]?=some z→A3b y z=false)) rfl ?_ ?_
 ·cases bb with
  | true=>
   obtain ⟨h1,h2⟩:=hb1 rfl
   simp only [↓Sh.dn,sx,reduceCtorEq,Nat.reduceEqDiff,x0,x2,x3,x8,x9,x36,w3]
   refine ⟨2 * r+2,rfl,.inr rfl,h1,fun q y z hq hqh hy hz=>?_⟩
   rcases hq with rfl | rfl
   ·exact hTO.asymm (h2 z y hz hy)
   ·rw [hy] at hz; rw [← Option.some.inj hz]; exact hTO.irrefl y
  | false=>
   simp only [↓Sh.dn,sx,x0,x2,x3,x8,x9,x36]
   refine ⟨2 * r+1,rfl,.inl rfl,by omega,fun q y z hq hqh hy hz=>?_⟩
   rcases hq with rfl | rfl
   ·rw [hy] at hz; rw [← Option.some.inj hz]; exact hTO.irrefl y
   ·exact hb2 rfl hqh y z hy hz
 rintro F' H3 ⟨rfl,g0,g2,g3,g8,c,g9,hc,hch,hmax⟩
 have jc:f+c < l1.length:=by omega
 have ic:=A2d (g:=g) (k:=k) (cap:=cap) (m:=l.length) (i:=f+c) (j:=.i64) (by omega)
 have gc:=A7c hv1 jc
 have qc:l1[f+c]?=some l1[f+c]:=List.getElem?_eq_getElem jc
 have wfc:IntKind.wrap .i64 ((f:Int)+(c:Int))=((f+c:Nat):Int):=by rw [wrap64 (by omega) (by omega)]; rfl
 simp only [↓Sh.dn]
 refine (A7a (by kernel_rfl)).2 ?_
 simp only [↓Sh.dn,sx,reduceCtorEq,Nat.reduceEqDiff,g0,g3,g8,g9,wfr,wfc,ir,ic,gr,gc]
 refine ⟨_,_,A6d,?_⟩
 cases hlt:A3b l1[f+r] l1[f+c] with
 | false=>
  simp only [↓Sh.dn,sx,hres]
  refine ⟨l1,hm,fun q p x y h1 h2 h3 hx hy=>?_,hv1,hc1⟩
  by_cases hp:p=r
  ·subst hp
   rw [qr] at hx
   rw [← Option.some.inj hx]
   exact hTO.le_trans (hmax q _ _ h2 h3 qc hy) hlt
  ·exact hA q p x y h1 hp h2 h3 hx hy
 | true=>
  obtain ⟨K1,K2,e1,e2,e3,e4,e5⟩:=A1j hv1 hc1.wf jr jc
  simp only [↓Sh.dn,sx]
  refine (A7a (by kernel_rfl)).2 ?_
  simp only [↓Sh.dn,sx,reduceCtorEq,Nat.reduceEqDiff,g0,g3,g8,g9,wfr,wfc,ir,ic,gr,gc,A5m,e1,e2]
  refine kk (hi - c) _ _ (by omega) ⟨c,swp l1 (f+r) (f+c),rfl,by omega,by omega,hm.swap (by omega) (by omega) (by omega) (by omega),fun q p x y h1 h2 h3 h4 hx hy=>?_,fun q p x y h1 h2 h3 h4 hx hy=>?_,e3,hc1.trans e4,by simp only [sx,reduceCtorEq,g0],by simp only [sx,Nat.reduceEqDiff,g2],by simp only [sx,Nat.reduceEqDiff,g3],by simp only [sx]⟩
  ·rw [swp_get jr jc] at hx hy
   by_cases hp:p=r
   ·subst hp
    rw [if_neg (by omega),if_pos rfl,qc] at hx
    rw [← Option.some.inj hx]
    by_cases hq:q=c
    ·subst hq
     rw [if_pos rfl,qr] at hy
     rw [← Option.some.inj hy]; exact hTO.asymm hlt
    ·rw [if_neg (by omega),if_neg (by omega)] at hy
     exact hmax q _ _ h3 h4 qc hy
   ·rw [if_neg (by omega),if_neg (by omega)] at hx
    by_cases hq:q=r
    ·subst hq
     rw [if_neg (by omega),if_pos rfl] at hy
     exact hB c p x _ h1 (by omega) hc hch hx hy
    ·by_cases hq2:q=c
     ·omega
     ·rw [if_neg (by omega),if_neg (by omega)] at hy
      exact hA q p x y h1 hp h3 h4 hx hy
  ·have hpr:p=r:=by omega
   subst hpr
   rw [swp_get jr jc] at hx hy
   rw [if_neg (by omega),if_pos rfl,qc] at hx
   rw [if_neg (by omega),if_neg (by omega)] at hy
   rw [← Option.some.inj hx]
   exact hA q c _ _ (by omega) (by omega) h3 h4 qc hy
theorem B17 {a b:Nat} (hv:A3e H g k n l) (hw:Wf H) (hl:l.length≤1048576) (hab:a < b) (hb:b≤l.length):
  Sh.Call Tryz.prog (knows 7) 130 [.slice (some ⟨g,0,some k⟩) l.length cap,.int .i64 (a:Int),.int .i64 (b:Int)] H
   (fun r H'=>∃ l',Mix a b l l'∧Srt A3b a b l'∧A3e H' g k n l'∧Chg (fun y=>y=g) H H'):=by
 refine A2a rfl Tryz.func130 rfl (Nat.le_of_ble_eq_true rfl) ?_
 have hres:Tryz.f130.results.toList=[]:=rfl
 have hTO:=strTO
 obtain ⟨hi,rfl⟩:∃ hi,b=a+hi:=⟨b - a,by omega⟩
 have w0:IntKind.wrap .i64 (((a+hi:Nat):Int) - (a:Int))=(hi:Int):=by rw [wrap64 (by omega) (by omega)]; omega
 have w1:IntKind.wrap .i64 ((hi:Int) - 1)=((hi - 1:Nat):Int):=by rw [wrap64 (by omega) (by omega)]; omega
 have hq2:(Int.tdiv ((hi - 1:Nat):Int) 2)=(((hi - 1) / 2:Nat):Int):=by rw [Int.tdiv_eq_ediv_of_nonneg (by omega)]; rfl
 have wq:IntKind.wrap .i64 (((hi - 1) / 2:Nat):Int)=(((hi - 1) / 2:Nat):Int):=wrap64 (by omega) (by omega)
 simp only [↓Sh.dn,sx,Nat.reduceEqDiff,w0,w1,A84 (show (2:Int)≠0 by decide),hq2,wq]
 refine A61 (fun F' H2 => ∃ l1 : List ByteArray, Mix a (a + hi) l l1 ∧ A47 l1 a 0 hi ∧ A3e H2 g k n l1 ∧ Chg (fun y => y = g) H H2 ∧
     F'.get 0 = some (.slice (some ⟨g, 0, some k⟩) l.length cap) ∧ F'.get 6 = some (.int .i64 (a : Int)) ∧ F'.get 7 = some (.int .i64 0) ∧ F'.get 8 = some (.int .i64 (hi : Int))) (by rfl) ?_ ?_
 ·refine A1b (fun m F H' => ∃ l1 : List ByteArray, m ≤ (hi - 1) / 2 + 1 ∧ Mix a (a + hi) l l1 ∧ A47 l1 a m hi ∧ A3e H' g k n l1 ∧ Chg (fun y => y = g) H H' ∧
    F.get 0 = some (.slice (some ⟨g, 0, some k⟩) l.length cap) ∧ F.get 6 = some (.int .i64 (a : Int)) ∧ F.get 7 = some (.int .i64 0) ∧ F.get 8 = some (.int .i64 (hi : Int)) ∧ F.get 9 = some (.int .i64 ((m : Int) - 1))) (m := (hi - 1) / 2 + 1)
    ⟨l, Nat.le_refl _, .refl l, fun q r x y h1 h2 h3 => by omega, hv, Chg.refl hw, by simp only [sx, reduceCtorEq], by simp only [sx, Nat.reduceEqDiff], by simp only [sx, Nat.reduceEqDiff], by simp only [sx, Nat.reduceEqDiff], by simp only [sx]; congr 2; omega⟩ ?_
  rintro m F H' ⟨l1, hmh, hm, hh, hv1, hc1, f0, f6, f7, f8, f9⟩ kk
  have hlen := hm.length
  cases m with
  | zero =>
    have d : decide ((0 : Int) ≤ ((0 : Nat) : Int) - 1) = false := by simp
    simp only [↓Sh.dn, sx, reduceCtorEq, Nat.reduceEqDiff, f9, d, f0, f6, f7, f8]
    exact ⟨l1, hm, hh, hv1, hc1⟩
  | succ m =>
    have e9 : ((m + 1 : Nat) : Int) - 1 = (m : Int) := by omega
    rw [e9] at f9
    have d : decide ((0 : Int) ≤ (m : Int)) = true := by simp
    obtain ⟨r, H2, hd, l2, hm2, hh2, hv2, hc2⟩ := B5f (cap := cap) (lo := m) (hi := hi) (f := a) hv1 hc1.wf (by omega) (by omega) (by omega) hh
    have wm : IntKind.wrap .i64 ((m : Int) - 1) = (m : Int) - 1 := wrap64 (by omega) (by omega)
    rw [hlen] at hd
    simp only [↓Sh.dn, sx, reduceCtorEq, Nat.reduceEqDiff, f9, d, f0, f6, f8]
    refine ⟨_, _, hd, ?_⟩
    simp only [wm]
    exact kk m _ _ (by omega) ⟨l2, by omega, hm.trans (hm2.wide (by omega) (Nat.le_refl _)), hh2, hv2, hc1.trans hc2, by simp only [sx, reduceCtorEq, f0], by simp only [sx, Nat.reduceEqDiff, f6], by simp only [sx, Nat.reduceEqDiff, f7], by simp only [sx, Nat.reduceEqDiff, f8], by simp only [sx]⟩
 rintro F1 H1 ⟨l1,hm1,hh1,hv1,hc1,f0,f6,f7,f8⟩
 have hlen1:=hm1.length
 simp only [↓Sh.dn,sx,f8,w1]
 refine A1b (fun m F H' => ∃ l2 : List ByteArray, m ≤ hi ∧ Mix a (a + hi) l l2 ∧ A47 l2 a 0 m ∧ (∀ (p q : Nat) x y, p < q → m ≤ q → q < hi → l2[a + p]? = some x → l2[a + q]? = some y → A3b y x = false) ∧ A3e H' g k n l2 ∧ Chg (fun y => y = g) H H' ∧
     F.get 0 = some (.slice (some ⟨g, 0, some k⟩) l.length cap) ∧ F.get 6 = some (.int .i64 (a : Int)) ∧ F.get 7 = some (.int .i64 0) ∧ F.get 10 = some (.int .i64 ((m : Int) - 1))) (m := hi)
   ⟨l1, Nat.le_refl _, hm1, hh1, fun p q x y h1 h2 h3 => by omega, hv1, hc1, by simp only [sx, reduceCtorEq, f0], by simp only [sx, Nat.reduceEqDiff, f6], by simp only [sx, Nat.reduceEqDiff, f7], by simp only [sx]; congr 2; omega⟩ ?_
 rintro m F H' ⟨l2,hmh,hm,hh,hT,hv2,hc2,f0,f6,f7,f10⟩ kk
 have hlen:=hm.length
 cases m with
 | zero=>
  have d:decide ((0:Int)≤((0:Nat):Int) - 1)=false:=by simp
  simp only [↓Sh.dn,sx,f10,d,hres]
  refine ⟨l2,hm,fun i j x y h1 h2 h3 hx hy=>?_,hv2,hc2⟩
  by_cases hij:i=j
  ·subst hij
   rw [hx] at hy
   rw [← Option.some.inj hy]; exact hTO.irrefl x
  ·exact hT (i - a) (j - a) x y (by omega) (Nat.zero_le _) (by omega) (by rw [show a+(i - a)=i by omega]; exact hx) (by rw [show a+(j - a)=j by omega]; exact hy)
 | succ m=>
  have e10:((m+1:Nat):Int) - 1=(m:Int):=by omega
  rw [e10] at f10
  have d:decide ((0:Int)≤(m:Int))=true:=by simp
  have ja:a < l2.length:=by omega
  have jm:a+m < l2.length:=by omega
  have i1:=A2d (g:=g) (k:=k) (cap:=cap) (m:=l.length) (i:=a) (j:=.i64) (by omega)
  have i2:=A2d (g:=g) (k:=k) (cap:=cap) (m:=l.length) (i:=a+m) (j:=.i64) (by omega)
  have g1:=A7c hv2 ja
  have g2:=A7c hv2 jm
  have wam:IntKind.wrap .i64 ((a:Int)+(m:Int))=((a+m:Nat):Int):=by rw [wrap64 (by omega) (by omega)]; rfl
  have wm:IntKind.wrap .i64 ((m:Int) - 1)=(m:Int) - 1:=wrap64 (by omega) (by omega)
  obtain ⟨K1,K2,e1,e2,e3,e4,e5⟩:=A1j hv2 hc2.wf ja jm
  have hsw:Mix a (a+(m+1)) l2 (swp l2 a (a+m)):=(Mix.refl l2).swap (by omega) (by omega) (by omega) (by omega)
  obtain ⟨r,H3,hd,l3,hm3,hh3,hv3,hc3⟩:=B5f (cap:=cap) (lo:=0) (hi:=m) (f:=a) e3 e4.wf (by rw [A0q]; omega) (by omega) (by rw [A0q]; omega) (fun q p x y h1 h2 h3 hx hy=>by
   rw [swp_get ja jm,if_neg (by omega),if_neg (by omega)] at hx hy
   exact hh q p x y (Nat.zero_le _) h2 (by omega) hx hy)
  rw [A0q,hlen] at hd
  have hmix:Mix a (a+(m+1)) l2 l3:=hsw.trans (hm3.wide (by omega) (by omega))
  have hl3:=hmix.length
  simp only [↓Sh.dn,sx,f10,d]
  refine (A7a (by kernel_rfl)).2 ?_
  simp only [↓Sh.dn,sx,reduceCtorEq,Nat.reduceEqDiff,f0,f6,f7,f10,wam,i1,i2,g1,g2,A5m,e1,e2]
  refine ⟨_,_,hd,?_⟩
  simp only [wm]
  have qa:l2[a]?=some l2[a]:=List.getElem?_eq_getElem ja
  refine kk m _ _ (by omega) ⟨l3,by omega,hm.trans (hmix.wide (Nat.le_refl _) (by omega)),hh3,fun p q x y h1 h2 h3 hx hy=>?_,hv3,(hc2.trans e4).trans hc3,by simp only [sx,reduceCtorEq,f0],by simp only [sx,Nat.reduceEqDiff,f6],by simp only [sx,Nat.reduceEqDiff,f7],by simp only [sx]⟩
  by_cases hq:q=m
  ·subst hq
   have hy':l3[a+q]?=some l2[a]:=by
    rw [hm3.out (.inr (by omega)),swp_get ja jm,if_pos rfl,qa]
   rw [hy'] at hy
   rw [← Option.some.inj hy]
   refine hmix.all (p:=fun x=>A3b l2[a] x=false) (by omega) (fun i z hi1 hi2 hz=>?_) (a+p) x (by omega) (by omega) hx
   exact C5l hh (by omega) (i - a) _ _ (by omega) qa (by rw [show a+(i - a)=i by omega]; exact hz)
  ·have hyq:l2[a+q]?=some y:=by rw [← hmix.out (.inr (by omega))]; exact hy
   by_cases hp:p≤m
   ·refine hmix.all (p:=fun x=>A3b y x=false) (by omega) (fun i z hi1 hi2 hz=>?_) (a+p) x (by omega) (by omega) hx
    exact hT (i - a) q z y (by omega) (by omega) h3 (by rw [show a+(i - a)=i by omega]; exact hz) hyq
   ·have hxp:l2[a+p]?=some x:=by rw [← hmix.out (.inr (by omega))]; exact hx
    exact hT p q x y h1 (by omega) h3 hxp hyq
end
end Go.Proofs.YtcgbiedfbacgpaaGreat
/- partitionOrdered, partitionEqualOrdered. -/
namespace Go.Proofs.YtcgbiedfbacgpaaGreat
open Go Go.Proofs Go.Proofs.Sh
section
variable {H:AH} {g k n cap a b:Nat} {l:List ByteArray}
theorem B13 {p:Nat} (hv:A3e H g k n l) (hw:Wf H) (hl:l.length≤1048576) (hap:a≤p) (hpb:p < b) (hb:b≤l.length):
  Sh.Call Tryz.prog (knows 7) 136 [.slice (some ⟨g,0,some k⟩) l.length cap,.int .i64 (a:Int),.int .i64 (b:Int),.int .i64 (p:Int)] H
   (fun r H'=>∃ (m:Nat) (al:Bool),r=.tuple #[.int .i64 (m:Int),.bool al]∧a≤m∧m < b∧∃ l':List ByteArray,Mix a b l l'∧∃ y,l'[m]?=some y∧(∀ (q:Nat) x,a≤q→q < m→l'[q]?=some x→A3b x y=true)∧(∀ (q:Nat) x,m < q→q < b→l'[q]?=some x→A3b x y=false)∧A3e H' g k n l'∧Chg (fun y=>y=g) H H'):=by
 refine A2a rfl Tryz.func136 rfl (Nat.le_of_ble_eq_true rfl) ?_
 have hTO:=strTO
 have ja:a < l.length:=by omega
 have jp:p < l.length:=by omega
 have ia:=A2d (g:=g) (k:=k) (cap:=cap) (m:=l.length) (i:=a) (j:=.i64) ja
 have ip:=A2d (g:=g) (k:=k) (cap:=cap) (m:=l.length) (i:=p) (j:=.i64) jp
 have xa:=A7c hv ja
 have xp:=A7c hv jp
 have wa:IntKind.wrap .i64 ((a:Int)+1)=((a+1:Nat):Int):=by rw [wrap64 (by omega) (by omega)]; rfl
 have wb:IntKind.wrap .i64 ((b:Int) - 1)=((b - 1:Nat):Int):=by rw [wrap64 (by omega) (by omega)]; omega
 obtain ⟨K1,H1,e1,e2,hv1,hc1,e5⟩:=A1j hv hw ja jp
 have hm1:Mix a b l (swp l a p):=(Mix.refl l).swap (by omega) (by omega) (by omega) (by omega)
 simp only [↓Sh.dn,sx]
 refine (A7a (by kernel_rfl)).2 ?_
 simp only [↓Sh.dn,sx,reduceCtorEq,Nat.reduceEqDiff,ia,ip,xa,xp,A5m,e1,e2,wa,wb]
 have hpa:(swp l a p)[a]?=some l[p]:=by
  rw [swp_get ja jp]
  by_cases h:a=p
  ·rw [if_pos h,List.getElem?_eq_getElem ja]; simp only [h]
  ·rw [if_neg h,if_pos rfl]; exact List.getElem?_eq_getElem jp
 generalize l[p]=pv at hpa xp e1
 generalize hL0:swp l a p=l1 at hpa hm1 hv1
 have hlen:=hm1.length
 have xa:H1.cell ⟨g,a,some k⟩=some (Value.string pv):=hv1.cell (by simp [hpa])
 have hres:Tryz.f136.results.toList=[.tmp 8,.tmp 9]:=rfl
 have last : ∀ (l1 : List ByteArray) (H' : AH) (i j : Nat), Mix a b l l1 → l1[a]? = some pv → a ≤ j → j < b → (∀ (q : Nat) x, a + 1 ≤ q → q ≤ j → l1[q]? = some x → A3b x pv = true) → (∀ (q : Nat) x, j < q → q < b → l1[q]? = some x → A3b x pv = false) →
     Mix a b l (swp l1 j a) ∧ (swp l1 j a)[j]? = some pv ∧ (∀ (q : Nat) x, a ≤ q → q < j → (swp l1 j a)[q]? = some x → A3b x pv = true) ∧ (∀ (q : Nat) x, j < q → q < b → (swp l1 j a)[q]? = some x → A3b x pv = false) := by
   intro l1 H' i j hm hp hj hjb h1 h2
   have hlen := hm.length
   have jj : j < l1.length := by omega
   have ja : a < l1.length := by omega
   refine ⟨hm.swap (by omega) (by omega) (by omega) (by omega), ?_, fun q x hq1 hq2 hx => ?_, fun q x hq1 hq2 hx => ?_⟩
   · rw [swp_get jj ja]
     by_cases h : j = a
     · rw [if_pos h, h]; exact hp
     · rw [if_neg h, if_pos rfl]; exact hp
   · rw [swp_get jj ja] at hx
     by_cases h : q = a
     · rw [if_pos h] at hx; exact h1 j x (by omega) (Nat.le_refl _) hx
     · rw [if_neg h, if_neg (by omega)] at hx; exact h1 q x (by omega) (by omega) hx
   · rw [swp_get jj ja, if_neg (by omega), if_neg (by omega)] at hx
     exact h2 q x hq1 hq2 hx
 obtain ⟨MF1,hMF1⟩:∃ M:Fr→AH→Prop,M=fun F' H9=>H1=H9∧∃ v:Nat,F'.get 0=some (.slice (some ⟨g,0,some k⟩) l.length cap)∧F'.get 1=some (.int .i64 (a:Int))∧F'.get 10=some (.int .i64 ((v:Nat):Int))∧F'.get 11=some (.int .i64 (((b - 1):Nat):Int))∧(a+1)≤v∧v≤(b - 1)+1∧(∀ (q:Nat) x,(a+1)≤q→q < v→l1[q]?=some x→A3b x pv=true)∧(v≤(b - 1)→∀ x,l1[v]?=some x→A3b x pv=false):=⟨_,rfl⟩
 refine A61 MF1 (by rfl) ?_ ?_
 ·refine A1b (fun m F' H9 => H1 = H9 ∧ ∃ v : Nat, m = (b - 1) + 1 - v ∧ F'.get 0 = some (.slice (some ⟨g, 0, some k⟩) l.length cap) ∧ F'.get 1 = some (.int .i64 (a : Int)) ∧ F'.get 10 = some (.int .i64 ((v : Nat) : Int)) ∧ F'.get 11 = some (.int .i64 (((b - 1) : Nat) : Int)) ∧ (a + 1) ≤ v ∧ v ≤ (b - 1) + 1 ∧ (∀ (q : Nat) x, (a + 1) ≤ q → q < v → l1[q]? = some x → A3b x pv = true)) (m := (b - 1) + 1 - (a + 1))
    ⟨rfl, (a + 1), rfl, by simp only [sx, reduceCtorEq], by simp only [sx, Nat.reduceEqDiff], by simp only [sx, Nat.reduceEqDiff], by simp only [sx], by omega, by omega, fun q x h1 h2 => by omega⟩ ?_
  rintro m F' H9 ⟨rfl, v, rfl, g0, g1, gi, gj, h1, h2, h3⟩ k2
  simp only [↓Sh.dn]
  refine (A7a (by kernel_rfl)).2 ?_
  by_cases hle : v ≤ (b - 1)
  · have jv : v < l1.length := by omega
    have iv := A2d (g := g) (k := k) (cap := cap) (m := l.length) (i := v) (j := .i64) (by omega)
    have xv := A7c hv1 jv
    have qv : l1[v]? = some l1[v] := List.getElem?_eq_getElem jv
    have wv : IntKind.wrap .i64 ((v : Int) + 1) = ((v + 1 : Nat) : Int) := by rw [wrap64 (by omega) (by omega)]; rfl
    simp only [↓Sh.dn, sx, reduceCtorEq, Nat.reduceEqDiff, g0, g1, gi, gj, A5j, hle, decide_true, iv, ia, xv, xa]
    refine ⟨_, _, A6d, ?_⟩
    cases hlt : A3b l1[v] pv with
    | true =>
      simp only [↓Sh.dn, sx, Nat.reduceEqDiff, gi, wv]
      refine k2 ((b - 1) + 1 - (v + 1)) _ _ (by omega) ⟨rfl, v + 1, rfl, by simp only [sx, reduceCtorEq, g0], by simp only [sx, Nat.reduceEqDiff, g1], by simp only [sx], by simp only [sx, Nat.reduceEqDiff, gj], by omega, by omega, fun q x hq1 hq2 hx => ?_⟩
      · by_cases hq : q = v
        · subst hq; rw [qv] at hx; rw [← Option.some.inj hx]; exact hlt
        · exact h3 q x (by omega) (by omega) hx
    | false =>
      simp only [↓Sh.dn, sx, reduceCtorEq, Nat.reduceEqDiff, hMF1, g0, g1, gi, gj]
      exact ⟨v, rfl, h1, h2, h3, fun _ x hx => by rw [qv] at hx; rw [← Option.some.inj hx]; exact hlt⟩
  · simp only [↓Sh.dn, sx, reduceCtorEq, Nat.reduceEqDiff, hMF1, g0, g1, gi, gj, A5j, hle, decide_false]
    exact ⟨v, rfl, h1, h2, h3, fun h => absurd h hle⟩
 intro F1 H9 h9
 rw [hMF1] at h9
 obtain ⟨rfl,i1,u0,u1,ui,uj,u5,u6,u7,u8⟩:=h9
 simp only [↓Sh.dn]
 obtain ⟨MF2,hMF2⟩:∃ M:Fr→AH→Prop,M=fun F' H9=>H1=H9∧∃ v:Nat,F'.get 0=some (.slice (some ⟨g,0,some k⟩) l.length cap)∧F'.get 1=some (.int .i64 (a:Int))∧F'.get 10=some (.int .i64 ((i1:Nat):Int))∧F'.get 11=some (.int .i64 ((v:Nat):Int))∧i1≤v+1∧v≤(b - 1)∧(∀ (q:Nat) x,v < q→q≤(b - 1)→l1[q]?=some x→A3b x pv=false)∧(i1≤v→∀ x,l1[v]?=some x→A3b x pv=true):=⟨_,rfl⟩
 refine A61 MF2 (by rfl) ?_ ?_
 ·refine A1b (fun m F' H9 => H1 = H9 ∧ ∃ v : Nat, m = v ∧ F'.get 0 = some (.slice (some ⟨g, 0, some k⟩) l.length cap) ∧ F'.get 1 = some (.int .i64 (a : Int)) ∧ F'.get 10 = some (.int .i64 ((i1 : Nat) : Int)) ∧ F'.get 11 = some (.int .i64 ((v : Nat) : Int)) ∧ i1 ≤ v + 1 ∧ v ≤ (b - 1) ∧ (∀ (q : Nat) x, v < q → q ≤ (b - 1) → l1[q]? = some x → A3b x pv = false)) (m := (b - 1))
    ⟨rfl, (b - 1), rfl, by simp only [u0], by simp only [u1], by simp only [ui], by simp only [uj], by omega, by omega, fun q x h1 h2 => by omega⟩ ?_
  rintro v F' H9 ⟨rfl, _, rfl, g0, g1, gi, gj, h1, h2, h3⟩ k2
  simp only [↓Sh.dn]
  refine (A7a (by kernel_rfl)).2 ?_
  by_cases hle : i1 ≤ v
  · have jv : v < l1.length := by omega
    have iv := A2d (g := g) (k := k) (cap := cap) (m := l.length) (i := v) (j := .i64) (by omega)
    have xv := A7c hv1 jv
    have qv : l1[v]? = some l1[v] := List.getElem?_eq_getElem jv
    have wv : IntKind.wrap .i64 ((v : Int) - 1) = ((v - 1 : Nat) : Int) := by rw [wrap64 (by omega) (by omega)]; omega
    simp only [↓Sh.dn, sx, reduceCtorEq, Nat.reduceEqDiff, g0, g1, gi, gj, A5j, hle, decide_true, iv, ia, xv, xa]
    refine ⟨_, _, A6d, ?_⟩
    cases hlt : A3b l1[v] pv with
    | false =>
      simp only [↓Sh.dn, sx, Nat.reduceEqDiff, gj, wv]
      refine k2 ((v - 1)) _ _ (by omega) ⟨rfl, v - 1, rfl, by simp only [sx, reduceCtorEq, g0], by simp only [sx, Nat.reduceEqDiff, g1], by simp only [sx, Nat.reduceEqDiff, gi], by simp only [sx], by omega, by omega, fun q x hq1 hq2 hx => ?_⟩
      · by_cases hq : q = v
        · subst hq; rw [qv] at hx; rw [← Option.some.inj hx]; exact hlt
        · exact h3 q x (by omega) (by omega) hx
    | true =>
      simp only [↓Sh.dn, sx, reduceCtorEq, Nat.reduceEqDiff, hMF2, g0, g1, gi, gj]
      exact ⟨v, rfl, h1, h2, h3, fun _ x hx => by rw [qv] at hx; rw [← Option.some.inj hx]; exact hlt⟩
  · simp only [↓Sh.dn, sx, reduceCtorEq, Nat.reduceEqDiff, hMF2, g0, g1, gi, gj, A5j, hle, decide_false]
    exact ⟨v, rfl, h1, h2, h3, fun h => absurd h hle⟩
 intro F2 H9 h9
 rw [hMF2] at h9
 obtain ⟨rfl,j1,w0,w1,wi,wj,w5,w6,w7,w8⟩:=h9
 simp only [↓Sh.dn,sx,Nat.reduceEqDiff,wi,wj,A1a]
 by_cases hgt:j1 < i1
 ·have jj:j1 < l1.length:=by omega
  have ja1:a < l1.length:=by omega
  have ij:=A2d (g:=g) (k:=k) (cap:=cap) (m:=l.length) (i:=j1) (j:=.i64) (by omega)
  have xj:=A7c hv1 jj
  have xa':=A7c hv1 ja1
  obtain ⟨L1,L2,d1,d2,hv2,hc2,d5⟩:=A1j hv1 hc1.wf jj ja1
  obtain ⟨p1,p2,p3,p4⟩:=last l1 H1 i1 j1 hm1 hpa (by omega) (by omega) (fun q x h1 h2 hx=>u7 q x h1 (by omega) hx) (fun q x h1 h2 hx=>w7 q x h1 (by omega) hx)
  simp only [↓Sh.dn,sx,hgt,decide_true]
  refine (A7a (by kernel_rfl)).2 ?_
  simp only [↓Sh.dn,sx,reduceCtorEq,Nat.reduceEqDiff,w0,w1,wj,ij,ia,xj,xa',A5m,d1,d2,hres]
  exact ⟨j1,_,rfl,by omega,by omega,swp l1 j1 a,p1,pv,p2,p3,p4,hv2,hc1.trans hc2⟩
 simp only [↓Sh.dn,sx,hgt,decide_false]
 have hij:i1 < j1:=by
  by_cases h:i1=j1
  ·have h1:=u8 (by omega)
   have h2:=w8 (by omega)
   obtain ⟨x,hx⟩:∃ x,l1[i1]?=some x:=⟨_,List.getElem?_eq_getElem (by omega)⟩
   have a1:=h1 x hx
   have a2:=h2 x (by rw [← h]; exact hx)
   rw [a1] at a2; cases a2
  ·omega
 have ji1:i1 < l1.length:=by omega
 have jj1:j1 < l1.length:=by omega
 have ii:=A2d (g:=g) (k:=k) (cap:=cap) (m:=l.length) (i:=i1) (j:=.i64) (by omega)
 have ij:=A2d (g:=g) (k:=k) (cap:=cap) (m:=l.length) (i:=j1) (j:=.i64) (by omega)
 have xi:=A7c hv1 ji1
 have xj:=A7c hv1 jj1
 have yi:IntKind.wrap .i64 ((i1:Int)+1)=((i1+1:Nat):Int):=by rw [wrap64 (by omega) (by omega)]; rfl
 have yj:IntKind.wrap .i64 ((j1:Int) - 1)=((j1 - 1:Nat):Int):=by rw [wrap64 (by omega) (by omega)]; omega
 obtain ⟨L1,L2,d1,d2,hv2,hc2,d5⟩:=A1j hv1 hc1.wf ji1 jj1
 refine (A7a (by kernel_rfl)).2 ?_
 simp only [↓Sh.dn,sx,reduceCtorEq,Nat.reduceEqDiff,w0,wi,wj,ii,ij,xi,xj,A5m,d1,d2,yi,yj]
 have pair : ∀ (l1 : List ByteArray) (i0 i1 j0 j1 : Nat), l1.length = l.length → l1[a]? = some pv → a + 1 ≤ i0 → i0 ≤ i1 → i1 < j1 → j1 ≤ j0 → j0 < b → (∀ (q : Nat) x, a + 1 ≤ q → q < i1 → l1[q]? = some x → A3b x pv = true) → (∀ (q : Nat) x, j1 < q → q < b → l1[q]? = some x → A3b x pv = false) →
     (∀ x, l1[i1]? = some x → A3b x pv = false) → (∀ x, l1[j1]? = some x → A3b x pv = true) → (swp l1 i1 j1)[a]? = some pv ∧ (∀ (q : Nat) x, a + 1 ≤ q → q < i1 + 1 → (swp l1 i1 j1)[q]? = some x → A3b x pv = true) ∧ (∀ (q : Nat) x, j1 - 1 < q → q < b → (swp l1 i1 j1)[q]? = some x → A3b x pv = false) := by
   intro l1 i0 i1 j0 j1 hlen hp h1 h2 h3 h4 h5 hA hB hi hj
   have ji : i1 < l1.length := by omega
   have jj : j1 < l1.length := by omega
   refine ⟨by rw [swp_get ji jj, if_neg (by omega), if_neg (by omega)]; exact hp, fun q x hq1 hq2 hx => ?_, fun q x hq1 hq2 hx => ?_⟩
   · rw [swp_get ji jj, if_neg (by omega)] at hx
     by_cases h : q = i1
     · rw [if_pos h] at hx; exact hj x hx
     · rw [if_neg h] at hx; exact hA q x hq1 (by omega) hx
   · rw [swp_get ji jj] at hx
     by_cases h : q = j1
     · rw [if_pos h] at hx; exact hi x hx
     · rw [if_neg h, if_neg (by omega)] at hx; exact hB q x (by omega) hq2 hx
 obtain ⟨s1,s2,s3⟩:=pair l1 (a+1) i1 (b - 1) j1 (by omega) hpa (Nat.le_refl _) (by omega) hij (by omega) (by omega) u7 (fun q x h1 h2 hx=>w7 q x h1 (by omega) hx) (u8 (by omega)) (w8 (by omega))
 refine A1b (fun m F' H2 => ∃ (i j : Nat) (l1 : List ByteArray), m = j + 1 - i ∧ a + 1 ≤ i ∧ i ≤ j + 1 ∧ j < b ∧ Mix a b l l1 ∧ l1[a]? = some pv ∧ (∀ (q : Nat) x, a + 1 ≤ q → q < i → l1[q]? = some x → A3b x pv = true) ∧ (∀ (q : Nat) x, j < q → q < b → l1[q]? = some x → A3b x pv = false) ∧ A3e H2 g k n l1 ∧ Chg (fun y => y = g) H H2 ∧
     F'.get 0 = some (.slice (some ⟨g, 0, some k⟩) l.length cap) ∧ F'.get 1 = some (.int .i64 (a : Int)) ∧ F'.get 10 = some (.int .i64 ((i : Nat) : Int)) ∧ F'.get 11 = some (.int .i64 ((j : Nat) : Int))) (m := j1 - 1 + 1 - (i1 + 1))
   ⟨i1 + 1, j1 - 1, swp l1 i1 j1, rfl, by omega, by omega, by omega, hm1.swap (by omega) (by omega) (by omega) (by omega), s1, s2, s3, hv2, hc1.trans hc2, by simp only [sx, reduceCtorEq, w0], by simp only [sx, Nat.reduceEqDiff, w1], by simp only [sx, Nat.reduceEqDiff], by simp only [sx]⟩ ?_
 clear xa xi xj hpa hm1 hv1 hlen ji1 jj1 s1 s2 s3 hv2 d1 d2 u7 u8 w7 w8
 clear hL0
 rintro m F H2 ⟨i0,j0,l1,rfl,hi0,hij0,hj0,hm1,hpa,hA,hB,hv1,hc1,f0,f1,fi,fj⟩ kk
 have hlen:=hm1.length
 have xa:H2.cell ⟨g,a,some k⟩=some (Value.string pv):=hv1.cell (by simp [hpa])
 simp only [↓Sh.dn]
 obtain ⟨MF3,hMF3⟩:∃ M:Fr→AH→Prop,M=fun F' H9=>H2=H9∧∃ v:Nat,F'.get 0=some (.slice (some ⟨g,0,some k⟩) l.length cap)∧F'.get 1=some (.int .i64 (a:Int))∧F'.get 10=some (.int .i64 ((v:Nat):Int))∧F'.get 11=some (.int .i64 ((j0:Nat):Int))∧i0≤v∧v≤j0+1∧(∀ (q:Nat) x,i0≤q→q < v→l1[q]?=some x→A3b x pv=true)∧(v≤j0→∀ x,l1[v]?=some x→A3b x pv=false):=⟨_,rfl⟩
 refine A61 MF3 (by rfl) ?_ ?_
 ·refine A1b (fun m F' H9 => H2 = H9 ∧ ∃ v : Nat, m = j0 + 1 - v ∧ F'.get 0 = some (.slice (some ⟨g, 0, some k⟩) l.length cap) ∧ F'.get 1 = some (.int .i64 (a : Int)) ∧ F'.get 10 = some (.int .i64 ((v : Nat) : Int)) ∧ F'.get 11 = some (.int .i64 ((j0 : Nat) : Int)) ∧ i0 ≤ v ∧ v ≤ j0 + 1 ∧ (∀ (q : Nat) x, i0 ≤ q → q < v → l1[q]? = some x → A3b x pv = true)) (m := j0 + 1 - i0)
    ⟨rfl, i0, rfl, by simp only [f0], by simp only [f1], by simp only [fi], by simp only [fj], by omega, by omega, fun q x h1 h2 => by omega⟩ ?_
  rintro m F' H9 ⟨rfl, v, rfl, g0, g1, gi, gj, h1, h2, h3⟩ k2
  simp only [↓Sh.dn]
  refine (A7a (by kernel_rfl)).2 ?_
  by_cases hle : v ≤ j0
  · have jv : v < l1.length := by omega
    have iv := A2d (g := g) (k := k) (cap := cap) (m := l.length) (i := v) (j := .i64) (by omega)
    have xv := A7c hv1 jv
    have qv : l1[v]? = some l1[v] := List.getElem?_eq_getElem jv
    have wv : IntKind.wrap .i64 ((v : Int) + 1) = ((v + 1 : Nat) : Int) := by rw [wrap64 (by omega) (by omega)]; rfl
    simp only [↓Sh.dn, sx, reduceCtorEq, Nat.reduceEqDiff, g0, g1, gi, gj, A5j, hle, decide_true, iv, ia, xv, xa]
    refine ⟨_, _, A6d, ?_⟩
    cases hlt : A3b l1[v] pv with
    | true =>
      simp only [↓Sh.dn, sx, Nat.reduceEqDiff, gi, wv]
      refine k2 (j0 + 1 - (v + 1)) _ _ (by omega) ⟨rfl, v + 1, rfl, by simp only [sx, reduceCtorEq, g0], by simp only [sx, Nat.reduceEqDiff, g1], by simp only [sx], by simp only [sx, Nat.reduceEqDiff, gj], by omega, by omega, fun q x hq1 hq2 hx => ?_⟩
      · by_cases hq : q = v
        · subst hq; rw [qv] at hx; rw [← Option.some.inj hx]; exact hlt
        · exact h3 q x (by omega) (by omega) hx
    | false =>
      simp only [↓Sh.dn, sx, reduceCtorEq, Nat.reduceEqDiff, hMF3, g0, g1, gi, gj]
      exact ⟨v, rfl, h1, h2, h3, fun _ x hx => by rw [qv] at hx; rw [← Option.some.inj hx]; exact hlt⟩
  · simp only [↓Sh.dn, sx, reduceCtorEq, Nat.reduceEqDiff, hMF3, g0, g1, gi, gj, A5j, hle, decide_false]
    exact ⟨v, rfl, h1, h2, h3, fun h => absurd h hle⟩
 intro F3 H9 h9
 rw [hMF3] at h9
 obtain ⟨rfl,i2,u0,u1,ui,uj,u5,u6,u7,u8⟩:=h9
 simp only [↓Sh.dn]
 obtain ⟨MF4,hMF4⟩:∃ M:Fr→AH→Prop,M=fun F' H9=>H2=H9∧∃ v:Nat,F'.get 0=some (.slice (some ⟨g,0,some k⟩) l.length cap)∧F'.get 1=some (.int .i64 (a:Int))∧F'.get 10=some (.int .i64 ((i2:Nat):Int))∧F'.get 11=some (.int .i64 ((v:Nat):Int))∧i2≤v+1∧v≤j0∧(∀ (q:Nat) x,v < q→q≤j0→l1[q]?=some x→A3b x pv=false)∧(i2≤v→∀ x,l1[v]?=some x→A3b x pv=true):=⟨_,rfl⟩
 refine A61 MF4 (by rfl) ?_ ?_
 ·refine A1b (fun m F' H9 => H2 = H9 ∧ ∃ v : Nat, m = v ∧ F'.get 0 = some (.slice (some ⟨g, 0, some k⟩) l.length cap) ∧ F'.get 1 = some (.int .i64 (a : Int)) ∧ F'.get 10 = some (.int .i64 ((i2 : Nat) : Int)) ∧ F'.get 11 = some (.int .i64 ((v : Nat) : Int)) ∧ i2 ≤ v + 1 ∧ v ≤ j0 ∧ (∀ (q : Nat) x, v < q → q ≤ j0 → l1[q]? = some x → A3b x pv = false)) (m := j0)
    ⟨rfl, j0, rfl, by simp only [u0], by simp only [u1], by simp only [ui], by simp only [uj], by omega, by omega, fun q x h1 h2 => by omega⟩ ?_
  rintro v F' H9 ⟨rfl, _, rfl, g0, g1, gi, gj, h1, h2, h3⟩ k2
  simp only [↓Sh.dn]
  refine (A7a (by kernel_rfl)).2 ?_
  by_cases hle : i2 ≤ v
  · have jv : v < l1.length := by omega
    have iv := A2d (g := g) (k := k) (cap := cap) (m := l.length) (i := v) (j := .i64) (by omega)
    have xv := A7c hv1 jv
    have qv : l1[v]? = some l1[v] := List.getElem?_eq_getElem jv
    have wv : IntKind.wrap .i64 ((v : Int) - 1) = ((v - 1 : Nat) : Int) := by rw [wrap64 (by omega) (by omega)]; omega
    simp only [↓Sh.dn, sx, reduceCtorEq, Nat.reduceEqDiff, g0, g1, gi, gj, A5j, hle, decide_true, iv, ia, xv, xa]
    refine ⟨_, _, A6d, ?_⟩
    cases hlt : A3b l1[v] pv with
    | false =>
      simp only [↓Sh.dn, sx, Nat.reduceEqDiff, gj, wv]
      refine k2 ((v - 1)) _ _ (by omega) ⟨rfl, v - 1, rfl, by simp only [sx, reduceCtorEq, g0], by simp only [sx, Nat.reduceEqDiff, g1], by simp only [sx, Nat.reduceEqDiff, gi], by simp only [sx], by omega, by omega, fun q x hq1 hq2 hx => ?_⟩
      · by_cases hq : q = v
        · subst hq; rw [qv] at hx; rw [← Option.some.inj hx]; exact hlt
        · exact h3 q x (by omega) (by omega) hx
    | true =>
      simp only [↓Sh.dn, sx, reduceCtorEq, Nat.reduceEqDiff, hMF4, g0, g1, gi, gj]
      exact ⟨v, rfl, h1, h2, h3, fun _ x hx => by rw [qv] at hx; rw [← Option.some.inj hx]; exact hlt⟩
  · simp only [↓Sh.dn, sx, reduceCtorEq, Nat.reduceEqDiff, hMF4, g0, g1, gi, gj, A5j, hle, decide_false]
    exact ⟨v, rfl, h1, h2, h3, fun h => absurd h hle⟩
 intro F4 H9 h9
 rw [hMF4] at h9
 obtain ⟨rfl,j2,w0,w1,wi,wj,w5,w6,w7,w8⟩:=h9
 have hA2:∀ (q:Nat) x,a+1≤q→q < i2→l1[q]?=some x→A3b x pv=true:=by
  intro q x h1 h2 hx
  by_cases h:q < i0
  ·exact hA q x h1 h hx
  ·exact u7 q x (by omega) h2 hx
 have hB2:∀ (q:Nat) x,j2 < q→q < b→l1[q]?=some x→A3b x pv=false:=by
  intro q x h1 h2 hx
  by_cases h:j0 < q
  ·exact hB q x h h2 hx
  ·exact w7 q x h1 (by omega) hx
 simp only [↓Sh.dn,sx,Nat.reduceEqDiff,wi,wj,A1a]
 by_cases hgt:j2 < i2
 ·have jj:j2 < l1.length:=by omega
  have ja1:a < l1.length:=by omega
  have ij:=A2d (g:=g) (k:=k) (cap:=cap) (m:=l.length) (i:=j2) (j:=.i64) (by omega)
  have xj:=A7c hv1 jj
  have xa':=A7c hv1 ja1
  obtain ⟨L3,L4,d1,d2,hv2,hc2,d5⟩:=A1j hv1 hc1.wf jj ja1
  obtain ⟨p1,p2,p3,p4⟩:=last l1 H1 i2 j2 hm1 hpa (by omega) (by omega) (fun q x h1 h2 hx=>hA2 q x h1 (by omega) hx) (fun q x h1 h2 hx=>hB2 q x h1 h2 hx)
  simp only [↓Sh.dn,sx,Nat.reduceBEq,hgt,decide_true]
  refine (A7a (by kernel_rfl)).2 ?_
  simp only [↓Sh.dn,sx,reduceCtorEq,Nat.reduceEqDiff,w0,w1,wj,ij,ia,xj,xa',A5m,d1,d2,hres]
  exact ⟨j2,_,rfl,by omega,by omega,swp l1 j2 a,p1,pv,p2,p3,p4,hv2,hc1.trans hc2⟩
 simp only [↓Sh.dn,sx,hgt,decide_false]
 have hij2:i2 < j2:=by
  by_cases h:i2=j2
  ·have h1:=u8 (by omega)
   have h2:=w8 (by omega)
   obtain ⟨x,hx⟩:∃ x,l1[i2]?=some x:=⟨_,List.getElem?_eq_getElem (by omega)⟩
   have a1:=h1 x hx
   have a2:=h2 x (by rw [← h]; exact hx)
   rw [a1] at a2; cases a2
  ·omega
 have ji1:i2 < l1.length:=by omega
 have jj1:j2 < l1.length:=by omega
 have ii2:=A2d (g:=g) (k:=k) (cap:=cap) (m:=l.length) (i:=i2) (j:=.i64) (by omega)
 have ij2:=A2d (g:=g) (k:=k) (cap:=cap) (m:=l.length) (i:=j2) (j:=.i64) (by omega)
 have xi:=A7c hv1 ji1
 have xj:=A7c hv1 jj1
 have yi2:IntKind.wrap .i64 ((i2:Int)+1)=((i2+1:Nat):Int):=by rw [wrap64 (by omega) (by omega)]; rfl
 have yj2:IntKind.wrap .i64 ((j2:Int) - 1)=((j2 - 1:Nat):Int):=by rw [wrap64 (by omega) (by omega)]; omega
 obtain ⟨L3,L4,d1,d2,hv2,hc2,d5⟩:=A1j hv1 hc1.wf ji1 jj1
 obtain ⟨s1,s2,s3⟩:=pair l1 i0 i2 j0 j2 (by omega) hpa hi0 (by omega) hij2 (by omega) (by omega) hA2 hB2 (u8 (by omega)) (w8 (by omega))
 refine (A7a (by kernel_rfl)).2 ?_
 simp only [↓Sh.dn,sx,reduceCtorEq,Nat.reduceEqDiff,w0,wi,wj,ii2,ij2,xi,xj,A5m,d1,d2,yi2,yj2]
 exact kk (j2 - 1+1 - (i2+1)) _ _ (by omega) ⟨i2+1,j2 - 1,swp l1 i2 j2,rfl,by omega,by omega,by omega,hm1.swap (by omega) (by omega) (by omega) (by omega),s1,s2,s3,hv2,hc1.trans hc2,by simp only [sx,reduceCtorEq,w0],by simp only [sx,Nat.reduceEqDiff,w1],by simp only [sx,Nat.reduceEqDiff],by simp only [sx]⟩
theorem A37 {p:Nat} (hv:A3e H g k n l) (hw:Wf H) (hl:l.length≤1048576) (hap:a≤p) (hpb:p < b) (hb:b≤l.length):
  Sh.Call Tryz.prog (knows 7) 135 [.slice (some ⟨g,0,some k⟩) l.length cap,.int .i64 (a:Int),.int .i64 (b:Int),.int .i64 (p:Int)] H
   (fun r H'=>∃ m:Nat,r=.int .i64 (m:Int)∧a < m∧m≤b∧∃ l':List ByteArray,Mix a b l l'∧(∀ (q:Nat) x,a≤q→q < m→l'[q]?=some x→A3b l[p] x=false)∧(∀ (q:Nat) x,m≤q→q < b→l'[q]?=some x→A3b l[p] x=true)∧A3e H' g k n l'∧Chg (fun y=>y=g) H H'):=by
 refine A2a rfl Tryz.func135 rfl (Nat.le_of_ble_eq_true rfl) ?_
 have hTO:=strTO
 have ja:a < l.length:=by omega
 have jp:p < l.length:=by omega
 have ia:=A2d (g:=g) (k:=k) (cap:=cap) (m:=l.length) (i:=a) (j:=.i64) ja
 have ip:=A2d (g:=g) (k:=k) (cap:=cap) (m:=l.length) (i:=p) (j:=.i64) jp
 have xa:=A7c hv ja
 have xp:=A7c hv jp
 have wa:IntKind.wrap .i64 ((a:Int)+1)=((a+1:Nat):Int):=by rw [wrap64 (by omega) (by omega)]; rfl
 have wb:IntKind.wrap .i64 ((b:Int) - 1)=((b - 1:Nat):Int):=by rw [wrap64 (by omega) (by omega)]; omega
 obtain ⟨K1,H1,e1,e2,hv1,hc1,e5⟩:=A1j hv hw ja jp
 have hm1:Mix a b l (swp l a p):=(Mix.refl l).swap (by omega) (by omega) (by omega) (by omega)
 simp only [↓Sh.dn,sx]
 refine (A7a (by kernel_rfl)).2 ?_
 simp only [↓Sh.dn,sx,reduceCtorEq,Nat.reduceEqDiff,ia,ip,xa,xp,A5m,e1,e2,wa,wb]
 have hpa:(swp l a p)[a]?=some l[p]:=by
  rw [swp_get ja jp]
  by_cases h:a=p
  ·rw [if_pos h,List.getElem?_eq_getElem ja]; simp only [h]
  ·rw [if_neg h,if_pos rfl]; exact List.getElem?_eq_getElem jp
 generalize l[p]=pv at hpa xp e1 ⊢
 generalize hL0:swp l a p=l0 at hpa hm1 hv1
 have hres:Tryz.f135.results.toList=[.tmp 8]:=rfl
 have pair : ∀ (l1 : List ByteArray) (i1 j1 : Nat), l1.length = l.length → l1[a]? = some pv → a + 1 ≤ i1 → i1 < j1 → j1 < b → (∀ (q : Nat) x, a + 1 ≤ q → q < i1 → l1[q]? = some x → A3b pv x = false) → (∀ (q : Nat) x, j1 < q → q < b → l1[q]? = some x → A3b pv x = true) →
     (∀ x, l1[i1]? = some x → A3b pv x = true) → (∀ x, l1[j1]? = some x → A3b pv x = false) → (swp l1 i1 j1)[a]? = some pv ∧ (∀ (q : Nat) x, a + 1 ≤ q → q < i1 + 1 → (swp l1 i1 j1)[q]? = some x → A3b pv x = false) ∧ (∀ (q : Nat) x, j1 - 1 < q → q < b → (swp l1 i1 j1)[q]? = some x → A3b pv x = true) := by
   intro l1 i1 j1 hlen hp h1 h3 h5 hA hB hi hj
   have ji : i1 < l1.length := by omega
   have jj : j1 < l1.length := by omega
   refine ⟨by rw [swp_get ji jj, if_neg (by omega), if_neg (by omega)]; exact hp, fun q x hq1 hq2 hx => ?_, fun q x hq1 hq2 hx => ?_⟩
   · rw [swp_get ji jj, if_neg (by omega)] at hx
     by_cases h : q = i1
     · rw [if_pos h] at hx; exact hj x hx
     · rw [if_neg h] at hx; exact hA q x hq1 (by omega) hx
   · rw [swp_get ji jj] at hx
     by_cases h : q = j1
     · rw [if_pos h] at hx; exact hi x hx
     · rw [if_neg h, if_neg (by omega)] at hx; exact hB q x (by omega) hq2 hx
 refine A1b (fun m F' H2 => ∃ (i j : Nat) (l1 : List ByteArray), m = j + 1 - i ∧ a + 1 ≤ i ∧ i ≤ j + 1 ∧ j < b ∧ Mix a b l l1 ∧ l1[a]? = some pv ∧ (∀ (q : Nat) x, a + 1 ≤ q → q < i → l1[q]? = some x → A3b pv x = false) ∧ (∀ (q : Nat) x, j < q → q < b → l1[q]? = some x → A3b pv x = true) ∧ A3e H2 g k n l1 ∧ Chg (fun y => y = g) H H2 ∧
     F'.get 0 = some (.slice (some ⟨g, 0, some k⟩) l.length cap) ∧ F'.get 1 = some (.int .i64 (a : Int)) ∧ F'.get 9 = some (.int .i64 ((i : Nat) : Int)) ∧ F'.get 10 = some (.int .i64 ((j : Nat) : Int))) (m := b - 1 + 1 - (a + 1))
   ⟨a + 1, b - 1, l0, rfl, by omega, by omega, by omega, hm1, hpa, fun q x h1 h2 => by omega, fun q x h1 h2 => by omega, hv1, hc1, by simp only [sx, reduceCtorEq], by simp only [sx, Nat.reduceEqDiff], by simp only [sx, Nat.reduceEqDiff], by simp only [sx]⟩ ?_
 clear xa hpa hm1 hv1
 clear hL0
 rintro m F H2 ⟨i0,j0,l1,rfl,hi0,hij0,hj0,hm1,hpa,hA,hB,hv1,hc1,f0,f1,fi,fj⟩ kk
 have hlen:=hm1.length
 have xa:H2.cell ⟨g,a,some k⟩=some (Value.string pv):=hv1.cell (by simp [hpa])
 simp only [↓Sh.dn]
 obtain ⟨MF3,hMF3⟩:∃ M:Fr→AH→Prop,M=fun F' H9=>H2=H9∧∃ v:Nat,F'.get 0=some (.slice (some ⟨g,0,some k⟩) l.length cap)∧F'.get 1=some (.int .i64 (a:Int))∧F'.get 9=some (.int .i64 ((v:Nat):Int))∧F'.get 10=some (.int .i64 ((j0:Nat):Int))∧i0≤v∧v≤j0+1∧(∀ (q:Nat) x,i0≤q→q < v→l1[q]?=some x→A3b pv x=false)∧(v≤j0→∀ x,l1[v]?=some x→A3b pv x=true):=⟨_,rfl⟩
 refine A61 MF3 (by rfl) ?_ ?_
 ·refine A1b (fun m F' H9 => H2 = H9 ∧ ∃ v : Nat, m = j0 + 1 - v ∧ F'.get 0 = some (.slice (some ⟨g, 0, some k⟩) l.length cap) ∧ F'.get 1 = some (.int .i64 (a : Int)) ∧ F'.get 9 = some (.int .i64 ((v : Nat) : Int)) ∧ F'.get 10 = some (.int .i64 ((j0 : Nat) : Int)) ∧ i0 ≤ v ∧ v ≤ j0 + 1 ∧ (∀ (q : Nat) x, i0 ≤ q → q < v → l1[q]? = some x → A3b pv x = false)) (m := j0 + 1 - i0)
    ⟨rfl, i0, rfl, by simp only [f0], by simp only [f1], by simp only [fi], by simp only [fj], by omega, by omega, fun q x h1 h2 => by omega⟩ ?_
  rintro m F' H9 ⟨rfl, v, rfl, g0, g1, gi, gj, h1, h2, h3⟩ k2
  simp only [↓Sh.dn]
  refine (A7a (by kernel_rfl)).2 ?_
  by_cases hle : v ≤ j0
  · have jv : v < l1.length := by omega
    have iv := A2d (g := g) (k := k) (cap := cap) (m := l.length) (i := v) (j := .i64) (by omega)
    have xv := A7c hv1 jv
    have qv : l1[v]? = some l1[v] := List.getElem?_eq_getElem jv
    have wv : IntKind.wrap .i64 ((v : Int) + 1) = ((v + 1 : Nat) : Int) := by rw [wrap64 (by omega) (by omega)]; rfl
    simp only [↓Sh.dn, sx, reduceCtorEq, Nat.reduceEqDiff, g0, g1, gi, gj, A5j, hle, decide_true, iv, ia, xv, xa]
    refine ⟨_, _, A6d, ?_⟩
    cases hlt : A3b pv l1[v] with
    | false =>
      simp only [↓Sh.dn, sx, Nat.reduceEqDiff, gi, wv]
      refine k2 (j0 + 1 - (v + 1)) _ _ (by omega) ⟨rfl, v + 1, rfl, by simp only [sx, reduceCtorEq, g0], by simp only [sx, Nat.reduceEqDiff, g1], by simp only [sx], by simp only [sx, Nat.reduceEqDiff, gj], by omega, by omega, fun q x hq1 hq2 hx => ?_⟩
      · by_cases hq : q = v
        · subst hq; rw [qv] at hx; rw [← Option.some.inj hx]; exact hlt
        · exact h3 q x (by omega) (by omega) hx
    | true =>
      simp only [↓Sh.dn, sx, reduceCtorEq, Nat.reduceEqDiff, hMF3, g0, g1, gi, gj]
      exact ⟨v, rfl, h1, h2, h3, fun _ x hx => by rw [qv] at hx; rw [← Option.some.inj hx]; exact hlt⟩
  · simp only [↓Sh.dn, sx, reduceCtorEq, Nat.reduceEqDiff, hMF3, g0, g1, gi, gj, A5j, hle, decide_false]
    exact ⟨v, rfl, h1, h2, h3, fun h => absurd h hle⟩
 intro F3 H9 h9
 rw [hMF3] at h9
 obtain ⟨rfl,i2,u0,u1,ui,uj,u5,u6,u7,u8⟩:=h9
 simp only [↓Sh.dn]
 obtain ⟨MF4,hMF4⟩:∃ M:Fr→AH→Prop,M=fun F' H9=>H2=H9∧∃ v:Nat,F'.get 0=some (.slice (some ⟨g,0,some k⟩) l.length cap)∧F'.get 1=some (.int .i64 (a:Int))∧F'.get 9=some (.int .i64 ((i2:Nat):Int))∧F'.get 10=some (.int .i64 ((v:Nat):Int))∧i2≤v+1∧v≤j0∧(∀ (q:Nat) x,v < q→q≤j0→l1[q]?=some x→A3b pv x=true)∧(i2≤v→∀ x,l1[v]?=some x→A3b pv x=false):=⟨_,rfl⟩
 refine A61 MF4 (by rfl) ?_ ?_
 ·refine A1b (fun m F' H9 => H2 = H9 ∧ ∃ v : Nat, m = v ∧ F'.get 0 = some (.slice (some ⟨g, 0, some k⟩) l.length cap) ∧ F'.get 1 = some (.int .i64 (a : Int)) ∧ F'.get 9 = some (.int .i64 ((i2 : Nat) : Int)) ∧ F'.get 10 = some (.int .i64 ((v : Nat) : Int)) ∧ i2 ≤ v + 1 ∧ v ≤ j0 ∧ (∀ (q : Nat) x, v < q → q ≤ j0 → l1[q]? = some x → A3b pv x = true)) (m := j0)
    ⟨rfl, j0, rfl, by simp only [u0], by simp only [u1], by simp only [ui], by simp only [uj], by omega, by omega, fun q x h1 h2 => by omega⟩ ?_
  rintro v F' H9 ⟨rfl, _, rfl, g0, g1, gi, gj, h1, h2, h3⟩ k2
  simp only [↓Sh.dn]
  refine (A7a (by kernel_rfl)).2 ?_
  by_cases hle : i2 ≤ v
  · have jv : v < l1.length := by omega
    have iv := A2d (g := g) (k := k) (cap := cap) (m := l.length) (i := v) (j := .i64) (by omega)
    have xv := A7c hv1 jv
    have qv : l1[v]? = some l1[v] := List.getElem?_eq_getElem jv
    have wv : IntKind.wrap .i64 ((v : Int) - 1) = ((v - 1 : Nat) : Int) := by rw [wrap64 (by omega) (by omega)]; omega
    simp only [↓Sh.dn, sx, reduceCtorEq, Nat.reduceEqDiff, g0, g1, gi, gj, A5j, hle, decide_true, iv, ia, xv, xa]
    refine ⟨_, _, A6d, ?_⟩
    cases hlt : A3b pv l1[v] with
    | true =>
      simp only [↓Sh.dn, sx, Nat.reduceEqDiff, gj, wv]
      refine k2 ((v - 1)) _ _ (by omega) ⟨rfl, v - 1, rfl, by simp only [sx, reduceCtorEq, g0], by simp only [sx, Nat.reduceEqDiff, g1], by simp only [sx, Nat.reduceEqDiff, gi], by simp only [sx], by omega, by omega, fun q x hq1 hq2 hx => ?_⟩
      · by_cases hq : q = v
        · subst hq; rw [qv] at hx; rw [← Option.some.inj hx]; exact hlt
        · exact h3 q x (by omega) (by omega) hx
    | false =>
      simp only [↓Sh.dn, sx, reduceCtorEq, Nat.reduceEqDiff, hMF4, g0, g1, gi, gj]
      exact ⟨v, rfl, h1, h2, h3, fun _ x hx => by rw [qv] at hx; rw [← Option.some.inj hx]; exact hlt⟩
  · simp only [↓Sh.dn, sx, reduceCtorEq, Nat.reduceEqDiff, hMF4, g0, g1, gi, gj, A5j, hle, decide_false]
    exact ⟨v, rfl, h1, h2, h3, fun h => absurd h hle⟩
 intro F4 H9 h9
 rw [hMF4] at h9
 obtain ⟨rfl,j2,w0,w1,wi,wj,w5,w6,w7,w8⟩:=h9
 have hA2:∀ (q:Nat) x,a+1≤q→q < i2→l1[q]?=some x→A3b pv x=false:=by
  intro q x h1 h2 hx
  by_cases h:q < i0
  ·exact hA q x h1 h hx
  ·exact u7 q x (by omega) h2 hx
 have hB2:∀ (q:Nat) x,j2 < q→q < b→l1[q]?=some x→A3b pv x=true:=by
  intro q x h1 h2 hx
  by_cases h:j0 < q
  ·exact hB q x h h2 hx
  ·exact w7 q x h1 (by omega) hx
 simp only [↓Sh.dn,sx,Nat.reduceEqDiff,wi,wj,A1a]
 by_cases hgt:j2 < i2
 ·simp only [↓Sh.dn,sx,Nat.reduceBEq,Nat.reduceEqDiff,hgt,decide_true,wi,hres]
  refine ⟨i2,rfl,by omega,by omega,l1,hm1,fun q x h1 h2 hx=>?_,fun q x h1 h2 hx=>hB2 q x (by omega) h2 hx,hv1,hc1⟩
  by_cases h:q=a
  ·subst h; rw [hpa] at hx; rw [← Option.some.inj hx]; exact hTO.irrefl pv
  ·exact hA2 q x (by omega) h2 hx
 simp only [↓Sh.dn,sx,hgt,decide_false]
 have hij2:i2 < j2:=by
  by_cases h:i2=j2
  ·have h1:=u8 (by omega)
   have h2:=w8 (by omega)
   obtain ⟨x,hx⟩:∃ x,l1[i2]?=some x:=⟨_,List.getElem?_eq_getElem (by omega)⟩
   have a1:=h1 x hx
   have a2:=h2 x (by rw [← h]; exact hx)
   rw [a1] at a2; cases a2
  ·omega
 have ji1:i2 < l1.length:=by omega
 have jj1:j2 < l1.length:=by omega
 have ii2:=A2d (g:=g) (k:=k) (cap:=cap) (m:=l.length) (i:=i2) (j:=.i64) (by omega)
 have ij2:=A2d (g:=g) (k:=k) (cap:=cap) (m:=l.length) (i:=j2) (j:=.i64) (by omega)
 have xi:=A7c hv1 ji1
 have xj:=A7c hv1 jj1
 have yi2:IntKind.wrap .i64 ((i2:Int)+1)=((i2+1:Nat):Int):=by rw [wrap64 (by omega) (by omega)]; rfl
 have yj2:IntKind.wrap .i64 ((j2:Int) - 1)=((j2 - 1:Nat):Int):=by rw [wrap64 (by omega) (by omega)]; omega
 obtain ⟨L3,L4,d1,d2,hv2,hc2,d5⟩:=A1j hv1 hc1.wf ji1 jj1
 obtain ⟨s1,s2,s3⟩:=pair l1 i2 j2 (by omega) hpa (by omega) hij2 (by omega) hA2 hB2 (u8 (by omega)) (w8 (by omega))
 refine (A7a (by kernel_rfl)).2 ?_
 simp only [↓Sh.dn,sx,reduceCtorEq,Nat.reduceEqDiff,w0,wi,wj,ii2,ij2,xi,xj,A5m,d1,d2,yi2,yj2]
 exact kk (j2 - 1+1 - (i2+1)) _ _ (by omega) ⟨i2+1,j2 - 1,swp l1 i2 j2,rfl,by omega,by omega,by omega,hm1.swap (by omega) (by omega) (by omega) (by omega),s1,s2,s3,hv2,hc1.trans hc2,by simp only [sx,reduceCtorEq,w0],by simp only [sx,Nat.reduceEqDiff,w1],by simp only [sx,Nat.reduceEqDiff],by simp only [sx]⟩
end
end Go.Proofs.YtcgbiedfbacgpaaGreat
/- partialInsertionSortOrdered. -/
namespace Go.Proofs.YtcgbiedfbacgpaaGreat
open Go Go.Proofs Go.Proofs.Sh
def B8e (a i:Nat) (m:List ByteArray):Prop:=∀ (p:Nat) x y,a≤p→p+1 < i→m[p]?=some x→m[p+1]?=some y→A3b y x=false
def PreStr (a b:Nat) (l:List ByteArray):Prop:=∀ (q:Nat) x y,0 < a→l[a - 1]?=some y→a≤q→q < b→l[q]?=some x→A3b x y=false
theorem PreStr.mix {a b:Nat} {l m:List ByteArray} (h:PreStr a b l) (hm:Mix a b l m) (hb:b≤l.length):PreStr a b m:=by
 intro q x y h0 hy h1 h2 hx
 rw [hm.out (.inl (by omega))] at hy
 exact hm.all (p:=fun x=>A3b x y=false) hb (fun i z hi1 hi2 hz=>h i z y h0 hy hi1 hi2 hz) q x h1 h2 hx
theorem A03 {H:AH} {g k n cap a b:Nat} {l:List ByteArray} (hv:A3e H g k n l) (hw:Wf H) (hl:l.length≤1048576) (hab:a < b) (hb:b≤l.length) (hpre:PreStr a b l):
  Sh.Call Tryz.prog (knows 7) 134 [.slice (some ⟨g,0,some k⟩) l.length cap,.int .i64 (a:Int),.int .i64 (b:Int)] H
   (fun r H'=>∃ bb:Bool,r=.bool bb∧∃ l',Mix a b l l'∧(bb=true→Srt A3b a b l')∧A3e H' g k n l'∧Chg (fun y=>y=g) H H'):=by
 refine A2a rfl Tryz.func134 rfl (Nat.le_of_ble_eq_true rfl) ?_
 have hres:Tryz.f134.results.toList=[.tmp 6]:=rfl
 have hTO:=strTO
 have w1:IntKind.wrap .i64 ((a:Int)+1)=((a+1:Nat):Int):=by rw [wrap64 (by omega) (by omega)]; rfl
 have wba:IntKind.wrap .i64 ((b:Int) - (a:Int))=((b - a:Nat):Int):=by rw [wrap64 (by omega) (by omega)]; omega
 simp only [↓Sh.dn,sx,Nat.reduceEqDiff,w1]
 refine A1b (fun m F H' => ∃ (c i : Nat) (l1 : List ByteArray), m = 5 - c ∧ c ≤ 5 ∧ a + 1 ≤ i ∧ i ≤ b ∧ Mix a b l l1 ∧ B8e a i l1 ∧ A3e H' g k n l1 ∧ Chg (fun y => y = g) H H' ∧
     F.get 0 = some (.slice (some ⟨g, 0, some k⟩) l.length cap) ∧ F.get 1 = some (.int .i64 (a : Int)) ∧ F.get 2 = some (.int .i64 (b : Int)) ∧ F.get 7 = some (.int .i64 (i : Int)) ∧ F.get 8 = some (.int .i64 (c : Int))) (m := 5)
   ⟨0, a + 1, l, rfl, by omega, by omega, by omega, .refl l, fun p x y h1 h2 => by omega, hv, Chg.refl hw, by simp only [sx, reduceCtorEq], by simp only [sx, Nat.reduceEqDiff], by simp only [sx, Nat.reduceEqDiff], by simp only [sx, Nat.reduceEqDiff], by simp only [sx]; rfl⟩ ?_
 rintro m F H' ⟨c,i,l1,rfl,hc5,hai,hib,hm,hadj,hv1,hc1,f0,f1,f2,f7,f8⟩ kk
 have hlen:=hm.length
 by_cases hlt:c < 5
 case neg=>
  have d:decide ((c:Int) < 5)=false:=by simp; omega
  simp only [↓Sh.dn,sx,f8,d,hres]
  exact ⟨l1,hm,hv1,hc1⟩
 have d:decide ((c:Int) < 5)=true:=by simp; omega
 simp only [↓Sh.dn,sx,f8,d]
 obtain ⟨M1, hM1⟩ : ∃ M : Fr → AH → Prop, M = fun F' H9 => H' = H9 ∧ ∃ v : Nat, F'.get 0 = some (.slice (some ⟨g, 0, some k⟩) l.length cap) ∧ F'.get 1 = some (.int .i64 (a : Int)) ∧ F'.get 2 = some (.int .i64 (b : Int)) ∧ F'.get 7 = some (.int .i64 (v : Int)) ∧ F'.get 8 = some (.int .i64 (c : Int)) ∧
     i ≤ v ∧ v ≤ b ∧ B8e a v l1 := ⟨_, rfl⟩
 refine A61 M1 (by rfl) ?_ ?_
 ·refine A1b (fun m F' H9 => H' = H9 ∧ ∃ v : Nat, m = b - v ∧ F'.get 0 = some (.slice (some ⟨g, 0, some k⟩) l.length cap) ∧ F'.get 1 = some (.int .i64 (a : Int)) ∧ F'.get 2 = some (.int .i64 (b : Int)) ∧ F'.get 7 = some (.int .i64 (v : Int)) ∧ F'.get 8 = some (.int .i64 (c : Int)) ∧
    i ≤ v ∧ v ≤ b ∧ B8e a v l1) (m := b - i)
    ⟨rfl, i, rfl, by simp only [sx, reduceCtorEq, f0], by simp only [sx, Nat.reduceEqDiff, f1], by simp only [sx, Nat.reduceEqDiff, f2], by simp only [sx, Nat.reduceEqDiff, f7], by simp only [sx, Nat.reduceEqDiff, f8], Nat.le_refl _, hib, hadj⟩ ?_
  rintro m F' H9 ⟨rfl, v, rfl, g0, g1, g2, g7, g8, h1, h2, h3⟩ k2
  simp only [↓Sh.dn]
  refine (A7a (by kernel_rfl)).2 ?_
  by_cases hvb : v < b
  · have jv : v < l1.length := by omega
    have jw : v - 1 < l1.length := by omega
    have iv := A2d (g := g) (k := k) (cap := cap) (m := l.length) (i := v) (j := .i64) (by omega)
    have iw := A2d (g := g) (k := k) (cap := cap) (m := l.length) (i := v - 1) (j := .i64) (by omega)
    have xv := A7c hv1 jv
    have xw := A7c hv1 jw
    have wv : IntKind.wrap .i64 ((v : Int) - 1) = ((v - 1 : Nat) : Int) := by rw [wrap64 (by omega) (by omega)]; omega
    have wv2 : IntKind.wrap .i64 ((v : Int) + 1) = ((v + 1 : Nat) : Int) := by rw [wrap64 (by omega) (by omega)]; rfl
    simp only [↓Sh.dn, sx, reduceCtorEq, Nat.reduceEqDiff, g0, g2, g7, A1a, hvb, decide_true, wv, iv, iw, xv, xw]
    refine ⟨_, _, A6d, ?_⟩
    cases hq : A3b l1[v] l1[v - 1] with
    | false =>
      simp only [↓Sh.dn, sx, Nat.reduceEqDiff, g7, wv2]
      refine k2 (b - (v + 1)) _ _ (by omega) ⟨rfl, v + 1, rfl, by simp only [sx, reduceCtorEq, g0], by simp only [sx, Nat.reduceEqDiff, g1], by simp only [sx, Nat.reduceEqDiff, g2], by simp only [sx], by simp only [sx, Nat.reduceEqDiff, g8], by omega, by omega, fun p x y hp1 hp2 hx hy => ?_⟩
      by_cases hpv : p + 1 = v
      · have e1 : l1[v]? = some l1[v] := List.getElem?_eq_getElem jv
        have e2 : l1[v - 1]? = some l1[v - 1] := List.getElem?_eq_getElem jw
        rw [hpv, e1] at hy
        rw [show p = v - 1 by omega, e2] at hx
        rw [← Option.some.inj hx, ← Option.some.inj hy]; exact hq
      · exact h3 p x y hp1 (by omega) hx hy
    | true =>
      simp only [↓Sh.dn, sx, reduceCtorEq, Nat.reduceEqDiff, hM1, g0, g1, g2, g7, g8]
      exact ⟨v, rfl, h1, h2, h3⟩
  · simp only [↓Sh.dn, sx, reduceCtorEq, Nat.reduceEqDiff, hM1, g0, g1, g2, g7, g8, A1a, hvb, decide_false]
    exact ⟨v, rfl, h1, h2, h3⟩
 intro F1 H9 h9
 rw [hM1] at h9
 obtain ⟨rfl,v,f0,f1,f2,f7,f8,hiv,hvb,hadj⟩:=h9
 by_cases hend:v=b
 ·have d:decide ((v:Int)=(b:Int))=true:=by simp [hend]
  simp only [↓Sh.dn,sx,Nat.reduceEqDiff,f2,f7,d,hres]
  exact ⟨l1,hm,B2c hTO (by rw [← hend]; exact hadj),hv1,hc1⟩
 have d:decide ((v:Int)=(b:Int))=false:=by simp; omega
 simp only [↓Sh.dn,sx,Nat.reduceEqDiff,f1,f2,f7,d,wba]
 by_cases h50:b - a < 50
 ·have d:decide (((b - a:Nat):Int) < 50)=true:=by simp; omega
  simp only [↓Sh.dn,sx,d,hres]
  exact ⟨l1,hm,hv1,hc1⟩
 have d:decide (((b - a:Nat):Int) < 50)=false:=by simp; omega
 simp only [↓Sh.dn,sx,d]
 have jv:v < l1.length:=by omega
 have jw:v - 1 < l1.length:=by omega
 have iv:=A2d (g:=g) (k:=k) (cap:=cap) (m:=l.length) (i:=v) (j:=.i64) (by omega)
 have iw:=A2d (g:=g) (k:=k) (cap:=cap) (m:=l.length) (i:=v - 1) (j:=.i64) (by omega)
 have xv:=A7c hv1 jv
 have xw:=A7c hv1 jw
 have wv:IntKind.wrap .i64 ((v:Int) - 1)=((v - 1:Nat):Int):=by rw [wrap64 (by omega) (by omega)]; omega
 have wv2:IntKind.wrap .i64 ((v:Int)+1)=((v+1:Nat):Int):=by rw [wrap64 (by omega) (by omega)]; rfl
 have wva:IntKind.wrap .i64 ((v:Int) - (a:Int))=((v - a:Nat):Int):=by rw [wrap64 (by omega) (by omega)]; omega
 have wbv:IntKind.wrap .i64 ((b:Int) - (v:Int))=((b - v:Nat):Int):=by rw [wrap64 (by omega) (by omega)]; omega
 have wc:IntKind.wrap .i64 ((c:Int)+1)=((c+1:Nat):Int):=by rw [wrap64 (by omega) (by omega)]; rfl
 obtain ⟨L1,L2,d1,d2,hv2,hc2,d5⟩:=A1j hv1 hc1.wf jv jw
 have hm2:Mix a b l (swp l1 v (v - 1)):=hm.swap (by omega) (by omega) (by omega) (by omega)
 refine (A7a (by kernel_rfl)).2 ?_
 simp only [↓Sh.dn,sx,reduceCtorEq,Nat.reduceEqDiff,f0,f1,f7,wv,iv,iw,xv,xw,A5m,d1,d2,wva]
 have hA2:∀ (p:Nat) x y,a≤p→p+1 < v→p+1≠v - 1→(swp l1 v (v - 1))[p]?=some x→(swp l1 v (v - 1))[p+1]?=some y→A3b y x=false:=by
  intro p x y h1 h2 h3 hx hy
  rw [swp_get jv jw,if_neg (by omega),if_neg (by omega)] at hx hy
  exact hadj p x y h1 (by omega) hx hy
 have hc12:=hc1.trans hc2
 generalize swp l1 v (v - 1)=l2 at hv2 hm2 hA2
 obtain ⟨M2,hM2⟩:∃ M:Fr→AH→Prop,M=fun F' H9=>∃ l3:List ByteArray,Mix a b l l3∧B8e a v l3∧A3e H9 g k n l3∧Chg (fun y=>y=g) H H9∧F'.get 0=some (.slice (some ⟨g,0,some k⟩) l.length cap)∧F'.get 1=some (.int .i64 (a:Int))∧F'.get 2=some (.int .i64 (b:Int))∧F'.get 7=some (.int .i64 (v:Int))∧F'.get 8=some (.int .i64 (c:Int)):=⟨_,rfl⟩
 refine B5l M2 (by rfl) ?_ ?_
 ·by_cases hva:2≤v - a
  case neg=>
   have d:decide ((2:Int)≤((v - a:Nat):Int))=false:=by simp; omega
   simp only [↓Sh.dn,sx,reduceCtorEq,Nat.reduceEqDiff,d,hM2,f0,f1,f2,f7,f8]
   exact ⟨l2,hm2,fun p x y h1 h2 hx hy=>by omega,hv2,hc12⟩
  have d:decide ((2:Int)≤((v - a:Nat):Int))=true:=by simp; omega
  simp only [↓Sh.dn,sx,Nat.reduceEqDiff,d,f7,wv]
  refine A1b (fun j F' H9 => ∃ l3 : List ByteArray, a ≤ j ∧ j ≤ v - 1 ∧ Mix a b l l3 ∧ (∀ (p : Nat) x y, a ≤ p → p + 1 < v → p + 1 ≠ j → l3[p]? = some x → l3[p + 1]? = some y → A3b y x = false) ∧ (∀ x y, a < j → j + 1 < v → l3[j - 1]? = some x → l3[j + 1]? = some y → A3b y x = false) ∧ A3e H9 g k n l3 ∧ Chg (fun y => y = g) H H9 ∧
      F'.get 0 = some (.slice (some ⟨g, 0, some k⟩) l.length cap) ∧ F'.get 1 = some (.int .i64 (a : Int)) ∧ F'.get 2 = some (.int .i64 (b : Int)) ∧ F'.get 7 = some (.int .i64 (v : Int)) ∧ F'.get 8 = some (.int .i64 (c : Int)) ∧ F'.get 9 = some (.int .i64 (j : Int))) (m := v - 1)
    ⟨l2, by omega, Nat.le_refl _, hm2, hA2, fun x y h1 h2 => by omega, hv2, hc12, by simp only [sx, reduceCtorEq, f0], by simp only [sx, Nat.reduceEqDiff, f1], by simp only [sx, Nat.reduceEqDiff, f2], by simp only [sx, Nat.reduceEqDiff, f7], by simp only [sx, Nat.reduceEqDiff, f8], by simp only [sx]⟩ ?_
  rintro j F' H9 ⟨l3,haj,hjv,hm3,hA,hB,hv3,hc3,g0,g1,g2,g7,g8,g9⟩ k2
  have hlen3:=hm3.length
  have hall:j=a→B8e a v l3:=fun h p x y h1 h2 hx hy=>hA p x y h1 h2 (by omega) hx hy
  by_cases hj0:1≤j
  case neg=>
   have d:decide ((1:Int)≤(j:Int))=false:=by simp; omega
   simp only [↓Sh.dn,sx,reduceCtorEq,Nat.reduceEqDiff,g9,d,hM2,g0,g1,g2,g7,g8]
   exact ⟨l3,hm3,hall (by omega),hv3,hc3⟩
  have d:decide ((1:Int)≤(j:Int))=true:=by simp; omega
  have jj:j < l3.length:=by omega
  have jj1:j - 1 < l3.length:=by omega
  have ij:=A2d (g:=g) (k:=k) (cap:=cap) (m:=l.length) (i:=j) (j:=.i64) (by omega)
  have ij1:=A2d (g:=g) (k:=k) (cap:=cap) (m:=l.length) (i:=j - 1) (j:=.i64) (by omega)
  have xj:=A7c hv3 jj
  have xj1:=A7c hv3 jj1
  have q1:l3[j]?=some l3[j]:=List.getElem?_eq_getElem jj
  have q2:l3[j - 1]?=some l3[j - 1]:=List.getElem?_eq_getElem jj1
  have wj:IntKind.wrap .i64 ((j:Int) - 1)=((j - 1:Nat):Int):=by rw [wrap64 (by omega) (by omega)]; omega
  simp only [↓Sh.dn,sx,g9,d]
  refine (A7a (by kernel_rfl)).2 ?_
  simp only [↓Sh.dn,sx,reduceCtorEq,Nat.reduceEqDiff,g0,g9,wj,ij,ij1,xj,xj1]
  refine ⟨_,_,A6d,?_⟩
  cases hq:A3b l3[j] l3[j - 1] with
  | false=>
   simp only [↓Sh.dn,sx,Nat.reduceBEq,reduceCtorEq,Nat.reduceEqDiff,hM2,g0,g1,g2,g7,g8]
   refine ⟨l3,hm3,fun p x y h1 h2 hx hy=>?_,hv3,hc3⟩
   by_cases hp:p+1=j
   ·rw [hp,q1] at hy
    rw [show p=j - 1 by omega,q2] at hx
    rw [← Option.some.inj hx,← Option.some.inj hy]; exact hq
   ·exact hA p x y h1 h2 hp hx hy
  | true=>
   have haj':a < j:=by
    by_cases h:j=a
    ·subst h
     have:=hpre.mix hm3 hb j _ _ (by omega) q2 (Nat.le_refl _) hab q1
     rw [this] at hq; cases hq
    ·omega
   obtain ⟨L3,L4,c1,c2,hv4,hc4,c5⟩:=A1j hv3 hc3.wf jj jj1
   simp only [↓Sh.dn,sx]
   refine (A7a (by kernel_rfl)).2 ?_
   simp only [↓Sh.dn,sx,reduceCtorEq,Nat.reduceEqDiff,g0,g9,wj,ij,ij1,xj,xj1,A5m,c1,c2]
   refine k2 (j - 1) _ _ (by omega) ⟨swp l3 j (j - 1),by omega,by omega,hm3.swap (by omega) (by omega) (by omega) (by omega),fun p x y h1 h2 h3 hx hy=>?_,fun x y h1 h2 hx hy=>?_,hv4,hc3.trans hc4,by simp only [sx,reduceCtorEq,g0],by simp only [sx,Nat.reduceEqDiff,g1],by simp only [sx,Nat.reduceEqDiff,g2],by simp only [sx,Nat.reduceEqDiff,g7],by simp only [sx,Nat.reduceEqDiff,g8],by simp only [sx]⟩
   ·rw [swp_get jj jj1] at hx hy
    by_cases hp1:p+1=j
    ·have hp:p=j - 1:=by omega
     rw [if_pos hp,q1] at hx
     rw [if_neg (by omega),if_pos hp1,q2] at hy
     rw [← Option.some.inj hx,← Option.some.inj hy]
     exact hTO.asymm hq
    ·by_cases hp2:p=j
     ·rw [if_neg (by omega),if_pos hp2,q2] at hx
      rw [if_neg (by omega),if_neg (by omega)] at hy
      rw [← Option.some.inj hx]
      exact hB _ _ haj' (by omega) q2 (by rw [← hp2]; exact hy)
     ·rw [if_neg (by omega),if_neg hp2] at hx
      rw [if_neg (by omega),if_neg (by omega)] at hy
      exact hA p x y h1 h2 hp1 hx hy
   ·rw [swp_get jj jj1] at hx hy
    rw [if_neg (by omega),if_neg (by omega)] at hx
    rw [if_neg (by omega),if_pos (by omega),q2] at hy
    rw [← Option.some.inj hy]
    exact hA (j - 2) _ _ (by omega) (by omega) (by omega) (by rw [show j - 2=j - 1 - 1 by omega]; exact hx) (by rw [show j - 2+1=j - 1 by omega]; exact q2)
 intro F2 H9 h9
 rw [hM2] at h9
 obtain ⟨l3,hm3,hadj3,hv3,hc3,f0,f1,f2,f7,f8⟩:=h9
 simp only [↓Sh.dn,sx,Nat.reduceEqDiff,f2,f7,wbv]
 obtain ⟨M3,hM3⟩:∃ M:Fr→AH→Prop,M=fun F' H9=>∃ l3:List ByteArray,Mix a b l l3∧B8e a v l3∧A3e H9 g k n l3∧Chg (fun y=>y=g) H H9∧F'.get 0=some (.slice (some ⟨g,0,some k⟩) l.length cap)∧F'.get 1=some (.int .i64 (a:Int))∧F'.get 2=some (.int .i64 (b:Int))∧F'.get 7=some (.int .i64 (v:Int))∧F'.get 8=some (.int .i64 (c:Int)):=⟨_,rfl⟩
 refine B5l M3 (by rfl) ?_ ?_
 ·by_cases hbv:2≤b - v
  case neg=>
   have d:decide ((2:Int)≤((b - v:Nat):Int))=false:=by simp; omega
   simp only [↓Sh.dn,sx,reduceCtorEq,Nat.reduceEqDiff,d,hM3,f0,f1,f2,f7,f8]
   exact ⟨l3,hm3,hadj3,hv3,hc3⟩
  have d:decide ((2:Int)≤((b - v:Nat):Int))=true:=by simp; omega
  simp only [↓Sh.dn,sx,Nat.reduceEqDiff,d,f7,wv2]
  refine A1b (fun m F' H9 => ∃ (j : Nat) (l3 : List ByteArray), m = b - j ∧ v + 1 ≤ j ∧ j ≤ b ∧ Mix a b l l3 ∧ B8e a v l3 ∧ A3e H9 g k n l3 ∧ Chg (fun y => y = g) H H9 ∧
      F'.get 0 = some (.slice (some ⟨g, 0, some k⟩) l.length cap) ∧ F'.get 1 = some (.int .i64 (a : Int)) ∧ F'.get 2 = some (.int .i64 (b : Int)) ∧ F'.get 7 = some (.int .i64 (v : Int)) ∧ F'.get 8 = some (.int .i64 (c : Int)) ∧ F'.get 10 = some (.int .i64 (j : Int))) (m := b - (v + 1))
    ⟨v + 1, l3, rfl, Nat.le_refl _, by omega, hm3, hadj3, hv3, hc3, by simp only [sx, reduceCtorEq, f0], by simp only [sx, Nat.reduceEqDiff, f1], by simp only [sx, Nat.reduceEqDiff, f2], by simp only [sx, Nat.reduceEqDiff, f7], by simp only [sx, Nat.reduceEqDiff, f8], by simp only [sx]⟩ ?_
  rintro m F' H9 ⟨j,l4,rfl,hvj,hjb,hm4,hadj4,hv4,hc4,g0,g1,g2,g7,g8,g10⟩ k2
  have hlen4:=hm4.length
  by_cases hjb':j < b
  case neg=>
   simp only [↓Sh.dn,sx,reduceCtorEq,Nat.reduceEqDiff,g2,g10,A1a,hjb',decide_false,hM3,g0,g1,g7,g8]
   exact ⟨l4,hm4,hadj4,hv4,hc4⟩
  have jj:j < l4.length:=by omega
  have jj1:j - 1 < l4.length:=by omega
  have ij:=A2d (g:=g) (k:=k) (cap:=cap) (m:=l.length) (i:=j) (j:=.i64) (by omega)
  have ij1:=A2d (g:=g) (k:=k) (cap:=cap) (m:=l.length) (i:=j - 1) (j:=.i64) (by omega)
  have xj:=A7c hv4 jj
  have xj1:=A7c hv4 jj1
  have wj:IntKind.wrap .i64 ((j:Int) - 1)=((j - 1:Nat):Int):=by rw [wrap64 (by omega) (by omega)]; omega
  have wj2:IntKind.wrap .i64 ((j:Int)+1)=((j+1:Nat):Int):=by rw [wrap64 (by omega) (by omega)]; rfl
  simp only [↓Sh.dn,sx,Nat.reduceEqDiff,g2,g10,A1a,hjb',decide_true]
  refine (A7a (by kernel_rfl)).2 ?_
  simp only [↓Sh.dn,sx,reduceCtorEq,Nat.reduceEqDiff,g0,g10,wj,ij,ij1,xj,xj1]
  refine ⟨_,_,A6d,?_⟩
  cases hq:A3b l4[j] l4[j - 1] with
  | false=>
   simp only [↓Sh.dn,sx,Nat.reduceBEq,reduceCtorEq,Nat.reduceEqDiff,hM3,g0,g1,g2,g7,g8]
   exact ⟨l4,hm4,hadj4,hv4,hc4⟩
  | true=>
   obtain ⟨L3,L4,c1,c2,hv5,hc5',c5⟩:=A1j hv4 hc4.wf jj jj1
   simp only [↓Sh.dn,sx]
   refine (A7a (by kernel_rfl)).2 ?_
   simp only [↓Sh.dn,sx,reduceCtorEq,Nat.reduceEqDiff,g0,g10,wj,ij,ij1,xj,xj1,A5m,c1,c2,wj2]
   refine k2 (b - (j+1)) _ _ (by omega) ⟨j+1,swp l4 j (j - 1),rfl,by omega,by omega,hm4.swap (by omega) (by omega) (by omega) (by omega),fun p x y h1 h2 hx hy=>?_,hv5,hc4.trans hc5',by simp only [sx,reduceCtorEq,g0],by simp only [sx,Nat.reduceEqDiff,g1],by simp only [sx,Nat.reduceEqDiff,g2],by simp only [sx,Nat.reduceEqDiff,g7],by simp only [sx,Nat.reduceEqDiff,g8],by simp only [sx]⟩
   rw [swp_get jj jj1,if_neg (by omega),if_neg (by omega)] at hx hy
   exact hadj4 p x y h1 h2 hx hy
 intro F3 H10 h10
 rw [hM3] at h10
 obtain ⟨l5,hm5,hadj5,hv5,hc5',f0,f1,f2,f7,f8⟩:=h10
 simp only [↓Sh.dn,sx,f8,wc]
 exact kk (5 - (c+1)) _ _ (by omega) ⟨c+1,v,l5,rfl,by omega,by omega,by omega,hm5,hadj5,hv5,hc5',by simp only [sx,reduceCtorEq,f0],by simp only [sx,Nat.reduceEqDiff,f1],by simp only [sx,Nat.reduceEqDiff,f2],by simp only [sx,Nat.reduceEqDiff,f7],by simp only [sx]⟩
end Go.Proofs.YtcgbiedfbacgpaaGreat
/- pdqsortOrdered. -/
namespace Go.Proofs.YtcgbiedfbacgpaaGreat
open Go Go.Proofs Go.Proofs.Sh
theorem pdqStr {g k n cap:Nat}:∀ (sz:Nat) {H:AH} {a b:Nat} {l:List ByteArray} {lim:Int},b - a≤sz→A3e H g k n l→Wf H→l.length≤1048576→a≤b→b≤l.length→PreStr a b l→
  Sh.Call Tryz.prog (knows 7) 117 [.slice (some ⟨g,0,some k⟩) l.length cap,.int .i64 (a:Int),.int .i64 (b:Int),.int .i64 lim] H
   (fun r H'=>∃ l',Mix a b l l'∧Srt A3b a b l'∧A3e H' g k n l'∧Chg (fun y=>y=g) H H'):=by
 intro sz
 induction sz using Nat.strongRecOn with
 | _ sz ih=>
 intro H a b l lim hsz hv hw hl hab hb hpre
 refine A2a rfl Tryz.func117 rfl (Nat.le_of_ble_eq_true rfl) ?_
 have hres:Tryz.f117.results.toList=[]:=rfl
 have hTO:=strTO
 simp only [↓Sh.dn,sx]
 refine A1b (fun m F H' => ∃ (a' b' : Nat) (l1 : List ByteArray) (lm : Int) (x8 x9 : Bool), m = b' - a' ∧ a ≤ a' ∧ a' ≤ b' ∧ b' ≤ b ∧ Mix a b l l1 ∧ P3 A3b a a' b' b l1 ∧ PreStr a' b' l1 ∧ A3e H' g k n l1 ∧ Chg (fun y => y = g) H H' ∧
     F.get 0 = some (.slice (some ⟨g, 0, some k⟩) l.length cap) ∧ F.get 1 = some (.int .i64 (a' : Int)) ∧ F.get 2 = some (.int .i64 (b' : Int)) ∧ F.get 3 = some (.int .i64 lm) ∧ F.get 8 = some (.bool x8) ∧ F.get 9 = some (.bool x9)) (m := b - a)
   ⟨a, b, l, lim, true, true, rfl, Nat.le_refl _, hab, Nat.le_refl _, .refl l, fun p q x y h1 h2 h3 h4 => absurd ⟨h1, h3⟩ h4, hpre, hv, Chg.refl hw, by simp only [sx, reduceCtorEq], by simp only [sx, Nat.reduceEqDiff], by simp only [sx, Nat.reduceEqDiff], by simp only [sx, Nat.reduceEqDiff], by simp only [sx, Nat.reduceEqDiff], by simp only [sx]⟩ ?_
 rintro m F H' ⟨a',b',l1,lm,x8,x9,rfl,ha',hab',hb',hm,h3,hpr,hv1,hc1,f0,f1,f2,f3,f8,f9⟩ kk
 have hlen:=hm.length
 have hvl:l1.length=l.length:=hlen
 have wba:IntKind.wrap .i64 ((b':Int) - (a':Int))=((b' - a':Nat):Int):=by rw [wrap64 (by omega) (by omega)]; omega
 have fin:∀ {H2:AH} {l2:List ByteArray},Mix a' b' l1 l2→Srt A3b a' b' l2→Mix a b l l2∧Srt A3b a b l2:=fun {H2 l2} h1 h2=>⟨hm.trans (h1.wide ha' hb'),(h3.mix ha' hb' h1 (by omega)).srt hTO h2⟩
 simp only [↓Sh.dn,sx,Nat.reduceEqDiff,f1,f2,wba]
 by_cases h12:b' - a'≤12
 ·have d:decide (((b' - a':Nat):Int)≤12)=true:=by simp; omega
  obtain ⟨r,H2,hd,l2,q1,q2,q3,q4⟩:=B2b (cap:=cap) hv1 hc1.wf (by omega) hab' (by omega)
  rw [hvl] at hd
  simp only [↓Sh.dn,sx,reduceCtorEq,Nat.reduceEqDiff,d,f0,f1,f2]
  refine ⟨_,_,hd,?_⟩
  simp only [sx,hres]
  exact ⟨l2,(fin (H2:=H2) q1 q2).1,(fin (H2:=H2) q1 q2).2,q3,hc1.trans q4⟩
 have d:decide (((b' - a':Nat):Int)≤12)=false:=by simp; omega
 simp only [↓Sh.dn,sx,Nat.reduceEqDiff,d,f3]
 by_cases hlm:lm=0
 ·obtain ⟨r,H2,hd,l2,q1,q2,q3,q4⟩:=B17 (cap:=cap) hv1 hc1.wf (by omega) (by omega:a' < b') (by omega)
  rw [hvl] at hd
  simp only [↓Sh.dn,sx,reduceCtorEq,Nat.reduceEqDiff,hlm,decide_true,f0,f1,f2]
  refine ⟨_,_,hd,?_⟩
  simp only [sx,hres]
  exact ⟨l2,(fin (H2:=H2) q1 q2).1,(fin (H2:=H2) q1 q2).2,q3,hc1.trans q4⟩
 simp only [↓Sh.dn,sx,Nat.reduceEqDiff,hlm,decide_false,f8]
 obtain ⟨M1,hM1⟩:∃ M:Fr→AH→Prop,M=fun F' H9=>∃ l2:List ByteArray,Mix a' b' l1 l2∧A3e H9 g k n l2∧Chg (fun y=>y=g) H H9∧F'.get 0=some (.slice (some ⟨g,0,some k⟩) l.length cap)∧F'.get 1=some (.int .i64 (a':Int))∧F'.get 2=some (.int .i64 (b':Int))∧F'.get 8=some (.bool x8)∧F'.get 9=some (.bool x9)∧F'.get 10=some (.int .i64 ((b' - a':Nat):Int))∧∃ lm,F'.get 3=some (.int .i64 lm):=⟨_,rfl⟩
 refine B5l M1 (by rfl) ?_ ?_
 ·cases x8 with
  | true=>
   simp only [↓Sh.dn,sx,reduceCtorEq,Nat.reduceEqDiff,hM1,f0,f1,f2,f3,f8,f9]
   exact ⟨l1,.refl l1,hv1,hc1,lm,rfl⟩
  | false=>
   obtain ⟨r,H2,hd,l2,q1,q3,q4⟩:=B3b (cap:=cap) hv1 hc1.wf (by omega) (by omega:a'+12 < b') (by omega)
   rw [hvl] at hd
   simp only [↓Sh.dn,sx,reduceCtorEq,Nat.reduceEqDiff,f0,f1,f2]
   refine ⟨_,_,hd,?_⟩
   simp only [sx,reduceCtorEq,Nat.reduceEqDiff,hM1,f0,f1,f2,f3,f8,f9]
   exact ⟨l2,q1,q3,hc1.trans q4,_,rfl⟩
 intro F1 H1 h9
 rw [hM1] at h9
 obtain ⟨l2,hm2,hv2,hc2,f0,f1,f2,f8,f9,f10,lm2,f3⟩:=h9
 have hlen2:l2.length=l.length:=by rw [hm2.length]; exact hlen
 obtain ⟨r,H2,hd,q,hint,rfl,hq1,hq2,hv2',hk2⟩:=B8l (cap:=cap) hv2 hc2.wf (by omega) (by omega:a'+12 < b') (by omega)
 have hc2':Chg (fun y=>y=g) H H2:=hc2.trans hk2.chg
 rw [hlen2] at hd
 simp only [↓Sh.dn,sx,Nat.reduceEqDiff,f0,f1,f2]
 refine ⟨_,_,hd,?_⟩
 simp only [sx]
 obtain ⟨M2,hM2⟩:∃ M:Fr→AH→Prop,M=fun F' H9=>∃ l2:List ByteArray,Mix a' b' l1 l2∧A3e H9 g k n l2∧Chg (fun y=>y=g) H H9∧F'.get 0=some (.slice (some ⟨g,0,some k⟩) l.length cap)∧F'.get 1=some (.int .i64 (a':Int))∧F'.get 2=some (.int .i64 (b':Int))∧F'.get 3=some (.int .i64 lm2)∧F'.get 8=some (.bool x8)∧F'.get 9=some (.bool x9)∧F'.get 10=some (.int .i64 ((b' - a':Nat):Int))∧∃ q:Nat,a'≤q∧q < b'∧F'.get 11=some (.int .i64 (q:Int))∧∃ hint,F'.get 12=some (.int .i64 hint):=⟨_,rfl⟩
 refine B5l M2 (by rfl) ?_ ?_
 ·by_cases hh:hint=2
  ·have e1:IntKind.wrap .i64 ((b':Int) - 1)=((b' - 1:Nat):Int):=by rw [wrap64 (by omega) (by omega)]; omega
   have e2:IntKind.wrap .i64 ((q:Int) - (a':Int))=((q - a':Nat):Int):=by rw [wrap64 (by omega) (by omega)]; omega
   have e3:IntKind.wrap .i64 (((b' - 1:Nat):Int) - ((q - a':Nat):Int))=((b' - 1 - (q - a'):Nat):Int):=by rw [wrap64 (by omega) (by omega)]; omega
   obtain ⟨r,H3,hd3,l3,p1,p2,p3⟩:=B2g (cap:=cap) hv2' hk2.wf (by omega) (by omega:a' < b') (by omega)
   rw [hlen2] at hd3
   simp only [↓Sh.dn,sx,reduceCtorEq,Nat.reduceEqDiff,hh,decide_true,f0,f1,f2]
   refine ⟨_,_,hd3,?_⟩
   simp only [sx,reduceCtorEq,Nat.reduceEqDiff,hM2,f0,f1,f2,f3,f8,f9,f10,e1,e2,e3]
   exact ⟨l3,hm2.trans p1,p2,hc2'.trans p3,b' - 1 - (q - a'),by omega,by omega,rfl,1,rfl⟩
  ·simp only [↓Sh.dn,sx,reduceCtorEq,Nat.reduceEqDiff,hh,decide_false,hM2,f0,f1,f2,f3,f8,f9,f10]
   exact ⟨l2,hm2,hv2',hc2',q,hq1,hq2,rfl,hint,rfl⟩
 intro F2 H3 h9
 rw [hM2] at h9
 obtain ⟨l3,hm3,hv3,hc3,f0,f1,f2,f3,f8,f9,f10,q,hq1,hq2,f11,hint,f12⟩:=h9
 have hlen3:l3.length=l.length:=by rw [hm3.length]; exact hlen
 obtain ⟨M3,hM3⟩:∃ M:Fr→AH→Prop,M=fun F' H9=>H3=H9∧F'.get 0=some (.slice (some ⟨g,0,some k⟩) l.length cap)∧F'.get 1=some (.int .i64 (a':Int))∧F'.get 2=some (.int .i64 (b':Int))∧F'.get 3=some (.int .i64 lm2)∧F'.get 8=some (.bool x8)∧F'.get 9=some (.bool x9)∧F'.get 10=some (.int .i64 ((b' - a':Nat):Int))∧F'.get 11=some (.int .i64 (q:Int))∧∃ bb,F'.get 68=some (.bool bb):=⟨_,rfl⟩
 simp only [↓Sh.wp_seq]
 refine B4d M3 (by rfl) ?_ ?_
 ·cases x8 with
  | false=>
   simp only [↓Sh.dn,sx,reduceCtorEq,Nat.reduceEqDiff,hM3,f0,f1,f2,f3,f8,f9,f10,f11]
  | true=>
   cases x9 with
   | false=>
    simp only [↓Sh.dn,sx,reduceCtorEq,Nat.reduceEqDiff,hM3,f0,f1,f2,f3,f8,f9,f10,f11]
   | true=>
    simp only [↓Sh.dn,sx,reduceCtorEq,Nat.reduceEqDiff,hM3,f0,f1,f2,f3,f8,f9,f10,f11,f12]
 intro F3 H4 h9
 rw [hM3] at h9
 obtain ⟨rfl,f0,f1,f2,f3,f8,f9,f10,f11,bb,f68⟩:=h9
 obtain ⟨N,hN⟩:∃ N:Fr→AH→Prop,N=fun F' H9=>∃ l4:List ByteArray,Mix a' b' l1 l4∧A3e H9 g k n l4∧Chg (fun y=>y=g) H H9∧F'.get 0=some (.slice (some ⟨g,0,some k⟩) l.length cap)∧F'.get 1=some (.int .i64 (a':Int))∧F'.get 2=some (.int .i64 (b':Int))∧F'.get 3=some (.int .i64 lm2)∧F'.get 8=some (.bool x8)∧F'.get 9=some (.bool x9)∧F'.get 10=some (.int .i64 ((b' - a':Nat):Int))∧F'.get 11=some (.int .i64 (q:Int)):=⟨_,rfl⟩
 refine wp_cut N (fun F4 H5 h9=>?_) (fun kont=>?_)
 case refine_2=>
  cases bb with
  | false=>
   refine (A2v (by rw [C0h,f68])).2 (Sh.wp_skip.2 (kont _ _ ?_))
   rw [hN]
   exact ⟨l3,hm3,hv3,hc3,f0,f1,f2,f3,f8,f9,f10,f11⟩
  | true=>
   obtain ⟨r,H5,hd5,b5,rfl,l4,p1,p2,p3,p4⟩:=A03 (cap:=cap) hv3 hc3.wf (by omega) (by omega:a' < b') (by omega) (hpr.mix hm3 (by omega))
   rw [hlen3] at hd5
   simp only [↓Sh.dn,sx,Nat.reduceEqDiff,f68,f0,f1,f2]
   refine ⟨_,_,hd5,?_⟩
   cases b5 with
   | true=>
    simp only [↓Sh.dn,sx,hres]
    exact ⟨l4,(fin (H2:=H5) (hm3.trans p1) (p2 rfl)).1,(fin (H2:=H5) (hm3.trans p1) (p2 rfl)).2,p3,hc3.trans p4⟩
   | false=>
    refine (A2v ?_).2 (Sh.wp_skip.2 (kont _ _ ?_))
    ·simp only [sx]
    rw [hN]
    exact ⟨l4,hm3.trans p1,p3,hc3.trans p4,by simp only [sx,reduceCtorEq,f0],by simp only [sx,Nat.reduceEqDiff,f1],by simp only [sx,Nat.reduceEqDiff,f2],by simp only [sx,Nat.reduceEqDiff,f3],by simp only [sx,Nat.reduceEqDiff,f8],by simp only [sx,Nat.reduceEqDiff,f9],by simp only [sx,Nat.reduceEqDiff,f10],by simp only [sx,Nat.reduceEqDiff,f11]⟩
 rw [hN] at h9
 clear hN
 obtain ⟨l4,hm4,hv4,hc4,f0,f1,f2,f3,f8,f9,f10,f11⟩:=h9
 have hlen4:l4.length=l.length:=by rw [hm4.length]; exact hlen
 have jq:q < l4.length:=by omega
 have iq:=A2d (g:=g) (k:=k) (cap:=cap) (m:=l.length) (i:=q) (j:=.i64) (by omega)
 have xq:=A7c hv4 jq
 have eq4:l4[q]?=some l4[q]:=List.getElem?_eq_getElem jq
 have hpr4:PreStr a' b' l4:=hpr.mix hm4 (by omega)
 have h34:P3 A3b a a' b' b l4:=h3.mix ha' hb' hm4 (by omega)
 have hm04:Mix a b l l4:=hm.trans (hm4.wide ha' hb')
 obtain ⟨M4,hM4⟩:∃ M:Fr→AH→Prop,M=fun F' H9=>H5=H9∧F'.get 0=some (.slice (some ⟨g,0,some k⟩) l.length cap)∧F'.get 1=some (.int .i64 (a':Int))∧F'.get 2=some (.int .i64 (b':Int))∧F'.get 3=some (.int .i64 lm2)∧F'.get 8=some (.bool x8)∧F'.get 9=some (.bool x9)∧F'.get 10=some (.int .i64 ((b' - a':Nat):Int))∧F'.get 11=some (.int .i64 (q:Int))∧∃ bb,F'.get 87=some (.bool bb)∧(bb=true→0 < a'∧∀ y,l4[a' - 1]?=some y→A3b y l4[q]=false):=⟨_,rfl⟩
 simp only [↓Sh.wp_seq]
 refine B4d M4 (by rfl) ?_ ?_
 ·refine (A7a (by kernel_rfl)).2 ?_
  by_cases h0:0 < a'
  ·have d:decide ((0:Int) < (a':Int))=true:=by simp; omega
   have wa1:IntKind.wrap .i64 ((a':Int) - 1)=((a' - 1:Nat):Int):=by rw [wrap64 (by omega) (by omega)]; omega
   have ja:a' - 1 < l4.length:=by omega
   have ia:=A2d (g:=g) (k:=k) (cap:=cap) (m:=l.length) (i:=a' - 1) (j:=.i64) (by omega)
   have xa:=A7c hv4 ja
   have ea:l4[a' - 1]?=some l4[a' - 1]:=List.getElem?_eq_getElem ja
   simp only [↓Sh.dn,sx,reduceCtorEq,Nat.reduceEqDiff,f0,f1,f11,d,wa1,ia,iq,xa,xq]
   refine ⟨_,_,A6d,?_⟩
   cases hq:A3b l4[a' - 1] l4[q] with
   | true=>
    simp only [sx,reduceCtorEq,Nat.reduceEqDiff,hM4,f0,f1,f2,f3,f8,f9,f10,f11]
   | false=>
    simp only [sx,reduceCtorEq,Nat.reduceEqDiff,hM4,f0,f1,f2,f3,f8,f9,f10,f11]
    refine ⟨h0,fun y hy=>?_⟩
    rw [ea] at hy; rw [← Option.some.inj hy]; exact hq
  ·have d:decide ((0:Int) < (a':Int))=false:=by simp; omega
   simp only [↓Sh.dn,sx,reduceCtorEq,Nat.reduceEqDiff,hM4,f0,f1,f2,f3,f8,f9,f10,f11,d]
 intro F5 H6 h9
 rw [hM4] at h9
 obtain ⟨rfl,f0,f1,f2,f3,f8,f9,f10,f11,bb,f87,hbb⟩:=h9
 cases bb with
 | true=>
  obtain ⟨hpos,hy⟩:=hbb rfl
  obtain ⟨r,H7,hd7,m,rfl,hm1,hm2',l5,p1,p2,p3,p4,p5⟩:=A37 (cap:=cap) (p:=q) hv4 hc4.wf (by omega) hq1 hq2 (by omega)
  rw [hlen4] at hd7
  simp only [↓Sh.dn,sx,Nat.reduceBEq,Nat.reduceEqDiff,f87,f0,f1,f2,f11]
  refine ⟨_,_,hd7,?_⟩
  try simp only [↓Sh.dn,sx,Nat.reduceBEq,reduceCtorEq,Nat.reduceEqDiff]
  have hge4:∀ (i:Nat) x,a'≤i→i < b'→l4[i]?=some x→A3b x l4[q]=false:=by
   intro i x h1 h2 hx
   have ja:a' - 1 < l4.length:=by omega
   have ea:l4[a' - 1]?=some l4[a' - 1]:=List.getElem?_eq_getElem ja
   exact hTO.le_trans (hy _ ea) (hpr4 i x _ hpos ea h1 h2 hx)
  have hge:∀ (i:Nat) x,a'≤i→i < b'→l5[i]?=some x→A3b x l4[q]=false:=p1.all (p:=fun x=>A3b x l4[q]=false) (by omega) hge4
  have heq:∀ (i:Nat) x,a'≤i→i < m→l5[i]?=some x→x=l4[q]:=by
   intro i x h1 h2 hx
   rcases hTO.tri x l4[q] with h | h | h
   ·rw [hge i x h1 (by omega) hx] at h; cases h
   ·exact h
   ·rw [p2 i x h1 h2 hx] at h; cases h
  have h35:=h34.mix ha' hb' p1 (by omega)
  refine kk (b' - m) _ _ (by omega) ⟨m,b',l5,lm2,x8,x9,rfl,by omega,by omega,hb',hm04.trans (p1.wide ha' hb'),fun i j x z h1 h2 h3' h4 hx hz=>?_,fun i x y h0 hy' h1 h2 hx=>?_,p4,hc4.trans p5,by simp only [sx,reduceCtorEq,f0],by simp only [sx],by simp only [sx,Nat.reduceEqDiff,f2],by simp only [sx,Nat.reduceEqDiff,f3],by simp only [sx,Nat.reduceEqDiff,f8],by simp only [sx,Nat.reduceEqDiff,f9]⟩
  ·by_cases hin:a'≤i∧j < b'
   ·have hx':=heq i x hin.1 (by omega) hx
    by_cases hj:j < m
    ·have hz':=heq j z (by omega) hj hz
     rw [hx',hz']; exact hTO.irrefl _
    ·rw [hx']; exact hTO.asymm (p3 j z (by omega) hin.2 hz)
   ·exact h35 i j x z h1 h2 h3' hin hx hz
  ·have hy2:=heq (m - 1) y (by omega) (by omega) hy'
   rw [hy2]; exact hTO.asymm (p3 i x h1 h2 hx)
 | false=>
  obtain ⟨r,H7,hd7,m,al,rfl,hm1,hm2',l5,p1,y,py,p2,p3,p4,p5⟩:=B13 (cap:=cap) (p:=q) hv4 hc4.wf (by omega) hq1 hq2 (by omega)
  rw [hlen4] at hd7
  have hlen5:l5.length=l.length:=by rw [p1.length]; exact hlen4
  have s1:IntKind.wrap .i64 ((m:Int) - (a':Int))=((m - a':Nat):Int):=by rw [wrap64 (by omega) (by omega)]; omega
  have s2:IntKind.wrap .i64 ((b':Int) - (m:Int))=((b' - m:Nat):Int):=by rw [wrap64 (by omega) (by omega)]; omega
  have s3:Int.tdiv ((b' - a':Nat):Int) 8=(((b' - a') / 8:Nat):Int):=by rw [Int.tdiv_eq_ediv_of_nonneg (by omega)]; rfl
  have s4:IntKind.wrap .i64 (((b' - a') / 8:Nat):Int)=(((b' - a') / 8:Nat):Int):=wrap64 (by omega) (by omega)
  have s5:IntKind.wrap .i64 ((m:Int)+1)=((m+1:Nat):Int):=by rw [wrap64 (by omega) (by omega)]; rfl
  simp only [↓Sh.dn,sx,Nat.reduceEqDiff,f87,f0,f1,f2,f11]
  refine ⟨_,_,hd7,?_⟩
  simp only [sx,f10,s1,s2,A84 (show (8:Int)≠0 by decide),s3,s4,A1a]
  have hpr5:PreStr a' b' l5:=hpr4.mix p1 (by omega)
  have h35:=h34.mix ha' hb' p1 (by omega)
  have hm05:=hm04.trans (p1.wide ha' hb')
  have hc5:=hc4.trans p5
  by_cases hlr:m - a' < b' - m
  ·obtain ⟨r,H8,hd8,l6,u1,u2,u3,u4⟩:=ih (m - a') (by omega) (lim:=lm2) (a:=a') (b:=m) (Nat.le_refl _) p4 p5.wf (by omega) hm1 (by omega) (fun i x z h0 hz h1 h2 hx=>hpr5 i x z h0 hz h1 (by omega) hx)
   rw [hlen5] at hd8
   have py6:l6[m]?=some y:=by rw [u1.out (.inr (Nat.le_refl _))]; exact py
   have hpart:=P3.part hTO (h35.mix ha' hb' (u1.wide (Nat.le_refl _) (by omega)) (by omega)) hm1 hm2' py6 (u1.all (p:=fun x=>A3b x y=true) (by omega) (fun i x h1 h2 hx=>p2 i x h1 h2 hx)) (fun i x h1 h2 hx=>p3 i x h1 h2 (by rw [← u1.out (.inr (by omega))]; exact hx))
   simp only [↓Sh.dn,sx,reduceCtorEq,Nat.reduceEqDiff,hlr,decide_true,f0,f1,f3]
   refine ⟨_,_,hd8,?_⟩
   try simp only [s5]
   exact kk (b' - (m + 1)) _ _ (by omega) ⟨m + 1, b', l6, lm2, _, al, rfl, by omega, by omega, hb', hm05.trans (u1.wide ha' (by omega)), hpart.1 u2, fun i x z h0 hz h1 h2 hx => by
       rw [show m + 1 - 1 = m by omega, py6] at hz
       rw [← Option.some.inj hz]
       exact p3 i x (by omega) h2 (by rw [← u1.out (.inr (by omega))]; exact hx), u3, hc5.trans u4, by simp only [sx, reduceCtorEq, f0], by simp only [sx], by simp only [sx, Nat.reduceEqDiff, f2], by simp only [sx, Nat.reduceEqDiff, f3], by simp only [sx, Nat.reduceEqDiff]; rfl, by simp only [sx, Nat.reduceEqDiff]⟩
  ·obtain ⟨r, H8, hd8, l6, u1, u2, u3, u4⟩ := ih (b' - (m + 1)) (by omega) (lim := lm2) (a := m + 1) (b := b') (Nat.le_refl _) p4 p5.wf (by omega) (by omega) (by omega) (fun i x z h0 hz h1 h2 hx => by
     rw [show m + 1 - 1 = m by omega, py] at hz
     rw [← Option.some.inj hz]
     exact p3 i x (by omega) h2 hx)
   rw [hlen5] at hd8
   have py6 : l6[m]? = some y := by rw [u1.out (.inl (by omega))]; exact py
   have hpart := P3.part hTO (h35.mix ha' hb' (u1.wide (by omega) (Nat.le_refl _)) (by omega)) hm1 hm2' py6 (fun i x h1 h2 hx => p2 i x h1 h2 (by rw [← u1.out (.inl (by omega))]; exact hx)) (fun i x h1 h2 hx => u1.all (p := fun x => A3b x y = false) (by omega) (fun i x h1 h2 hx => p3 i x (by omega) h2 hx) i x (by omega) h2 hx)
   simp only [↓Sh.dn, sx, reduceCtorEq, Nat.reduceEqDiff, hlr, decide_false, f0, f2, f3, s5]
   refine ⟨_, _, hd8, ?_⟩
   try simp only [↓Sh.dn, sx, Nat.reduceBEq, reduceCtorEq, Nat.reduceEqDiff]
   exact kk (m - a') _ _ (by omega) ⟨a', m, l6, lm2, _, al, rfl, ha', hm1, by omega, hm05.trans (u1.wide (by omega) hb'), hpart.2 u2, fun i x z h0 hz h1 h2 hx => by
       rw [u1.out (.inl (by omega))] at hz
       rw [u1.out (.inl (by omega))] at hx
       exact hpr5 i x z h0 hz h1 (by omega) hx, u3, hc5.trans u4, by simp only [sx, reduceCtorEq, f0], by simp only [sx, Nat.reduceEqDiff, f1], by simp only [sx], by simp only [sx, Nat.reduceEqDiff, f3], by simp only [sx, Nat.reduceEqDiff]; rfl, by simp only [sx, Nat.reduceEqDiff]⟩
end Go.Proofs.YtcgbiedfbacgpaaGreat
/- slices.Sort. -/
namespace Go.Proofs.YtcgbiedfbacgpaaGreat
open Go Go.Proofs Go.Proofs.Sh
theorem B9l {H:AH} {v:Value}:Sh.Call Tryz.prog (knows 7) 129 [v,.int .i64 0,.int .i64 0] H (fun r H'=>H'=H):=by
 refine A2a rfl Tryz.func129 rfl (Nat.le_of_ble_eq_true rfl) ?_
 have hres:Tryz.f129.results.toList=[]:=rfl
 have w1:IntKind.wrap .i64 ((0:Int)+1)=1:=rfl
 simp only [↓Sh.dn,sx,w1]
 refine A1b (fun m F H'=>H'=H∧F.get 2=some (.int .i64 0)∧F.get 6=some (.int .i64 1)) (m:=0) ⟨rfl,by simp only [sx,Nat.reduceEqDiff],by simp only [sx]⟩ ?_
 rintro m F H' ⟨rfl,f2,f6⟩ kk
 have d:decide ((1:Int) < 0)=false:=rfl
 simp only [↓Sh.dn,sx,Nat.reduceEqDiff,f2,f6,d,hres]
theorem B2m {H:AH} {v:Value} {lim:Int}:Sh.Call Tryz.prog (knows 7) 117 [v,.int .i64 0,.int .i64 0,.int .i64 lim] H (fun r H'=>H'=H):=by
 refine A2a rfl Tryz.func117 rfl (Nat.le_of_ble_eq_true rfl) ?_
 have hres:Tryz.f117.results.toList=[]:=rfl
 obtain ⟨r,H1,hd,rfl⟩:=B9l (H:=H) (v:=v)
 have w1:IntKind.wrap .i64 ((0:Int) - 0)=0:=rfl
 have d:decide ((0:Int)≤12)=true:=rfl
 simp only [↓Sh.dn,sx]
 refine A1b (fun m F H'=>H'=H1∧F.get 0=some v∧F.get 1=some (.int .i64 0)∧F.get 2=some (.int .i64 0)) (m:=0) ⟨rfl,by simp only [sx,reduceCtorEq],by simp only [sx,Nat.reduceEqDiff],by simp only [sx,Nat.reduceEqDiff]⟩ ?_
 rintro m F H' ⟨rfl,f0,f1,f2⟩ kk
 simp only [↓Sh.dn,sx,reduceCtorEq,Nat.reduceEqDiff,f0,f1,f2,w1,d]
 refine ⟨_,_,hd,?_⟩
 simp only [sx,hres]
theorem C9a {H:AH} {v:Value} {l:List ByteArray} {ob:Option Nat} (hb:Buf H 1 v (l.map fun x=>[Value.string x]) ob) (hl:l.length≤1048576) (hw:Wf H):
  Sh.Call Tryz.prog (knows 7) 114 [v] H (fun r H'=>∃ l':List ByteArray,l'.Perm l∧Srt A3b 0 l'.length l'∧Buf H' 1 v (l'.map fun x=>[Value.string x]) ob∧Chg (fun y=>ob=some y) H H'):=by
 refine A2a rfl Tryz.func114 rfl (Nat.le_of_ble_eq_true rfl) ?_
 have hres:Tryz.f114.results.toList=[]:=rfl
 have hlen:=hb.toSl.len Tryz.underlying22 H
 rw [List.length_map] at hlen
 have wu:IntKind.wrap .u64 (l.length:Int)=(l.length:Int):=A8u (by omega) (by omega)
 obtain ⟨r,H1,hd,rfl,c,rfl,_⟩:=bitsLen (H:=H) (x:=l.length) (by omega)
 simp only [↓Sh.dn,sx,reduceCtorEq,Nat.reduceEqDiff,hlen,wu]
 refine ⟨_,_,hd,?_⟩
 cases ob with
 | none=>
  have hl0:l=[]:=by
   generalize hL:(l.map fun x=>[Value.string x])=L at hb
   cases hb
   simpa using hL
  subst hl0
  obtain ⟨r,H2,hd2,rfl⟩:=B2m (H:=H1) (v:=v) (lim:=(c:Int))
  simp only [reduceCtorEq,List.length_nil,Int.ofNat_zero]
  refine ⟨_,_,hd2,?_⟩
  simp only [sx,hres]
  exact ⟨[],List.Perm.refl _,fun i j x y h1 h2 h3=>by simp at h3,hb,Chg.refl hw⟩
 | some g=>
  obtain ⟨k,cap,n,rfl,hc,hback⟩:=hb.cells
  obtain ⟨r,H2,hd2,l',q1,q2,q3,q4⟩:=pdqStr (cap:=cap) l.length (a:=0) (b:=l.length) (lim:=(c:Int)) (by omega) hc hw hl (Nat.zero_le _) (Nat.le_refl _) (fun q x y h=>absurd h (Nat.lt_irrefl 0))
  simp only [sx]
  refine ⟨_,_,hd2,?_⟩
  simp only [sx,hres]
  exact ⟨l',q1.perm,by rw [q1.length]; exact q2,hback H2 l' q1.length q3,q4.weak fun x hx=>by rw [hx]⟩
end Go.Proofs.YtcgbiedfbacgpaaGreat
/- sort.Strings. -/
namespace Go.Proofs.YtcgbiedfbacgpaaGreat
open Go Go.Proofs Go.Proofs.Sh
theorem B77 {H:AH} {v:Value} {l:List ByteArray} {ob:Option Nat} (hb:Buf H 1 v (l.map fun x=>[.string x]) ob) (hl:l.length≤1048576) (hw:Wf H):
  Sh.Call Tryz.prog (knows 7) 110 [v] H (fun r H'=>∃ l':List ByteArray,l'.Perm l∧Srt A3b 0 l'.length l'∧Buf H' 1 v (l'.map fun x=>[.string x]) ob∧Chg (fun y=>ob=some y) H H'):=by
 refine A2a rfl Tryz.func110 rfl (Nat.le_of_ble_eq_true rfl) ?_
 have hres:Tryz.f110.results.toList=[]:=rfl
 obtain ⟨r,H1,hd,hq⟩:=C9a hb hl hw
 simp only [↓Sh.dn,sx]
 refine ⟨_,_,hd,?_⟩
 simp only [sx,hres]
 exact hq
end Go.Proofs.YtcgbiedfbacgpaaGreat
/- The reference's Symbols: the symbols that lead on from a set, ascending. -/
namespace Go.Proofs.YtcgbiedfbacgpaaGreat
open Go Go.Proofs Go.Proofs.Sh
def rowLen (E:List (List (ByteArray×Nat))) (s:Nat):Nat:=(E.getD s []).length
theorem sum_perm {l m:List Nat} (h:l.Perm m):l.sum=m.sum:=by
 induction h with
 | nil=>rfl
 | cons x _ ih=>simp [ih]
 | swap x y l=>simp; omega
 | trans _ _ ih1 ih2=>rw [ih1,ih2]
theorem C2t (f:Nat→Nat):∀ {L M:List Nat},L.Nodup→(∀ x∈L,x∈M)→(L.map f).sum≤(M.map f).sum
 | [],M,_,_=>Nat.zero_le _
 | s :: L,M,hn,hs=>by
  have hm:=hs s List.mem_cons_self
  have hp:=List.perm_cons_erase hm
  have e:=sum_perm (hp.map f)
  rw [e]
  simp only [List.map_cons,List.sum_cons]
  have hn':=List.nodup_cons.1 hn
  refine Nat.add_le_add_left (C2t f hn'.2 fun x hx=>?_) _
  have hxs:x≠s:=fun e=>hn'.1 (e ▸ hx)
  exact (List.mem_erase_of_ne hxs).2 (hs x (List.mem_cons_of_mem _ hx))
theorem sum_rows {E:List (List (ByteArray×Nat))} {L:List Nat} (hn:L.Nodup) (hl:∀ s∈L,s < E.length):(L.map (rowLen E)).sum≤(E.map List.length).sum:=by
 have h:=C2t (rowLen E) hn (M:=List.range E.length) fun x hx=>List.mem_range.2 (hl x hx)
 have e:(List.range E.length).map (rowLen E)=E.map List.length:=by
  refine List.ext_getElem? fun i=>?_
  by_cases hi:i < E.length
  ·simp [hi,rowLen,List.getD]
  ·rw [List.getElem?_eq_none (by simp; omega),List.getElem?_eq_none (by simp; omega)]
 rw [e] at h; exact h
theorem B64 {H:AH} {v u ev bv:Value} {vals:List Value} {n:Nat} {E:List (List (ByteArray×Nat))} {ends:List Bool} {L:List Nat} (h:RG H v n E ends ev bv vals) (hL:Sl H u 1 (L.map natC)) (hlt:∀ t∈L,t < n) (hnd:L.Nodup) (htot:(E.map List.length).sum≤1048576) (hw:Wf H):
  Sh.Call Tryz.prog (knows 7) 95 [v,u] H (fun r H'=>Kept H H'∧∃ l b,Buf H' 1 r (l.map A5b) b∧Asc l∧l.length≤1048576∧(∀ y,b=some y→H.next≤y)∧∀ x,x∈l↔x≠A8a∧∃ s∈L,∃ t,A8d E x s t):=by
 refine A2a rfl Tryz.func95 rfl (Nat.le_of_ble_eq_true rfl) ?_
 have hres:Tryz.f95.results.toList=[.tmp 4]:=rfl
 have hrb:=RBox.of h hw
 have hk1:Kept H (H.new 3 [.int .i64 0,ev,bv]).2:=Kept.new hw 3 _
 have hE:=h.ed.sl.isCell
 have hB:=h.en.isCell
 rw [h.eq]
 simp only [↓Sh.dn,sx,B4z hE hB]
 generalize (H.new 3 [.int .i64 0,ev,bv]).2=H1 at hrb hk1 ⊢
 generalize hgb:H.next=gb at hrb ⊢
 have hn2:=h.n2
 have hll:=A3n hnd hlt
 have hsum:=sum_rows hnd (fun s hs=>by rw [h.le]; exact hlt s hs)
 have hpart:∀ i,((L.take i).map (rowLen E)).sum≤1048576:=fun i=>by
  have h1:((L.take i).map (rowLen E)).sum+((L.drop i).map (rowLen E)).sum=(L.map (rowLen E)).sum:=by
   rw [← List.sum_append,← List.map_append,List.take_append_drop]
  omega
 refine A9c L.length 6 (List.range' 5 4++List.range' 11 37) (fun i F H'=>Kept H1 H'∧∃ z,F.get 5=some z∧∃ out ob,LS H' H1.next z out ob∧out.length≤((L.take i).map (rowLen E)).sum∧∀ x,x∈out↔x≠A8a∧∃ s∈L.take i,∃ t,A8d E x s t) (by simp only [sx]) ⟨Kept.refl hk1.wf,_,by simp only [sx,Nat.reduceEqDiff],[],none,LS.void _ _,Nat.zero_le _,fun x=>by simp⟩ ?_ ?_
 ·rintro i F H' hi hF f6 ⟨hk,z,f5,out,ob,hl,hol,hiff⟩ k
  have f1:=hF 1 rfl
  have f2:=hF 2 rfl
  simp only [sx,Nat.reduceEqDiff] at f1 f2
  have hL':=fun {H'} (hk:Kept H1 H')=>hL.grow ((hk1.trans hk).grow hw)
  have hlen:=(hL' hk).len Tryz.underlying69 H'
  rw [List.length_map] at hlen
  obtain ⟨p,hia,hc⟩:=A9x Tryz.underlying69 A3c (hL' (Kept.refl hk1.wf)) hi
  have hc':=fun {H'} (hk:Kept H1 H')=>A2b (hk.grow hk1.wf) hc
  have htn:L[i] < n:=hlt _ (List.getElem_mem hi)
  have htake:L.take (i+1)=L.take i++[L[i]]:=by rw [List.take_add_one,List.getElem?_eq_getElem hi]; rfl
  clear hc
  generalize L[i]=s at hc' htn htake
  obtain ⟨r,hr⟩:∃ r,E[s]?=some r:=⟨E[s]'(by rw [h.le]; exact htn),List.getElem?_eq_getElem _⟩
  have hr':(A4h E)[s]?=some (r.map A2h):=by unfold A4h; rw [List.getElem?_map,hr]; rfl
  have hrln:rowLen E s=r.length:=by unfold rowLen; rw [List.getD_eq_getElem?_getD,hr]; rfl
  have hsum1:((L.take (i+1)).map (rowLen E)).sum=((L.take i).map (rowLen E)).sum+r.length:=by rw [htake]; simp [hrln]
  have hp1:=hpart (i+1)
  obtain ⟨hrl,hrt⟩:=h.to s r hr
  obtain ⟨ga,oa,ka,wr,hia2,hca,hsr⟩:=(h.ed.grow (hk1.grow hw)).at Tryz.underlying57 A3q hr'
  have hro:∀ {H'},Kept H1 H'→H'.cell ⟨ga,oa,some ka⟩=some wr∧Sl H' wr 2 (r.map A2h)∧A4a Tryz.prog .len [97] [wr] H'=some (.int .i64 (r.length:Int),H'):=fun hk=>by
   have h2:=hsr.grow (hk.grow hk1.wf)
   refine ⟨A2b (hk.grow hk1.wf) hca,h2,?_⟩
   rw [h2.len Tryz.underlying97,List.length_map]
  simp only [↓Sh.dn,sx,Nat.reduceEqDiff,f1,f6,A1a,hi,decide_true,hlen]
  refine A9c r.length 7 (List.range' 17 31++[5,7,8]) (fun q F'' H''=>Kept H1 H''∧∃ z',F''.get 5=some z'∧∃ out' ob',LS H'' H1.next z' out' ob'∧out'.length≤((L.take i).map (rowLen E)).sum+q∧∀ x,x∈out'↔x≠A8a∧((∃ s∈L.take i,∃ t,A8d E x s t)∨∃ e∈r.take q,e.1=x)) (by simp only [sx]) ⟨hk,z,by simp only [sx,Nat.reduceEqDiff,f5],out,ob,hl,Nat.le_trans hol (Nat.le_add_right _ _),fun x=>by rw [hiff x]; simp⟩ ?_ ?_
  ·rintro q F'' H'' hq hF'' f7 ⟨hk'',z',f5',out',ob',hl',hol',hiff'⟩ k2
   have g1:=hF'' 1 rfl
   have g2:=hF'' 2 rfl
   have g6:=hF'' 6 rfl
   simp only [sx,Nat.reduceEqDiff,f1,f2,f6] at g1 g2 g6
   obtain ⟨hc1,hs1,hl1⟩:=hro hk''
   have hcc:=hc' hk''
   have hb1:=hrb.kept hk1.wf hk''
   obtain ⟨g',o',k',hia3,_,hcs2⟩:=hs1.at Tryz.underlying97 A1t (i:=q) (x:=A2h r[q]) (by simp [hq]) .i64
   have hce:H''.cell ⟨g',o',some k'⟩=some (.string r[q].1):=by simpa using hcs2 0 _ rfl
   have hrq:r[q]∈r:=List.getElem_mem hq
   have htk:r.take (q+1)=r.take q++[r[q]]:=by rw [List.take_add_one,List.getElem?_eq_getElem hq]; rfl
   clear hcs2
   generalize r[q]=e at hce hrq htk
   have hj:∀ x,(∃ e'∈r.take (q+1),e'.1=x)↔(∃ e'∈r.take q,e'.1=x)∨e.1=x:=fun x=>by
    rw [htk]
    simp only [List.mem_append,List.mem_singleton]
    constructor
    ·rintro ⟨e',h1 | h1,h2⟩
     ·exact .inl ⟨e',h1,h2⟩
     ·subst h1; exact .inr h2
    ·rintro (⟨e',h1,h2⟩ | h2)
     ·exact ⟨e',.inl h1,h2⟩
     ·exact ⟨e,.inr rfl,h2⟩
   simp only [↓Sh.dn,sx,Nat.reduceEqDiff,f7,g1,g2,g6,hb1.c1,hia,hcc,hia2,hc1,hl1,A1a,hq,decide_true,hia3,hce]
   by_cases he:e.1=⟨#[]⟩
   ·simp only [↓Sh.dn,sx,Nat.reduceEqDiff,he,decide_true,f7,A3a hq (Nat.le_trans hrl (by decide))]
    refine k2 _ _ (by repeat (first | refine Same.put ?_ rfl | exact Same.rfl' _)) (by simp only [sx]) ⟨hk'',z',by simp only [sx,Nat.reduceEqDiff,f5'],out',ob',hl',by omega,fun x=>?_⟩
    rw [hiff',hj]
    constructor
    ·rintro ⟨h1,h2 | h2⟩
     ·exact ⟨h1,.inl h2⟩
     ·exact ⟨h1,.inr (.inl h2)⟩
    ·rintro ⟨h1,h2 | h2 | h2⟩
     ·exact ⟨h1,.inl h2⟩
     ·exact ⟨h1,.inr h2⟩
     ·exact absurd (h2.symm.trans he) h1
   ·obtain ⟨a,cap,w',H4,ob2,rfl,e1,e2,e3,e4⟩:=B59 e.1 hk''.next hk''.wf hl' (by omega)
    simp only [↓Sh.dn,sx,Nat.reduceEqDiff,he,decide_false,f5',f7,e1,e2,A3a hq (Nat.le_trans hrl (by decide))]
    refine k2 _ _ (by repeat (first | refine Same.put ?_ rfl | exact Same.rfl' _)) (by simp only [sx]) ⟨hk''.then (Nat.le_refl _) (e4.weak hl'.fr),w',by simp only [sx,Nat.reduceEqDiff],out'++[e.1],ob2,e3,by simp only [List.length_append,List.length_singleton]; omega,fun x=>?_⟩
    rw [hj,List.mem_append,List.mem_singleton,hiff' x]
    constructor
    ·rintro (⟨h1,h2 | h2⟩ | h1)
     ·exact ⟨h1,.inl h2⟩
     ·exact ⟨h1,.inr (.inl h2)⟩
     ·subst h1; exact ⟨he,.inr (.inr rfl)⟩
    ·rintro ⟨h1,h2 | h2 | h2⟩
     ·exact .inl ⟨h1,.inl h2⟩
     ·exact .inl ⟨h1,.inr h2⟩
     ·exact .inr h2.symm
  ·rintro F'' H'' hF'' f7 ⟨hk'',z',f5',out',ob',hl',hol',hiff'⟩
   have g1:=hF'' 1 rfl
   have g2:=hF'' 2 rfl
   have g6:=hF'' 6 rfl
   simp only [sx,Nat.reduceEqDiff,f1,f2,f6] at g1 g2 g6
   obtain ⟨hc1,hs1,hl1⟩:=hro hk''
   have hcc:=hc' hk''
   have hb1:=hrb.kept hk1.wf hk''
   simp only [↓Sh.dn,sx,Nat.reduceBEq,Nat.reduceEqDiff,f7,g1,g2,g6,hb1.c1,hia,hcc,hia2,hc1,hl1,A1a,Nat.lt_irrefl,decide_false,A3a hi (Nat.le_trans hll (Nat.le_trans hn2 (by decide)))]
   refine k _ _ ?_ (by simp only [sx]) ⟨hk'',z',by simp only [sx,Nat.reduceEqDiff,f5'],out',ob',hl',by rw [hsum1]; exact hol',fun x=>?_⟩
   ·repeat refine Same.put ?_ rfl
    exact Same.trans (by repeat (first | refine Same.put ?_ rfl | exact Same.rfl' _)) (hF''.sub rfl)
   ·rw [hiff' x,htake,List.take_length]
    simp only [List.mem_append,List.mem_singleton]
    constructor
    ·rintro ⟨h0,⟨s',h1,h2⟩ | ⟨e,h1,h2⟩⟩
     ·exact ⟨h0,s',.inl h1,h2⟩
     ·exact ⟨h0,s,.inr rfl,e.2,r,hr,by rw [← h2]; exact h1⟩
    ·rintro ⟨h0,s',h1 | h1,t,h2⟩
     ·exact ⟨h0,.inl ⟨s',h1,t,h2⟩⟩
     ·subst h1
      obtain ⟨r',h3,h4⟩:=h2
      rw [hr] at h3
      rw [← Option.some.inj h3] at h4
      exact ⟨h0,.inr ⟨_,h4,rfl⟩⟩
 ·rintro F H' hF f6 ⟨hk,z,f5,out,ob,hl,hol,hiff⟩
  have f1:=hF 1 rfl
  simp only [sx,Nat.reduceEqDiff] at f1
  have hL':=hL.grow ((hk1.trans hk).grow hw)
  have hlen:=hL'.len Tryz.underlying69 H'
  rw [List.length_map] at hlen
  rw [List.take_length] at hiff hol
  have hol2:out.length≤1048576:=by omega
  obtain ⟨rr,H3,hd3,l',hperm,hsrt,hb3,hc3⟩:=B77 (l:=out) hl.bf hol2 hk.wf
  simp only [↓Sh.dn,sx,Nat.reduceEqDiff,f1,f5,f6,A1a,Nat.lt_irrefl,decide_false,hlen]
  refine ⟨_,_,hd3,?_⟩
  have hk3:Kept H1 H3:=hk.then (Nat.le_refl _) (hc3.weak hl.fr)
  have hs5:Sl H3 z 1 (l'.map A5b):=hb3.toSl
  have hl'l:l'.length≤1048576:=by rw [hperm.length_eq]; exact hol2
  refine A9c l'.length 10 (List.range' 9 2++List.range' 50 27) (fun i F H'=>Kept H3 H'∧∃ z2,F.get 9=some z2∧∃ st ob2,LS H' H3.next z2 st ob2∧st.length≤i∧Asc st∧∀ x,x∈st↔x∈l'.take i) (by simp only [sx]) ⟨Kept.refl hk3.wf,_,by simp only [sx,Nat.reduceEqDiff],[],none,LS.void _ _,Nat.zero_le _,fun i j x y _ hx=>by simp at hx,fun x=>by simp⟩ ?_ ?_
  ·rintro i F' H' hi hF' f10 ⟨hk4,z2,f9,st,ob2,hst,hstl,hasc,hmem⟩ k
   have g5:=hF' 5 rfl
   simp only [sx,Nat.reduceEqDiff,f5] at g5
   have hs6:=hs5.grow (hk4.grow hk3.wf)
   have hlen5:=hs6.len Tryz.underlying22 H'
   rw [List.length_map] at hlen5
   obtain ⟨p,hia,hc⟩:=Sl.elem (s:=1) Tryz.underlying22 A6j hs6 (i:=i) (u:=.string l'[i]) (by rw [List.getElem?_map,List.getElem?_eq_getElem hi]; rfl)
   have hgi:l'[i]?=some l'[i]:=List.getElem?_eq_getElem hi
   have htk:l'.take (i+1)=l'.take i++[l'[i]]:=by rw [List.take_add_one,hgi]; rfl
   obtain ⟨x,hx⟩:∃ x,l'[i]=x:=⟨_,rfl⟩
   rw [hx] at hc hgi htk
   have more : (∀ y ∈ st, A3b y x = true) → ∃ a cap w' H4 ob', z2 = .slice a st.length cap ∧ A5a Tryz.prog 22 1 [(0, .string x)] H' = some (.slice (some ⟨H'.next, 0, some 0⟩) 1 1, (H'.new 1 [.string x]).2) ∧
       A4a Tryz.prog .append [22, 22] [.slice a st.length cap, .slice (some ⟨H'.next, 0, some 0⟩) 1 1] (H'.new 1 [.string x]).2 = some (w', H4) ∧ Kept H3 H4 ∧ LS H4 H3.next w' (st ++ [x]) ob' ∧ Asc (st ++ [x]) := by
     intro hall
     obtain ⟨a, cap, w', H4, ob', e0, e1, e2, e3, e4⟩ := B59 x hk4.next hk4.wf hst (by omega)
     refine ⟨a, cap, w', H4, ob', e0, e1, e2, hk4.then (Nat.le_refl _) (e4.weak hst.fr), e3, fun p q a b hpq ha hb => ?_⟩
     by_cases hq : q < st.length
     · rw [List.getElem?_append_left (by omega)] at ha
       rw [List.getElem?_append_left hq] at hb
       exact hasc p q a b hpq ha hb
     · have hqe : q = st.length := by
         have := (List.getElem?_eq_some_iff.1 hb).1
         simp at this; omega
       subst hqe
       rw [List.getElem?_append_left (by omega)] at ha
       simp at hb
       subst hb
       exact hall a (List.mem_of_getElem? ha)
   by_cases h0:i=0
   ·subst h0
    have hst0:st=[]:=List.length_eq_zero_iff.1 (by omega)
    subst hst0
    obtain ⟨a,cap,w',H4,ob',rfl,e1,e2,e3,e4,e5⟩:=more (fun y hy=>by cases hy)
    have d0:decide (((0:Nat):Int)=0)=true:=rfl
    simp only [↓Sh.dn,sx,Nat.reduceEqDiff,g5,f9,f10,hlen5,A1a,hi,decide_true,d0,hia,hc,e1,e2,wrap_succ hi hl'l]
    refine k _ _ (by repeat (first | refine Same.put ?_ rfl | exact Same.rfl' _)) (by simp only [sx]) ⟨e3,w',by simp only [sx,Nat.reduceEqDiff],[]++[x],ob',e4,by simp,e5,fun y=>by rw [htk]; simp⟩
   ·have d0:decide ((i:Int)=0)=false:=by simp; omega
    have hi1:i - 1 < l'.length:=by omega
    obtain ⟨p1,hia1,hc1⟩:=Sl.elem (s:=1) Tryz.underlying22 A6j hs6 (i:=i - 1) (u:=.string l'[i - 1]) (by rw [List.getElem?_map,List.getElem?_eq_getElem hi1]; rfl)
    have w1:IntKind.wrap .i64 ((i:Int) - 1)=((i - 1:Nat):Int):=by rw [wrap64 (by omega) (by omega)]; omega
    have hgp:l'[i - 1]?=some l'[i - 1]:=List.getElem?_eq_getElem hi1
    obtain ⟨y,hy⟩:∃ y,l'[i - 1]=y:=⟨_,rfl⟩
    rw [hy] at hc1 hgp
    have hyin:y∈st:=(hmem y).2 (List.mem_of_getElem? (i:=i - 1) (by rw [List.getElem?_take,if_pos (by omega)]; exact hgp))
    by_cases hxy:x=y
    ·simp only [↓Sh.dn,sx,Nat.reduceEqDiff,g5,f10,hlen5,A1a,hi,decide_true,d0,hia,hc,w1,hia1,hc1,hxy,wrap_succ hi hl'l]
     refine k _ _ (by repeat (first | refine Same.put ?_ rfl | exact Same.rfl' _)) (by simp only [sx]) ⟨hk4,z2,by simp only [sx,Nat.reduceEqDiff,f9],st,ob2,hst,by omega,hasc,fun a=>?_⟩
     rw [hmem,htk,List.mem_append,List.mem_singleton]
     constructor
     ·exact .inl
     ·rintro (h1 | h1)
      ·exact h1
      ·subst h1; rw [hxy]; exact (hmem y).1 hyin
    ·have hall : ∀ a ∈ st, A3b a x = true := by
       intro a ha
       obtain ⟨j, hj⟩ := List.mem_iff_getElem?.1 ((hmem a).1 ha)
       rw [List.getElem?_take] at hj
       split at hj
       · rename_i hji
         have h1 := hsrt j (i - 1) a y (Nat.zero_le _) (by omega) hi1 hj hgp
         have h2 := hsrt (i - 1) i y x (Nat.zero_le _) (by omega) hi hgp hgi
         have h3 : A3b y x = true := by
           rcases B7j y x with h | h | h
           · exact h
           · exact absurd h.symm hxy
           · rw [h2] at h; cases h
         rcases B7j a y with h | h | h
         · exact A8n h h3
         · rw [h]; exact h3
         · rw [h1] at h; cases h
       · cases hj
     obtain ⟨a, cap, w', H4, ob', rfl, e1, e2, e3, e4, e5⟩ := more hall
     simp only [↓Sh.dn, sx, Nat.reduceEqDiff, g5, f9, f10, hlen5, A1a, hi, decide_true, decide_false, d0, hia, hc, w1, hia1, hc1, hxy, e1, e2, wrap_succ hi hl'l]
     refine k _ _ (by repeat (first | refine Same.put ?_ rfl | exact Same.rfl' _)) (by simp only [sx]) ⟨e3, w', by simp only [sx, Nat.reduceEqDiff], st ++ [x], ob', e4, by simp; omega, e5, fun a => ?_⟩
     rw [htk, List.mem_append, List.mem_append, hmem]
  ·rintro F' H' hF' f10 ⟨hk4,z2,f9,st,ob2,hst,hstl,hasc,hmem⟩
   have g5:=hF' 5 rfl
   simp only [sx,Nat.reduceEqDiff,f5] at g5
   have hlen5:=(hs5.grow (hk4.grow hk3.wf)).len Tryz.underlying22 H'
   rw [List.length_map] at hlen5
   rw [List.take_length] at hmem
   simp only [↓Sh.dn,sx,Nat.reduceEqDiff,g5,f9,f10,hlen5,A1a,Nat.lt_irrefl,decide_false,hres]
   refine ⟨(hk1.trans hk3).trans hk4,st,ob2,hst.bf,hasc,by omega,fun y hy=>by have:=hst.fr y hy; have:=(hk1.trans hk3).next; omega,fun x=>?_⟩
   rw [hmem,hperm.mem_iff,hiff]
end Go.Proofs.YtcgbiedfbacgpaaGreat
/- The reference's lister: the words that go on from a set. -/
namespace Go.Proofs.YtcgbiedfbacgpaaGreat
open Go Go.Proofs Go.Proofs.Sh
def symE (E:List (List (ByteArray×Nat))) (x:ByteArray) (s t:Nat):Prop:=x≠A8a∧A8d E x s t
def B0w (E:List (List (ByteArray×Nat))) (Q:Nat→Prop) (x:ByteArray):Nat→Prop:=Clo (A8d E A8a) fun t=>∃ s,Q s∧symE E x s t
noncomputable def A1l (sigma:List ByteArray) (E:List (List (ByteArray×Nat))) (ends:List Bool) (Q:Nat→Prop) (m:Nat):List (List ByteArray):=lexW sigma (accS (A8d E A8a) (symE E) (fun s=>ends[s]?=some true) Q) m
theorem C0b (sigma:List ByteArray) (E:List (List (ByteArray×Nat))) (ends:List Bool) (Q:Nat→Prop) (m:Nat):A1l sigma E ends Q (m+1)=sigma.flatMap fun x=>(A1l sigma E ends (B0w E Q x) m).map (x :: ·):=B40 _ _ _
theorem B5b {E:List (List (ByteArray×Nat))} (x:ByteArray) (s t:Nat) (h:symE E x s t):anyE E s t:=⟨x,h.1,h.2⟩
theorem B5i {sigma:List ByteArray} {E:List (List (ByteArray×Nat))} {ends:List Bool} {Q:Nat→Prop} {m:Nat} (h:∀ s,Q s→¬exE E ends m s):A1l sigma E ends Q m=[]:=B01 fun u hu ha=>by
 obtain ⟨s,h1,h2⟩:=A7n (any:=anyE E) B5b ha
 rw [hu] at h2
 exact h s h1 h2
theorem B66 {sigma:List ByteArray} {E:List (List (ByteArray×Nat))} {ends:List Bool} {Q:Nat→Prop} (hQ:∀ a b,Q a→A8d E A8a a b→Q b) (h:∃ s,Q s∧exE E ends 0 s):A1l sigma E ends Q 0=[[]]:=by
 unfold A1l
 rw [B3w,if_pos]
 rw [A0s]
 obtain ⟨s,h1,h2⟩:=h
 obtain ⟨t,h3,h4⟩:=A5r.1 h2
 exact ⟨t,(A40 hQ).1 (A6n.2 ⟨s,h1,h3⟩),h4⟩
theorem B19 {sigma:List ByteArray} {E:List (List (ByteArray×Nat))} {ends:List Bool} {Q:Nat→Prop} {m:Nat}:A1l sigma E ends Q m=A1l sigma E ends (fun s=>Q s∧exE E ends m s) m:=B5q fun u hu _=>by
 have:=acc_keep (E:=A8d E A8a) (A:=symE E) (any:=anyE E) (end_:=fun s=>ends[s]?=some true) B5b (w:=u) (S:=Q)
 rw [hu] at this
 exact this
theorem B1h {α:Type} {f:ByteArray→List α} {l:List ByteArray}:∀ {sigma:List ByteArray},(∀ x∈sigma,x∉l→f x=[])→(sigma.filter fun x=>A3t l x).flatMap f=sigma.flatMap f
 | [],_=>rfl
 | x :: sigma,h=>by
  have ih:=B1h (sigma:=sigma) fun y hy=>h y (List.mem_cons_of_mem _ hy)
  rw [List.filter_cons]
  cases hx:A3t l x with
  | true=>rw [if_pos rfl,List.flatMap_cons,List.flatMap_cons,ih]
  | false=>
   have hn:x∉l:=fun h2=>by rw [A9j.2 h2] at hx; cases hx
   rw [if_neg (by simp),List.flatMap_cons,h x List.mem_cons_self hn,List.nil_append,ih]
theorem C1k {l:List ByteArray} (h:Asc l) (p:ByteArray→Bool):Asc (l.filter p):=by
 have h0:l.Pairwise fun a b=>A3b a b=true:=by
  rw [List.pairwise_iff_getElem]
  intro i j hi hj hij
  exact h i j _ _ hij (List.getElem?_eq_getElem hi) (List.getElem?_eq_getElem hj)
 have:=List.pairwise_iff_getElem.1 (h0.filter p)
 intro i j x y hij hx hy
 obtain ⟨h1,h2⟩:=List.getElem?_eq_some_iff.1 hx
 obtain ⟨h3,h4⟩:=List.getElem?_eq_some_iff.1 hy
 rw [← h2,← h4]
 exact this i j h1 h3 hij
structure LisAt (H:AH) (G:Nat→Prop) (gx:Nat) (ev bv xv:Value) (most:Nat) (zo:Value) (oo:Option Nat) (out:List (List ByteArray)):Prop where
 cell:Arr H gx 0 6 [.int .i64 0,ev,bv,xv,.int .i64 (most:Int),zo]
 rows:RowsB strRow H G zo oo out
 ng:¬G gx
theorem LisAt.kept {H H':AH} {G:Nat→Prop} {gx:Nat} {ev bv xv zo:Value} {most:Nat} {oo:Option Nat} {out:List (List ByteArray)} (h:LisAt H G gx ev bv xv most zo oo out) (hw:Wf H) (hk:Kept H H'):LisAt H' G gx ev bv xv most zo oo out:=⟨h.cell.keep (hk.old gx (h.cell.lt hw)),h.rows.kept hw hk,h.ng⟩
theorem B48 {H:AH} {G:Nat→Prop} {z:Value} {oo:Option Nat} {out:List (List ByteArray)} (h:RowsB strRow H G z oo out) (H':AH):A4a Tryz.prog .len [29] [z] H'=some (.int .i64 (out.length:Int),H'):=by
 obtain ⟨vals,h1,h2,h3⟩:=h.ex
 rw [h1.toSl.len Tryz.underlying29,List.length_map,h2]
theorem B0l {H:AH} {G:Nat→Prop} {z:Value} {oo:Option Nat} {out:List (List ByteArray)} (h:RowsB strRow H G z oo out):veq z z=true∧isCell z=true∧∀ y,Wf H→oo=some y→y < H.next:=by
 obtain ⟨vals,h1,h2,h3⟩:=h.ex
 exact ⟨h1.veq,h1.isCell,fun y hw hy=>h1.lt hw y hy⟩
theorem C8d {H:AH} {u:Value} {w:List ByteArray} (hu:Sl H u 1 (w.map A5b)) (hwl:w.length≤1000000) (hw:Wf H):
  ∃ v' H' b',A4a Tryz.prog .append [22,22] [.slice none 0 0,u] H=some (v',H')∧Buf H' 1 v' (w.map A5b) b'∧Kept H H'∧∀ y,b'=some y→H.next≤y:=by
 obtain ⟨v',H',b',e1,e2,e3,e4⟩:=(Buf.void (H:=H) (s:=1) none).append hw (xs:=w.map A5b) (by intro x hx; obtain ⟨b,_,rfl⟩:=List.mem_map.1 hx; rfl)
 have happ:=C2z (base:=none) (len:=0) (cap:=0) (hu.srcKind Tryz.underlying22) hu.newCells (by rw [List.length_map]; omega)
 rw [e1] at happ
 have hk:Kept H H':=e3.kept fun g hg h=>by cases h
 rw [List.nil_append] at e2
 refine ⟨v',H',b',happ,e2,hk,fun y hy=>?_⟩
 rcases e4 with h4 | ⟨h4,h5⟩
 ·rw [h4] at hy; cases hy
 ·rw [h4] at hy; rw [← Option.some.inj hy]; exact Nat.le_refl _
end Go.Proofs.YtcgbiedfbacgpaaGreat
/- The reference's lister: its search. -/
namespace Go.Proofs.YtcgbiedfbacgpaaGreat
open Go Go.Proofs Go.Proofs.Sh
theorem refWalk {H0:AH} {G:Nat→Prop} {base gx n most long:Nat} {oo0:Option Nat} {E:List (List (ByteArray×Nat))} {ends:List Bool} {sigma:List ByteArray} {ev bv xv:Value} {vals:List Value}
  (hrg:∀ H,Chg (fun y=>y=gx∨oo0=some y∨base≤y) H0 H→RG H (.agg #[.int .i64 0,ev,bv]) n E ends ev bv vals)
  (hA:∀ H,Chg (fun y=>y=gx∨oo0=some y∨base≤y) H0 H→∀ j,j≤long→∃ p v,A9a Tryz.prog 103 xv (.int .i64 (j:Int))=some (.pointer (some p))∧H.cell p=some v∧∃ B:List Bool,Sl H v 1 (B.map A3l)∧B.length=n∧∀ t:Nat,B[t]?=some true↔exE E ends j t)
  (htot:(E.map List.length).sum≤1048576) (hasc:Asc sigma) (hsy:∀ x s t,A8d E x s t→x=A8a∨x∈sigma) (hno:A8a∉sigma) (hmost:most≤900) (hlong:long≤900) (hb0:∀ y,base≤y→G y) (hgx:gx < base):
  ∀ (m:Nat) (H:AH) (Q:Nat→Prop) (sv wv:Value) (w:List ByteArray) (wb:Option Nat) (out:List (List ByteArray)) (zo:Value) (oo:Option Nat),Chg (fun y=>y=gx∨oo0=some y∨base≤y) H0 H→base≤H.next→SetAt H sv n Q→(∀ a b,Q a→A8d E A8a a b→Q b)→Buf H 1 wv (w.map A5b) wb→(∀ y,wb=some y→y≠gx∧oo≠some y)→LisAt H G gx ev bv xv most zo oo out→(∀ y,oo=some y→oo0=some y∨base≤y)→out.length≤most+1→w.length+m≤long→
   Sh.Call Tryz.prog (knows 7) 63 [.pointer (some ⟨gx,0,some 0⟩),sv,wv,.int .i64 (m:Int)] H
    (fun _ H'=>Chg (fun y=>y=gx∨oo=some y) H H'∧∃ zo' oo',LisAt H' G gx ev bv xv most zo' oo' ((out++(A1l sigma E ends Q m).map (w++·)).take (most+1))∧∀ y,oo'=some y→oo=some y∨H.next≤y):=by
 intro m
 induction m using Nat.strongRecOn with
 | ind m ih=>
 intro H Q sv wv w wb out zo oo hc0 hbn hS hQ hwv hwb hO hoo hol hwl
 have hw:=hc0.wf
 refine A2a rfl Tryz.func63 rfl (Nat.le_of_ble_eq_true rfl) ?_
 have hres:Tryz.f63.results.toList=[]:=rfl
 obtain ⟨L,hL,hnd,hlt,hLQ⟩:=hS
 have hRG:=hrg H hc0
 have hn2:=hRG.n2
 have hLl:=A3n hnd hlt
 have c3:=hO.cell.cell 3
 have c4:=hO.cell.cell 4
 have c5:=hO.cell.cell 5
 simp only [List.getElem?_cons_succ,List.getElem?_cons_zero] at c3 c4 c5
 obtain ⟨p,v,i1,i2,B,hB,hBl,hBi⟩:=hA H hc0 m (by omega)
 obtain ⟨r2,H2,hd2,hk2,kb,hKb,hKf⟩:=refKeptB hL hB hBl hlt (by omega) hw
 have c02:Chg (fun y=>y=gx∨oo0=some y∨base≤y) H0 H2:=hc0.trans hk2.chg
 have hO2:=hO.kept hw hk2
 obtain ⟨hzv,hzc,hzl⟩:=B0l hO.rows
 have hlO:=B48 hO.rows
 have d4:=hO2.cell.cell 4
 have d5:=hO2.cell.cell 5
 simp only [List.getElem?_cons_succ,List.getElem?_cons_zero] at d4 d5
 simp only [↓Sh.dn,sx,reduceCtorEq,Nat.reduceEqDiff,c3,i1,i2]
 refine ⟨_,_,hd2,?_⟩
 generalize hK:L.filter (fun t=>decide (B[t]?=some true))=Kl at hKb
 have hKm:∀ t,t∈Kl↔Q t∧exE E ends m t:=fun t=>by
  rw [← hK,List.mem_filter,hLQ,decide_eq_true_eq,hBi]
 have hKnd:Kl.Nodup:=by rw [← hK]; exact List.Pairwise.filter _ hnd
 have hKlt:∀ t∈Kl,t < n:=fun t ht=>hlt t ((hLQ t).2 ((hKm t).1 ht).1)
 have hKl:=A3n hKnd hKlt
 have hlK:=fun H'=>hKb.toSl.len Tryz.underlying69 H'
 simp only [List.length_map] at hlK
 have skip:(A1l sigma E ends Q m=[]∨most < out.length)→Chg (fun y=>y=gx∨oo=some y) H H2∧∃ zo' oo',LisAt H2 G gx ev bv xv most zo' oo' ((out++(A1l sigma E ends Q m).map (w++·)).take (most+1))∧∀ y,oo'=some y→oo=some y∨H.next≤y:=fun hh=>by
  have ho:(out++(A1l sigma E ends Q m).map (w++·)).take (most+1)=out:=by
   rcases hh with h1 | h1
   ·rw [h1,List.map_nil,List.append_nil]; exact List.take_of_length_le hol
   ·rw [List.take_append_of_le_length (by omega),List.take_of_length_le hol]
  rw [ho]
  exact ⟨hk2.chg,zo,oo,hO2,fun y hy=>.inl hy⟩
 by_cases hKn:Kl=[]
 ·have hz:decide ((Kl.length:Int)=0)=true:=by rw [hKn]; rfl
  have hnone:A1l sigma E ends Q m=[]:=B5i fun s hs he=>by
   have:=(hKm s).2 ⟨hs,he⟩
   rw [hKn] at this; cases this
  simp only [↓Sh.dn,sx,Nat.reduceEqDiff,hlK,hz,hres]
  exact skip (.inl hnone)
 have hz:decide ((Kl.length:Int)=0)=false:=by
  have:=List.length_pos_iff.2 hKn
  simp; omega
 simp only [↓Sh.dn,sx,reduceCtorEq,Nat.reduceEqDiff,hlK,hz,d4,d5,hlO,A1a]
 by_cases hfull:most < out.length
 ·simp only [↓Sh.dn,sx,hfull,decide_true,hres]
  exact skip (.inr hfull)
 simp only [↓Sh.dn,sx,Nat.reduceEqDiff,hfull,decide_false]
 have hsome:∃ s,Q s∧exE E ends m s:=by
  cases hKe:Kl with
  | nil=>exact absurd hKe hKn
  | cons s K'=>exact ⟨s,(hKm s).1 (by rw [hKe]; exact List.mem_cons_self)⟩
 have hw2:=hwv.kept hw hk2
 cases m with
 | zero=>
  have h00:decide (((0:Nat):Int)=0)=true:=rfl
  simp only [↓Sh.dn,sx,h00]
  obtain ⟨v3,H3,b3,e1,hb3,hk3,hf3⟩:=C8d hw2.toSl (by omega) hk2.wf
  have hO3:=hO2.kept hk2.wf hk3
  have k03:=hk2.trans hk3
  have hn3:=k03.next
  obtain ⟨a,cap,w',H4,oo',rfl,e2,e3,hR4,hc4,hf4⟩:=B96 (u:=w) hO3.rows hk3.wf (fun y hy=>hb0 y (by omega)) hb3 (fun y hy=>⟨hb0 y (by have:=hf3 y hy; have:=hk2.next; omega),fun hy2=>by have:=hzl y hw hy2; have:=hf3 y hy; have:=hk2.next; omega⟩) (by omega)
  have hgo:oo≠some gx:=fun hy=>hO.ng (hO.rows.ob gx hy)
  have a4:=hO3.cell.keep (hc4.old gx (hO3.cell.lt hk3.wf) hgo)
  obtain ⟨H5,s1,s2,s3,s4⟩:=a4.write hc4.wf (i:=5) (vs:=[w']) (by simp)
  have hw'c:=(B0l hR4).2.1
  have st:A6e Tryz.prog 29 H4 w' (.pointer (some ⟨gx,5,some 0⟩))=some H5:=by rw [A1c C9y hw'c]; exact s1
  have d53:=hO3.cell.cell 5
  simp only [List.getElem?_cons_succ,List.getElem?_cons_zero] at d53
  refine A9w (fl:=[(0,[]),(1,[]),(2,[]),(3,[]),(4,[]),(5,[]),(6,[4]),(7,[]),(8,[]),(9,[]),(10,[]),(11,[])]) (by kernel_rfl) (by kernel_rfl) (by kernel_rfl) ?_
  simp only [↓Sh.dn,sx,reduceCtorEq,Nat.reduceEqDiff,wpr,again,A4e,forall_eq',d5,e1,d53,hzv,e2,e3,st,hres]
  have hW:A1l sigma E ends Q 0=[[]]:=B66 hQ hsome
  have ho:(out++(A1l sigma E ends Q 0).map (w++·)).take (most+1)=out++[w]:=by
   rw [hW]
   simp only [List.map_cons,List.map_nil,List.append_nil]
   exact List.take_of_length_le (by rw [List.length_append,List.length_singleton]; omega)
  rw [ho]
  refine ⟨((k03.chg).trans (hc4.weak fun y hy=>.inr hy)).trans (s4.weak fun y hy=>.inl hy),w',oo',⟨s2,?_,hO.ng⟩,fun y hy=>?_⟩
  ·exact hR4.move hc4.wf (fun y hy hyl=>s4.old y hyl fun hyx=>hO.ng (hyx ▸ hy)) fun y hy _=>hy
  ·rcases hf4 y hy with h1 | h1
   ·exact .inl h1
   ·exact .inr (by omega)
 | succ m=>
  have h00:decide (((m+1:Nat):Int)=0)=false:=by simp; omega
  have hRG2:=hrg H2 c02
  have hcells:∀ {H'},Arr H' gx 0 6 [.int .i64 0,ev,bv,xv,.int .i64 (most:Int),zo]→H'.cells ⟨gx,0,some 0⟩ 3=some [.int .i64 0,ev,bv]:=fun h=>by
   rw [h.cells (by simp)]; rfl
  obtain ⟨r3,H3,hd3,hk3,l,lb,hlb,hlasc,hll,hlf,hlm⟩:=B64 hRG2 hKb.toSl hKlt hKnd htot hk2.wf
  have k03:=hk2.trans hk3
  have hn2':=hk2.next
  have hn3:=hk3.next
  have hlsub:∀ x∈l,x∈sigma∧x≠A8a:=fun x hx=>by
   obtain ⟨h1,s,_,t,h2⟩:=(hlm x).1 hx
   exact ⟨(hsy x s t h2).resolve_left h1,h1⟩
  have hcell2:H2.cells ⟨gx,0,some 0⟩ 3=some [.int .i64 0,ev,bv]:=hcells hO2.cell
  have hlen3:∀ H',A4a Tryz.prog .len [22] [r3] H'=some (.int .i64 (l.length:Int),H'):=fun H'=>by
   rw [hlb.toSl.len Tryz.underlying22,List.length_map]
  simp only [↓Sh.dn,sx,reduceCtorEq,Nat.reduceEqDiff,h00,hcell2]
  refine ⟨_,_,hd3,?_⟩
  have hZ:∀ y,(y=gx∨oo=some y)→y < H.next:=fun y hy=>by
   rcases hy with hy | hy
   ·omega
   ·exact hzl y hw hy
  have hZX:∀ y,(y=gx∨oo=some y)→(y=gx∨oo0=some y∨base≤y):=fun y hy=>by
   rcases hy with hy | hy
   ·exact .inl hy
   ·exact .inr (hoo y hy)
  have ho0:out.take (most+1)=out:=List.take_of_length_le hol
  have c03:Chg (fun y=>y=gx∨oo0=some y∨base≤y) H0 H3:=hc0.trans k03.chg
  have hK3:=hKb.kept hk2.wf hk3
  have hw3:=hw2.kept hk2.wf hk3
  refine A9c l.length 9 (List.range' 53 28++[9]) (fun k F H'=>Chg (fun y=>y=gx∨oo=some y) H3 H'∧∃ zo' oo',LisAt H' G gx ev bv xv most zo' oo' ((out++((l.take k).flatMap fun x=>(A1l sigma E ends (B0w E (fun s=>s∈Kl) x) m).map (fun u=>w++x :: u))).take (most+1))∧∀ y,oo'=some y→oo=some y∨H3.next≤y) (by simp only [sx])
   ⟨Chg.refl hk3.wf,zo,oo,by simpa [ho0] using hO2.kept hk2.wf hk3,fun y hy=>.inl hy⟩ ?_ ?_
  ·rintro k F H' hi hF f9 ⟨hc,zo',oo',hO',hof⟩ kk
   have f0:=hF 0 rfl
   have f1:=hF 1 rfl
   have f2:=hF 2 rfl
   have f3:=hF 3 rfl
   have f8:=hF 8 rfl
   simp only [sx,reduceCtorEq,Nat.reduceEqDiff] at f0 f1 f2 f3 f8
   have ch:Chg (fun y=>y=gx∨oo0=some y∨base≤y) H0 H':=c03.then hc fun y hy _=>hZX y hy
   have hnZ:∀ {y},H.next≤y→¬(y=gx∨oo=some y):=fun hy h=>by have:=hZ _ h; omega
   have hKs:Buf H' 1 r2 (Kl.map natC) kb:=hK3.chg hk3.wf hc fun y hy=>hnZ (hKf y hy)
   have hls:Buf H' 1 r3 (l.map A5b) lb:=hlb.chg hk3.wf hc fun y hy=>hnZ (by have:=hlf y hy; omega)
   have hws:Buf H' 1 wv (w.map A5b) wb:=hw3.chg hk3.wf hc fun y hy h=>by
    obtain ⟨h1,h2⟩:=hwb y hy
    rcases h with h | h
    ·exact h1 h
    ·exact h2 h
   obtain ⟨p8,i8,c8⟩:=Sl.elem (s:=1) Tryz.underlying22 A6j hls.toSl (i:=k) (u:=.string l[k]) (by rw [List.getElem?_map,List.getElem?_eq_getElem hi]; rfl)
   have hlk:l[k]∈l:=List.getElem_mem hi
   have htake:l.take (k+1)=l.take k++[l[k]]:=by rw [List.take_add_one,List.getElem?_eq_getElem hi]; rfl
   generalize l[k]=x at c8 hlk htake
   have kn:=Kept.new hc.wf 1 [.string x]
   have hbs:=B12 (H:=H') (x:=.string x) rfl rfl
   have mq:=fun H2=>made_new (H:=H') (H2:=H2) (s:=1) (vals:=[.string x]) (by simp only [B7v,C3j,B47,Bool.and_self])
   have hSm:Buf (H'.new 1 [.string x]).2 1 (.slice (some ⟨H'.next,0,some 0⟩) 1 1) [A5b x] (some H'.next):=Buf.fresh (H:=H') (s:=1) (xs:=[A5b x]) hc.wf (by intro x hx; rw [List.mem_singleton.1 hx]; rfl) (by simp) 1 rfl
   have hxa:H'.next < (H'.new 1 [.string x]).2.next:=Nat.lt_succ_self _
   have cha:=ch.trans kn.chg
   have hKa:=hKs.kept hc.wf kn
   have hwa:=hws.kept hc.wf kn
   have c8a:=A2b (kn.grow hc.wf) c8
   have ga:(H'.new 1 [.string x]).2.cells ⟨gx,0,some 0⟩ 3=some [.int .i64 0,ev,bv]:=by rw [(hO'.kept hc.wf kn).cell.cells (by simp)]; rfl
   generalize hHa:(H'.new 1 [.string x]).2=Ha at kn mq hSm hxa cha hKa hwa c8a ga
   obtain ⟨r4,H4,hd4,hk4,S4,b4,hb4,hf4,hnd4,hlt4,hi4⟩:=refStep (x:=x) (hrg Ha cha) hKa.toSl hKlt (by omega) kn.wf
   obtain ⟨v5,H5,b5,e5,hb5,hk5,hf5⟩:=C8d (hwa.toSl.grow (hk4.grow kn.wf)) (by omega) hk4.wf
   have k45:=hk4.trans hk5
   have k5':=kn.trans k45
   have hSm5:=hSm.kept kn.wf k45
   obtain ⟨a6,cap6,hv6⟩:=hb5.shape
   subst hv6
   rw [List.length_map] at hb5 e5
   obtain ⟨w6,H6,b6,h6b,h6c,h6d,h6e⟩:=hb5.append hk5.wf (xs:=[A5b x]) (by intro y hy; rw [List.mem_singleton.1 hy]; rfl)
   have ha:=C2z (base:=a6) (len:=w.length) (cap:=cap6) (hSm5.toSl.srcKind Tryz.underlying22) hSm5.toSl.newCells (by rw [List.length_singleton]; omega)
   rw [h6b] at ha
   have hcn:=hc.next
   have hn4:=hk4.next
   have hn5:=hk5.next
   have k46:Kept H' H6:=k5'.then (base:=H'.next) (Nat.le_refl _) (h6d.weak fun y hy=>by have:=hf5 y hy; omega)
   have hO6:=hO'.kept hc.wf k46
   have ch6:Chg (fun y=>y=gx∨oo0=some y∨base≤y) H0 H6:=ch.trans k46.chg
   have hlO':=(B0l hO'.rows).2.2
   have hf6:∀ y,b6=some y→H'.next≤y:=fun y hy=>by
    rcases h6e with h1 | ⟨h1,_⟩
    ·rw [h1] at hy; have:=hf5 y hy; omega
    ·rw [h1] at hy; have:=Option.some.inj hy; omega
   have hS6:SetAt H6 r4 n (B0w E (fun s=>s∈Kl) x):=by
    have hb46:Buf H6 1 r4 (S4.map natC) b4:=(hb4.kept hk4.wf hk5).chg hk5.wf h6d fun y hy hy2=>by have:=hb4.lt hk4.wf y hy; have:=hf5 y hy2; omega
    refine ⟨S4,hb46.toSl,hnd4,hlt4,fun t=>?_⟩
    rw [hi4]
    have:(fun t=>∃ s,s∈Kl∧A8d E x s t)=fun t=>∃ s,s∈Kl∧symE E x s t:=by
     funext t
     apply propext
     unfold symE
     constructor
     ·rintro ⟨s,h1,h2⟩; exact ⟨s,h1,(hlsub x hlk).2,h2⟩
     ·rintro ⟨s,h1,h2⟩; exact ⟨s,h1,h2.2⟩
    rw [this]
    rfl
   obtain ⟨r7,H7,hd7,hc7,zo7,oo7,hO7,hof7⟩:=ih m (Nat.lt_succ_self m) H6 (B0w E (fun s=>s∈Kl) x) r4 w6 (w++[x]) b6 _ zo' oo' ch6 (by have:=k46.next; omega) hS6 (fun a b h1 h2=>.step h1 h2) (by rw [List.map_append]; exact h6c) (fun y hy=>⟨by have:=hf6 y hy; have:=hZ gx (.inl rfl); omega,fun hy2=>by have:=hlO' y hc.wf hy2; have:=hf6 y hy; omega⟩) hO6 (fun y hy=>by
    rcases hof y hy with h1 | h1
    ·exact hoo y h1
    ·exact .inr (by omega)) (by rw [List.length_take]; omega) (by rw [List.length_append,List.length_singleton]; omega)
   have c84:=A2b (hk4.grow kn.wf) c8a
   have c85:=A2b (k45.grow kn.wf) c8a
   have wl:IntKind.wrap .i64 (((m+1:Nat):Int) - 1)=(m:Int):=by rw [wrap64 (by omega) (by omega)]; omega
   have wi:IntKind.wrap .i64 ((k:Int)+1)=((k+1:Nat):Int):=A3a hi (by omega)
   have g0:H'.cells ⟨gx,0,some 0⟩ 3=some [.int .i64 0,ev,bv]:=by rw [hO'.cell.cells (by simp)]; rfl
   have u4:MadeQ H'.next Ha H4:=mq H4 (hk4.old _ hxa)
   have u5:MadeQ H'.next Ha H5:=mq H5 (k45.old _ hxa)
   simp only [↓Sh.dn,sx,Nat.reduceEqDiff,f8,f9,hlen3,A1a,hi,decide_true]
   refine wp_made (fl:=[(0,[],[],[]),(1,[],[],[]),(2,[],[],[]),(3,[],[],[]),(4,[],[],[]),(5,[],[],[]),(6,[],[],[]),(7,[],[],[]),(8,[],[],[]),(9,[],[],[]),(11,[],[],[]),(13,[],[],[]),(14,[],[],[]),(15,[],[],[]),(16,[],[],[]),(17,[],[],[]),(19,[],[],[]),(20,[],[],[]),(10,[16],[true],[true]),(12,[16],[true],[true]),(18,[],[false],[false]),(21,[],[],[])]) (by kernel_rfl) (by kernel_rfl) (by kernel_rfl) ?_
   simp only [↓Sh.dn,sx,reduceCtorEq,Nat.reduceEqDiff,wpm,B3v,C7v,B6g,again,isEff,A4e,B47,forall_eq',f0,f1,f2,f3,f8,f9,i8,c8,wl,hbs,A6a,hHa,g0]
   refine ⟨_,_,hd4,?_⟩
   simp only [sx,u4,c84,e5,u5,c85,ha]
   refine ⟨_,_,by first | exact hd7 | simpa using hd7,?_⟩
   simp only [wi]
   refine kk _ _ (by repeat (first | refine Same.put ?_ rfl | exact Same.rfl' _)) (by simp only [sx]) ⟨(hc.trans k46.chg).then hc7 fun y hy hlt3=>?_,zo7,oo7,?_,fun y hy=>?_⟩
   ·rcases hy with h1 | h1
    ·exact .inl h1
    ·rcases hof y h1 with h2 | h2
     ·exact .inr h2
     ·omega
   ·have he : (out ++ (l.take (k + 1)).flatMap fun x => (A1l sigma E ends (B0w E (fun s => s ∈ Kl) x) m).map (fun u => w ++ x :: u)).take (most + 1) = ((out ++ (l.take k).flatMap fun x => (A1l sigma E ends (B0w E (fun s => s ∈ Kl) x) m).map (fun u => w ++ x :: u)).take (most + 1) ++ (A1l sigma E ends (B0w E (fun s => s ∈ Kl) x) m).map (w ++ [x] ++ ·)).take (most + 1) := by
      rw [B8b, htake, List.flatMap_append, ← List.append_assoc]
      congr 2
      simp
    rw [he]
    exact hO7
   ·rcases hof7 y hy with h1 | h1
    ·exact hof y h1
    ·have:=k46.next
     exact .inr (by omega)
  ·rintro F H' hF f9 ⟨hc,zo',oo',hO',hof⟩
   have f8:=hF 8 rfl
   simp only [sx,Nat.reduceEqDiff] at f8
   rw [List.take_length] at hO'
   simp only [↓Sh.dn,sx,Nat.reduceEqDiff,f8,f9,hlen3,A1a,Nat.lt_irrefl,decide_false,hres]
   have hKQ:(fun s=>s∈Kl)=fun s=>Q s∧exE E ends (m+1) s:=funext fun s=>propext (hKm s)
   have hfl:l=sigma.filter fun x=>A3t l x:=by
    refine C51 hlasc (C1k hasc _) fun x=>?_
    rw [List.mem_filter,A9j]
    exact ⟨fun hx=>⟨(hlsub x hx).1,hx⟩,fun h=>h.2⟩
   have he:(A1l sigma E ends Q (m+1)).map (w++·)=l.flatMap fun x=>(A1l sigma E ends (B0w E (fun s=>s∈Kl) x) m).map (fun u=>w++x :: u):=by
    rw [B19,← hKQ,C0b,List.map_flatMap]
    rw [← B1h (l:=l) (fun x hx hxl=>by
     rw [B5i,List.map_nil,List.map_nil]
     intro s hs _
     refine hs.of (Q:=fun _=>False) (fun t ⟨s',h1,h2⟩=>hxl ((hlm x).2 ⟨h2.1,s',h1,t,h2.2⟩)) fun _ _ h _=>h),← hfl]
    congr 1
    funext x
    rw [List.map_map]
    rfl
   rw [he]
   refine ⟨k03.chg.trans hc,zo',oo',hO',fun y hy=>?_⟩
   rcases hof y hy with h1 | h1
   ·exact .inl h1
   ·exact .inr (by omega)
end Go.Proofs.YtcgbiedfbacgpaaGreat
/- The reference's Shortlex. -/
namespace Go.Proofs.YtcgbiedfbacgpaaGreat
open Go Go.Proofs Go.Proofs.Sh
def AliveP (H:AH) (P:Nat→Prop) (n:Nat) (z:Value) (ob:Option Nat) (Q:Nat→Nat→Prop) (k:Nat):Prop:=
 (∀ y,ob=some y→P y)∧∃ vals:List Value,Buf H 1 z (vals.map fun x=>[x]) ob∧vals.length=k∧∀ (j:Nat) v,vals[j]?=some v→∃ (B:List Bool) (o:Option Nat),Buf H 1 v (B.map A3l) o∧(∀ y,o=some y→P y∧ob≠some y)∧B.length=n∧∀ t:Nat,B[t]?=some true↔Q j t
theorem AliveP.move {H H':AH} {P P':Nat→Prop} {n:Nat} {z:Value} {ob:Option Nat} {Q:Nat→Nat→Prop} {k:Nat} (h:AliveP H P n z ob Q k) (hw:Wf H) (hk:∀ y,P y→y < H.next→H'.objs.get y=H.objs.get y) (hP:∀ y,P y→y < H.next→P' y):AliveP H' P' n z ob Q k:=by
 obtain ⟨h0,vals,h1,h2,h3⟩:=h
 refine ⟨fun y hy=>hP y (h0 y hy) (h1.lt hw y hy),vals,h1.keep fun y hy=>hk y (h0 y hy) (h1.lt hw y hy),h2,fun j v hv=>?_⟩
 obtain ⟨B,o,h4,h5,h6⟩:=h3 j v hv
 exact ⟨B,o,h4.keep fun y hy=>hk y (h5 y hy).1 (h4.lt hw y hy),fun y hy=>⟨hP y (h5 y hy).1 (h4.lt hw y hy),(h5 y hy).2⟩,h6⟩
theorem B58 {H:AH} {P:Nat→Prop} {n:Nat} {z v:Value} {ob o:Option Nat} {Q:Nat→Nat→Prop} {k:Nat} {B:List Bool} (h:AliveP H P n z ob Q k) (hw:Wf H) (hb:∀ y,H.next≤y→P y) (hB:Buf H 1 v (B.map A3l) o) (ho:∀ y,o=some y→P y∧ob≠some y) (hBl:B.length=n) (hQ:∀ t:Nat,B[t]?=some true↔Q k t) (hk:k≤1073741823):
  ∃ a cap w' H4 ob',z=.slice a k cap∧A5a Tryz.prog 103 1 [(0,v)] H=some (.slice (some ⟨H.next,0,some 0⟩) 1 1,(H.new 1 [v]).2)∧A4a Tryz.prog .append [103,103] [.slice a k cap,.slice (some ⟨H.next,0,some 0⟩) 1 1] (H.new 1 [v]).2=some (w',H4)∧AliveP H4 P n w' ob' Q (k+1)∧Chg (fun y=>ob=some y) H H4∧∀ y,ob'=some y→ob=some y∨H.next≤y:=by
 obtain ⟨h0,vals,h1,h2,h3⟩:=h
 obtain ⟨a,cap,w',H4,ob',e1,e2,e3,e4,e5⟩:=h1.push hw (x:=[v]) rfl
 have hv:=hB.isCell
 have hbs:=A27 (H:=H) (x:=v) (by rw [A7b hv]; rfl) (by rw [A7b hv]; simp [hv])
 rw [A7b hv] at hbs
 rw [List.length_map,h2] at e1 e2
 have ha:=C2i (H:=H) (base:=a) (len:=k) (cap:=cap) (x:=[v]) rfl hk
 rw [e2] at ha
 have hfar:∀ y,o=some y→ob'≠some y:=fun y hy hy2=>by
  rcases e5 y hy2 with h4 | h4
  ·exact (ho y hy).2 h4
  ·have:=hB.lt hw y hy; omega
 refine ⟨a,cap,w',H4,ob',e1,hbs,ha,⟨fun y hy=>?_,vals++[v],by rw [List.map_append]; exact e3,by simp [h2],fun j w hj=>?_⟩,e4,e5⟩
 ·rcases e5 y hy with h4 | h4
  ·exact h0 y h4
  ·exact hb y h4
 ·rcases Nat.lt_or_ge j vals.length with hj1 | hj1
  ·rw [List.getElem?_append_left hj1] at hj
   obtain ⟨B',o',k1,k2,k3⟩:=h3 j w hj
   refine ⟨B',o',k1.chg hw e4 fun y hy hy2=>(k2 y hy).2 hy2,fun y hy=>⟨(k2 y hy).1,fun hy2=>?_⟩,k3⟩
   rcases e5 y hy2 with h4 | h4
   ·exact (k2 y hy).2 h4
   ·have:=k1.lt hw y hy; omega
  ·rw [List.getElem?_append_right hj1] at hj
   have hj0:j - vals.length=0:=by
    have:=(List.getElem?_eq_some_iff.1 hj).1
    simp at this; omega
   have hjk:j=k:=by omega
   rw [hj0] at hj
   have:v=w:=by simpa using hj
   subst this hjk
   exact ⟨B,o,hB.chg hw e4 fun y hy hy2=>(ho y hy).2 hy2,fun y hy=>⟨(ho y hy).1,hfar y hy⟩,hBl,hQ⟩
theorem C6p {H:AH} {P:Nat→Prop} {n:Nat} {z:Value} {ob:Option Nat} {Q:Nat→Nat→Prop} {k j:Nat} (h:AliveP H P n z ob Q k) (hj:j < k):
  ∃ p v,A9a Tryz.prog 103 z (.int .i64 (j:Int))=some (.pointer (some p))∧H.cell p=some v∧∃ B:List Bool,Sl H v 1 (B.map A3l)∧B.length=n∧∀ t:Nat,B[t]?=some true↔Q j t:=by
 obtain ⟨h0,vals,h1,h2,h3⟩:=h
 have hv:vals[j]?=some (vals[j]'(by rw [h2]; exact hj)):=List.getElem?_eq_getElem _
 obtain ⟨B,o,k1,k2,k3⟩:=h3 j _ hv
 obtain ⟨p,i1,i2⟩:=Sl.elem (s:=1) Tryz.underlying103 B4e h1.toSl (i:=j) (u:=vals[j]'(by rw [h2]; exact hj)) (by rw [List.getElem?_map,hv]; rfl)
 exact ⟨p,_,i1,i2,B,k1.toSl,k3⟩
noncomputable def A4i (sigma:List ByteArray) (E:List (List (ByteArray×Nat))) (ends:List Bool) (k:Nat):List (List ByteArray):=(List.range k).flatMap fun m=>A1l sigma E ends (Clo (A8d E A8a) fun s=>s=0) m
theorem B0e (sigma:List ByteArray) (E:List (List (ByteArray×Nat))) (ends:List Bool) (k:Nat):A4i sigma E ends (k+1)=A4i sigma E ends k++A1l sigma E ends (Clo (A8d E A8a) fun s=>s=0) k:=by
 unfold A4i
 rw [List.range_succ,List.flatMap_append]
 simp
theorem B94 (sigma:List ByteArray) (E:List (List (ByteArray×Nat))) (ends:List Bool) {i n:Nat} (h:i≤n):∃ t,A4i sigma E ends n=A4i sigma E ends i++t:=by
 induction n with
 | zero=>exact ⟨[],by rw [show i=0 by omega]; simp⟩
 | succ n ih=>
  by_cases hin:i=n+1
  ·exact ⟨[],by rw [hin]; simp⟩
  obtain ⟨t,ht⟩:=ih (by omega)
  exact ⟨t++A1l sigma E ends (Clo (A8d E A8a) fun s=>s=0) n,by rw [B0e,ht,List.append_assoc]⟩
noncomputable def A2j (all:List (List ByteArray)) (more:Prop) (most:Nat):List (List ByteArray)×Bool×Bool:=
 if most < all.length then (all.take most,true,false) else if tB more=true then (if all.length < most then ([],false,true) else (all,true,false)) else (all,false,false)
theorem C5a {H:AH} {v ev bv:Value} {vals:List Value} {n most:Nat} {E:List (List (ByteArray×Nat))} {ends:List Bool} {sigma:List ByteArray} (h:RG H v n E ends ev bv vals) (htot:(E.map List.length).sum≤1048576) (hasc:Asc sigma) (hsy:∀ x s t,A8d E x s t→x=A8a∨x∈sigma) (hno:A8a∉sigma) (hmost:most≤900) (h1m:1≤most) (hw:Wf H):
  Sh.Call Tryz.prog (knows 7) 29 [v,.int .i64 (most:Int)] H (fun r H'=>Kept H H'∧∃ lv,r=.tuple #[lv,.bool (A2j (A4i sigma E ends 61) (A6m (A8d E A8a) (anyE E) (fun s=>ends[s]?=some true) 61 0) most).2.1,.bool (A2j (A4i sigma E ends 61) (A6m (A8d E A8a) (anyE E) (fun s=>ends[s]?=some true) 61 0) most).2.2]∧∃ vs,JagR H' lv 1 ((A2j (A4i sigma E ends 61) (A6m (A8d E A8a) (anyE E) (fun s=>ends[s]?=some true) 61 0) most).1.map strRow) vs):=by
 refine A2a rfl Tryz.func29 rfl (Nat.le_of_ble_eq_true rfl) ?_
 have hres:Tryz.f29.results.toList=[.tmp 4,.tmp 5,.tmp 6]:=rfl
 have hn1:=h.n1
 have hn2:=h.n2
 have hrb:=RBox.of h hw
 have hk1:Kept H (H.new 3 [.int .i64 0,ev,bv]).2:=Kept.new hw 3 _
 have hE:=h.ed.sl.isCell
 have hB:=h.en.isCell
 rw [h.eq]
 simp only [↓Sh.dn,sx,Nat.reduceEqDiff,B4z hE hB]
 generalize (H.new 3 [.int .i64 0,ev,bv]).2=H1 at hrb hk1 ⊢
 generalize hgb:H.next=gb at hrb ⊢
 have hlE:∀ H',A4a Tryz.prog .len [57] [ev] H'=some (.int .i64 (n:Int),H'):=fun H'=>by
  rw [h.ed.sl.len Tryz.underlying57,List.length_map,h.ed.len]; unfold A4h; rw [List.length_map,h.le]
 have hz:decide ((n:Int)=0)=false:=by simp; omega
 obtain ⟨rv,H3,hd3,hk3,R,ot,vs,obs,hJ,hin,hRl,hRr,hRg⟩:=A02 hrb.rg hk1.wf
 have hrb3:=hrb.kept hk1.wf hk3
 simp only [↓Sh.dn,sx,Nat.reduceEqDiff,hrb.c1,hlE,hz,hrb.ca]
 refine ⟨_,_,hd3,?_⟩
 have hs3:=hrb3.rg.en
 obtain ⟨mv,H4,os,a1,a2,a3,a4⟩:=(Buf.void (H:=H3) (s:=1) none).append hk3.wf (xs:=ends.map A3l) (by intro x hx; obtain ⟨b,_,rfl⟩:=List.mem_map.1 hx; rfl)
 have happ:=app_58 (base:=none) (len:=0) (cap:=0) (hs3.srcKind Tryz.underlying58) hs3.newCells (by rw [List.length_map,h.ln]; omega)
 rw [a1] at happ
 have hk4:Kept H3 H4:=a3.kept fun g hg h=>by cases h
 rw [List.nil_append] at a2
 have hos:∀ y,os=some y→H3.next≤y∧y < H4.next:=by
  intro y hy
  rcases a4 with h4 | ⟨h4,h5⟩
  ·rw [h4] at hy; cases hy
  ·rw [h4] at hy; rw [← Option.some.inj hy]; exact ⟨Nat.le_refl _,h5⟩
 have hJ4:=hJ.kept hk3.wf hk4
 have hJn:=hJ.lt hk3.wf
 obtain ⟨rr,H5,hd5,hc5,seen,hb5,hsl5,hi5⟩:=B0f (em:=true) (hk3.trans hk4) hJ4 hRl hRr a2 (fun y hy=>by have:=(hos y hy).1; have:=hk3.next; omega) (fun y hy hj=>by have:=hJn y hj; have:=(hos y hy).1; omega) h.ln hn2
 have hk35:Kept H3 H5:=hk4.then (Nat.le_refl _) (hc5.weak fun y hy=>(hos y hy).1)
 have hJ5:=hJ.kept hk3.wf hk35
 have hrb5:=hrb3.kept hk3.wf hk35
 have hX0:∀ t:Nat,seen[t]?=some true↔exE E ends 0 t:=fun t=>by rw [hi5,B4j hRg]; rfl
 simp only [sx,hrb3.c2,happ]
 refine ⟨_,_,hd5,?_⟩
 have va:∀ xs:Array Value,A6a (.agg xs)=xs.toList:=fun _=>rfl
 have vi:∀ n:Int,A6a (.int .i64 n)=[.int .i64 n]:=fun _=>rfl
 have ci:∀ n:Int,isCell (.int .i64 n)=true:=fun _=>rfl
 have cs:isCell (.slice none 0 0)=true:=rfl
 have bl:A9r Tryz.prog 105 [(0,.agg #[.int .i64 0,ev,bv]),(2,.int .i64 (most:Int))]=some (.agg #[.int .i64 0,ev,bv,.slice none 0 0,.int .i64 (most:Int),.slice none 0 0]):=by
  refine A3o (pl:=[(0,3),(3,1),(4,1),(5,1)]) Tryz.underlying105 B8t (by kernel_rfl) ?_
  simp [A82,va,vi,ci,hE,hB,setCells,A5c]
 have nl:∀ (H:AH),anew Tryz.prog 105 H (.agg #[.int .i64 0,ev,bv,.slice none 0 0,.int .i64 (most:Int),.slice none 0 0])=some (.pointer (some ⟨H.next,0,some 0⟩),(H.new 6 [.int .i64 0,ev,bv,.slice none 0 0,.int .i64 (most:Int),.slice none 0 0]).2):=
  fun H=>A6r C8i rfl (by simp [hE,hB,ci,cs])
 have k6:=Kept.new hc5.wf 6 [.int .i64 0,ev,bv,.slice none 0 0,.int .i64 (most:Int),.slice none 0 0]
 have o6:=(Sh.Obj.new (H:=H5) 6 [.int .i64 0,ev,bv,.slice none 0 0,.int .i64 (most:Int),.slice none 0 0]).arr
 have x6:H5.next < (H5.new 6 [.int .i64 0,ev,bv,.slice none 0 0,.int .i64 (most:Int),.slice none 0 0]).2.next:=Nat.lt_succ_self _
 have hrb6:=hrb5.kept hc5.wf k6
 simp only [sx,hrb5.ca,bl,nl,hrb6.ca]
 generalize hgx:H5.next=gx at o6 x6 ⊢
 generalize (H5.new 6 [.int .i64 0,ev,bv,.slice none 0 0,.int .i64 (most:Int),.slice none 0 0]).2=H6 at k6 o6 x6 hrb6 ⊢
 obtain ⟨r7,H7,hd7,hk7,S0,b7,hb7,hf7,hnd7,hlt7,hi7⟩:=refStart hrb6.rg k6.wf
 refine ⟨_,_,hd7,?_⟩
 have hb0:gx < H7.next:=Nat.lt_of_lt_of_le x6 hk7.next
 have hk57:=k6.trans hk7
 have o7:=o6.keep (hk7.old gx x6)
 have hQ0:(fun t=>t∈S0)=Clo (A8d E A8a) fun s=>s=0:=funext fun t=>propext (hi7 t)
 have hk07:=(hk1.trans hk3).trans (hk35.trans hk57)
 have h67:=hk7.next
 have h13:=hk1.next
 have h33:=hk3.next
 have h35:=hk35.next
 have far:∀ y,y < H5.next→y≠gx:=fun y hy=>by omega
 have hlL:LisAt H7 (fun y=>H7.next≤y∧(none:Option Nat)≠some y) gx ev bv (.slice none 0 0) most (.slice none 0 0) none []:=⟨o7,RowsB.void _ _,fun h=>by omega⟩
 have hA0:AliveP H7 (fun y=>y≠gx∧(none:Option Nat)≠some y) n (.slice none 0 0) none (exE E ends) 0:=⟨fun y hy=>(by cases hy),[],.void none,rfl,fun j v hj=>by simp at hj⟩
 have f0e:A4i sigma E ends 0=[]:=rfl
 have hK5:∀ {H'},Chg (fun y=>y=gx∨H7.next≤y) H7 H'→Kept H5 H':=fun hc=>hk57.then (Nat.le_refl _) (hc.weak fun y hy=>by have:=hk57.next; omega)
 refine A9c 61 11 (List.range' 31 35++[8,11]) (fun i F H'=>Chg (fun y=>y=gx∨H7.next≤y) H7 H'∧(A4i sigma E ends i).length≤most∧∃ zm,F.get 8=some zm∧∃ (X:List Bool) (om:Option Nat) (xv:Value) (ob:Option Nat) (zo:Value) (oo:Option Nat),Buf H' 1 zm (X.map A3l) om∧(∀ y,om=some y→y≠gx∧oo≠some y∧ob≠some y)∧X.length=n∧(∀ t:Nat,X[t]?=some true↔exE E ends i t)∧(∀ y,ob=some y→H7.next≤y)∧LisAt H' (fun y=>H7.next≤y∧ob≠some y) gx ev bv xv most zo oo (A4i sigma E ends i)∧AliveP H' (fun y=>y≠gx∧oo≠some y) n xv ob (exE E ends) i) (by simp only [sx])
  ⟨Chg.refl hk7.wf,by rw [f0e]; exact Nat.zero_le _,mv,by simp only [sx,Nat.reduceEqDiff],seen,os,_,none,_,none,hb5.kept hc5.wf hk57,fun y hy=>⟨far y (by have:=(hos y hy).2; have:=hc5.next; omega),(fun h=>by cases h),fun h=>by cases h⟩,hsl5,hX0,(fun y hy=>by cases hy),hlL,hA0⟩ ?_ ?_
 ·rintro i F H' hi hF f11 ⟨hc,hfl,zm,f8,X,om,xv,ob,zo,oo,hX,hom,hXl,hXi,hob,hL,hA⟩ k
  have g1:=hF 1 rfl
  have g7:=hF 7 rfl
  have g9:=hF 9 rfl
  have g10:=hF 10 rfl
  simp only [sx,Nat.reduceEqDiff] at g1 g7 g9 g10
  have hgl:=hL.ng
  have hcn:=hc.next
  have hool:=(B0l hL.rows).2.2
  have hoog:∀ y,oo=some y→H7.next≤y:=fun y hy=>(hL.rows.ob y hy).1
  obtain ⟨a,cap,xv2,Ha,ob2,rfl,e1,e2,hA2,hca,hob2⟩:=B58 hA hc.wf (fun y hy=>⟨by omega,fun h=>by have:=hool y hc.wf h; omega⟩) hX (fun y hy=>⟨⟨(hom y hy).1,(hom y hy).2.1⟩,(hom y hy).2.2⟩) hXl hXi (by omega)
  have hobn:∀ y,ob=some y→y≠gx∧oo≠some y:=hA.1
  have ca:=hL.cell.keep (hca.old gx (hL.cell.lt hc.wf) fun h=>(hobn gx h).1 rfl)
  obtain ⟨Hb,s1,s2,s3,s4⟩:=ca.write hca.wf (i:=3) (vs:=[xv2]) (by simp)
  have hx2c:isCell xv2=true:=by
   obtain ⟨_,_,hb,_⟩:=hA2
   exact hb.isCell
  have st:A6e Tryz.prog 103 Ha xv2 (.pointer (some ⟨gx,3,some 0⟩))=some Hb:=by rw [A1c B4s hx2c]; exact s1
  have hcab:Chg (fun y=>ob=some y∨y=gx) H' Hb:=(hca.weak fun y hy=>.inl hy).trans (s4.weak fun y hy=>.inr hy)
  have hcb:Chg (fun y=>y=gx∨H7.next≤y) H7 Hb:=hc.trans (hcab.weak fun y hy=>by
   rcases hy with h1 | h1
   ·exact .inr (hob y h1)
   ·exact .inl h1)
  have hbn:=hcab.next
  have hob2l:∀ y,ob2=some y→y < Ha.next:=fun y hy=>by
   obtain ⟨_,vz,hz1,_⟩:=hA2
   exact hz1.lt hca.wf y hy
  have hHa:Ha.next=Hb.next:=s3.symm
  have hLb : LisAt Hb (fun y => H7.next ≤ y ∧ ob2 ≠ some y) gx ev bv xv2 most zo oo (A4i sigma E ends i) := ⟨s2, hL.rows.move hc.wf (fun y hy hyl => hcab.old y hyl fun h => by
      rcases h with h1 | h1
      · exact hy.2 h1
      · have := hy.1; omega) (fun y hy hyl => ⟨hy.1, fun h => by
      rcases hob2 y h with h1 | h1
      · exact hy.2 h1
      · omega⟩), fun h => by omega⟩
  have hAb:=hA2.move (H':=Hb) (P':=fun y=>y≠gx∧oo≠some y) hca.wf (fun y hy hyl=>s4.old y hyl hy.1) fun y hy _=>hy
  have hXb:=hX.chg hc.wf hcab fun y hy h=>by
   rcases h with h1 | h1
   ·exact (hom y hy).2.2 h1
   ·exact (hom y hy).1 h1
  have hS0:SetAt Hb r7 n (Clo (A8d E A8a) fun s=>s=0):=⟨S0,(hb7.chg hk7.wf hcb fun y hy h=>by
   have h1:=hf7 y hy
   have h2:=hb7.lt hk7.wf y hy
   omega).toSl,hnd7,hlt7,hi7⟩
  obtain ⟨r8,Hc,hd8,hcc,zo2,oo2,hLc,hof⟩:=refWalk (H0:=Hb) (G:=fun y=>H7.next≤y∧ob2≠some y) (base:=Hb.next) (gx:=gx) (n:=n) (most:=most) (long:=i) (oo0:=oo) (E:=E) (ends:=ends) (sigma:=sigma) (ev:=ev) (bv:=bv) (xv:=xv2) (vals:=vals)
   (fun H8 hc8=>(hrb5.rg.kept hc5.wf ((hK5 hcb).then (Nat.le_refl _) (hc8.weak fun y hy=>by
    have:=(hK5 hcb).next
    rcases hy with h1 | h1 | h1
    ·omega
    ·have:=hoog y h1; omega
    ·omega))))
   (fun H8 hc8 j hj=>C6p (hAb.move (P':=fun _=>True) hcb.wf (fun y hy hyl=>hc8.old y hyl fun h=>by
    rcases h with h1 | h1 | h1
    ·exact hy.1 h1
    ·exact hy.2 h1
    ·omega) fun _ _ _=>trivial) (by omega))
   htot hasc hsy hno hmost (by omega) (fun y hy=>⟨by omega,fun h=>by have:=hob2l y h; omega⟩) (by omega)
   i Hb (Clo (A8d E A8a) fun s=>s=0) r7 (.slice none 0 0) [] none _ zo oo (Chg.refl hcb.wf) (Nat.le_refl _) hS0 (fun a b h1 h2=>.step h1 h2) (.void none) (fun y hy=>by cases hy) hLb (fun y hy=>.inl hy) (by omega) (by simp)
  have hlist:(A4i sigma E ends i++(A1l sigma E ends (Clo (A8d E A8a) fun s=>s=0) i).map ([]++·)).take (most+1)=(A4i sigma E ends (i+1)).take (most+1):=by
   rw [B0e]; simp
  rw [hlist] at hLc
  have hcc':Chg (fun y=>y=gx∨H7.next≤y) H7 Hc:=hcb.trans (hcc.weak fun y hy=>by
   rcases hy with h1 | h1
   ·exact .inl h1
   ·exact .inr (hoog y h1))
  have hccn:=hcc.next
  have c3:=hL.cell.cell 3
  have c5:=hLc.cell.cell 5
  simp only [List.getElem?_cons_succ,List.getElem?_cons_zero] at c3 c5
  have hlO:=B48 hLc.rows
  have h60:decide ((i:Int)≤60)=true:=by simp; omega
  simp only [↓Sh.dn,sx,Nat.reduceEqDiff,f11,h60,f8,g9,c3,e1,e2,st,g10]
  refine ⟨_,_,hd8,?_⟩
  simp only [sx,c5,hlO,g1,A1a]
  by_cases hmo:most < (A4i sigma E ends (i+1)).length
  ·have h1:decide (most < ((A4i sigma E ends (i+1)).take (most+1)).length)=true:=by rw [decide_eq_true_eq,List.length_take]; omega
   obtain ⟨vz,hz1,hz2,hz3⟩:=hLc.rows.ex
   have hzl:((vz.map fun x=>[x]):List (List Value)).length=most+1:=by rw [List.length_map,hz2,List.length_take]; omega
   obtain ⟨lv,hcut,hsl⟩:=hz1.cut3 (k:=most) (by omega) (by unfold big; omega) (fun h=>by rw [h] at hzl; simp at hzl)
   have hcu:=hcut (P:=Tryz.prog) Tryz.underlying29 A00
   obtain ⟨tl,htl⟩:=B94 sigma E ends (i:=i+1) (n:=61) (by omega)
   have ho:A2j (A4i sigma E ends 61) (A6m (A8d E A8a) (anyE E) (fun s=>ends[s]?=some true) 61 0) most=((A4i sigma E ends (i+1)).take most,true,false):=by
    unfold A2j
    rw [htl,if_pos (by rw [List.length_append]; omega),List.take_append_of_le_length (by omega)]
   simp only [↓Sh.dn,sx,Nat.reduceEqDiff,h1,g9,c5,g1,hcu,hres,ho]
   refine ⟨(hk1.trans (hk3.trans hk35)).trans (hK5 hcc'),lv,rfl,vz.take most,by rw [List.map_take]; exact hsl,by rw [List.length_take,List.length_map,List.length_take,hz2,List.length_take]; omega,fun j w r hw hr=>?_⟩
   rw [List.getElem?_take] at hw
   split at hw
   ·rename_i hj
    rw [List.getElem?_map,List.getElem?_take,if_pos hj] at hr
    obtain ⟨u,hu,rfl⟩:=Option.map_eq_some_iff.1 hr
    obtain ⟨o,h4,_⟩:=hz3 j w u hw (by rw [List.getElem?_take,if_pos (by omega)]; exact hu)
    exact h4.toSl
   ·cases hw
  ·have h1:decide (most < ((A4i sigma E ends (i+1)).take (most+1)).length)=false:=by rw [decide_eq_false_iff_not,List.length_take]; omega
   have htk:(A4i sigma E ends (i+1)).take (most+1)=A4i sigma E ends (i+1):=List.take_of_length_le (by omega)
   rw [htk] at hLc
   have hXc:=hXb.chg hcb.wf hcc fun y hy h=>by
    rcases h with h2 | h2
    ·exact (hom y hy).1 h2
    ·exact (hom y hy).2.1 h2
   obtain ⟨r9,Hd,hd9,hk9,X9,o9,hX9,hX9o,hX9l,hX9i⟩:=B20 (hJ5.kept hc5.wf (hK5 hcc')) hRl hRr hXc.toSl hXl hn1 hn2 hcc.wf
   have hool2:=(B0l hLc.rows).2.2
   simp only [↓Sh.dn,sx,Nat.reduceEqDiff,h1,g7,f8]
   refine ⟨_,_,hd9,?_⟩
   simp only [sx,f11,A3a hi (by omega)]
   have h7n:=hcb.next
   refine k _ _ (by repeat (first | refine Same.put ?_ rfl | exact Same.rfl' _)) (by simp only [sx]) ⟨hcc'.trans hk9.chg,by omega,r9,by simp only [sx,Nat.reduceEqDiff],X9,o9,xv2,ob2,zo2,oo2,hX9,fun y hy=>?_,hX9l,fun t=>?_,fun y hy=>?_,hLc.kept hcc.wf hk9,?_⟩
   ·have h2:=hX9o y hy
    exact ⟨by omega,fun h=>by have:=hool2 y hcc.wf h; omega,fun h=>by have:=hob2l y h; omega⟩
   ·rw [hX9i,B9e hRg hXi]; rfl
   ·rcases hob2 y hy with h2 | h2
    ·exact hob y h2
    ·omega
   ·refine hAb.move hcb.wf (fun y hy hyl=>?_) fun y hy hyl=>⟨hy.1,fun h=>?_⟩
    ·rw [hk9.old y (by omega),hcc.old y hyl fun h=>?_]
     rcases h with h2 | h2
     ·exact hy.1 h2
     ·exact hy.2 h2
    ·rcases hof y h with h2 | h2
     ·exact hy.2 h2
     ·omega
 ·rintro F H' hF f11 ⟨hc,hfl,zm,f8,X,om,xv,ob,zo,oo,hX,hom,hXl,hXi,hob,hL,hA⟩
  have g1:=hF 1 rfl
  have g2:=hF 2 rfl
  have g9:=hF 9 rfl
  simp only [sx,Nat.reduceEqDiff] at g1 g2 g9
  have hrb':=hrb5.kept hc5.wf (hK5 hc)
  obtain ⟨r8,H8,hd8,hk8,rfl⟩:=B1v (m:=61) hrb'.rg (by omega) hc.wf
  have hL8:=hL.kept hc.wf hk8
  have c5:=hL8.cell.cell 5
  simp only [List.getElem?_cons_succ,List.getElem?_cons_zero] at c5
  have hlO:=B48 hL8.rows
  have h61:decide (((61:Nat):Int)≤60)=false:=rfl
  have hkk:=((hk1.trans (hk3.trans hk35)).trans (hK5 hc)).trans hk8
  simp only [↓Sh.dn,sx,Nat.reduceEqDiff,f11,h61,g2,hrb'.ca]
  refine ⟨_,_,by exact hd8,?_⟩
  have hno':¬(most < (A4i sigma E ends 61).length):=by omega
  cases hlo:tB (A6m (A8d E A8a) (anyE E) (fun s=>ends[s]?=some true) 61 0) with
  | false=>
   have ho:A2j (A4i sigma E ends 61) (A6m (A8d E A8a) (anyE E) (fun s=>ends[s]?=some true) 61 0) most=(A4i sigma E ends 61,false,false):=by
    unfold A2j; rw [if_neg hno',hlo,if_neg (by simp)]
   simp only [↓Sh.dn,sx,Nat.reduceEqDiff,g9,c5,hres,ho]
   exact ⟨hkk,_,rfl,hL8.rows.read⟩
  | true=>
   simp only [↓Sh.dn,sx,Nat.reduceEqDiff,g1,g9,c5,hlO,A1a]
   by_cases hfew:(A4i sigma E ends 61).length < most
   ·have ho : A2j (A4i sigma E ends 61) (A6m (A8d E A8a) (anyE E) (fun s => ends[s]? = some true) 61 0) most = ([], false, true) := by
      unfold A2j; rw [if_neg hno', hlo, if_pos rfl, if_pos hfew]
    simp only [↓Sh.dn, sx, Nat.reduceEqDiff, hfew, decide_true, hres, ho]
    exact ⟨hkk, _, rfl, [], Sl.nil _ _, rfl, fun i w r hi => by simp at hi⟩
   ·have ho : A2j (A4i sigma E ends 61) (A6m (A8d E A8a) (anyE E) (fun s => ends[s]? = some true) 61 0) most = (A4i sigma E ends 61, true, false) := by
      unfold A2j; rw [if_neg hno', hlo, if_pos rfl, if_neg hfew]
    simp only [↓Sh.dn, sx, Nat.reduceEqDiff, hfew, decide_false, g9, c5, hres, ho]
    exact ⟨hkk, _, rfl, hL8.rows.read⟩
end Go.Proofs.YtcgbiedfbacgpaaGreat
/- Elements by states: how many there are. -/
namespace Go.Proofs.YtcgbiedfbacgpaaGreat
open Go Go.Proofs Go.Proofs.Sh
theorem B7a {α:Type} {p q r:α→Bool} (h1:∀ a,r a=(p a || q a)) (h2:∀ a,p a=true→q a=false):∀ l:List α,(l.filter p).length+(l.filter q).length=(l.filter r).length
 | []=>rfl
 | a :: l=>by
  have ih:=B7a h1 h2 l
  have e:=h1 a
  cases hp:p a with
  | true=>
   have hq:=h2 a hp
   rw [hp,hq] at e
   simp only [List.filter_cons,hp,hq,e,if_true,Bool.or_false,List.length_cons,Bool.false_eq_true,if_false]; omega
  | false=>
   cases hq:q a with
   | true=>
    rw [hp,hq] at e
    simp only [List.filter_cons,hp,hq,e,if_true,Bool.or_true,List.length_cons,Bool.false_eq_true,if_false]; omega
   | false=>
    rw [hp,hq] at e
    simp only [List.filter_cons,hp,hq,e,Bool.or_self,Bool.false_eq_true,if_false]; exact ih
theorem C1l {α β:Type} {key:α→Int} {f:α→β} {n:Nat} {l:List α}:((rowsOf key f n l).map List.length).sum≤l.length:=by
 have h:∀ n:Nat,((List.range n).map fun (s:Nat)=>(l.filter fun a=>decide (key a=(s:Int))).length).sum=(l.filter fun a=>decide (0≤key a∧key a < (n:Int))).length:=by
  intro n
  induction n with
  | zero=>
   have:(l.filter fun a=>decide (0≤key a∧key a < ((0:Nat):Int)))=[]:=by
    rw [List.filter_eq_nil_iff]
    intro a _
    simp only [decide_eq_true_eq]; omega
   rw [this]; rfl
  | succ n ih=>
   rw [List.range_succ,List.map_append,List.sum_append,ih]
   simp only [List.map_cons,List.map_nil,List.sum_cons,List.sum_nil,Nat.add_zero]
   refine B7a (fun a=>?_) (fun a ha=>?_) l
   ·rw [Bool.eq_iff_iff,Bool.or_eq_true]; simp only [decide_eq_true_eq]; omega
   ·simp only [decide_eq_true_eq,decide_eq_false_iff_not] at ha ⊢; omega
 unfold rowsOf
 rw [List.map_map]
 have e:(List.length ∘ fun (s:Nat)=>(l.filter fun a=>decide (key a=(s:Int))).map f)=fun (s:Nat)=>(l.filter fun a=>decide (key a=(s:Int))).length:=by
  funext s; simp
 rw [e,h]
 exact List.length_filter_le _ _
end Go.Proofs.YtcgbiedfbacgpaaGreat
/- The reference's Words; lists of lists of texts are held against each other. -/
namespace Go.Proofs.YtcgbiedfbacgpaaGreat
open Go Go.Proofs Go.Proofs.Sh
section
variable {N:NetD}
theorem B8g (hok:A3r N) {u:List ByteArray} (hu:∀ x∈u,x∈N.sigma):
  accS (A8d (A0g N) A8a) (symE (A0g N)) (fun s=>(marksOf EndD.state N.states.toNat N.ends)[s]?=some true) (Clo (A8d (A0g N) A8a) fun s=>s=0) u↔A2u N u:=by
 have hne:∀ x∈u,x≠A8a:=fun x hx h0=>A30 hok (h0 ▸ hu x hx)
 unfold accS A2u NetD.run NetD.clo
 rw [A76 hok]
 have hrun:∀ t,RunS (N.goes A8a) (symE (A0g N)) (Clo (N.goes A8a) fun s=>s=0) u t↔RunS (N.goes A8a) N.goes (Clo (N.goes A8a) fun s=>s=0) u t:=fun t=>by
  have:=RunS.congr (f:=id) (E:=N.goes A8a) (E':=N.goes A8a) (A:=symE (A0g N)) (B:=N.goes) (fun _ _=>Iff.rfl) (w:=u) (S:=Clo (N.goes A8a) fun s=>s=0) (fun _=>Iff.rfl) (fun x hx s t=>by
   unfold symE
   rw [A76 hok]
   exact ⟨fun h=>h.2,fun h=>⟨hne x hx,h⟩⟩) t
  rw [List.map_id] at this
  exact this
 constructor
 ·rintro ⟨t,h1,h2⟩; exact ⟨hne,t,(hrun t).1 h1,(B0o hok t).1 h2⟩
 ·rintro ⟨_,t,h1,h2⟩; exact ⟨t,(hrun t).2 h1,(B0o hok t).2 h2⟩
theorem ref_all (hok:A3r N):A4i N.sigma (A0g N) (marksOf EndD.state N.states.toNat N.ends) 61=A2n N:=
 B5d fun u hu=>B8g hok hu
theorem B27 (hok:A3r N) (x:ByteArray) (s t:Nat) (h:A8d (A0g N) x s t):x=A8a∨x∈N.sigma:=by
 rw [A76 hok] at h
 obtain ⟨a,ha,_,h2,_⟩:=h
 rw [← h2]
 exact (hok.arc a ha).2.2.2.2.1
theorem ref_long (hok:A3r N):A6m (A8d (A0g N) A8a) (anyE (A0g N)) (fun s=>(marksOf EndD.state N.states.toNat N.ends)[s]?=some true) 61 0↔B3j N:=by
 rw [A8s]
 constructor
 ·rintro ⟨j,hj⟩
  obtain ⟨w,⟨h1,h2⟩,h3⟩:=A5w (A:=symE (A0g N)) (q:=fun x=>x∈N.sigma) (fun s t ⟨x,hx,h⟩=>⟨x,(B27 hok x s t h).resolve_left hx,hx,h⟩) (S:=Clo (A8d (A0g N) A8a) fun s=>s=0) (fun a b h1 h2=>.step h1 h2) ⟨0,.base rfl,hj⟩
  exact ⟨w,by omega,h2,(B8g hok h2).1 h3⟩
 ·rintro ⟨w,h1,h2,h3⟩
  obtain ⟨s,h4,h5⟩:=A7n (any:=anyE (A0g N)) B5b ((B8g hok h2).2 h3)
  exact ⟨w.length - 61,by rw [show 61+(w.length - 61)=w.length by omega]; exact A9n h4 h5⟩
end
end Go.Proofs.YtcgbiedfbacgpaaGreat
/- The reference's Empty, Finite, First. -/
namespace Go.Proofs.YtcgbiedfbacgpaaGreat
open Go Go.Proofs Go.Proofs.Sh
theorem B9p {N:NetD} (hok:A3r N) (K:Nat):A6m (A8d (A0g N) A8a) (anyE (A0g N)) (fun s=>(marksOf EndD.state N.states.toNat N.ends)[s]?=some true) K 0↔hasW N K:=by
 rw [A8s]
 constructor
 ·rintro ⟨j,hj⟩
  obtain ⟨w,⟨h1,h2⟩,h3⟩:=A5w (A:=symE (A0g N)) (q:=fun x=>x∈N.sigma) (fun s t ⟨x,hx,h⟩=>⟨x,(B27 hok x s t h).resolve_left hx,hx,h⟩) (S:=Clo (A8d (A0g N) A8a) fun s=>s=0) (fun a b h1 h2=>.step h1 h2) ⟨0,.base rfl,hj⟩
  exact ⟨w,by omega,h2,(B8g hok h2).1 h3⟩
 ·rintro ⟨w,h1,h2,h3⟩
  obtain ⟨s,h4,h5⟩:=A7n (any:=anyE (A0g N)) B5b ((B8g hok h2).2 h3)
  exact ⟨w.length - K,by rw [show K+(w.length - K)=w.length by omega]; exact A9n h4 h5⟩
theorem C3o {N:NetD} (hok:A3r N):Clo (fun s t=>∃ x,A8d (A0g N) x t s) (fun s=>(marksOf EndD.state N.states.toNat N.ends)[s]?=some true) 0↔hasW N 0:=by
 rw [← B9p hok 0]
 have:(fun s t=>∃ x,A8d (A0g N) x t s)=fun a b=>A8d (A0g N) A8a b a∨anyE (A0g N) b a:=by
  funext a b
  apply propext
  constructor
  ·rintro ⟨x,hx⟩
   by_cases hx0:x=A8a
   ·subst hx0; exact .inl hx
   ·exact .inr ⟨x,hx0,hx⟩
  ·rintro (hx | ⟨x,_,hx⟩)
   ·exact ⟨_,hx⟩
   ·exact ⟨_,hx⟩
 rw [this]
 exact Iff.rfl
theorem C6w (all:List (List ByteArray)) (P:Prop):(all=[]→A2j all P 1=([],false,tB P))∧∀ w l,all=w :: l→∃ l' b,A2j all P 1=(w :: l',b,false):=by
 constructor
 ·rintro rfl
  unfold A2j
  cases tB P <;> rfl
 ·rintro w l rfl
  unfold A2j
  split
  ·exact ⟨_,_,rfl⟩
  ·split
   ·split
    ·rename_i h; simp at h
    ·exact ⟨_,_,rfl⟩
   ·exact ⟨_,_,rfl⟩
theorem refEmpty {H:AH} {v:Value} {N:NetD} (h:A0y H v N) (hsm:A3j N) (hw:Wf H):
  Sh.Call Tryz.prog (knows 7) 12 [v] H (fun r H'=>Kept H H'∧r=.tuple #[.bool (A1n N).1,.int .i64 (A1n N).2]):=by
 refine A2a rfl Tryz.func12 rfl (Nat.le_of_ble_eq_true rfl) ?_
 have hres:Tryz.f12.results.toList=[.tmp 2,.tmp 3]:=rfl
 obtain ⟨sg,ar,en,rfl,hsg,har,hen⟩:=h; have hb1:=NetBox.of (N:=N) hw hsg har hen; have hk1:Kept H (H.new 4 [sg,.int .i64 N.states,ar,en]).2:=Kept.new hw 4 _; simp only [↓Sh.dn,sx,Nat.reduceEqDiff,A9s hsg.isCell har.isCell hen.isCell]; generalize H.next=gg at hb1 ⊢; generalize (H.new 4 [sg,.int .i64 N.states,ar,en]).2=H1 at hb1 hk1 ⊢
 obtain ⟨r,H2,hd2,hk2,rfl⟩:=A12 hb1.netAt hsm hk1.wf
 have hb2:=hb1.kept hk1.wf hk2
 simp only [sx,hb1.ca]
 refine ⟨_,_,hd2,?_⟩
 have hk12:=hk1.trans hk2
 by_cases hA:A1h N=0
 case neg=>
  have ho:A1n N=(false,A1h N):=by unfold A1n; rw [if_pos hA]
  simp only [↓Sh.dn,sx,Nat.reduceEqDiff,hA,decide_false,hres,ho]
  exact hk12
 have ho:A1n N=(!tB (hasW N 0),0):=by unfold A1n; rw [if_neg (by simpa using hA)]
 have hok:=A5v hA
 obtain ⟨r,H3,hd3,hk3,ev,bv,vals,hR⟩:=A09 hb2.netAt hok hsm hk2.wf
 obtain ⟨r4,H4,hd4,hk4,B,hB,hBl,hBi⟩:=C2h hR hk3.wf
 obtain ⟨b,hb⟩:∃ b,B[0]?=some b:=⟨B[0]'(by rw [hBl]; exact hR.n1),List.getElem?_eq_getElem _⟩
 obtain ⟨q,e1,e2⟩:=Sl.elem (s:=1) Tryz.underlying58 A8h hB (i:=0) (u:=.bool b) (by rw [List.getElem?_map,hb]; rfl)
 have e1':A9a Tryz.prog 58 r4 (.int .i64 0)=some (.pointer (some q)):=e1
 have hbt:b=tB (hasW N 0):=by
  rw [Bool.eq_iff_iff,A0s,← C3o hok,← hBi,hb]
  simp
 simp only [↓Sh.dn,sx,Nat.reduceEqDiff,hA,decide_true,hb2.ca]
 refine ⟨_,_,hd3,?_⟩
 refine ⟨_,_,hd4,?_⟩
 simp only [sx,Nat.reduceEqDiff,e1',e2,hres,ho,hbt]
 exact (hk12.trans hk3).trans hk4
theorem C2w {H:AH} {v:Value} {N:NetD} (h:A0y H v N) (hsm:A3j N) (hw:Wf H):
  Sh.Call Tryz.prog (knows 7) 14 [v] H (fun r H'=>Kept H H'∧r=.tuple #[.bool (A5k N).1,.int .i64 (A5k N).2]):=by
 refine A2a rfl Tryz.func14 rfl (Nat.le_of_ble_eq_true rfl) ?_
 have hres:Tryz.f14.results.toList=[.tmp 2,.tmp 3]:=rfl
 obtain ⟨sg,ar,en,rfl,hsg,har,hen⟩:=h; have hb1:=NetBox.of (N:=N) hw hsg har hen; have hk1:Kept H (H.new 4 [sg,.int .i64 N.states,ar,en]).2:=Kept.new hw 4 _; simp only [↓Sh.dn,sx,Nat.reduceEqDiff,A9s hsg.isCell har.isCell hen.isCell]; generalize H.next=gg at hb1 ⊢; generalize (H.new 4 [sg,.int .i64 N.states,ar,en]).2=H1 at hb1 hk1 ⊢
 obtain ⟨r,H2,hd2,hk2,rfl⟩:=A12 hb1.netAt hsm hk1.wf
 have hb2:=hb1.kept hk1.wf hk2
 simp only [sx,hb1.ca]
 refine ⟨_,_,hd2,?_⟩
 have hk12:=hk1.trans hk2
 by_cases hA:A1h N=0
 case neg=>
  have ho:A5k N=(false,A1h N):=by unfold A5k; rw [if_pos hA]
  simp only [↓Sh.dn,sx,Nat.reduceEqDiff,hA,decide_false,hres,ho]
  exact hk12
 have ho:A5k N=(!tB (hasW N N.states.toNat),0):=by unfold A5k; rw [if_neg (by simpa using hA)]
 have hok:=A5v hA
 obtain ⟨r,H3,hd3,hk3,ev,bv,vals,hR⟩:=A09 hb2.netAt hok hsm hk2.wf
 have hn1:=hR.n1
 have hn2:=hR.n2
 have hst:N.states=((N.states.toNat:Nat):Int):=by omega
 obtain ⟨r4,H4,hd4,hk4,rfl⟩:=B1v (m:=N.states.toNat) hR (by omega) hk3.wf
 rw [propext (B9p hok N.states.toNat),← hst] at hd4
 have hb3:=hb2.kept hk2.wf hk3
 simp only [↓Sh.dn,sx,hA,decide_true]
 refine B0t (fl:=[(0,false),(2,true),(3,false),(1,false),(4,true),(5,true),(6,true),(7,true)]) (by kernel_rfl) (by kernel_rfl) hk2.wf ?_
 have hvq:veq (.agg #[sg,.int .i64 N.states,ar,en]) (.agg #[sg,.int .i64 N.states,ar,en])=true:=veq_agg (by simp only [B7v,C3j,A7u,hsg.veq,har.veq,hen.veq,Bool.and_self])
 simp only [↓Sh.dn,sx,reduceCtorEq,Nat.reduceEqDiff,wpg,C8r,isEff,A4e,isRead,A7u,forall_eq',hb2.c1,hb2.ca,hvq]
 refine ⟨_,_,hd3,hk3.wf,hk3.grow hk2.wf,?_⟩
 refine ⟨_,_,hd4,hk4.wf,?_⟩
 simp only [sx,Nat.reduceEqDiff,hres,ho]
 exact (hk12.trans hk3).trans hk4
theorem refFirst {H:AH} {v:Value} {N:NetD} (h:A0y H v N) (hsm:A3j N) (hw:Wf H):
  Sh.Call Tryz.prog (knows 7) 16 [v] H (fun r H'=>Kept H H'∧∃ lv,r=.tuple #[lv,.bool (A6f N).2.1,.int .i64 (A6f N).2.2]∧Sl H' lv 1 ((A6f N).1.map A5b)):=by
 refine A2a rfl Tryz.func16 rfl (Nat.le_of_ble_eq_true rfl) ?_
 have hres:Tryz.f16.results.toList=[.tmp 2,.tmp 3,.tmp 4]:=rfl
 obtain ⟨sg,ar,en,rfl,hsg,har,hen⟩:=h; have hb1:=NetBox.of (N:=N) hw hsg har hen; have hk1:Kept H (H.new 4 [sg,.int .i64 N.states,ar,en]).2:=Kept.new hw 4 _; simp only [↓Sh.dn,sx,Nat.reduceEqDiff,A9s hsg.isCell har.isCell hen.isCell]; generalize H.next=gg at hb1 ⊢; generalize (H.new 4 [sg,.int .i64 N.states,ar,en]).2=H1 at hb1 hk1 ⊢
 obtain ⟨r,H2,hd2,hk2,rfl⟩:=A12 hb1.netAt hsm hk1.wf
 have hb2:=hb1.kept hk1.wf hk2
 simp only [sx,hb1.ca]
 refine ⟨_,_,hd2,?_⟩
 have hk12:=hk1.trans hk2
 by_cases hA:A1h N=0
 case neg=>
  have ho:A6f N=([],false,A1h N):=by unfold A6f; rw [if_pos hA]
  simp only [↓Sh.dn,sx,Nat.reduceEqDiff,hA,decide_false,hres,ho]
  exact ⟨hk12,_,rfl,Sl.nil _ _⟩
 have hok:=A5v hA
 obtain ⟨r,H3,hd3,hk3,ev,bv,vals,hR⟩:=A09 hb2.netAt hok hsm hk2.wf
 have htot:((A0g N).map List.length).sum≤1048576:=Nat.le_trans C1l (Nat.le_trans hok.ar (by decide))
 obtain ⟨r,H4,hd4,hk4,lv,rfl,vs,hJ⟩:=C5a (most:=1) hR htot hok.asc (B27 hok) (A30 hok) (by omega) (by omega) hk3.wf
 rw [ref_all hok,propext (ref_long hok)] at hJ hd4
 obtain ⟨s1,s2⟩:=C6w (A2n N) (B3j N)
 have hkk:=(hk12.trans hk3).trans hk4
 have hlz:∀ H',A4a Tryz.prog .len [29] [lv] H'=some (.int .i64 (((A2j (A2n N) (B3j N) 1).1.length:Nat):Int),H'):=fun H'=>by
  rw [hJ.sl.len Tryz.underlying29,List.length_map,hJ.len,List.length_map]
 simp only [↓Sh.dn,sx,Nat.reduceEqDiff,hA,decide_true,hb2.ca]
 refine ⟨_,_,hd3,?_⟩
 refine ⟨_,_,by exact hd4,?_⟩
 obtain ⟨al,hal⟩:∃ al,A2n N=al:=⟨_,rfl⟩
 cases al with
 | nil=>
  rw [s1 hal] at hlz
  rw [s1 hal]
  cases hl:tB (B3j N) with
  | true=>
   have ho:A6f N=([],false,3):=by unfold A6f; rw [if_neg (by simpa using hA),hal,hl]; simp
   simp only [↓Sh.dn,sx,Nat.reduceEqDiff,hres,ho]
   exact ⟨hkk,_,rfl,Sl.nil _ _⟩
  | false=>
   have ho:A6f N=([],false,0):=by unfold A6f; rw [if_neg (by simpa using hA),hal,hl]; simp
   have hz:decide ((([]:List (List ByteArray)).length:Int)=0)=true:=rfl
   simp only [↓Sh.dn,sx,Nat.reduceEqDiff,hlz,hz,hres,ho]
   exact ⟨hkk,_,rfl,Sl.nil _ _⟩
 | cons w l=>
  obtain ⟨l',b,e⟩:=s2 w l hal
  rw [e] at hlz hJ
  rw [e]
  have ho:A6f N=(w,true,0):=by unfold A6f; rw [if_neg (by simpa using hA),hal]
  have hz:decide ((((w :: l').length:Nat):Int)=0)=false:=rfl
  obtain ⟨g1,o1,k1,w1,i1,c1,sl1⟩:=hJ.at Tryz.underlying29 A00 (i:=0) (r:=strRow w) rfl
  have i1':A9a Tryz.prog 29 lv (.int .i64 0)=some (.pointer (some ⟨g1,o1,k1⟩)):=i1
  simp only [↓Sh.dn,sx,Nat.reduceEqDiff,hlz,hz,i1',c1,hres,ho]
  exact ⟨hkk,w1,rfl,sl1⟩
end Go.Proofs.YtcgbiedfbacgpaaGreat
/- Whether there is far more in a net than may be. -/
namespace Go.Proofs.YtcgbiedfbacgpaaGreat
open Go Go.Proofs Go.Proofs.Sh
def A9k (l:List ByteArray):Nat:=(l.map fun s=>s.size).sum
def B6t (N:NetD):Nat:=N.sigma.length+N.arcs.length+N.ends.length+A9k N.sigma
theorem B7s (l:List ByteArray) (i:Nat):A9k (l.take i)≤A9k l:=by
 unfold A9k
 have:l=l.take i++l.drop i:=(List.take_append_drop i l).symm
 conv=>rhs; rw [this]
 rw [List.map_append,List.sum_append]
 omega
theorem isOver {H:AH} {v:Value} {N:NetD} (h:A0y H v N) (hsm:A3j N) (hsz:A9k N.sigma≤1048576) (hw:Wf H):
  Sh.Call Tryz.prog (knows 7) 6 [v] H (fun r H'=>Kept H H'∧r=.bool (decide (262144 < B6t N))):=by
 refine A2a rfl Tryz.func6 rfl (Nat.le_of_ble_eq_true rfl) ?_
 have hres:Tryz.f6.results.toList=[.tmp 2]:=rfl
 obtain ⟨sg,ar,en,rfl,hsg,har,hen⟩:=h
 have hb1:=NetBox.of (N:=N) hw hsg har hen
 have hk1:Kept H (H.new 4 [sg,.int .i64 N.states,ar,en]).2:=Kept.new hw 4 _
 simp only [↓Sh.dn,sx,Nat.reduceEqDiff,A9s hsg.isCell har.isCell hen.isCell]
 generalize H.next=gg at hb1 ⊢
 generalize (H.new 4 [sg,.int .i64 N.states,ar,en]).2=H1 at hb1 hk1 ⊢
 obtain ⟨z1,z2,z3,_⟩:=hsm
 have w1:IntKind.wrap .i64 (IntKind.wrap .i64 ((N.sigma.length:Int)+(N.arcs.length:Int))+(N.ends.length:Int))=((N.sigma.length+N.arcs.length+N.ends.length:Nat):Int):=by
  rw [wrap64 (n:=(N.sigma.length:Int)+(N.arcs.length:Int)) (by omega) (by omega),wrap64 (by omega) (by omega)]; rfl
 simp only [sx,hb1.c0,hb1.c2,hb1.c3,B46 hb1,A4m hb1,A7r hb1,w1]
 refine A9c N.sigma.length 4 (List.range' 16 15++[3,4]) (fun i F H'=>H'=H1∧F.get 3=some (.int .i64 ((N.sigma.length+N.arcs.length+N.ends.length+A9k (N.sigma.take i):Nat):Int))) (by simp only [sx]) ⟨rfl,by simp only [sx,Nat.reduceEqDiff]; rfl⟩ ?_ ?_
 ·rintro i F H' hlt hF f4 ⟨rfl,f3⟩ k
  have f1:=hF 1 rfl
  simp only [sx,Nat.reduceEqDiff] at f1
  obtain ⟨g,o,kk,hia,hc,hcc⟩:=hb1.hsg.at Tryz.underlying22 A6j (i:=i) (x:=A5b N.sigma[i]) (by simp [hlt]) .i64
  have hy:=hcc 0 _ rfl
  simp only [Nat.add_zero] at hy
  have hs1:A9k (N.sigma.take (i+1))=A9k (N.sigma.take i)+N.sigma[i].size:=by
   unfold A9k
   rw [List.take_add_one,List.getElem?_eq_getElem hlt,List.map_append,List.sum_append]
   simp
  have hle:=B7s N.sigma (i+1)
  have w2:IntKind.wrap .i64 (((N.sigma.length+N.arcs.length+N.ends.length+A9k (N.sigma.take i):Nat):Int)+(N.sigma[i].size:Int))=((N.sigma.length+N.arcs.length+N.ends.length+A9k (N.sigma.take (i+1)):Nat):Int):=by
   rw [wrap64 (by omega) (by omega),hs1]; omega
  simp only [↓Sh.dn,sx,Nat.reduceEqDiff,hb1.c0,B46 hb1,f1,f3,f4,A1a,hlt,decide_true,hia,hy,w2,wrap_succ hlt z1]
  exact k _ _ (by repeat (first | refine Same.put ?_ rfl | exact Same.rfl' _)) (by simp only [sx]) ⟨rfl,by simp only [sx,Nat.reduceEqDiff]⟩
 ·rintro F H' hF f4 ⟨rfl,f3⟩
  have f1:=hF 1 rfl
  simp only [sx,Nat.reduceEqDiff] at f1
  rw [List.take_length] at f3
  have e:decide ((262144:Int) < ((N.sigma.length+N.arcs.length+N.ends.length+A9k N.sigma:Nat):Int))=decide (262144 < B6t N):=decide_eq_decide.2 (by unfold B6t; omega)
  simp only [↓Sh.dn,sx,Nat.reduceEqDiff,hb1.c0,B46 hb1,f1,f3,f4,A1a,Nat.lt_irrefl,decide_false,hres,e,hk1]
end Go.Proofs.YtcgbiedfbacgpaaGreat
/- Whether lists have far too many texts, or bytes. -/
namespace Go.Proofs.YtcgbiedfbacgpaaGreat
open Go Go.Proofs Go.Proofs.Sh
def A4t (ws:List (List ByteArray)):Nat:=(ws.map fun w=>A9k w+w.length).sum
theorem B1a (a b:List ByteArray):A9k (a++b)=A9k a+A9k b:=by simp [A9k]
theorem A69 (a b:List (List ByteArray)):A4t (a++b)=A4t a+A4t b:=by simp [A4t]
theorem B76 {ws:List (List ByteArray)} {i q:Nat} {w:List ByteArray} (h:ws[i]?=some w) (hq:q≤w.length):A4t (ws.take i)+(A9k (w.take q)+q)≤A4t ws:=by
 have hi:=(List.getElem?_eq_some_iff.1 h).1
 have e:ws=ws.take i++(w :: ws.drop (i+1)):=by
  conv=>lhs; rw [← List.take_append_drop i ws]
  congr 1
  rw [List.drop_eq_getElem_cons hi,(List.getElem?_eq_some_iff.1 h).2]
 have e2:A4t ws=A4t (ws.take i)+(A9k w+w.length+A4t (ws.drop (i+1))):=by
  conv=>lhs; rw [e]
  rw [A69]; rfl
 have e3:A9k w=A9k (w.take q)+A9k (w.drop q):=by rw [← B1a,List.take_append_drop]
 omega
theorem isLong {H:AH} {v:Value} {vals:List Value} {ws:List (List ByteArray)} (h:JagR H v 1 (ws.map fun w=>w.map A5b) vals) (hl:ws.length≤1048576) (hw1:∀ w∈ws,w.length≤1048576∧∀ x∈w,x.size≤1048576) (hw:Wf H):
  Sh.Call Tryz.prog (knows 7) 18 [v] H (fun r H'=>H'=H∧r=.bool (decide (16384 < A4t ws))):=by
 refine A2a rfl Tryz.func18 rfl (Nat.le_of_ble_eq_true rfl) ?_
 have hres:Tryz.f18.results.toList=[.tmp 2]:=rfl
 have hlen:∀ H',A4a Tryz.prog .len [29] [v] H'=some (.int .i64 (ws.length:Int),H'):=fun H'=>by
  rw [h.sl.len Tryz.underlying29,List.length_map,h.len,List.length_map]
 have e1:∀ c:Nat,decide ((c:Int)≤16384)=decide (c≤16384):=fun c=>decide_eq_decide.2 (by omega)
 have e2:∀ c:Nat,decide ((16384:Int) < (c:Int))=decide (16384 < c):=fun c=>decide_eq_decide.2 (by omega)
 simp only [↓Sh.dn,sx]
 refine A9c ws.length 4 (List.range' 3 37) (fun i F H'=>H'=H∧∃ c:Nat,F.get 3=some (.int .i64 (c:Int))∧c≤A4t ws∧(c≤16384→c=A4t (ws.take i))∧c≤2000000) (by simp only [sx]) ⟨rfl,0,by simp only [sx,Nat.reduceEqDiff]; rfl,Nat.zero_le _,fun _=>by simp [A4t],by omega⟩ ?_ ?_
 ·rintro i F H' hi hF f4 ⟨rfl,c,f3,hct,hce,hcb⟩ k
  have f0:=hF 0 rfl
  simp only [sx,reduceCtorEq] at f0
  have hget:ws[i]?=some ws[i]:=List.getElem?_eq_getElem hi
  obtain ⟨hwl,hwx⟩:=hw1 _ (List.getElem_mem hi)
  have htk:ws.take (i+1)=ws.take i++[ws[i]]:=by rw [List.take_add_one,List.getElem?_eq_getElem hi]; rfl
  generalize ws[i]=w at hget hwl hwx htk
  obtain ⟨ga,oa,ka,wv,hia,hca,hsl⟩:=h.at Tryz.underlying29 A00 (i:=i) (r:=w.map A5b) (by rw [List.getElem?_map,hget]; rfl)
  have hlw:∀ H',A4a Tryz.prog .len [22] [wv] H'=some (.int .i64 (w.length:Int),H'):=fun H'=>by rw [hsl.len Tryz.underlying22,List.length_map]
  have hfull:A4t (ws.take (i+1))=A4t (ws.take i)+(A9k w+w.length):=by rw [htk,A69]; simp [A4t]
  simp only [↓Sh.dn,sx,reduceCtorEq,Nat.reduceEqDiff,f0,f3,f4,hlen,A1a,hi,decide_true,e1]
  by_cases hc:c≤16384
  case neg=>
   have hbig:decide (16384 < A4t ws)=true:=decide_eq_true (by omega)
   have hc':decide (16384 < c)=true:=decide_eq_true (by omega)
   simp only [↓Sh.dn,sx,Nat.reduceEqDiff,hc,decide_false,f3,e2,hres,hc',hbig]
  simp only [↓Sh.dn,sx,hc,decide_true]
  have after:∀ (F2:Fr) (H2:AH) (c2:Nat),F2.get 3=some (.int .i64 (c2:Int))→c2≤A4t ws→(c2≤16384→c2=A4t (ws.take (i+1)))→c2≤2000000→True:=fun _ _ _ _ _ _ _=>trivial
  refine A9c w.length 5 (List.range' 16 24++[3,5]) (fun q F'' H''=>H''=H'∧∃ c:Nat,F''.get 3=some (.int .i64 (c:Int))∧c≤A4t ws∧(c≤16384→c=A4t (ws.take i)+(A9k (w.take q)+q))∧c≤2000000) (by simp only [sx]) ⟨rfl,c,by simp only [sx,Nat.reduceEqDiff,f3],hct,fun h=>by rw [← hce h]; simp [A9k],hcb⟩ ?_ ?_
  ·rintro q F'' H'' hq hF'' f5 ⟨rfl,c,f3',hct,hce,hcb⟩ k2
   have g0:=hF'' 0 rfl
   have g4:=hF'' 4 rfl
   simp only [sx,reduceCtorEq,Nat.reduceEqDiff,f0,f4] at g0 g4
   obtain ⟨p2,hia2,hc2⟩:=Sl.elem (s:=1) Tryz.underlying22 A6j hsl (i:=q) (u:=.string w[q]) (by rw [List.getElem?_map,List.getElem?_eq_getElem hq]; rfl)
   have hmem:w[q]∈w:=List.getElem_mem hq
   have hqtk:A9k (w.take (q+1))=A9k (w.take q)+w[q].size:=by
    rw [List.take_add_one,List.getElem?_eq_getElem hq,Option.toList_some,B1a]; simp [A9k]
   generalize w[q]=x at hc2 hmem hqtk
   have hxs:=hwx x hmem
   simp only [↓Sh.dn,sx,reduceCtorEq,Nat.reduceEqDiff,f3',f5,g0,g4,hia,hca,hlw,A1a,hq,decide_true,e1]
   by_cases hc:c≤16384
   case neg=>
    simp only [↓Sh.dn,sx,Nat.reduceBEq,Nat.reduceEqDiff,hc,decide_false,g4,wrap_succ hi hl]
    refine k _ _ ?_ (by simp only [sx]) ⟨rfl,c,by simp only [sx,Nat.reduceEqDiff,f3'],hct,fun h=>absurd h hc,hcb⟩
    repeat refine Same.put ?_ rfl
    exact Same.trans (by repeat (first | refine Same.put ?_ rfl | exact Same.rfl' _)) (hF''.sub rfl)
   have hsp:=B76 (q:=q+1) hget hq
   have w1:IntKind.wrap .i64 (1+(x.size:Int))=((1+x.size:Nat):Int):=by rw [wrap64 (by omega) (by omega)]; omega
   have w2:IntKind.wrap .i64 ((c:Int)+((1+x.size:Nat):Int))=((c+(1+x.size):Nat):Int):=by rw [wrap64 (by omega) (by omega)]; omega
   simp only [↓Sh.dn,sx,reduceCtorEq,Nat.reduceEqDiff,hc,decide_true,f3',f5,g0,g4,hia,hca,hia2,hc2,w1,w2,wrap_succ hq hwl]
   refine k2 _ _ (by repeat (first | refine Same.put ?_ rfl | exact Same.rfl' _)) (by simp only [sx]) ⟨rfl,c+(1+x.size),by simp only [sx,Nat.reduceEqDiff],?_,fun _=>?_,by omega⟩
   ·have:=hce hc; omega
   ·have:=hce hc; omega
  ·rintro F'' H'' hF'' f5 ⟨rfl,c,f3',hct,hce,hcb⟩
   have g0:=hF'' 0 rfl
   have g4:=hF'' 4 rfl
   simp only [sx,reduceCtorEq,Nat.reduceEqDiff,f0,f4] at g0 g4
   rw [List.take_length] at hce
   simp only [↓Sh.dn,sx,Nat.reduceBEq,reduceCtorEq,Nat.reduceEqDiff,f5,g0,g4,hia,hca,hlw,A1a,Nat.lt_irrefl,decide_false,wrap_succ hi hl]
   refine k _ _ ?_ (by simp only [sx]) ⟨rfl,c,by simp only [sx,Nat.reduceEqDiff,f3'],hct,fun h=>by rw [hfull]; exact hce h,hcb⟩
   repeat refine Same.put ?_ rfl
   exact Same.trans (by repeat (first | refine Same.put ?_ rfl | exact Same.rfl' _)) (hF''.sub rfl)
 ·rintro F H' hF f4 ⟨rfl,c,f3,hct,hce,hcb⟩
  have f0:=hF 0 rfl
  simp only [sx,reduceCtorEq] at f0
  rw [List.take_length] at hce
  have:decide (16384 < c)=decide (16384 < A4t ws):=decide_eq_decide.2 (by
   by_cases h:c≤16384
   ·rw [hce h]
   ·omega)
  simp only [↓Sh.dn,sx,reduceCtorEq,Nat.reduceEqDiff,f0,f3,f4,hlen,A1a,Nat.lt_irrefl,decide_false,e2,hres,this]
end Go.Proofs.YtcgbiedfbacgpaaGreat
/- What comes in: lists of texts, nets. -/
namespace Go.Proofs.YtcgbiedfbacgpaaGreat
open Go Go.Proofs Go.Proofs.Sh
section
variable {K:Type}
theorem bulk_pos:∀ (d:DataW K),1≤Rows.uptoBulk d
 | .lit l=>by cases l <;> simp [Rows.uptoBulk]
 | .nil=>by simp [Rows.uptoBulk]
 | .ptr d=>by simp [Rows.uptoBulk]
 | .slice a b=>by simp [Rows.uptoBulk]
 | .agg a=>by simp [Rows.uptoBulk]
 | .iface n d=>by simp [Rows.uptoBulk]
 | .map es=>by simp [Rows.uptoBulk]
 | .held h=>by simp [Rows.uptoBulk]
theorem B9r:∀ (ds:List (DataW K)),ds.length≤Rows.uptoBulkAll ds
 | []=>Nat.zero_le _
 | d :: ds=>by
  have:=bulk_pos d
  have:=B9r ds
  simp only [Rows.uptoBulkAll,List.length_cons]; omega
theorem B3c:∀ {ds:List (DataW K)} {d:DataW K},d∈ds→Rows.uptoBulk d≤Rows.uptoBulkAll ds
 | d :: ds,x,h=>by
  simp only [Rows.uptoBulkAll]
  rcases List.mem_cons.1 h with rfl | h
  ·omega
  ·have:=B3c h; omega
theorem B5m {α β:Type} {f:α→β}:∀ {l:List β},(∀ x∈l,∃ a,x=f a)→∃ L:List α,l=L.map f
 | [],_=>⟨[],rfl⟩
 | x :: l,h=>by
  obtain ⟨a,rfl⟩:=h x List.mem_cons_self
  obtain ⟨L,rfl⟩:=B5m (l:=l) fun y hy=>h y (List.mem_cons_of_mem _ hy)
  exact ⟨a :: L,rfl⟩
theorem B85 {α:Type} {enc:α→List Value} {H:AH} {f t e s:Nat} {cs:List Value} {d:DataW K} (R:α→DataW K→Prop) (hu:Tryz.prog.underlying t=some (.slice e)) (hs:Tryz.prog.cellsOf e=s)
  (hR:∀ f x y,RD Tryz.prog H f e x y→∃ a,x=enc a∧R a y) (h:RD Tryz.prog H f t cs d):
  ∃ u,∃ L:List α,∃ ds,cs=[u]∧Sl H u s (L.map enc)∧L.length=ds.length∧(∀ (i:Nat) a y,L[i]?=some a→ds[i]?=some y→enc a=enc a→∃ a',enc a'=enc a∧R a' y)∧Rows.uptoBulkAll ds < Rows.uptoBulk d:=by
 obtain ⟨l,ds,⟨u,rfl,hsl⟩,hlen,hel,hd⟩:=RD.slice hu hs h
 have hget:∀ (i:Nat) x,l[i]?=some x→∃ y a,ds[i]?=some y∧x=enc a∧R a y:=by
  intro i x hx
  have hi:=(List.getElem?_eq_some_iff.1 hx).1
  have hy:ds[i]?=some (ds[i]'(by omega)):=List.getElem?_eq_getElem (by omega)
  obtain ⟨f',hf⟩:=hel i x _ hx hy
  obtain ⟨a,h1,h2⟩:=hR f' x _ hf
  exact ⟨_,a,hy,h1,h2⟩
 obtain ⟨L,rfl⟩:=B5m (f:=enc) (l:=l) fun x hx=>by
  obtain ⟨i,hi⟩:=List.mem_iff_getElem?.1 hx
  obtain ⟨y,a,_,h2,_⟩:=hget i x hi
  exact ⟨a,h2⟩
 refine ⟨u,L,ds,rfl,hsl,by simpa using hlen,fun i a y ha hy _=>?_,?_⟩
 ·obtain ⟨y',a',h1,h2,h3⟩:=hget i (enc a) (by simp [ha])
  rw [hy] at h1
  injection h1 with h1
  subst h1
  exact ⟨a',h2.symm,h3⟩
 ·rcases hd with ⟨rfl,rfl⟩ | ⟨sp,rfl⟩
  ·simp [Rows.uptoBulk,Rows.uptoBulkAll]
  ·simp only [Rows.uptoBulk]; omega
theorem C8t {H:AH} {f:Nat} {x:List Value} {y:DataW K} (h:RD Tryz.prog H f 9 x y):∃ s,x=A5b s∧y=.lit (.string s.data.toList):=RD.str Tryz.underlying9 h
theorem B8n {H:AH} {f:Nat} {x:List Value} {y:DataW K} (h:RD Tryz.prog H f 3 x y):∃ n,x=[.int .i64 n]∧-9223372036854775808≤n∧n < 9223372036854775808:=RD.int Tryz.underlying3 h
theorem B60:∀ {L:List ByteArray} {ds:List (DataW K)},L.length=ds.length→(∀ (i:Nat) a y,L[i]?=some a→ds[i]?=some y→y=.lit (.string a.data.toList))→Rows.uptoBulkAll ds=A9k L+L.length
 | [],[],_,_=>rfl
 | [],_ :: _,h,_=>by simp at h
 | _ :: _,[],h,_=>by simp at h
 | a :: L,d :: ds,h,hr=>by
  have h0:=hr 0 a d rfl rfl
  have ih:=B60 (L:=L) (ds:=ds) (by simpa using h) fun i a y h1 h2=>hr (i+1) a y (by simpa using h1) (by simpa using h2)
  subst h0
  have e:a.data.toList.length=a.size:=by rw [Array.length_toList]; rfl
  simp only [Rows.uptoBulkAll,Rows.uptoBulk,ih,A9k,List.map_cons,List.sum_cons,List.length_cons,e]
  omega
theorem C1a {a b:ByteArray} (h:A5b a=A5b b):a=b:=by
 simp only [A5b,List.cons.injEq,Value.string.injEq,and_true] at h; exact h
theorem strs_in {H:AH} {f:Nat} {cs:List Value} {d:DataW K} (h:RD Tryz.prog H f 22 cs d):∃ u,∃ L:List ByteArray,cs=[u]∧Sl H u 1 (L.map A5b)∧A9k L+L.length < Rows.uptoBulk d:=by
 obtain ⟨u,L,ds,h1,h2,h3,h4,h5⟩:=B85 (enc:=A5b) (fun s y=>y=.lit (.string s.data.toList)) Tryz.underlying22 C1v (fun f x y hf=>C8t hf) h
 refine ⟨u,L,h1,h2,?_⟩
 rw [← B60 h3 fun i a y ha hy=>by
  obtain ⟨a',e,hr⟩:=h4 i a y ha hy rfl
  rw [← C1a e]; exact hr]
 exact h5
theorem C0r {L:List ByteArray} {x:ByteArray} (h:x∈L):x.size≤A9k L:=by
 induction L with
 | nil=>cases h
 | cons a L ih=>
  simp only [A9k,List.map_cons,List.sum_cons] at ih ⊢
  rcases List.mem_cons.1 h with rfl | h
  ·omega
  ·have:=ih h; omega
theorem four {c:List Value} (h:c.length=4):∃ a b x y,c=[a,b,x,y]:=by
 match c,h with
 | [a,b,x,y],_=>exact ⟨a,b,x,y,rfl⟩
theorem five {c:List Value} (h:c.length=5):∃ a b x y z,c=[a,b,x,y,z]:=by
 match c,h with
 | [a,b,x,y,z],_=>exact ⟨a,b,x,y,z,rfl⟩
theorem two {c:List Value} (h:c.length=2):∃ a b,c=[a,b]:=by
 match c,h with
 | [a,b],_=>exact ⟨a,b,rfl⟩
theorem A1p {ds:List (DataW K)} {n i:Nat} (h:ds.length=n) (hi:i < n):∃ x,ds[i]?=some x:=⟨ds[i]'(by omega),List.getElem?_eq_getElem (by omega)⟩
theorem arc_in {H:AH} {f:Nat} {x:List Value} {y:DataW K} (h:RD Tryz.prog H f 49 x y):∃ a:ArcD,x=a.cells∧True:=by
 ·obtain ⟨f',ds,rfl,h1,h2,h3⟩:=RD.struct Tryz.underlying49 h
  rw [C6d] at h1
  obtain ⟨a,b,c,d,e,rfl⟩:=five h1
  have h2':ds.length=5:=h2
  obtain ⟨d0,e0⟩:=A1p h2' (i:=0) (by omega)
  obtain ⟨d1,e1⟩:=A1p h2' (i:=1) (by omega)
  obtain ⟨d2,e2⟩:=A1p h2' (i:=2) (by omega)
  obtain ⟨d3,e3⟩:=A1p h2' (i:=3) (by omega)
  obtain ⟨d4,e4⟩:=A1p h2' (i:=4) (by omega)
  have g0:=h3 0 _ _ rfl e0
  have g1:=h3 1 _ _ rfl e1
  have g2:=h3 2 _ _ rfl e2
  have g3:=h3 3 _ _ rfl e3
  have g4:=h3 4 _ _ rfl e4
  simp only [B26,C1v,List.drop_zero,List.drop_succ_cons,List.take_succ_cons,List.take_zero,List.getElem_toArray,List.getElem_cons_zero,List.getElem_cons_succ] at g0 g1 g2 g3 g4
  obtain ⟨n0,q0,_⟩:=B8n g0
  obtain ⟨s1,q1,_⟩:=C8t g1
  obtain ⟨s2,q2,_⟩:=C8t g2
  obtain ⟨n3,q3,_⟩:=B8n g3
  obtain ⟨n4,q4,_⟩:=B8n g4
  simp only [A5b,List.cons.injEq,and_true] at q0 q1 q2 q3 q4
  subst q0 q1 q2 q3 q4
  exact ⟨⟨n0,s1,s2,n3,n4⟩,rfl,trivial⟩
theorem end_in {H:AH} {f:Nat} {x:List Value} {y:DataW K} (h:RD Tryz.prog H f 51 x y):∃ a:EndD,x=a.cells∧True:=by
 ·obtain ⟨f',ds,rfl,h1,h2,h3⟩:=RD.struct Tryz.underlying51 h
  rw [C4c] at h1
  obtain ⟨a,b,rfl⟩:=two h1
  have h2':ds.length=2:=h2
  obtain ⟨d0,e0⟩:=A1p h2' (i:=0) (by omega)
  obtain ⟨d1,e1⟩:=A1p h2' (i:=1) (by omega)
  have g0:=h3 0 _ _ rfl e0
  have g1:=h3 1 _ _ rfl e1
  simp only [B26,List.drop_zero,List.drop_succ_cons,List.take_succ_cons,List.take_zero,List.getElem_toArray,List.getElem_cons_zero,List.getElem_cons_succ] at g0 g1
  obtain ⟨n0,q0,_⟩:=B8n g0
  obtain ⟨n1,q1,_⟩:=B8n g1
  simp only [List.cons.injEq,and_true] at q0 q1
  subst q0 q1
  exact ⟨⟨n0,n1⟩,rfl,trivial⟩
theorem agg_of {v:Value} {a b:Value} {l:List Value} (h:A6a v=a :: b :: l):v=.agg (a :: b :: l).toArray:=by
 cases v <;> simp only [A6a] at h <;> try (cases h; done)
 rw [← h]
theorem net_in {H:AH} {f:Nat} {v:Value} {d:DataW K} (h:RD Tryz.prog H f 26 (A6a v) d) (hb:Rows.uptoBulk d≤1048576):∃ N:NetD,Nonempty (A0y H v N)∧A3j N∧A9k N.sigma≤1048576:=by
 ·obtain ⟨f',ds,rfl,h1,h2,h3⟩:=RD.struct Tryz.underlying26 h
  rw [cells_26] at h1
  obtain ⟨a,b,c,e,hv⟩:=four h1
  rw [hv] at h3
  have h2':ds.length=4:=h2
  obtain ⟨d0,e0⟩:=A1p h2' (i:=0) (by omega)
  obtain ⟨d1,e1⟩:=A1p h2' (i:=1) (by omega)
  obtain ⟨d2,e2⟩:=A1p h2' (i:=2) (by omega)
  obtain ⟨d3,e3⟩:=A1p h2' (i:=3) (by omega)
  have g0:=h3 0 _ _ rfl e0
  have g1:=h3 1 _ _ rfl e1
  have g2:=h3 2 _ _ rfl e2
  have g3:=h3 3 _ _ rfl e3
  simp only [B26,cells_22,cells_23,cells_24,List.drop_zero,List.drop_succ_cons,List.take_succ_cons,List.take_zero,List.getElem_toArray,List.getElem_cons_zero,List.getElem_cons_succ] at g0 g1 g2 g3
  obtain ⟨u0,L0,q0,s0,b0⟩:=strs_in g0
  obtain ⟨n1,q1,_⟩:=B8n g1
  obtain ⟨u2,L2,ds2,q2,s2,k2,_,b2⟩:=B85 (enc:=ArcD.cells) (fun _ _=>True) Tryz.underlying23 C6d (fun f x y hf=>arc_in hf) g2
  obtain ⟨u3,L3,ds3,q3,s3,k3,_,b3⟩:=B85 (enc:=EndD.cells) (fun _ _=>True) Tryz.underlying24 C4c (fun f x y hf=>end_in hf) g3
  simp only [List.cons.injEq,and_true] at q0 q1 q2 q3
  subst q0 q1 q2 q3
  have m0:=B3c (List.mem_of_getElem? e0)
  have m2:=B3c (List.mem_of_getElem? e2)
  have m3:=B3c (List.mem_of_getElem? e3)
  have l2:=B9r ds2
  have l3:=B9r ds3
  simp only [Rows.uptoBulk] at hb
  refine ⟨⟨L0,n1,L2,L3⟩,⟨⟨a,c,e,agg_of hv,s0,s2,s3⟩⟩,⟨?_,?_,?_,fun x hx=>?_⟩,?_⟩
  ·show L0.length≤_; omega
  ·show L2.length≤_; omega
  ·show L3.length≤_; omega
  ·have:=C0r hx; show x.size≤_; have h':x.size≤A9k L0:=this; omega
  ·show A9k L0≤_; omega
end
end Go.Proofs.YtcgbiedfbacgpaaGreat
