/- A part of the proof: LawNet, RelOne1, RelTurned, RelOnes, RefTurn. -/
import Derived.Test.YtnoengaghabmjaaGreatMClose2RelTurns20
import Derived.Test.YtnoengaghabmjaaGreatMClose2RelTurns21
import Derived.ProofKit
import Derived.Test.YtnoengaghabmjaaGreatMClose2RelTurns14
import Derived.Test.YtnoengaghabmjaaGreatMClose2RelTurns8
import Derived.Test.YtnoengaghabmjaaGreatMClose2RelTurns18
set_option linter.unusedVariables false
set_option linter.unusedSimpArgs false
/- What laws about a net and words have alike. -/
set_option maxHeartbeats 4000000
set_option maxRecDepth 20000
set_option linter.unusedSimpArgs false
set_option linter.unusedVariables false
namespace Go.Proofs.YtnoengaghabmjaaGreat
open Go Go.Proofs Go.Proofs.Sh
theorem B3j {H:AH}:Sh.Call Tryz.prog (knows 10) 10 [] H (fun r H'=>H'=H∧r=.bool true):=⟨_,_,⟨0,rfl⟩,rfl,rfl⟩
theorem sizes_el {L:List ByteArray} {m:Nat} (h:B9u L+L.length≤m):L.length≤m∧∀ x∈L,x.size≤m:=⟨by omega,fun x hx=>by have:=B66 hx; omega⟩
theorem one_net {H:AH} {sg ar en:Value} {N:NetD} (hsg:Sl H sg 1 (N.sigma.map A1b)) (har:Sl H ar 5 (N.arcs.map ArcD.cells)) (hen:Sl H en 2 (N.ends.map EndD.cells)) (hsm:A3b N) (hw:Wf H):
  A9a Tryz.prog 52 1 [(0,.agg #[sg,.int .i64 N.states,ar,en])] H=some (.slice (some ⟨H.next,0,some 0⟩) 1 1,(H.new 4 [sg,.int .i64 N.states,ar,en]).2)∧
  Sl (H.new 4 [sg,.int .i64 N.states,ar,en]).2 (.slice (some ⟨H.next,0,some 0⟩) 1 1) 4 [[sg,.int .i64 N.states,ar,en]]∧∀ r∈[[sg,.int .i64 N.states,ar,en]],NetRow (H.new 4 [sg,.int .i64 N.states,ar,en]).2 r:=by
 have hi:isCell (.int .i64 N.states)=true:=rfl
 have hb:=B13 (H:=H) (x:=.agg #[sg,.int .i64 N.states,ar,en]) rfl (by
  show [sg,.int .i64 N.states,ar,en].all isCell=true
  simp [hsg.isCell,har.isCell,hen.isCell,hi])
 have k:=Kept.new hw 4 [sg,.int .i64 N.states,ar,en]
 refine ⟨hb,(Buf.fresh (H:=H) (s:=4) (xs:=[[sg,.int .i64 N.states,ar,en]]) hw (by intro x hx; rw [List.mem_singleton.1 hx]; rfl) (by simp) 1 rfl).toSl,fun r hr=>?_⟩
 rw [List.mem_singleton.1 hr]
 exact ⟨N,sg,ar,en,rfl,hsg.grow (k.grow hw),har.grow (k.grow hw),hen.grow (k.grow hw),hsm⟩
theorem C70 {H:AH} {vs:List Value} {K:Type} {d:DataW K} {ts:List Nat} {j:Nat} {v:Value} {f:Nat} (hfl:Flat Tryz.prog ts vs) (ht:ts[j]?=some 22) (hv:vs[j]?=some v) (h:RD Tryz.prog H f 22 (A0b v) d) (hb:Rows.uptoBulk d≤1048576):
  ∃ w:List ByteArray,Sl H v 1 (w.map A1b)∧w.length≤1048576∧∀ x∈w,x.size≤1048576:=by
 obtain ⟨u,L,hu,hsl,hLb⟩:=C65 h
 obtain ⟨hl,hx⟩:=sizes_el (L:=L) (m:=1048576) (by omega)
 have hv2:v=u:=by
  cases v with
  | agg cs=>
   have:=hfl j _ _ ht hv
   unfold C8g at this
   rw [Tryz.underlying22] at this
   cases this
  | _=>exact List.head_eq_of_cons_eq hu
 subst hv2
 exact ⟨L,hsl,hl,hx⟩
end Go.Proofs.YtnoengaghabmjaaGreat
/- Whether one net is too great to be gone on with. -/
namespace Go.Proofs.YtnoengaghabmjaaGreat
open Go Go.Proofs Go.Proofs.Sh
theorem C2y {H:AH} {sg ar en:Value} {N:NetD} (hsg:Sl H sg 1 (N.sigma.map A1b)) (har:Sl H ar 5 (N.arcs.map ArcD.cells)) (hen:Sl H en 2 (N.ends.map EndD.cells)) (hA:A1k N) (hw:Wf H):
  ∃ H5,A9a Tryz.prog 52 1 [(0,.agg #[sg,.int .i64 N.states,ar,en])] H=some (.slice (some ⟨H.next,0,some 0⟩) 1 1,H5)∧Kept H H5∧
   Sh.Call Tryz.prog (knows 10) 72 [.slice (some ⟨H.next,0,some 0⟩) 1 1] H5 (fun r H'=>Kept H5 H'∧r=.bool (A10 N)):=by
 have hi:isCell (.int .i64 N.states)=true:=rfl
 have hb:=B13 (H:=H) (x:=.agg #[sg,.int .i64 N.states,ar,en]) rfl (by
  show [sg,.int .i64 N.states,ar,en].all isCell=true
  simp [hsg.isCell,har.isCell,hen.isCell,hi])
 have k:=Kept.new hw 4 [sg,.int .i64 N.states,ar,en]
 have hs:Sl (H.new 4 [sg,.int .i64 N.states,ar,en]).2 (.slice (some ⟨H.next,0,some 0⟩) 1 1) 4 [[sg,.int .i64 N.states,ar,en]]:=(Buf.fresh (H:=H) (s:=4) (xs:=[[sg,.int .i64 N.states,ar,en]]) hw (by intro x hx; rw [List.mem_singleton.1 hx]; rfl) (by simp) 1 rfl).toSl
 refine ⟨(H.new 4 [sg,.int .i64 N.states,ar,en]).2,hb,k,?_⟩
 have s1:=hsg.grow (k.grow hw)
 have s2:=har.grow (k.grow hw)
 have s3:=hen.grow (k.grow hw)
 have hw1:=k.wf
 generalize (Value.slice (some ⟨H.next,0,some 0⟩) 1 1)=lv at hs ⊢
 generalize (H.new 4 [sg,.int .i64 N.states,ar,en]).2=H1 at hs s1 s2 s3 hw1 ⊢
 clear hb k
 refine A4a rfl Tryz.func72 rfl (Nat.le_of_ble_eq_true rfl) ?_
 have hres:Tryz.f72.results.toList=[.tmp 2]:=rfl
 have a1:=hA.st1
 have a2:=hA.st2
 have a3:=hA.ar
 have a4:=hA.en
 have hll:∀ H',A6a Tryz.prog .len [52] [lv] H'=some (.int .i64 ((1:Nat):Int),H'):=fun H'=>hs.len Tryz.underlying52 H'
 simp only [↓Sh.dn,sx,Nat.reduceBEq,reduceCtorEq,Nat.reduceEqDiff,hll]
 refine A0f 1 10 (List.range' 10 19++[3,4,5,7]) (fun i F H'=>Kept H1 H'∧F.get 3=some (.int .i64 (if i=0 then 0 else N.states))∧F.get 4=some (.int .i64 ((if i=0 then 0 else N.arcs.length:Nat):Int))∧F.get 5=some (.int .i64 ((if i=0 then 0 else N.ends.length:Nat):Int))) (by simp only [↓Sh.dn,sx,Nat.reduceBEq,reduceCtorEq,Nat.reduceEqDiff]) ⟨Kept.refl hw1,by simp only [↓Sh.dn,sx,Nat.reduceBEq,reduceCtorEq,Nat.reduceEqDiff] <;> rfl,by simp only [↓Sh.dn,sx,Nat.reduceBEq,reduceCtorEq,Nat.reduceEqDiff] <;> rfl,by simp only [↓Sh.dn,sx,Nat.reduceBEq,reduceCtorEq,Nat.reduceEqDiff] <;> rfl⟩ ?_ ?_
 ·rintro i F H' hi1 hF f10 ⟨hk,f3,f4,f5⟩ k
  have hi0:i=0:=by omega
  subst hi0
  have f8:=hF 8 rfl
  have f9:=hF 9 rfl
  simp only [↓Sh.dn,sx,Nat.reduceBEq,reduceCtorEq,Nat.reduceEqDiff] at f8 f9
  simp only [if_true] at f3 f4 f5
  obtain ⟨g',o',k',hia,hc,_⟩:=(hs.grow (hk.grow hw1)).at Tryz.underlying52 A0w (i:=0) (x:=[sg,.int .i64 N.states,ar,en]) rfl .i64
  have kn:=Kept.new hk.wf 4 [sg,.int .i64 N.states,ar,en]
  have hb:=NetBox.of (N:=N) hk.wf (s1.grow (hk.grow hw1)) (s2.grow (hk.grow hw1)) (s3.grow (hk.grow hw1))
  have w1:IntKind.wrap .i64 (0+N.states)=N.states:=by rw [wrap64 (by omega) (by omega)]; omega
  have w2:IntKind.wrap .i64 (((0:Nat):Int)+(N.arcs.length:Int))=(N.arcs.length:Int):=by rw [wrap64 (by omega) (by omega)]; omega
  have w3:IntKind.wrap .i64 (((0:Nat):Int)+(N.ends.length:Int))=(N.ends.length:Int):=by rw [wrap64 (by omega) (by omega)]; omega
  have d0:decide (0 < 1)=true:=rfl
  simp only [↓Sh.dn,sx,Nat.reduceBEq,reduceCtorEq,Nat.reduceEqDiff,f3,f4,f5,f8,f9,f10,A5a,hi1,decide_true,hia,hc,Option.map_some,A5b,A02 s1.isCell s2.isCell s3.isCell,A5d,hb.c0,hb.c1,hb.c2,hb.c3,hb.ca,A2a hb,A1a hb,A3a hb,w1,w2,w3,A7a hi1 (by decide)]
  exact k _ _ (by repeat (first | refine Same.put ?_ rfl | exact Same.rfl' _)) (by simp only [↓Sh.dn,sx,Nat.reduceBEq,reduceCtorEq,Nat.reduceEqDiff]) ⟨hk.trans kn,by simp only [↓Sh.dn,sx,Nat.reduceBEq,reduceCtorEq,Nat.reduceEqDiff] <;> rfl,by simp only [↓Sh.dn,sx,Nat.reduceBEq,reduceCtorEq,Nat.reduceEqDiff] <;> rfl,by simp only [↓Sh.dn,sx,Nat.reduceBEq,reduceCtorEq,Nat.reduceEqDiff] <;> rfl⟩
 ·rintro F H' hF f10 ⟨hk,f3,f4,f5⟩
  have f9:=hF 9 rfl
  simp only [↓Sh.dn,sx,Nat.reduceBEq,reduceCtorEq,Nat.reduceEqDiff] at f9
  have e0:(1:Nat)=0↔False:=by decide
  simp only [e0,if_false] at f3 f4 f5
  have d2:decide ((50000:Int) < (N.arcs.length:Int))=decide (50000 < N.arcs.length):=decide_eq_decide.2 (by omega)
  have d3:decide ((50000:Int) < (N.ends.length:Int))=decide (50000 < N.ends.length):=decide_eq_decide.2 (by omega)
  unfold A10
  cases q1:decide (300 < N.states) with
  | true=>simp only [↓Sh.dn,sx,Nat.reduceBEq,reduceCtorEq,Nat.reduceEqDiff,f3,f9,f10,A5a,Nat.lt_irrefl,decide_false,q1,hres]; exact hk
  | false=>
  cases q2:decide (50000 < N.arcs.length) with
  | true=>simp only [↓Sh.dn,sx,Nat.reduceBEq,reduceCtorEq,Nat.reduceEqDiff,f3,f4,f9,f10,A5a,Nat.lt_irrefl,decide_false,q1,d2,q2,hres]; exact hk
  | false=>simp only [↓Sh.dn,sx,Nat.reduceBEq,reduceCtorEq,Nat.reduceEqDiff,f3,f4,f5,f9,f10,A5a,Nat.lt_irrefl,decide_false,q1,d2,q2,d3,hres]; exact hk
end Go.Proofs.YtnoengaghabmjaaGreat
/- (rel.side).turned: a graph whose edges have other sides. -/
namespace Go.Proofs.YtnoengaghabmjaaGreat
open Go Go.Proofs Go.Proofs.Sh
theorem set_mid {α:Type} (A C:List α) (x y:α):(A++x :: C).set A.length y=A++y :: C:=by
 rw [List.set_append_right _ _ (Nat.le_refl _),Nat.sub_self]; rfl
theorem get_mid {α:Type} (A C:List α) (x:α):(A++x :: C)[A.length]?=some x:=by
 rw [List.getElem?_append_right (Nat.le_refl _),Nat.sub_self]; rfl
theorem C6h {α:Type} {n i:Nat} (h:i < n) (x:α):List.replicate (n - i) x=x :: List.replicate (n - (i+1)) x:=by
 rw [show n - i=(n - (i+1))+1 by omega]; rfl
theorem B6j {H:AH} {Y:Nat→Prop} {g2 n fid:Nat} {sigma:List ByteArray} {E:List (List GE)} {ends costs:List Int} (f:GE→Int×Int) (h2:GrX H Y g2 sigma (A0d E) ends costs)
  (hp:∀ {H:AH} (e:GE),Wf H→Sh.Call Tryz.prog (knows 10) fid [.agg (A9e e).toArray] H (fun r H'=>Kept H H'∧r=.tuple #[.int .i64 (f e).1,.int .i64 (f e).2]))
  (hE:E.length=n) (he2:ends.length=n) (hc2:costs.length=n) (hn1:1≤n) (hn:n≤3000) (hsl:sigma.length≤1048576) (hto:∀ r∈E,r.length≤60000∧∀ e∈r,e.1 < n) (hw:Wf H):
  Sh.Call Tryz.prog (knows 10) 75 [.agg #[.func (.func fid) #[] #[]],.pointer (some ⟨g2,0,some 0⟩)] H (fun r H'=>Kept H H'∧∃ g,∃ X:Nat→Prop,r=.pointer (some ⟨g,0,some 0⟩)∧GrX H' X g sigma (A0d (A8v f E)) ends costs):=by
 refine A4a rfl Tryz.func75 rfl (Nat.le_of_ble_eq_true rfl) ?_
 have hres:Tryz.f75.results.toList=[.tmp 4]:=rfl
 have hc:isCell (Value.func (.func fid) #[] #[])=true:=rfl
 have k1:=Kept.new hw 1 [Value.func (.func fid) #[] #[]]
 have cs:(H.new 1 [Value.func (.func fid) #[] #[]]).2.cells ⟨H.next,0,some 0⟩ 1=some [Value.func (.func fid) #[] #[]]:=(Sh.Obj.new (H:=H) 1 _).cells (i:=0) (n:=1) (by simp)
 have cs1:(H.new 1 [Value.func (.func fid) #[] #[]]).2.cell ⟨H.next,0,some 0⟩=some (Value.func (.func fid) #[] #[]):=A9i _ _ _
 have h4:=(grNow h2 hw).kept hw k1
 have hy1:∀ y,Y y∧y < H.next→y < (H.new 1 [Value.func (.func fid) #[] #[]]).2.next:=fun y hy=>Nat.lt_of_lt_of_le hy.2 k1.next
 simp only [↓Sh.dn,sx,Nat.reduceBEq,reduceCtorEq,Nat.reduceEqDiff,B0b hc]
 generalize H.next=gs at cs cs1 h4 hy1 ⊢
 generalize (H.new 1 [Value.func (.func fid) #[] #[]]).2=H1 at cs cs1 k1 h4 hy1 ⊢
 obtain ⟨Z,hZ⟩:∃ Z:Nat→Prop,(fun y=>H1.next≤y)=Z:=⟨_,rfl⟩
 have hZi:∀ {y},Z y↔H1.next≤y:=fun {y}=>by rw [← hZ]
 obtain ⟨sv,av,ev,cv,vals,hst⟩:=GrX.steady (X:=Z) h4 k1.wf fun y hy h=>by
  have:=hy1 y hy
  rw [hZi] at h
  omega
 have hR0:=hst H1 (Chg.refl k1.wf)
 have c0:=hR0.arr.cell 0
 have c1:=hR0.arr.cell 1
 have hlen:∀ {H'},Chg Z H1 H'→∀ H'',A6a Tryz.prog .len [123] [av] H''=some (.int .i64 (n:Int),H''):=fun hc H''=>by
  rw [(hst _ hc).jag.sl.len Tryz.underlying123,List.length_map,(hst _ hc).jag.len]; unfold A0d; rw [List.length_map,hE]
 have hlen1:=hlen (Chg.refl k1.wf) H1
 have qv0:=hR0.sg.veq
 obtain ⟨r3,H3,hd3,hk3,g,rfl,hG3⟩:=A67 (n:=n) hR0.sg hsl (by omega) k1.wf
 have hc3:Chg Z H1 H3:=hk3.chg (X:=Z)
 have c13:=(hst H3 hc3).arr.cell 1
 have hlen3:=hlen hc3 H3
 have hX3:GrX H3 Z g sigma (List.replicate n []) (List.replicate n 0) (List.replicate n 0):=(hG3.own hk3.wf).mono fun y hy=>hZi.2 hy.1
 have hNZ:∀ {H'},Chg Z H1 H'→∀ y,Z y∨H'.next≤y→Z y:=fun hc y hy=>by
  rcases hy with hy | hy
  ·exact hy
  ·exact hZi.2 (Nat.le_trans hc.next hy)
 have hpg:∀ {H'},Chg Z H1 H'→PG H' g2 n 60000 E ends sv av ev cv vals sigma costs:=fun hc=>⟨hst _ hc,hE,he2,hn1,hn,fun s r hr=>hto r (List.mem_of_getElem? hr)⟩
 have hcs:∀ {H'},Chg Z H1 H'→H'.cells ⟨gs,0,some 0⟩ 1=some [Value.func (.func fid) #[] #[]]∧H'.cell ⟨gs,0,some 0⟩=some (Value.func (.func fid) #[] #[]):=fun {H'} hc=>by
  have hk:Kept H1 H':=(Kept.refl k1.wf).then (Nat.le_refl _) (hc.weak fun y hy=>hZi.1 hy)
  exact ⟨A2k (hk.grow k1.wf) cs,A9d (hk.grow k1.wf) cs1⟩
 refine (A4d (by kernel_rfl)).2 ?_
 simp only [↓Sh.dn,sx,Nat.reduceBEq,reduceCtorEq,Nat.reduceEqDiff,c0,c1,hlen1]
 refine ⟨_,_,hd3,?_⟩
 simp only [↓Sh.dn,sx,Nat.reduceBEq,reduceCtorEq,Nat.reduceEqDiff,c13,hlen3]
 refine A0f n 27 (List.range' 27 60++[6,7,9,10,11]) (fun i F H'=>Chg Z H1 H'∧GrX H' Z g sigma (A0d (A8v f (E.take i))++List.replicate (n - i) []) (ends.take i++List.replicate (n - i) 0) (costs.take i++List.replicate (n - i) 0)) (by simp only [↓Sh.dn,sx,Nat.reduceBEq,reduceCtorEq,Nat.reduceEqDiff]) ⟨hc3,by simpa [A0d,A8v] using hX3⟩ ?_ ?_
 ·rintro i F H' hi hF f27 ⟨hc,hG⟩ k
  have f1:=hF 1 rfl
  have f2:=hF 2 rfl
  have f5:=hF 5 rfl
  have f25:=hF 25 rfl
  have f26:=hF 26 rfl
  simp only [↓Sh.dn,sx,Nat.reduceBEq,reduceCtorEq,Nat.reduceEqDiff] at f1 f2 f5 f25 f26
  have hiE:i < E.length:=by omega
  have hr:E[i]?=some E[i]:=List.getElem?_eq_getElem hiE
  obtain ⟨hrl',hrt⟩:=hto E[i] (List.getElem_mem hiE)
  have htE:E.take (i+1)=E.take i++[E[i]]:=by rw [List.take_add_one,hr]; rfl
  generalize E[i]=r at hr hrl' hrt htE
  obtain ⟨D,hD⟩:∃ D,A0d (A8v f (E.take i))=D:=⟨_,rfl⟩
  have hDl:D.length=i:=by rw [← hD]; simp [A0d,A8v]; omega
  rw [hD,C6h hi,C6h hi] at hG
  have hel':(ends.take i).length=i:=by rw [List.length_take]; omega
  have hcl':(costs.take i).length=i:=by rw [List.length_take]; omega
  obtain ⟨pr,wr,hiar,hcr,hsr,hlr⟩:=PG.row (hpg hc) hr
  have hvl:i < vals.length:=by rw [hR0.jag.len]; unfold A0d; rw [List.length_map]; omega
  have key:∀ {Hx wx},Chg Z H1 Hx→Hx.cell pr=some wx→wx=vals[i]:=by
   intro Hx wx hcx hx
   obtain ⟨p',h1,h2⟩:=Sl.elem (s:=1) Tryz.underlying123 A2t (hst Hx hcx).jag.sl (i:=i) (u:=vals[i]) (by rw [List.getElem?_map,List.getElem?_eq_getElem hvl]; rfl)
   rw [hiar] at h1
   have e1:=Option.some.inj h1
   injection e1 with e1; injection e1 with e1
   subst e1
   rw [hx] at h2
   exact Option.some.inj h2
  simp only [↓Sh.dn,sx,Nat.reduceBEq,reduceCtorEq,Nat.reduceEqDiff,f25,f26,f27,A5a,hi,decide_true,hiar,hcr,hlr]
  refine A0f r.length 34 (List.range' 34 21++[9,10,11]) (fun q F'' H''=>Chg Z H1 H''∧GrX H'' Z g sigma (D++(((r.take q).map (B4l f)).map A9e) :: List.replicate (n - (i+1)) []) (ends.take i++0 :: List.replicate (n - (i+1)) 0) (costs.take i++0 :: List.replicate (n - (i+1)) 0)) (by simp only [↓Sh.dn,sx,Nat.reduceBEq,reduceCtorEq,Nat.reduceEqDiff]) ⟨hc,by simpa using hG⟩ ?_ ?_
  ·rintro q F'' H'' hq hF'' f34 ⟨hc2,hG2⟩ k2
   have g2':=hF'' 2 rfl
   have g5:=hF'' 5 rfl
   have g6:=hF'' 6 rfl
   have g32:=hF'' 32 rfl
   have g33:=hF'' 33 rfl
   simp only [↓Sh.dn,sx,Nat.reduceBEq,reduceCtorEq,Nat.reduceEqDiff,f2,f5] at g2' g5 g6 g32 g33
   obtain ⟨pr2,wr2,hia2,hcr2,hsr2,hlr2⟩:=PG.row (hpg hc2) hr
   rw [hiar] at hia2
   have e1:=Option.some.inj hia2
   injection e1 with e1; injection e1 with e1
   subst e1
   have hwr:wr2=wr:=(key hc2 hcr2).trans (key hc hcr).symm
   subst hwr
   obtain ⟨pe,hiae,hce⟩:=PG.edge hsr2 hq
   have hrq:r[q]∈r:=List.getElem_mem hq
   have htk:r.take (q+1)=r.take q++[r[q]]:=by rw [List.take_add_one,List.getElem?_eq_getElem hq]; rfl
   generalize r[q]=e at hce hrq htk
   have kn:=Kept.new hc2.wf 4 (A9e e)
   have hc3:=hc2.trans (kn.chg (X:=Z))
   have hG3:=hG2.kept hc2.wf kn
   have hga:Sh.Obj (H''.new 4 (A9e e)).2 H''.next 4 (A9e e) true:=Sh.Obj.new (H:=H'') 4 (A9e e)
   obtain ⟨rr,H5,hd5,hk5,rfl⟩:=hp e hc3.wf
   have hc5:=hc3.trans (hk5.chg (X:=Z))
   have hG5:=hG3.kept hc3.wf hk5
   have hga5:H5.cell ⟨H''.next,0,some 0⟩=some (.int .i64 (e.1:Int))∧H5.cell ⟨H''.next,3,some 0⟩=some (.int .i64 e.2.2.2):=⟨A9d (hk5.grow hc3.wf) ge0,A9d (hk5.grow hc3.wf) ge3⟩
   have hrow:(D++(((r.take q).map (B4l f)).map A9e) :: List.replicate (n - (i+1)) [])[i]?=some (((r.take q).map (B4l f)).map A9e):=by
    have:=get_mid D (List.replicate (n - (i+1)) []) (((r.take q).map (B4l f)).map A9e)
    rwa [hDl] at this
   obtain ⟨rr,H6,hd6,hc6,hG6⟩:=B73 (x0:=(e.1:Int)) (x1:=(f e).1) (x2:=(f e).2) (x3:=e.2.2.2) hG5 hrow (by rw [List.length_map,List.length_map,List.length_take]; omega) hc5.wf
   have hcs3:=hcs hc3
   simp only [↓Sh.dn,sx,Nat.reduceBEq,reduceCtorEq,Nat.reduceEqDiff,f34,g2',g5,g6,g32,g33,hiae,hce,A5a,hq,decide_true,Option.map_some,B4q,A79,B3o,geAll,hcs3.1,hcs3.2]
   refine ⟨_,_,hd5,?_⟩
   simp only [↓Sh.dn,sx,Nat.reduceBEq,reduceCtorEq,Nat.reduceEqDiff,hga5.1,hga5.2,g5,g6]
   refine ⟨_,_,hd6,?_⟩
   simp only [↓Sh.dn,sx,Nat.reduceBEq,reduceCtorEq,Nat.reduceEqDiff,f34,A7a hq (Nat.le_trans hrl' (by decide))]
   refine k2 _ _ (by repeat (first | refine Same.put ?_ rfl | exact Same.rfl' _)) (by simp only [↓Sh.dn,sx,Nat.reduceBEq,reduceCtorEq,Nat.reduceEqDiff]) ⟨hc5.trans hc6,?_⟩
   have:=hG6.mono (hNZ hc5)
   have hs:=set_mid D (List.replicate (n - (i+1)) []) (((r.take q).map (B4l f)).map A9e) ((((r.take q).map (B4l f)).map A9e)++[[.int .i64 (e.1:Int),.int .i64 (f e).1,.int .i64 (f e).2,.int .i64 e.2.2.2]])
   rw [hDl] at hs
   rw [hs] at this
   rw [htk]
   simpa [A9e,B4l] using this
  ·rintro F'' H'' hF'' f34 ⟨hc2,hG2⟩
   rw [List.take_length] at hG2
   have g1:=hF'' 1 rfl
   have g5:=hF'' 5 rfl
   have g6:=hF'' 6 rfl
   have g27:=hF'' 27 rfl
   have g33:=hF'' 33 rfl
   simp only [↓Sh.dn,sx,Nat.reduceBEq,reduceCtorEq,Nat.reduceEqDiff,f1,f5,f27] at g1 g5 g6 g27 g33
   have hi2:i < ends.length:=by omega
   have hi3:i < costs.length:=by omega
   have hR2:=hst H'' hc2
   obtain ⟨evg,cvg,p1,p2,H6,H7,z1,z2,z3,zq,i1,i2,s1,s2,ch1,ch2,hG3⟩:=GrX.setEC (s:=i) hG2 hc2.wf (by simp [hel']) (by simp [hcl']) ends[i] costs[i]
   have hR3:=hst H6 (hc2.trans ch1)
   have y1:=hR2.arr.cell 2
   have y2:=hR2.arr.cell 3
   have y3:=hR3.arr.cell 3
   obtain ⟨pa,ia,ca⟩:=Sl.elem (s:=1) Tryz.underlying88 A6d hR2.en (i:=i) (u:=.int .i64 ends[i]) (by rw [List.getElem?_map,List.getElem?_eq_getElem hi2]; rfl)
   obtain ⟨pb,ib,cb⟩:=Sl.elem (s:=1) Tryz.underlying88 A6d hR2.co (i:=i) (u:=.int .i64 costs[i]) (by rw [List.getElem?_map,List.getElem?_eq_getElem hi3]; rfl)
   obtain ⟨pb',ib',cb'⟩:=Sl.elem (s:=1) Tryz.underlying88 A6d hR3.co (i:=i) (u:=.int .i64 costs[i]) (by rw [List.getElem?_map,List.getElem?_eq_getElem hi3]; rfl)
   rw [ib] at ib'
   have e1:=Option.some.inj ib'
   injection e1 with e1; injection e1 with e1
   subst e1
   have qv:=hR2.co.veq
   simp only [↓Sh.dn,sx,Nat.reduceBEq,reduceCtorEq,Nat.reduceEqDiff,f34,g33,A5a,Nat.lt_irrefl,decide_false]
   refine A9v (fl:=[(0,[]),(1,[]),(2,[]),(3,[]),(4,[]),(5,[]),(6,[]),(7,[]),(8,[]),(9,[]),(10,[]),(11,[]),(12,[]),(13,[]),(14,[]),(15,[]),(16,[]),(17,[]),(18,[]),(19,[]),(20,[]),(21,[]),(22,[]),(23,[]),(24,[]),(25,[]),(26,[]),(27,[])]) (by kernel_rfl) (by kernel_rfl) (by kernel_rfl) ?_
   simp only [↓Sh.dn,sx,Nat.reduceBEq,reduceCtorEq,Nat.reduceEqDiff,wpr,again,A9b,A3e,A1c,A4e,A6c,A6b,A0g,forall_eq,forall_eq',g1,g5,g6,g27,z1,z2,z3,zq,i1,i2,s1,s2,y1,y2,y3,qv,ia,ca,ib,cb,cb',A7a hi (Nat.le_trans hn (by decide))]
   refine k _ _ ?_ (by simp only [↓Sh.dn,sx,Nat.reduceBEq,reduceCtorEq,Nat.reduceEqDiff]) ⟨hc2.trans ch2,?_⟩
   ·repeat refine Same.put ?_ rfl
    exact Same.trans (by repeat (first | refine Same.put ?_ rfl | exact Same.rfl' _)) (hF''.sub rfl)
   ·have t1:ends.take (i+1)=ends.take i++[ends[i]]:=by rw [List.take_add_one,List.getElem?_eq_getElem hi2]; rfl
    have t2:costs.take (i+1)=costs.take i++[costs[i]]:=by rw [List.take_add_one,List.getElem?_eq_getElem hi3]; rfl
    have s3:=set_mid (ends.take i) (List.replicate (n - (i+1)) 0) 0 ends[i]
    rw [hel'] at s3
    have s4:=set_mid (costs.take i) (List.replicate (n - (i+1)) 0) 0 costs[i]
    rw [hcl'] at s4
    rw [s3,s4] at hG3
    rw [t1,t2,htE]
    have e2:A0d (A8v f (E.take i++[r]))=D++[(r.map (B4l f)).map A9e]:=by rw [← hD]; simp [A0d,A8v]
    rw [e2,List.append_assoc,List.append_assoc,List.append_assoc]
    exact hG3
 ·rintro F H' hF f27 ⟨hc,hG⟩
  have f5:=hF 5 rfl
  have f26:=hF 26 rfl
  simp only [↓Sh.dn,sx,Nat.reduceBEq,reduceCtorEq,Nat.reduceEqDiff] at f5 f26
  rw [Nat.sub_self,List.take_of_length_le (by omega),List.take_of_length_le (by omega),List.take_of_length_le (by omega)] at hG
  simp only [List.replicate_zero,List.append_nil] at hG
  simp only [↓Sh.dn,sx,Nat.reduceBEq,reduceCtorEq,Nat.reduceEqDiff,f5,f26,f27,A5a,Nat.lt_irrefl,decide_false,hres]
  exact ⟨k1.then k1.next (hc.weak fun y hy=>hZi.1 hy),g,rfl,Z,hG⟩
end Go.Proofs.YtnoengaghabmjaaGreat
/- rel.Copies, Inverse, Trim, Star, Upper, Lower: what one relation is made to. -/
namespace Go.Proofs.YtnoengaghabmjaaGreat
open Go Go.Proofs Go.Proofs.Sh
theorem C45 {N:NetD} (h:A97 N=false):∀ a∈N.arcs,a.inn=a.out:=by
 intro a ha
 unfold A97 at h
 rw [List.any_eq_false] at h
 simpa using h a ha
theorem A13 {N:NetD} (hE:A5f N=0):A46 N.sigma (A7m N) (A2l N N.ends) (A0l N N.ends) N.states.toNat:=by
 obtain ⟨okN,_,_⟩:=A1i hE
 have a1:=okN.st1
 have a2:=okN.st2
 exact ⟨A03 N,A72 N,A7y N,by omega,by omega,B96 hE,by rw [B9p hE]; exact okN.ar,B24 (B6m hE)⟩
theorem A25 {N:NetD} (hE:A5f N=0) {f:GE→Int×Int} (hf:∀ {m:Int} (e:GE),0≤m→e.2.1 < m→e.2.2.1 < m→(f e).1 < m∧(f e).2 < m):A46 N.sigma (A8v f (A7m N)) (A2l N N.ends) (A0l N N.ends) N.states.toNat:=by
 have h:=A13 hE
 exact ⟨by rw [C5y]; exact h.le,h.ln,h.lc,h.n1,h.n2,turn_ok (fun e h1 h2=>hf e (Int.natCast_nonneg _) h1 h2) h.to,by rw [turn_sum]; exact h.sum,h.zero⟩
theorem C11 {H:AH} {v:Value} {N:NetD} (h:A4h H v N) (hsm:A3b N) (hw:Wf H):
  Sh.Call Tryz.prog (knows 10) 50 [v] H (fun r H'=>MakeOut H H' N.sigma (A2b N 0) (A7i N 0) (A5v 0) r):=by
 refine A4a rfl Tryz.func50 rfl (Nat.le_of_ble_eq_true rfl) ?_
 have hres:Tryz.f50.results.toList=[.cell 2 26,.tmp 3]:=rfl
 obtain ⟨sg,ar,en,rfl,hsg,har,hen⟩:=h
 have hb1:=NetBox.of (N:=N) hw hsg har hen
 have k1:Kept H (H.new 4 [sg,.int .i64 N.states,ar,en]).2:=Kept.new hw 4 _
 simp only [↓Sh.dn,sx,Nat.reduceBEq,reduceCtorEq,Nat.reduceEqDiff,A1g hsg.isCell har.isCell hen.isCell,A5b]
 generalize H.next=gg at hb1 ⊢
 generalize (H.new 4 [sg,.int .i64 N.states,ar,en]).2=H1 at hb1 k1 ⊢
 have sl:Slot (H1.new 4 [.slice none 0 0,.int .i64 0,.slice none 0 0,.slice none 0 0]).2 H1.next:=Slot.new
 have k3:=k1.news 4 [.slice none 0 0,.int .i64 0,.slice none 0 0,.slice none 0 0]
 have hb3:=hb1.new k1.wf 4 [.slice none 0 0,.int .i64 0,.slice none 0 0,.slice none 0 0]
 have gol:H.next≤H1.next:=k1.next
 generalize H1.next=go at sl gol ⊢
 generalize (H1.new 4 [.slice none 0 0,.int .i64 0,.slice none 0 0,.slice none 0 0]).2=H3 at sl k3 hb3 ⊢
 clear hb1 k1 H1
 obtain ⟨r4,H4,hd4,k4,rfl⟩:=A7r hb3.netAt hsm k3.wf
 simp only [↓Sh.dn,sx,Nat.reduceBEq,reduceCtorEq,Nat.reduceEqDiff,hb3.c0,hb3.c1,hb3.c2,hb3.c3,hb3.ca,A2a hb3,A1a hb3,A3a hb3,Option.map_some]
 refine ⟨_,_,hd4,?_⟩
 by_cases hE:A5f N=0
 case neg=>
  have e1:A2b N 0=A5f N:=by unfold A2b; rw [if_pos hE]
  obtain ⟨Hz,sz,cz,zz,_⟩:=sl.put k4 (a:=.slice none 0 0) (b:=.int .i64 0) (c:=.slice none 0 0) (d:=.slice none 0 0) rfl rfl rfl rfl
  simp only [↓Sh.dn,sx,Nat.reduceBEq,reduceCtorEq,Nat.reduceEqDiff,hE,decide_false,netZ,sz,hres,cz,Option.map_some,e1]
  exact MakeOut.bad ((k3.trans k4).then gol (zz.weak fun y hy=>by omega)) hE
 obtain ⟨okN,_,_⟩:=A1i hE
 have hb4:=hb3.kept k3.wf k4
 have a1:=okN.st1
 have a2:=okN.st2
 obtain ⟨r5,H5,hd5,k5,rfl⟩:=relSided hb4.netAt hsm (k3.trans k4).wf
 have k45:=k4.trans k5
 have hb5:=hb3.kept k3.wf k45
 simp only [↓Sh.dn,sx,Nat.reduceBEq,reduceCtorEq,Nat.reduceEqDiff,hE,decide_true,hb4.c0,hb4.c1,hb4.c2,hb4.c3,hb4.ca,A2a hb4,A1a hb4,A3a hb4,Option.map_some]
 refine ⟨_,_,hd5,?_⟩
 have e0:A2b N 0=if A97 N=true then 6 else 0:=by unfold A2b; rw [if_neg (by simpa using hE)]; rfl
 cases hsd:(N.arcs.any fun a=>!decide (a.inn=a.out)) with
 | true=>
  have e1:A2b N 0=6:=by rw [e0]; exact if_pos (c:=A97 N=true) hsd
  obtain ⟨Hz,sz,cz,zz,_⟩:=sl.put k45 (a:=.slice none 0 0) (b:=.int .i64 0) (c:=.slice none 0 0) (d:=.slice none 0 0) rfl rfl rfl rfl
  simp only [↓Sh.dn,sx,Nat.reduceBEq,reduceCtorEq,Nat.reduceEqDiff,hE,netZ,sz,hres,cz,Option.map_some,e1]
  exact MakeOut.bad ((k3.trans k45).then gol (zz.weak fun y hy=>by omega)) (by decide)
 | false=>
 have e1:A2b N 0=0:=by rw [e0,if_neg (by unfold A97; rw [hsd]; simp)]
 have hla:=C45 (N:=N) hsd
 obtain ⟨r6,H6,hd6,k6,g1,rfl,base1,hbase1,hG1⟩:=A88 hb5.netAt okN hsm (k3.trans k45).wf
 rw [← A9o okN] at hG1
 have hX1:=hG1.own k6.wf
 have hRO:=A13 hE
 have kg:=k45.trans k6
 obtain ⟨r9,H9,hd9,k9,M,hM,m1,m2,m3,m4,m5,m6⟩:=A71 hX1 hRO.le hRO.ln hRO.lc hRO.n1 hRO.n2 hsm.sg (fun r hr e he=>⟨(hRO.to r hr e he).1,(hRO.to r hr e he).2.1,(hRO.to r hr e he).2.2.1⟩) (by have:=hRO.sum; omega) k6.wf
 have hNO:B5c N.sigma _ _ _ _ M:=⟨m1,m2,m3,m4,m5,m6⟩
 have hrel:∀ x y,A7k M x y↔A7i N 0 x y:=fun x y=>by
  rw [A7t hNO hRO okN.sig]
  rw [← A0r okN,C3p okN hla]
 obtain ⟨H10,sgM,arM,enM,rfl,s10,c10,w10,hfin⟩:=MakeOut.put (sigma:=N.sigma) (P:=A7i N 0) (Q:=A5v 0) sl gol k3 (kg.trans k9) kg.next hM (A8q hNO hRO hsm.sg hsm.sx) (A4t hNO hRO okN.sig) m1 hrel trivial
 simp only [↓Sh.dn,sx,Nat.reduceBEq,reduceCtorEq,Nat.reduceEqDiff,hb5.c0,hb5.c1,hb5.c2,hb5.c3,hb5.ca,A2a hb5,A1a hb5,A3a hb5,Option.map_some]
 refine ⟨_,_,hd6,?_⟩
 refine ⟨_,_,hd9,?_⟩
 simp only [↓Sh.dn,sx,Nat.reduceBEq,reduceCtorEq,Nat.reduceEqDiff,s10,hres,c10,Option.map_some,e1]
 exact hfin
theorem C7r {H:AH} {v:Value} {N:NetD} (h:A4h H v N) (hsm:A3b N) (hw:Wf H):
  Sh.Call Tryz.prog (knows 10) 52 [v] H (fun r H'=>MakeOut H H' N.sigma (A2b N 2) (A7i N 2) (A5v 2) r):=by
 refine A4a rfl Tryz.func52 rfl (Nat.le_of_ble_eq_true rfl) ?_
 have hres:Tryz.f52.results.toList=[.cell 2 26,.tmp 3]:=rfl
 obtain ⟨sg,ar,en,rfl,hsg,har,hen⟩:=h
 have hb1:=NetBox.of (N:=N) hw hsg har hen
 have k1:Kept H (H.new 4 [sg,.int .i64 N.states,ar,en]).2:=Kept.new hw 4 _
 simp only [↓Sh.dn,sx,Nat.reduceBEq,reduceCtorEq,Nat.reduceEqDiff,A1g hsg.isCell har.isCell hen.isCell,A5b]
 generalize H.next=gg at hb1 ⊢
 generalize (H.new 4 [sg,.int .i64 N.states,ar,en]).2=H1 at hb1 k1 ⊢
 have sl:Slot (H1.new 4 [.slice none 0 0,.int .i64 0,.slice none 0 0,.slice none 0 0]).2 H1.next:=Slot.new
 have k3:=k1.news 4 [.slice none 0 0,.int .i64 0,.slice none 0 0,.slice none 0 0]
 have hb3:=hb1.new k1.wf 4 [.slice none 0 0,.int .i64 0,.slice none 0 0,.slice none 0 0]
 have gol:H.next≤H1.next:=k1.next
 generalize H1.next=go at sl gol ⊢
 generalize (H1.new 4 [.slice none 0 0,.int .i64 0,.slice none 0 0,.slice none 0 0]).2=H3 at sl k3 hb3 ⊢
 clear hb1 k1 H1
 obtain ⟨r4,H4,hd4,k4,rfl⟩:=A7r hb3.netAt hsm k3.wf
 simp only [↓Sh.dn,sx,Nat.reduceBEq,reduceCtorEq,Nat.reduceEqDiff,hb3.c0,hb3.c1,hb3.c2,hb3.c3,hb3.ca,A2a hb3,A1a hb3,A3a hb3,Option.map_some]
 refine ⟨_,_,hd4,?_⟩
 by_cases hE:A5f N=0
 case neg=>
  have e1:A2b N 2=A5f N:=by unfold A2b; rw [if_pos hE]
  obtain ⟨Hz,sz,cz,zz,_⟩:=sl.put k4 (a:=.slice none 0 0) (b:=.int .i64 0) (c:=.slice none 0 0) (d:=.slice none 0 0) rfl rfl rfl rfl
  simp only [↓Sh.dn,sx,Nat.reduceBEq,reduceCtorEq,Nat.reduceEqDiff,hE,decide_false,netZ,sz,hres,cz,Option.map_some,e1]
  exact MakeOut.bad ((k3.trans k4).then gol (zz.weak fun y hy=>by omega)) hE
 obtain ⟨okN,_,_⟩:=A1i hE
 have hb4:=hb3.kept k3.wf k4
 have a1:=okN.st1
 have a2:=okN.st2
 have e1:A2b N 2=0:=by unfold A2b; rw [if_neg (by simpa using hE)]; rfl
 obtain ⟨r5,H5,hd5,k5,rfl⟩:=C0y (k3.trans k4).wf
 have k45:=k4.trans k5
 have hb5:=hb3.kept k3.wf k45
 obtain ⟨r6,H6,hd6,k6,g1,rfl,base1,hbase1,hG1⟩:=A88 hb5.netAt okN hsm (k3.trans k45).wf
 rw [← A9o okN] at hG1
 have hX1:=hG1.own k6.wf
 have hRO:=A25 hE (f:=C5b) fun e _ h1 h2=>⟨h2,h1⟩
 obtain ⟨r7,H7,hd7,k7,g2,X2,rfl,hX2⟩:=B6j (n:=N.states.toNat) (fid:=89) C5b hX1 (fun e hw=>sideTurn hw) (A03 N) (A72 N) (A7y N) (by omega) (by omega) hsm.sg (A7w hE) k6.wf
 have kg:=(k45.trans k6).trans k7
 obtain ⟨r9,H9,hd9,k9,M,hM,m1,m2,m3,m4,m5,m6⟩:=A71 hX2 hRO.le hRO.ln hRO.lc hRO.n1 hRO.n2 hsm.sg (fun r hr e he=>⟨(hRO.to r hr e he).1,(hRO.to r hr e he).2.1,(hRO.to r hr e he).2.2.1⟩) (by have:=hRO.sum; omega) k7.wf
 have hNO:B5c N.sigma _ _ _ _ M:=⟨m1,m2,m3,m4,m5,m6⟩
 have hrel:∀ x y,A7k M x y↔A7i N 2 x y:=fun x y=>by
  rw [A7t hNO hRO okN.sig]
  exact C2c okN x y
 obtain ⟨H10,sgM,arM,enM,rfl,s10,c10,w10,hfin⟩:=MakeOut.put (sigma:=N.sigma) (P:=A7i N 2) (Q:=A5v 2) sl gol k3 (kg.trans k9) kg.next hM (A8q hNO hRO hsm.sg hsm.sx) (A4t hNO hRO okN.sig) m1 hrel trivial
 have hvqN:veq (.agg #[sg,.int .i64 N.states,ar,en]) (.agg #[sg,.int .i64 N.states,ar,en])=true:=A9t (by simp only [A6l,A0o,A1c,hsg.veq,har.veq,hen.veq,Bool.and_self])
 simp only [↓Sh.dn,sx,Nat.reduceBEq,reduceCtorEq,Nat.reduceEqDiff,hE,decide_true]
 refine A6o (fl:=[(1,false),(0,false),(2,true),(3,true),(4,true),(5,true),(6,true)]) (by kernel_rfl) (by kernel_rfl) (k3.trans k4).wf ?_
 simp only [↓Sh.dn,sx,Nat.reduceBEq,reduceCtorEq,Nat.reduceEqDiff,wpg,A4q,isEff,A9b,isRead,A3e,A1c,A4e,A6c,A6b,forall_eq,forall_eq',hb4.c0,hb4.c1,hb4.c2,hb4.c3,hb4.ca,A2a hb4,A1a hb4,A3a hb4,hb5.c0,hb5.c1,hb5.c2,hb5.c3,hb5.ca,A2a hb5,A1a hb5,A3a hb5,Option.map_some,hvqN]
 refine ⟨_,_,hd5,k5.wf,k5.grow (k3.trans k4).wf,?_⟩
 first | refine ⟨_,_,hd6,k6.wf,k6.grow k5.wf,?_⟩ | refine ⟨_,_,hd6,k6.wf,?_⟩
 refine ⟨_,_,hd7,k7.wf,?_⟩
 refine ⟨_,_,hd9,k9.wf,?_⟩
 simp only [↓Sh.dn,sx,Nat.reduceBEq,reduceCtorEq,Nat.reduceEqDiff,wpg,A4q,isEff,A9b,isRead,A3e,A1c,A4e,A6c,A6b,forall_eq,forall_eq',s10,hres,c10,Option.map_some,w10,e1]
 exact hfin
theorem relTrim {H:AH} {v:Value} {N:NetD} (h:A4h H v N) (hsm:A3b N) (hw:Wf H):
  Sh.Call Tryz.prog (knows 10) 55 [v] H (fun r H'=>MakeOut H H' N.sigma (A2b N 5) (A7i N 5) (A5v 5) r):=by
 refine A4a rfl Tryz.func55 rfl (Nat.le_of_ble_eq_true rfl) ?_
 have hres:Tryz.f55.results.toList=[.cell 2 26,.tmp 3]:=rfl
 obtain ⟨sg,ar,en,rfl,hsg,har,hen⟩:=h
 have hb1:=NetBox.of (N:=N) hw hsg har hen
 have k1:Kept H (H.new 4 [sg,.int .i64 N.states,ar,en]).2:=Kept.new hw 4 _
 simp only [↓Sh.dn,sx,Nat.reduceBEq,reduceCtorEq,Nat.reduceEqDiff,A1g hsg.isCell har.isCell hen.isCell,A5b]
 generalize H.next=gg at hb1 ⊢
 generalize (H.new 4 [sg,.int .i64 N.states,ar,en]).2=H1 at hb1 k1 ⊢
 have sl:Slot (H1.new 4 [.slice none 0 0,.int .i64 0,.slice none 0 0,.slice none 0 0]).2 H1.next:=Slot.new
 have k3:=k1.news 4 [.slice none 0 0,.int .i64 0,.slice none 0 0,.slice none 0 0]
 have hb3:=hb1.new k1.wf 4 [.slice none 0 0,.int .i64 0,.slice none 0 0,.slice none 0 0]
 have gol:H.next≤H1.next:=k1.next
 generalize H1.next=go at sl gol ⊢
 generalize (H1.new 4 [.slice none 0 0,.int .i64 0,.slice none 0 0,.slice none 0 0]).2=H3 at sl k3 hb3 ⊢
 clear hb1 k1 H1
 obtain ⟨r4,H4,hd4,k4,rfl⟩:=A7r hb3.netAt hsm k3.wf
 simp only [↓Sh.dn,sx,Nat.reduceBEq,reduceCtorEq,Nat.reduceEqDiff,hb3.c0,hb3.c1,hb3.c2,hb3.c3,hb3.ca,A2a hb3,A1a hb3,A3a hb3,Option.map_some]
 refine ⟨_,_,hd4,?_⟩
 by_cases hE:A5f N=0
 case neg=>
  have e1:A2b N 5=A5f N:=by unfold A2b; rw [if_pos hE]
  obtain ⟨Hz,sz,cz,zz,_⟩:=sl.put k4 (a:=.slice none 0 0) (b:=.int .i64 0) (c:=.slice none 0 0) (d:=.slice none 0 0) rfl rfl rfl rfl
  simp only [↓Sh.dn,sx,Nat.reduceBEq,reduceCtorEq,Nat.reduceEqDiff,hE,decide_false,netZ,sz,hres,cz,Option.map_some,e1]
  exact MakeOut.bad ((k3.trans k4).then gol (zz.weak fun y hy=>by omega)) hE
 obtain ⟨okN,_,_⟩:=A1i hE
 have hb4:=hb3.kept k3.wf k4
 have a1:=okN.st1
 have a2:=okN.st2
 have e1:A2b N 5=0:=by unfold A2b; rw [if_neg (by simpa using hE)]; rfl
 obtain ⟨r6,H6,hd6,k6,g1,rfl,base1,hbase1,hG1⟩:=A88 hb4.netAt okN hsm (k3.trans k4).wf
 rw [← A9o okN] at hG1
 have hX1:=hG1.own k6.wf
 have hRN:=A13 hE
 obtain ⟨sv,av,ev,cv,vals,hR⟩:=hX1.read
 have hPG:PG H6 g1 N.states.toNat 60000 (A7m N) (A2l N N.ends) sv av ev cv vals N.sigma (A0l N N.ends):=⟨hR,hRN.le,hRN.ln,hRN.n1,hRN.n2,fun s r hr=>A7w hE r (List.mem_of_getElem? hr)⟩
 obtain ⟨r7,H7,hd7,k7,g2,rfl,U,R,es,cs,X4,_,hX4,hcs,hzs,hUl,hUi,hT,hm⟩:=C5r hPG hsm.sg hRN.lc k6.wf
 have hTok:=hT.ok hRN.le hUl (m:=0) (Q:=fun l=>l.1 < (N.sigma.length:Int)∧l.2.1 < (N.sigma.length:Int)∧l.2.2=0) hRN.to
 have hTsum:=hT.sumAll hRN.le
 have hTR:=hT.rel hRN.le hUl (fun r hr e he=>(hRN.to r hr e he).1) hUi
 have hRO:A46 N.sigma R es cs (1+A0k U N.states.toNat):=⟨hT.lr,hT.le,hcs,by omega,by have:=hRN.n2; omega,hTok,by have:=hRN.sum; omega,B24 (hzs (B6m hE))⟩
 have kg:=(k4.trans k6).trans k7
 obtain ⟨r9,H9,hd9,k9,M,hM,m1,m2,m3,m4,m5,m6⟩:=A71 hX4 hRO.le hRO.ln hRO.lc hRO.n1 hRO.n2 hsm.sg (fun r hr e he=>⟨(hRO.to r hr e he).1,(hRO.to r hr e he).2.1,(hRO.to r hr e he).2.2.1⟩) (by have:=hRO.sum; omega) k7.wf
 have hNO:B5c N.sigma _ _ _ _ M:=⟨m1,m2,m3,m4,m5,m6⟩
 have hrel:∀ x y,A7k M x y↔A7i N 5 x y:=fun x y=>by
  rw [A7t hNO hRO okN.sig]
  rw [hTR.rel]
  exact (A0r okN x y).symm
 obtain ⟨H10,sgM,arM,enM,rfl,s10,c10,w10,hfin⟩:=MakeOut.put (sigma:=N.sigma) (P:=A7i N 5) (Q:=A5v 5) sl gol k3 (kg.trans k9) kg.next hM (A8q hNO hRO hsm.sg hsm.sx) (A4t hNO hRO okN.sig) m1 hrel (trim_ok hNO hRO okN.sig hTR hT hUl)
 simp only [↓Sh.dn,sx,Nat.reduceBEq,reduceCtorEq,Nat.reduceEqDiff,hE,decide_true,hb4.c0,hb4.c1,hb4.c2,hb4.c3,hb4.ca,A2a hb4,A1a hb4,A3a hb4,Option.map_some]
 refine ⟨_,_,hd6,?_⟩
 refine ⟨_,_,hd7,?_⟩
 refine ⟨_,_,hd9,?_⟩
 simp only [↓Sh.dn,sx,Nat.reduceBEq,reduceCtorEq,Nat.reduceEqDiff,s10,hres,c10,Option.map_some,e1]
 exact hfin
theorem relStar {H:AH} {v:Value} {N:NetD} (h:A4h H v N) (hsm:A3b N) (hw:Wf H):
  Sh.Call Tryz.prog (knows 10) 51 [v] H (fun r H'=>MakeOut H H' N.sigma (A2b N 1) (A7i N 1) (A5v 1) r):=by
 refine A4a rfl Tryz.func51 rfl (Nat.le_of_ble_eq_true rfl) ?_
 have hres:Tryz.f51.results.toList=[.cell 2 26,.tmp 3]:=rfl
 obtain ⟨sg,ar,en,rfl,hsg,har,hen⟩:=h
 have hb1:=NetBox.of (N:=N) hw hsg har hen
 have k1:Kept H (H.new 4 [sg,.int .i64 N.states,ar,en]).2:=Kept.new hw 4 _
 simp only [↓Sh.dn,sx,Nat.reduceBEq,reduceCtorEq,Nat.reduceEqDiff,A1g hsg.isCell har.isCell hen.isCell,A5b]
 generalize H.next=gg at hb1 ⊢
 generalize (H.new 4 [sg,.int .i64 N.states,ar,en]).2=H1 at hb1 k1 ⊢
 have sl:Slot (H1.new 4 [.slice none 0 0,.int .i64 0,.slice none 0 0,.slice none 0 0]).2 H1.next:=Slot.new
 have k3:=k1.news 4 [.slice none 0 0,.int .i64 0,.slice none 0 0,.slice none 0 0]
 have hb3:=hb1.new k1.wf 4 [.slice none 0 0,.int .i64 0,.slice none 0 0,.slice none 0 0]
 have gol:H.next≤H1.next:=k1.next
 generalize H1.next=go at sl gol ⊢
 generalize (H1.new 4 [.slice none 0 0,.int .i64 0,.slice none 0 0,.slice none 0 0]).2=H3 at sl k3 hb3 ⊢
 clear hb1 k1 H1
 obtain ⟨r4,H4,hd4,k4,rfl⟩:=A7r hb3.netAt hsm k3.wf
 simp only [↓Sh.dn,sx,Nat.reduceBEq,reduceCtorEq,Nat.reduceEqDiff,hb3.c0,hb3.c1,hb3.c2,hb3.c3,hb3.ca,A2a hb3,A1a hb3,A3a hb3,Option.map_some]
 refine ⟨_,_,hd4,?_⟩
 by_cases hE:A5f N=0
 case neg=>
  have e1:A2b N 1=A5f N:=by unfold A2b; rw [if_pos hE]
  obtain ⟨Hz,sz,cz,zz,_⟩:=sl.put k4 (a:=.slice none 0 0) (b:=.int .i64 0) (c:=.slice none 0 0) (d:=.slice none 0 0) rfl rfl rfl rfl
  simp only [↓Sh.dn,sx,Nat.reduceBEq,reduceCtorEq,Nat.reduceEqDiff,hE,decide_false,netZ,sz,hres,cz,Option.map_some,e1]
  exact MakeOut.bad ((k3.trans k4).then gol (zz.weak fun y hy=>by omega)) hE
 obtain ⟨okN,_,_⟩:=A1i hE
 have hb4:=hb3.kept k3.wf k4
 have a1:=okN.st1
 have a2:=okN.st2
 have e0:A2b N 1=if A10 N=true then 3 else 0:=by unfold A2b; rw [if_neg (by simpa using hE)]; rfl
 obtain ⟨H5,hb5',k5,r5,H5b,hd5,k5b,rfl⟩:=C2y hb4.hsg hb4.har hb4.hen okN (k3.trans k4).wf
 have k45:=k4.trans (k5.trans k5b)
 have hb5:=hb3.kept k3.wf k45
 simp only [↓Sh.dn,sx,Nat.reduceBEq,reduceCtorEq,Nat.reduceEqDiff,hE,decide_true,hb4.c0,hb4.c1,hb4.c2,hb4.c3,hb4.ca,A2a hb4,A1a hb4,A3a hb4,Option.map_some,hb5']
 refine ⟨_,_,hd5,?_⟩
 cases hgr:A10 N with
 | true=>
  have e1:A2b N 1=3:=by rw [e0,if_pos hgr]
  obtain ⟨Hz,sz,cz,zz,_⟩:=sl.put k45 (a:=.slice none 0 0) (b:=.int .i64 0) (c:=.slice none 0 0) (d:=.slice none 0 0) rfl rfl rfl rfl
  simp only [↓Sh.dn,sx,Nat.reduceBEq,reduceCtorEq,Nat.reduceEqDiff,hE,netZ,sz,hres,cz,Option.map_some,e1]
  exact MakeOut.bad ((k3.trans k45).then gol (zz.weak fun y hy=>by omega)) (by decide)
 | false=>
 have e1:A2b N 1=0:=by rw [e0,if_neg (by rw [hgr]; simp)]
 have hg3:=hgr
 simp only [A10,Bool.or_eq_false_iff,decide_eq_false_iff_not,Int.not_lt,Nat.not_lt] at hg3
 obtain ⟨r6,H6,hd6,k6,g1,rfl,base1,hbase1,hG1⟩:=A88 hb5.netAt okN hsm (k3.trans k45).wf
 rw [← A9o okN] at hG1
 have hX1:=hG1.own k6.wf
 have hRN:=A13 hE
 obtain ⟨r7,H7,hd7,k7,g2,rfl,X2,hX2⟩:=C46 hX1 hRN.le hRN.ln hRN.lc hRN.n1 (by omega) hsm.sg (A7w hE) k6.wf
 have hsum:=stE_sum (ends:=A2l N N.ends) (costs:=A0l N N.ends) hRN.le N.states.toNat
 rw [B9p hE] at hsum
 have hRO:A46 N.sigma (stE (A7m N) (A2l N N.ends) (A0l N N.ends) N.states.toNat N.states.toNat) (1 :: A7q (A2l N N.ends) N.states.toNat N.states.toNat) (0 :: A0l N N.ends) (1+N.states.toNat):=⟨C92 _,by rw [List.length_cons,B0q]; omega,by rw [List.length_cons,hRN.lc]; omega,by omega,by omega,stE_ok (Int.natCast_nonneg _) hRN.le hRN.zero hRN.to _ (by omega),by omega,fun s=>by cases s with
  | zero=>rfl
  | succ s=>exact hRN.zero s⟩
 have kg:=(k45.trans k6).trans k7
 obtain ⟨r9,H9,hd9,k9,M,hM,m1,m2,m3,m4,m5,m6⟩:=A71 hX2 hRO.le hRO.ln hRO.lc hRO.n1 hRO.n2 hsm.sg (fun r hr e he=>⟨(hRO.to r hr e he).1,(hRO.to r hr e he).2.1,(hRO.to r hr e he).2.2.1⟩) (by have:=hRO.sum; omega) k7.wf
 have hNO:B5c N.sigma _ _ _ _ M:=⟨m1,m2,m3,m4,m5,m6⟩
 have hrel:∀ x y,A7k M x y↔A7i N 1 x y:=fun x y=>by
  rw [A7t hNO hRO okN.sig]
  rw [(star_of hRN.le hRN.ln).rel]
  exact star_rel okN x y
 obtain ⟨H10,sgM,arM,enM,rfl,s10,c10,w10,hfin⟩:=MakeOut.put (sigma:=N.sigma) (P:=A7i N 1) (Q:=A5v 1) sl gol k3 (kg.trans k9) kg.next hM (A8q hNO hRO hsm.sg hsm.sx) (A4t hNO hRO okN.sig) m1 hrel trivial
 simp only [↓Sh.dn,sx,Nat.reduceBEq,reduceCtorEq,Nat.reduceEqDiff,hb5.c0,hb5.c1,hb5.c2,hb5.c3,hb5.ca,A2a hb5,A1a hb5,A3a hb5,Option.map_some]
 refine ⟨_,_,hd6,?_⟩
 refine ⟨_,_,hd7,?_⟩
 refine ⟨_,_,hd9,?_⟩
 simp only [↓Sh.dn,sx,Nat.reduceBEq,reduceCtorEq,Nat.reduceEqDiff,s10,hres,c10,Option.map_some,e1]
 exact hfin
theorem C7a {H:AH} {v:Value} {N:NetD} (h:A4h H v N) (hsm:A3b N) (hw:Wf H):
  Sh.Call Tryz.prog (knows 10) 104 [v,.agg #[.func (.func 137) #[] #[]]] H (fun r H'=>MakeOut H H' N.sigma (A2b N 3) (A7i N 3) (A5v 3) r):=by
 refine A4a rfl Tryz.func104 rfl (Nat.le_of_ble_eq_true rfl) ?_
 have hres:Tryz.f104.results.toList=[.cell 4 26,.tmp 5]:=rfl
 obtain ⟨sg,ar,en,rfl,hsg,har,hen⟩:=h
 have hb1:=NetBox.of (N:=N) hw hsg har hen
 have k1:Kept H (H.new 4 [sg,.int .i64 N.states,ar,en]).2:=Kept.new hw 4 _
 have hc:isCell (Value.func (.func 137) #[] #[])=true:=rfl
 simp only [↓Sh.dn,sx,Nat.reduceBEq,reduceCtorEq,Nat.reduceEqDiff,A1g hsg.isCell har.isCell hen.isCell,A5b]
 generalize H.next=gg at hb1 ⊢
 generalize (H.new 4 [sg,.int .i64 N.states,ar,en]).2=H0 at hb1 k1 ⊢
 have ks:=k1.news 1 [Value.func (.func 137) #[] #[]]
 have cs0:(H0.new 1 [Value.func (.func 137) #[] #[]]).2.cells ⟨H0.next,0,some 0⟩ 1=some [Value.func (.func 137) #[] #[]]:=(Sh.Obj.new (H:=H0) 1 _).cells (i:=0) (n:=1) (by simp)
 have hb0:=hb1.new k1.wf 1 [Value.func (.func 137) #[] #[]]
 simp only [↓Sh.dn,sx,Nat.reduceBEq,reduceCtorEq,Nat.reduceEqDiff,B0b hc,A5b]
 generalize H0.next=gs at cs0 ⊢
 generalize (H0.new 1 [Value.func (.func 137) #[] #[]]).2=H1 at cs0 hb0 ks ⊢
 clear hb1 k1
 have cs1:=A2k ((Kept.new ks.wf 4 [.slice none 0 0,.int .i64 0,.slice none 0 0,.slice none 0 0]).grow ks.wf) cs0
 have sl:Slot (H1.new 4 [.slice none 0 0,.int .i64 0,.slice none 0 0,.slice none 0 0]).2 H1.next:=Slot.new
 have k3:=ks.news 4 [.slice none 0 0,.int .i64 0,.slice none 0 0,.slice none 0 0]
 have hb3:=hb0.new ks.wf 4 [.slice none 0 0,.int .i64 0,.slice none 0 0,.slice none 0 0]
 have gol:H.next≤H1.next:=ks.next
 generalize H1.next=go at sl gol ⊢
 generalize (H1.new 4 [.slice none 0 0,.int .i64 0,.slice none 0 0,.slice none 0 0]).2=H3 at sl k3 hb3 cs1 ⊢
 obtain ⟨r4,H4,hd4,k4,rfl⟩:=A7r hb3.netAt hsm k3.wf
 simp only [↓Sh.dn,sx,Nat.reduceBEq,reduceCtorEq,Nat.reduceEqDiff,hb3.c0,hb3.c1,hb3.c2,hb3.c3,hb3.ca,A2a hb3,A1a hb3,A3a hb3,Option.map_some]
 refine ⟨_,_,hd4,?_⟩
 by_cases hE:A5f N=0
 case neg=>
  have e1:A2b N 3=A5f N:=by unfold A2b; rw [if_pos hE]
  obtain ⟨Hz,sz,cz,zz,_⟩:=sl.put k4 (a:=.slice none 0 0) (b:=.int .i64 0) (c:=.slice none 0 0) (d:=.slice none 0 0) rfl rfl rfl rfl
  simp only [↓Sh.dn,sx,Nat.reduceBEq,reduceCtorEq,Nat.reduceEqDiff,hE,decide_false,netZ,sz,hres,cz,Option.map_some,e1]
  exact MakeOut.bad ((k3.trans k4).then gol (zz.weak fun y hy=>by omega)) hE
 obtain ⟨okN,_,_⟩:=A1i hE
 have hb4:=hb3.kept k3.wf k4
 have a1:=okN.st1
 have a2:=okN.st2
 have e0:A2b N 3=if decide (300 < N.states)=true then 3 else 0:=by unfold A2b; rw [if_neg (by simpa using hE)]; rfl
 cases hgr:decide (300 < N.states) with
 | true=>
  have e1:A2b N 3=3:=by rw [e0,if_pos hgr]
  obtain ⟨Hz,sz,cz,zz,_⟩:=sl.put k4 (a:=.slice none 0 0) (b:=.int .i64 0) (c:=.slice none 0 0) (d:=.slice none 0 0) rfl rfl rfl rfl
  simp only [↓Sh.dn,sx,Nat.reduceBEq,reduceCtorEq,Nat.reduceEqDiff,hE,decide_true,hb4.c0,hb4.c1,hb4.c2,hb4.c3,hb4.ca,A2a hb4,A1a hb4,A3a hb4,hgr,netZ,sz,hres,cz,Option.map_some,e1]
  exact MakeOut.bad ((k3.trans k4).then gol (zz.weak fun y hy=>by omega)) (by decide)
 | false=>
 have e1:A2b N 3=0:=by rw [e0,if_neg (by rw [hgr]; simp)]
 obtain ⟨r6,H6,hd6,k6,g1,rfl,base1,hbase1,hG1⟩:=A88 hb4.netAt okN hsm (k3.trans k4).wf
 rw [← A9o okN] at hG1
 have hX1:=hG1.own k6.wf
 have hRO:=A25 hE (f:=B1h) fun e _ h1 h2=>⟨h1,h1⟩
 obtain ⟨r7,H7,hd7,k7,g2,X2,rfl,hX2⟩:=B6j (n:=N.states.toNat) (fid:=137) B1h hX1 (fun e hw=>C4w hw) (A03 N) (A72 N) (A7y N) (by omega) (by omega) hsm.sg (A7w hE) k6.wf
 have kg:=(k4.trans k6).trans k7
 obtain ⟨r9,H9,hd9,k9,M,hM,m1,m2,m3,m4,m5,m6⟩:=A71 hX2 hRO.le hRO.ln hRO.lc hRO.n1 hRO.n2 hsm.sg (fun r hr e he=>⟨(hRO.to r hr e he).1,(hRO.to r hr e he).2.1,(hRO.to r hr e he).2.2.1⟩) (by have:=hRO.sum; omega) k7.wf
 have hNO:B5c N.sigma _ _ _ _ M:=⟨m1,m2,m3,m4,m5,m6⟩
 have hrel:∀ x y,A7k M x y↔A7i N 3 x y:=fun x y=>by
  rw [A7t hNO hRO okN.sig]
  exact C4z okN x y
 obtain ⟨H10, sgM, arM, enM, rfl, s10, c10, w10, hfin⟩ := MakeOut.put (sigma := N.sigma) (P := A7i N 3) (Q := A5v 3) sl gol k3 (kg.trans k9) kg.next hM (A8q hNO hRO hsm.sg hsm.sx) (A4t hNO hRO okN.sig) m1 hrel (B1e hNO fun r hr e he => by
     obtain ⟨r0, _, rfl⟩ := List.mem_map.1 hr
     obtain ⟨e0, _, rfl⟩ := List.mem_map.1 he
     rfl)
 have hvqN:veq (.agg #[sg,.int .i64 N.states,ar,en]) (.agg #[sg,.int .i64 N.states,ar,en])=true:=A9t (by simp only [A6l,A0o,A1c,hsg.veq,har.veq,hen.veq,Bool.and_self])
 have hvqS:veq (.agg #[Value.func (.func 137) #[] #[]]) (.agg #[Value.func (.func 137) #[] #[]])=true:=A9t (by simp [veqs,veq,A8a])
 have cs4:=A2k (k4.grow k3.wf) cs1
 simp only [↓Sh.dn,sx,Nat.reduceBEq,reduceCtorEq,Nat.reduceEqDiff,hE,decide_true,hb4.c0,hb4.c1,hb4.c2,hb4.c3,hb4.ca,A2a hb4,A1a hb4,A3a hb4,hgr]
 refine A6o (fl:=[(0,false),(1,false),(2,false),(3,true),(4,true),(5,true),(6,true)]) (by kernel_rfl) (by kernel_rfl) (k3.trans k4).wf ?_
 simp only [↓Sh.dn,sx,Nat.reduceBEq,reduceCtorEq,Nat.reduceEqDiff,wpg,A4q,isEff,A9b,isRead,A3e,A1c,A4e,A6c,A6b,forall_eq,forall_eq',hb4.c0,hb4.c1,hb4.c2,hb4.c3,hb4.ca,A2a hb4,A1a hb4,A3a hb4,Option.map_some,hvqN,cs4]
 refine ⟨hvqS,_,_,hd6,k6.wf,k6.grow (k3.trans k4).wf,?_⟩
 refine ⟨_,_,hd7,k7.wf,?_⟩
 refine ⟨_,_,hd9,k9.wf,?_⟩
 simp only [↓Sh.dn,sx,Nat.reduceBEq,reduceCtorEq,Nat.reduceEqDiff,wpg,A4q,isEff,A9b,isRead,A3e,A1c,A4e,A6c,A6b,forall_eq,forall_eq',s10,hres,c10,Option.map_some,w10,e1]
 exact hfin
theorem relUpper {H:AH} {v:Value} {N:NetD} (h:A4h H v N) (hsm:A3b N) (hw:Wf H):
  Sh.Call Tryz.prog (knows 10) 53 [v] H (fun r H'=>MakeOut H H' N.sigma (A2b N 3) (A7i N 3) (A5v 3) r):=by
 refine A4a rfl Tryz.func53 rfl (Nat.le_of_ble_eq_true rfl) ?_
 have hres:Tryz.f53.results.toList=[.cell 2 26,.tmp 3]:=rfl
 obtain ⟨sg,ar,en,rfl,hsg,har,hen⟩:=h
 have hb1:=NetBox.of (N:=N) hw hsg har hen
 have k1:Kept H (H.new 4 [sg,.int .i64 N.states,ar,en]).2:=Kept.new hw 4 _
 simp only [↓Sh.dn,sx,Nat.reduceBEq,reduceCtorEq,Nat.reduceEqDiff,A1g hsg.isCell har.isCell hen.isCell,A5b]
 generalize H.next=gg at hb1 ⊢
 generalize (H.new 4 [sg,.int .i64 N.states,ar,en]).2=H1 at hb1 k1 ⊢
 have sl:Slot (H1.new 4 [.slice none 0 0,.int .i64 0,.slice none 0 0,.slice none 0 0]).2 H1.next:=Slot.new
 have k3:=k1.news 4 [.slice none 0 0,.int .i64 0,.slice none 0 0,.slice none 0 0]
 have hb3:=hb1.new k1.wf 4 [.slice none 0 0,.int .i64 0,.slice none 0 0,.slice none 0 0]
 have gol:H.next≤H1.next:=k1.next
 generalize H1.next=go at sl gol ⊢
 generalize (H1.new 4 [.slice none 0 0,.int .i64 0,.slice none 0 0,.slice none 0 0]).2=H3 at sl k3 hb3 ⊢
 clear hb1 k1 H1
 have hvqN:veq (.agg #[sg,.int .i64 N.states,ar,en]) (.agg #[sg,.int .i64 N.states,ar,en])=true:=A9t (by simp only [A6l,A0o,A1c,hsg.veq,har.veq,hen.veq,Bool.and_self])
 obtain ⟨r5,H5,hd5,k5,rfl⟩:=C7p k3.wf
 have hb5:=hb3.kept k3.wf k5
 obtain ⟨r6,H6,hd6,k6,mv,rfl,hbad,hok⟩:=C7a hb5.netAt hsm (k3.trans k5).wf
 refine A6o (fl:=[(0,false),(1,false),(2,true),(3,true),(4,true),(5,true),(6,true)]) (by kernel_rfl) (by kernel_rfl) k3.wf ?_
 simp only [↓Sh.dn,sx,Nat.reduceBEq,reduceCtorEq,Nat.reduceEqDiff,wpg,A4q,isEff,A9b,isRead,A3e,A1c,A4e,A6c,A6b,forall_eq,forall_eq',hb3.c0,hb3.c1,hb3.c2,hb3.c3,hb3.ca,A2a hb3,A1a hb3,A3a hb3,Option.map_some,hvqN]
 refine ⟨_,_,hd5,k5.wf,k5.grow k3.wf,?_⟩
 refine ⟨_,_,hd6,k6.wf,?_⟩
 obtain ⟨H7,sgz,stz,arz,enz,rfl,s7,c7,w7,hfin⟩:=MakeOut.pass sl gol k3 k5 k6 hbad hok
 simp only [↓Sh.dn,sx,Nat.reduceBEq,reduceCtorEq,Nat.reduceEqDiff,wpg,A4q,isEff,A9b,isRead,A3e,A1c,A4e,A6c,A6b,forall_eq,forall_eq',s7,hres,c7,Option.map_some,w7]
 exact hfin
theorem B08 {H:AH} {v:Value} {N:NetD} (h:A4h H v N) (hsm:A3b N) (hw:Wf H):
  Sh.Call Tryz.prog (knows 10) 104 [v,.agg #[.func (.func 138) #[] #[]]] H (fun r H'=>MakeOut H H' N.sigma (A2b N 4) (A7i N 4) (A5v 4) r):=by
 refine A4a rfl Tryz.func104 rfl (Nat.le_of_ble_eq_true rfl) ?_
 have hres:Tryz.f104.results.toList=[.cell 4 26,.tmp 5]:=rfl
 obtain ⟨sg,ar,en,rfl,hsg,har,hen⟩:=h
 have hb1:=NetBox.of (N:=N) hw hsg har hen
 have k1:Kept H (H.new 4 [sg,.int .i64 N.states,ar,en]).2:=Kept.new hw 4 _
 have hc:isCell (Value.func (.func 138) #[] #[])=true:=rfl
 simp only [↓Sh.dn,sx,Nat.reduceBEq,reduceCtorEq,Nat.reduceEqDiff,A1g hsg.isCell har.isCell hen.isCell,A5b]
 generalize H.next=gg at hb1 ⊢
 generalize (H.new 4 [sg,.int .i64 N.states,ar,en]).2=H0 at hb1 k1 ⊢
 have ks:=k1.news 1 [Value.func (.func 138) #[] #[]]
 have cs0:(H0.new 1 [Value.func (.func 138) #[] #[]]).2.cells ⟨H0.next,0,some 0⟩ 1=some [Value.func (.func 138) #[] #[]]:=(Sh.Obj.new (H:=H0) 1 _).cells (i:=0) (n:=1) (by simp)
 have hb0:=hb1.new k1.wf 1 [Value.func (.func 138) #[] #[]]
 simp only [↓Sh.dn,sx,Nat.reduceBEq,reduceCtorEq,Nat.reduceEqDiff,B0b hc,A5b]
 generalize H0.next=gs at cs0 ⊢
 generalize (H0.new 1 [Value.func (.func 138) #[] #[]]).2=H1 at cs0 hb0 ks ⊢
 clear hb1 k1
 have cs1:=A2k ((Kept.new ks.wf 4 [.slice none 0 0,.int .i64 0,.slice none 0 0,.slice none 0 0]).grow ks.wf) cs0
 have sl:Slot (H1.new 4 [.slice none 0 0,.int .i64 0,.slice none 0 0,.slice none 0 0]).2 H1.next:=Slot.new
 have k3:=ks.news 4 [.slice none 0 0,.int .i64 0,.slice none 0 0,.slice none 0 0]
 have hb3:=hb0.new ks.wf 4 [.slice none 0 0,.int .i64 0,.slice none 0 0,.slice none 0 0]
 have gol:H.next≤H1.next:=ks.next
 generalize H1.next=go at sl gol ⊢
 generalize (H1.new 4 [.slice none 0 0,.int .i64 0,.slice none 0 0,.slice none 0 0]).2=H3 at sl k3 hb3 cs1 ⊢
 obtain ⟨r4,H4,hd4,k4,rfl⟩:=A7r hb3.netAt hsm k3.wf
 simp only [↓Sh.dn,sx,Nat.reduceBEq,reduceCtorEq,Nat.reduceEqDiff,hb3.c0,hb3.c1,hb3.c2,hb3.c3,hb3.ca,A2a hb3,A1a hb3,A3a hb3,Option.map_some]
 refine ⟨_,_,hd4,?_⟩
 by_cases hE:A5f N=0
 case neg=>
  have e1:A2b N 4=A5f N:=by unfold A2b; rw [if_pos hE]
  obtain ⟨Hz,sz,cz,zz,_⟩:=sl.put k4 (a:=.slice none 0 0) (b:=.int .i64 0) (c:=.slice none 0 0) (d:=.slice none 0 0) rfl rfl rfl rfl
  simp only [↓Sh.dn,sx,Nat.reduceBEq,reduceCtorEq,Nat.reduceEqDiff,hE,decide_false,netZ,sz,hres,cz,Option.map_some,e1]
  exact MakeOut.bad ((k3.trans k4).then gol (zz.weak fun y hy=>by omega)) hE
 obtain ⟨okN,_,_⟩:=A1i hE
 have hb4:=hb3.kept k3.wf k4
 have a1:=okN.st1
 have a2:=okN.st2
 have e0:A2b N 4=if decide (300 < N.states)=true then 3 else 0:=by unfold A2b; rw [if_neg (by simpa using hE)]; rfl
 cases hgr:decide (300 < N.states) with
 | true=>
  have e1:A2b N 4=3:=by rw [e0,if_pos hgr]
  obtain ⟨Hz,sz,cz,zz,_⟩:=sl.put k4 (a:=.slice none 0 0) (b:=.int .i64 0) (c:=.slice none 0 0) (d:=.slice none 0 0) rfl rfl rfl rfl
  simp only [↓Sh.dn,sx,Nat.reduceBEq,reduceCtorEq,Nat.reduceEqDiff,hE,decide_true,hb4.c0,hb4.c1,hb4.c2,hb4.c3,hb4.ca,A2a hb4,A1a hb4,A3a hb4,hgr,netZ,sz,hres,cz,Option.map_some,e1]
  exact MakeOut.bad ((k3.trans k4).then gol (zz.weak fun y hy=>by omega)) (by decide)
 | false=>
 have e1:A2b N 4=0:=by rw [e0,if_neg (by rw [hgr]; simp)]
 obtain ⟨r6,H6,hd6,k6,g1,rfl,base1,hbase1,hG1⟩:=A88 hb4.netAt okN hsm (k3.trans k4).wf
 rw [← A9o okN] at hG1
 have hX1:=hG1.own k6.wf
 have hRO:=A25 hE (f:=B8g) fun e _ h1 h2=>⟨h2,h2⟩
 obtain ⟨r7,H7,hd7,k7,g2,X2,rfl,hX2⟩:=B6j (n:=N.states.toNat) (fid:=138) B8g hX1 (fun e hw=>C27 hw) (A03 N) (A72 N) (A7y N) (by omega) (by omega) hsm.sg (A7w hE) k6.wf
 have kg:=(k4.trans k6).trans k7
 obtain ⟨r9,H9,hd9,k9,M,hM,m1,m2,m3,m4,m5,m6⟩:=A71 hX2 hRO.le hRO.ln hRO.lc hRO.n1 hRO.n2 hsm.sg (fun r hr e he=>⟨(hRO.to r hr e he).1,(hRO.to r hr e he).2.1,(hRO.to r hr e he).2.2.1⟩) (by have:=hRO.sum; omega) k7.wf
 have hNO:B5c N.sigma _ _ _ _ M:=⟨m1,m2,m3,m4,m5,m6⟩
 have hrel:∀ x y,A7k M x y↔A7i N 4 x y:=fun x y=>by
  rw [A7t hNO hRO okN.sig]
  exact C3v okN x y
 obtain ⟨H10, sgM, arM, enM, rfl, s10, c10, w10, hfin⟩ := MakeOut.put (sigma := N.sigma) (P := A7i N 4) (Q := A5v 4) sl gol k3 (kg.trans k9) kg.next hM (A8q hNO hRO hsm.sg hsm.sx) (A4t hNO hRO okN.sig) m1 hrel (B1e hNO fun r hr e he => by
     obtain ⟨r0, _, rfl⟩ := List.mem_map.1 hr
     obtain ⟨e0, _, rfl⟩ := List.mem_map.1 he
     rfl)
 have hvqN:veq (.agg #[sg,.int .i64 N.states,ar,en]) (.agg #[sg,.int .i64 N.states,ar,en])=true:=A9t (by simp only [A6l,A0o,A1c,hsg.veq,har.veq,hen.veq,Bool.and_self])
 have hvqS:veq (.agg #[Value.func (.func 138) #[] #[]]) (.agg #[Value.func (.func 138) #[] #[]])=true:=A9t (by simp [veqs,veq,A8a])
 have cs4:=A2k (k4.grow k3.wf) cs1
 simp only [↓Sh.dn,sx,Nat.reduceBEq,reduceCtorEq,Nat.reduceEqDiff,hE,decide_true,hb4.c0,hb4.c1,hb4.c2,hb4.c3,hb4.ca,A2a hb4,A1a hb4,A3a hb4,hgr]
 refine A6o (fl:=[(0,false),(1,false),(2,false),(3,true),(4,true),(5,true),(6,true)]) (by kernel_rfl) (by kernel_rfl) (k3.trans k4).wf ?_
 simp only [↓Sh.dn,sx,Nat.reduceBEq,reduceCtorEq,Nat.reduceEqDiff,wpg,A4q,isEff,A9b,isRead,A3e,A1c,A4e,A6c,A6b,forall_eq,forall_eq',hb4.c0,hb4.c1,hb4.c2,hb4.c3,hb4.ca,A2a hb4,A1a hb4,A3a hb4,Option.map_some,hvqN,cs4]
 refine ⟨hvqS,_,_,hd6,k6.wf,k6.grow (k3.trans k4).wf,?_⟩
 refine ⟨_,_,hd7,k7.wf,?_⟩
 refine ⟨_,_,hd9,k9.wf,?_⟩
 simp only [↓Sh.dn,sx,Nat.reduceBEq,reduceCtorEq,Nat.reduceEqDiff,wpg,A4q,isEff,A9b,isRead,A3e,A1c,A4e,A6c,A6b,forall_eq,forall_eq',s10,hres,c10,Option.map_some,w10,e1]
 exact hfin
theorem relLower {H:AH} {v:Value} {N:NetD} (h:A4h H v N) (hsm:A3b N) (hw:Wf H):
  Sh.Call Tryz.prog (knows 10) 54 [v] H (fun r H'=>MakeOut H H' N.sigma (A2b N 4) (A7i N 4) (A5v 4) r):=by
 refine A4a rfl Tryz.func54 rfl (Nat.le_of_ble_eq_true rfl) ?_
 have hres:Tryz.f54.results.toList=[.cell 2 26,.tmp 3]:=rfl
 obtain ⟨sg,ar,en,rfl,hsg,har,hen⟩:=h
 have hb1:=NetBox.of (N:=N) hw hsg har hen
 have k1:Kept H (H.new 4 [sg,.int .i64 N.states,ar,en]).2:=Kept.new hw 4 _
 simp only [↓Sh.dn,sx,Nat.reduceBEq,reduceCtorEq,Nat.reduceEqDiff,A1g hsg.isCell har.isCell hen.isCell,A5b]
 generalize H.next=gg at hb1 ⊢
 generalize (H.new 4 [sg,.int .i64 N.states,ar,en]).2=H1 at hb1 k1 ⊢
 have sl:Slot (H1.new 4 [.slice none 0 0,.int .i64 0,.slice none 0 0,.slice none 0 0]).2 H1.next:=Slot.new
 have k3:=k1.news 4 [.slice none 0 0,.int .i64 0,.slice none 0 0,.slice none 0 0]
 have hb3:=hb1.new k1.wf 4 [.slice none 0 0,.int .i64 0,.slice none 0 0,.slice none 0 0]
 have gol:H.next≤H1.next:=k1.next
 generalize H1.next=go at sl gol ⊢
 generalize (H1.new 4 [.slice none 0 0,.int .i64 0,.slice none 0 0,.slice none 0 0]).2=H3 at sl k3 hb3 ⊢
 clear hb1 k1 H1
 have hvqN:veq (.agg #[sg,.int .i64 N.states,ar,en]) (.agg #[sg,.int .i64 N.states,ar,en])=true:=A9t (by simp only [A6l,A0o,A1c,hsg.veq,har.veq,hen.veq,Bool.and_self])
 obtain ⟨r5,H5,hd5,k5,rfl⟩:=C8r k3.wf
 have hb5:=hb3.kept k3.wf k5
 obtain ⟨r6,H6,hd6,k6,mv,rfl,hbad,hok⟩:=B08 hb5.netAt hsm (k3.trans k5).wf
 refine A6o (fl:=[(0,false),(1,false),(2,true),(3,true),(4,true),(5,true),(6,true)]) (by kernel_rfl) (by kernel_rfl) k3.wf ?_
 simp only [↓Sh.dn,sx,Nat.reduceBEq,reduceCtorEq,Nat.reduceEqDiff,wpg,A4q,isEff,A9b,isRead,A3e,A1c,A4e,A6c,A6b,forall_eq,forall_eq',hb3.c0,hb3.c1,hb3.c2,hb3.c3,hb3.ca,A2a hb3,A1a hb3,A3a hb3,Option.map_some,hvqN]
 refine ⟨_,_,hd5,k5.wf,k5.grow k3.wf,?_⟩
 refine ⟨_,_,hd6,k6.wf,?_⟩
 obtain ⟨H7,sgz,stz,arz,enz,rfl,s7,c7,w7,hfin⟩:=MakeOut.pass sl gol k3 k5 k6 hbad hok
 simp only [↓Sh.dn,sx,Nat.reduceBEq,reduceCtorEq,Nat.reduceEqDiff,wpg,A4q,isEff,A9b,isRead,A3e,A1c,A4e,A6c,A6b,forall_eq,forall_eq',s7,hres,c7,Option.map_some,w7]
 exact hfin
end Go.Proofs.YtnoengaghabmjaaGreat
/- The reference's turned and Below. -/
namespace Go.Proofs.YtnoengaghabmjaaGreat
open Go Go.Proofs Go.Proofs.Sh
theorem flip_ok {N:NetD} (h:A1k N):A1k (B9a N):=
 ⟨h.st1,h.st2,by unfold B9a; simp only [List.length_map]; exact h.ar,h.en,h.sig,h.asc,h.sym,fun a ha=>by
  obtain ⟨c,hc,rfl⟩:=List.mem_map.1 ha
  obtain ⟨h1,h2,h3,h4,h5,h6⟩:=h.arc c hc
  exact ⟨h1,h2,h3,h4,h6,h5⟩,h.fin⟩
theorem C5s {N:NetD} (h:A3b N):A3b (B9a N):=⟨h.sg,by unfold B9a; simp only [List.length_map]; exact h.ar,h.en,h.sx⟩
theorem B72 {H:AH} {v:Value} {N:NetD} (h:A4h H v N) (hsm:A3b N) (hw:Wf H):
  Sh.Call Tryz.prog (knows 10) 40 [v] H (fun r H'=>Kept H H'∧Nonempty (A4h H' r (B9a N))):=by
 refine A4a rfl Tryz.func40 rfl (Nat.le_of_ble_eq_true rfl) ?_
 have hres:Tryz.f40.results.toList=[.cell 2 26]:=rfl
 obtain ⟨sg,ar,en,rfl,hsg,har,hen⟩:=h
 have hb1:=NetBox.of (N:=N) hw hsg har hen
 have hk1:Kept H (H.new 4 [sg,.int .i64 N.states,ar,en]).2:=Kept.new hw 4 _
 simp only [↓Sh.dn,sx,Nat.reduceBEq,reduceCtorEq,Nat.reduceEqDiff,A1g hsg.isCell har.isCell hen.isCell,A5b]
 generalize H.next=gg at hb1 ⊢
 generalize (H.new 4 [sg,.int .i64 N.states,ar,en]).2=H1 at hb1 hk1 ⊢
 have sl:Slot (H1.new 4 [.slice none 0 0,.int .i64 0,.slice none 0 0,.slice none 0 0]).2 H1.next:=Slot.new
 have k3:=hk1.news 4 [.slice none 0 0,.int .i64 0,.slice none 0 0,.slice none 0 0]
 have hb3:=hb1.new hk1.wf 4 [.slice none 0 0,.int .i64 0,.slice none 0 0,.slice none 0 0]
 have gol:H.next≤H1.next:=hk1.next
 generalize H1.next=go at sl gol ⊢
 generalize (H1.new 4 [.slice none 0 0,.int .i64 0,.slice none 0 0,.slice none 0 0]).2=H3 at sl k3 hb3 ⊢
 clear hb1 hk1 H1
 have va:∀ xs:Array Value,A0b (.agg xs)=xs.toList:=fun _=>rfl
 have isg:=hb3.hsg.isCell
 have ien:=hb3.hen.isCell
 have bq:A2m Tryz.prog 26 [(0,sg),(1,.int .i64 N.states),(3,en)]=some (.agg #[sg,.int .i64 N.states,.slice none 0 0,en]):=by
  have hci:isCell (.int .i64 N.states)=true:=rfl
  refine A0i (pl:=[(0,1),(1,1),(2,1),(3,1)]) Tryz.underlying26 A04 (by kernel_rfl) ?_
  simp [A5u,va,A7b isg,A7b hci,A7b ien,isg,hci,ien,setCells,A8a,A3c]
 have kn:=Kept.new k3.wf 4 [sg,.int .i64 N.states,.slice none 0 0,en]
 have ob:=(Sh.Obj.new (H:=H3) 4 [sg,.int .i64 N.states,.slice none 0 0,en]).arr
 have xb:H3.next < (H3.new 4 [sg,.int .i64 N.states,.slice none 0 0,en]).2.next:=Nat.lt_succ_self _
 simp only [↓Sh.dn,sx,Nat.reduceBEq,reduceCtorEq,Nat.reduceEqDiff,hb3.c0,hb3.c1,hb3.c2,hb3.c3,hb3.ca,A2a hb3,A1a hb3,A3a hb3,bq,A5b,A02 (H:=(H3.new 4 [.slice none 0 0,.int .i64 0,.slice none 0 0,.slice none 0 0]).2) (sg:=sg) (ar:=.slice none 0 0) (en:=en) isg rfl ien,A5d,Option.map_some]
 obtain ⟨base,hbase⟩:∃ b,H3.next=b:=⟨_,rfl⟩
 rw [hbase] at ob xb
 try simp only [hbase]
 generalize (H3.new 4 [sg,.int .i64 N.states,.slice none 0 0,en]).2=H4 at kn ob xb ⊢
 have hsa:=hsm.ar
 refine A0f N.arcs.length 4 (List.range' 13 24++[4,5]) (fun i F H'=>Kept H3 H'∧∃ av oa,Arr H' base 0 4 [sg,.int .i64 N.states,av,en]∧Buf H' 5 av (((N.arcs.take i).map B76).map ArcD.cells) oa∧∀ y,oa=some y→base < y) (by simp only [↓Sh.dn,sx,Nat.reduceBEq,reduceCtorEq,Nat.reduceEqDiff]) ⟨kn,_,none,ob,.void none,fun y hy=>by cases hy⟩ ?_ ?_
 ·rintro i F H' hi hF f4 ⟨hk,av,oa,hA,hB,hoa⟩ k
  have f1:=hF 1 rfl
  have f3:=hF 3 rfl
  simp only [↓Sh.dn,sx,Nat.reduceBEq,reduceCtorEq,Nat.reduceEqDiff] at f1 f3
  have hb':=hb3.kept k3.wf hk
  obtain ⟨g,o,kk,hia,hc,_⟩:=hb'.har.at Tryz.underlying23 A9l (i:=i) (x:=N.arcs[i].cells) (by simp [hi]) .i64
  have htk:N.arcs.take (i+1)=N.arcs.take i++[N.arcs[i]]:=by rw [List.take_add_one,List.getElem?_eq_getElem hi]; rfl
  generalize N.arcs[i]=a at hc htk
  have kn5:=Kept.new hk.wf 5 a.cells
  have o5:=(Sh.Obj.new (H:=H') 5 a.cells).arr
  have hgl:=hA.lt hk.wf
  have hx':=hk.next
  obtain ⟨H6,w6,ar6,v6,z6⟩:=o5.write kn5.wf (i:=1) (vs:=[.string a.out]) (by simp [ArcD.cells])
  obtain ⟨H7,w7,ar7,v7,z7⟩:=ar6.write z6.wf (i:=2) (vs:=[.string a.inn]) (by simp [ArcD.cells,setCells])
  have sc7:setCells (setCells a.cells 1 [.string a.out]) 2 [.string a.inn]=(B76 a).cells:=rfl
  rw [sc7] at ar7
  have s6:A4f Tryz.prog 9 (H'.new 5 a.cells).2 (.string a.out) (.pointer (some ⟨H'.next,1,some 0⟩))=some H6:=by rw [A1d A2n rfl,w6]
  have s7:A4f Tryz.prog 9 H6 (.string a.inn) (.pointer (some ⟨H'.next,2,some 0⟩))=some H7:=by rw [A1d A2n rfl,w7]
  have ca7:H7.cells ⟨H'.next,0,some 0⟩ 5=some (B76 a).cells:=ar7.cells (i:=0) (n:=5) (by simp [ArcD.cells])
  have z67:Chg (fun y=>y=H'.next) (H'.new 5 a.cells).2 H7:=z6.trans z7
  have hk7:Kept H' H7:=kn5.then (Nat.le_refl _) (z67.weak fun y hy=>by omega)
  have hA7:=hA.keep (hk7.old base hgl)
  have hB7:=hB.kept hk.wf hk7
  have c2:=hA7.cell 2
  have c2':H7.cell ⟨base,2,some 0⟩=some av:=c2
  obtain ⟨b,cap,av8,H8,oa8,rfl,e1,e2,e3,e4⟩:=hB7.push hk7.wf (x:=(B76 a).cells) rfl
  rw [List.length_map,List.length_map,List.length_take_of_le (Nat.le_of_lt hi)] at e1 c2'
  have hbs:=B2e (H:=H7) (x:=.agg (B76 a).cells.toArray) rfl rfl
  simp only [va] at hbs
  have ha:=C3a (H:=H7) (base:=b) (len:=i) (cap:=cap) (x:=(B76 a).cells) rfl (by omega)
  rw [e1] at ha
  have hgl7:=hA7.lt hk7.wf
  have hA8:=hA7.keep (e3.old base hgl7 fun hy=>by have:=hoa base hy; omega)
  obtain ⟨H9,w9,ar9,v9,z9⟩:=hA8.write e3.wf (i:=2) (vs:=[av8]) (by simp)
  have sc9:∀ z:Value,setCells [sg,.int .i64 N.states,z,en] 2 [av8]=[sg,.int .i64 N.states,av8,en]:=fun _=>rfl
  rw [sc9] at ar9
  have s9:A4f Tryz.prog 23 H8 av8 (.pointer (some ⟨base,2,some 0⟩))=some H9:=by rw [A1d A14 e2.isCell,w9]
  have e4':∀ y,oa8=some y→base < y:=fun y hy=>by
   rcases e4 y hy with h1 | h1
   ·exact hoa y h1
   ·have:=hk7.next; omega
  simp only [↓Sh.dn,sx,Nat.reduceBEq,reduceCtorEq,Nat.reduceEqDiff,f1,f3,f4,hb'.c0,hb'.c1,hb'.c2,hb'.c3,hb'.ca,A2a hb',A1a hb',A3a hb',A5a,hi,decide_true,hia,hc,Option.map_some,A5e,A5c,A2e,arc1,arc2,s6,s7,ca7,c2',hbs,ha,s9,A7a hi (by omega)]
  refine k _ _ (by repeat (first | refine Same.put ?_ rfl | exact Same.rfl' _)) (by simp only [↓Sh.dn,sx,Nat.reduceBEq,reduceCtorEq,Nat.reduceEqDiff]) ⟨((hk.trans hk7).then (Nat.le_refl _) (e3.weak fun y hy=>by have:=hoa y hy; omega)).then (Nat.le_refl _) (z9.weak fun y hy=>by omega),av8,oa8,ar9,?_,e4'⟩
  rw [htk,List.map_append,List.map_append]
  exact e2.chg e3.wf z9 fun y hy h=>by have:=e4' y hy; omega
 ·rintro F H' hF f4 ⟨hk,av,oa,hA,hB,hoa⟩
  have f1:=hF 1 rfl
  have f2:=hF 2 rfl
  have f3:=hF 3 rfl
  simp only [↓Sh.dn,sx,Nat.reduceBEq,reduceCtorEq,Nat.reduceEqDiff] at f1 f2 f3
  have hb':=hb3.kept k3.wf hk
  rw [List.take_length] at hB
  have ca:H'.cells ⟨base,0,some 0⟩ 4=some [sg,.int .i64 N.states,av,en]:=hA.cells (i:=0) (n:=4) (by simp)
  obtain ⟨H5,s5,c5,z5,x5⟩:=sl.put hk isg (show isCell (.int .i64 N.states)=true from rfl) hB.isCell ien
  have hgl:=sl.lt
  have hk5:Kept H H5:=(k3.trans hk).then gol (z5.weak fun y hy=>by omega)
  simp only [↓Sh.dn,sx,Nat.reduceBEq,reduceCtorEq,Nat.reduceEqDiff,f1,f2,f3,f4,hb'.c0,hb'.c1,hb'.c2,hb'.c3,hb'.ca,A2a hb',A1a hb',A3a hb',A5a,Nat.lt_irrefl,decide_false,ca,Option.map_some,s5,hres,c5]
  have hB5:=hB.chg hk.wf z5 fun y hy h=>by have:=hoa y hy; omega
  exact ⟨hk5,⟨⟨sg,av,en,rfl,hsg.grow (hk5.grow hw),hB5.toSl,hen.grow (hk5.grow hw)⟩⟩⟩
theorem refBelow {H:AH} {v u:Value} {N:NetD} {w:List ByteArray} (h:A4h H v N) (hok:A1k N) (hsm:A3b N) (hu:Sl H u 1 (w.map A1b)) (hwl:w.length≤1048576) (hw:Wf H):
  Sh.Call Tryz.prog (knows 10) 59 [v,u] H (fun r H'=>Kept H H'∧r=.bool (tB (A5p (B9a N) w))):=by
 refine A4a rfl Tryz.func59 rfl (Nat.le_of_ble_eq_true rfl) ?_
 have hres:Tryz.f59.results.toList=[.tmp 4]:=rfl
 obtain ⟨sg,ar,en,rfl,hsg,har,hen⟩:=h
 have hb1:=NetBox.of (N:=N) hw hsg har hen
 have hk1:Kept H (H.new 4 [sg,.int .i64 N.states,ar,en]).2:=Kept.new hw 4 _
 simp only [↓Sh.dn,sx,Nat.reduceBEq,reduceCtorEq,Nat.reduceEqDiff,A1g hsg.isCell har.isCell hen.isCell]
 generalize H.next=gg at hb1 ⊢
 generalize (H.new 4 [sg,.int .i64 N.states,ar,en]).2=H1 at hb1 hk1 ⊢
 obtain ⟨r3,H3,hd3,k3,⟨hn3⟩⟩:=B72 hb1.netAt hsm hk1.wf
 obtain ⟨r4,H4,hd4,k4,rfl⟩:=B3u hn3 (flip_ok hok) (C5s hsm) (hu.grow ((hk1.trans k3).grow hw)) hwl k3.wf
 simp only [↓Sh.dn,sx,Nat.reduceBEq,reduceCtorEq,Nat.reduceEqDiff,hb1.c0,hb1.c1,hb1.c2,hb1.c3,hb1.ca,A2a hb1,A1a hb1,A3a hb1,Option.map_some]
 refine ⟨_,_,hd3,?_⟩
 refine ⟨_,_,hd4,?_⟩
 simp only [↓Sh.dn,sx,Nat.reduceBEq,reduceCtorEq,Nat.reduceEqDiff,hres]
 exact (hk1.trans k3).trans k4
end Go.Proofs.YtnoengaghabmjaaGreat
