/- A part of the proof: GraphLeave. -/
import Derived.Test.YtcgbiedfbacgpaaGreatMCloseAutoFinds8
import Derived.Test.YtcgbiedfbacgpaaGreatMCloseAutoFinds11
set_option linter.unusedVariables false
set_option linter.unusedSimpArgs false
/- (*graph.Graph).leave: depth first, in the order in which states are left. -/
set_option maxHeartbeats 4000000
set_option maxRecDepth 20000
set_option linter.unusedSimpArgs false
set_option linter.unusedVariables false
namespace Go.Proofs.YtcgbiedfbacgpaaGreat
open Go Go.Proofs Go.Proofs.Sh
def adjE (E:List (List (Nat×Int×Int×Int))) (x:Nat):List Nat:=((E[x]?).getD []).map Prod.fst
def plC (p:Nat×Nat):List Value:=[.int .i64 (p.1:Int),.int .i64 (p.2:Int)]
theorem plNew (x:Nat):A9r Tryz.prog 144 [(0,.int .i64 (x:Int)),(1,.int .i64 0)]=some (.agg #[.int .i64 (x:Int),.int .i64 0]):=bld_144 rfl rfl
theorem plOne {H:AH} (x:Nat):A5a Tryz.prog 145 1 [(0,.agg #[.int .i64 (x:Int),.int .i64 0])] H=some (.slice (some ⟨H.next,0,some 0⟩) 1 1,(H.new 2 (plC (x,0))).2):=C5n (H:=H) (x:=.agg #[.int .i64 (x:Int),.int .i64 0]) rfl rfl
theorem pushFar {base:Nat} {H':AH} {z:Value} {os ob:Option Nat} {l:List Nat} (t:Nat) (hb:base≤H'.next) (hw:Wf H') (ho:∀ y,os=some y→y < H'.next) (hl:LB H' base os z l ob) (hn:l.length≤1073741823):
  ∃ a cap w' H4 ob', z = .slice a l.length cap ∧ A5a Tryz.prog 69 1 [(0, .int .i64 (t : Int))] H' = some (.slice (some ⟨H'.next, 0, some 0⟩) 1 1, (H'.new 1 [.int .i64 (t : Int)]).2) ∧
      A4a Tryz.prog .append [69, 69] [.slice a l.length cap, .slice (some ⟨H'.next, 0, some 0⟩) 1 1] (H'.new 1 [.int .i64 (t : Int)]).2 = some (w', H4) ∧
      LB H4 base os w' (l ++ [t]) ob' ∧ Chg (fun y => ob = some y) H' H4 ∧ ∀ y, ob' = some y → ob = some y ∨ H'.next ≤ y := by
 obtain ⟨a,cap,w',H4,ob',e1,e2,e3,e4,e5⟩:=hl.bf.push hw (x:=natC t) rfl
 rw [List.length_map] at e1 e2
 have ha:=A48 (H:=H') (base:=a) (len:=l.length) (cap:=cap) (x:=natC t) rfl hn
 rw [e2] at ha
 refine ⟨a,cap,w',H4,ob',e1,A8o (H:=H') (x:=.int .i64 (t:Int)) rfl rfl,ha,⟨by rw [List.map_append]; exact e3,fun y hy=>?_⟩,e4,e5⟩
 rcases e5 y hy with h1 | h1
 ·exact hl.fr y h1
 ·exact ⟨by omega,fun h2=>by have:=ho y h2; omega⟩
def B0n (E:List (List (Nat×Int×Int×Int))) (n:Nat):Nat:=((List.range n).map fun x=>(adjE E x).length+2).sum
def LeaveOut (H H':AH) (base n s:Nat) (E:List (List (Nat×Int×Int×Int))) (mv r:Value) (os oo:Option Nat) (M ord0:List Nat):Prop:=
 Chg (fun y=>os=some y∨oo=some y) H H'∧∃ seen' M' F oo',MB H' base n mv os seen' M'∧LB H' base os r (ord0++F) oo'∧(∀ y,oo'=some y→oo=some y∨H.next≤y)∧(s∈M∧F=[]∨Dfs (adjE E) (fun x=>x∈M) s F [])∧∀ t,t∈M'↔t∈M∨t∈F
theorem B7q {Hg H:AH} {g n rb s:Nat} {E:List (List (Nat×Int×Int×Int))} {ends:List Int} {sv av ev cv mv z0:Value} {vals:List Value} {sigma:List ByteArray} {costs:List Int} {os oo:Option Nat} {seen:List Bool} {M ord0:List Nat}
  (h:PG Hg g n rb E ends sv av ev cv vals sigma costs) (hwg:Wf Hg) (hrb:rb≤4611686018427387904) (hk0:Kept Hg H) (hM0:MB H Hg.next n mv os seen M) (hO0:LB H Hg.next os z0 ord0 oo) (hol:ord0.length≤3000) (hs:s < n):
  Sh.Call Tryz.prog (knows 7) 97 [.pointer (some ⟨g,0,some 0⟩),.int .i64 (s:Int),.func (.func 67) #[] #[],mv,z0] H (fun r H'=>LeaveOut H H' Hg.next n s E mv r os oo M ord0):=by
 refine A2a rfl Tryz.func97 rfl (Nat.le_of_ble_eq_true rfl) ?_
 have hres:Tryz.f97.results.toList=[.tmp 10]:=rfl
 have hw:=hk0.wf
 have hn2:=h.n2
 have hc1:=h.gr.arr.cell 1
 obtain ⟨p1,hia1,hs1⟩:=hM0.see Tryz.underlying58 A8h hs
 simp only [↓Sh.dn,sx,Nat.reduceEqDiff,hia1,hs1]
 by_cases hin:s∈M
 ·have hdm:decide (s∈M)=true:=decide_eq_true hin
  simp only [↓Sh.dn,sx,Nat.reduceEqDiff,hdm,hres]
  exact ⟨Chg.refl hw,seen,M,[],oo,hM0,by rw [List.append_nil]; exact hO0,fun y hy=>.inl hy,.inl ⟨hin,rfl⟩,fun t=>by simp⟩
 have hdm:decide (s∈M)=false:=decide_eq_false hin
 obtain ⟨pm,H3,m1,m2,m3,m4,m5,m6⟩:=B5s hk0 hM0 hs hin
 rw [hia1] at m1
 injection m1 with m1; injection m1 with m1; injection m1 with m1
 subst m1
 simp only [↓Sh.dn,sx,Nat.reduceEqDiff,hdm,m3,hia1,plNew,plOne]
 have kn:=Kept.new m4.wf 2 (plC (s,0))
 have hB0:Buf (H3.new 2 (plC (s,0))).2 2 (.slice (some ⟨H3.next,0,some 0⟩) 1 1) ([(s,0)].map plC) (some H3.next):=Buf.fresh (H:=H3) (s:=2) (xs:=[plC (s,0)]) m4.wf (by intro x hx; rw [List.mem_singleton.1 hx]; rfl) (by simp) 1 rfl
 have c03:Chg (fun y=>os=some y∨oo=some y) H (H3.new 2 (plC (s,0))).2:=(m6.weak fun y hy=>.inl hy).trans kn.chg
 have hM3:=m5.kept m4.wf kn
 have hO3:LB (H3.new 2 (plC (s,0))).2 Hg.next os z0 ord0 oo:=(hO0.chg hw m6 fun y hy=>hy).kept m4.wf kn
 have hk3:=m4.trans kn
 have h33:=m6.next
 have hoo0:=hO0.bf.lt hw
 generalize hH4:(H3.new 2 (plC (s,0))).2=H4 at kn hB0 c03 hM3 hO3 hk3 ⊢
 generalize (Value.slice (some ⟨H3.next,0,some 0⟩) 1 1)=v0 at hB0 ⊢
 refine A1b (m:=B0n E n - A3z (adjE E) [] [(s,0)]) (fun m F H'=>F.get 0=some (.pointer (some ⟨g,0,some 0⟩))∧F.get 2=some (.func (.func 67) #[] #[])∧F.get 3=some mv∧Kept Hg H'∧Chg (fun y=>os=some y∨oo=some y) H H'∧∃ z v,F.get 4=some z∧F.get 11=some v∧∃ seen' M' Fl W oo' ob,m=B0n E n - A3z (adjE E) Fl W∧MB H' Hg.next n mv os seen' M'∧LB H' Hg.next os z (ord0++Fl) oo'∧(∀ y,oo'=some y→oo=some y∨H.next≤y)∧Buf H' 2 v (W.map plC) ob∧(∀ y,ob=some y→H.next≤y∧oo'≠some y)∧Dfs (adjE E) (fun x=>x∈M) s Fl W∧∀ t,t∈M'↔t∈M∨t∈Fl∨t∈W.map Prod.fst)
  ⟨by simp only [sx,reduceCtorEq],by simp only [sx,Nat.reduceEqDiff],by simp only [sx,Nat.reduceEqDiff],hk3,c03,z0,v0,by simp only [sx,Nat.reduceEqDiff],by simp only [sx],_,_,[],[(s,0)],oo,some H3.next,rfl,hM3,by rw [List.append_nil]; exact hO3,fun y hy=>.inl hy,hB0,fun y hy=>by
   rw [← Option.some.inj hy]
   exact ⟨h33,fun h2=>by have:=hoo0 _ h2; omega⟩,.start hin,fun t=>by simp⟩ ?_
 clear kn hB0 c03 hM3 hO3 hk3 hH4 hs1 m3 m4 m5 m6 h33
 clear H4 v0 H3
 rintro m F H' ⟨f0,f2,f3,hk,hc,z,v,f4,f11,seen',M',Fl,W,oo',ob,rfl,hM,hO,hof,hB,hbf,hd,hiff⟩ k
 have hi:=hd.inv
 have hlt:∀ x∈Fl++W.map Prod.fst,x < n:=fun x hx=>hM.ms.lt ((hiff x).2 (.inr (List.mem_append.1 hx)))
 have hlen:=hB.toSl.len Tryz.underlying145 H'
 rw [List.length_map] at hlen
 have hnl:=A3n hi.nod hlt
 rw [List.length_append,List.length_map] at hnl
 have hosn:∀ y,os=some y→y < H.next:=hM0.lt hw
 have hc':=hc.next
 rcases List.eq_nil_or_concat W with h0 | ⟨W0,⟨x,j⟩,h0⟩
 ·subst h0
  have h00:decide ((0:Int) < ((([]:List (Nat×Nat)).length:Nat):Int))=false:=rfl
  simp only [↓Sh.dn,sx,Nat.reduceEqDiff,f11,hlen,h00,f4,hres]
  exact ⟨hc,seen',M',Fl,oo',hM,hO,hof,.inr hd,fun t=>by simpa using hiff t⟩
 rw [List.concat_eq_append] at h0
 subst h0
 have hpos:decide ((0:Int) < (((W0++[(x,j)]).length:Nat):Int))=true:=by simp
 have wl:IntKind.wrap .i64 ((((W0++[(x,j)]).length:Nat):Int) - 1)=(W0.length:Int):=by
  rw [List.length_append,List.length_singleton] at hnl ⊢
  rw [wrap64 (by omega) (by omega)]; omega
 have hxn:x < n:=hlt x (by simp)
 obtain ⟨r,hr⟩:∃ r,E[x]?=some r:=⟨E[x]'(by rw [h.le]; exact hxn),List.getElem?_eq_getElem _⟩
 obtain ⟨hrl,hrt⟩:=h.to x r hr
 have hadj:adjE E x=r.map Prod.fst:=by unfold adjE; rw [hr]; rfl
 obtain ⟨pr,wr,hiar,hcr,hsr,hlr⟩:=PG.row h hr
 have hpg:∀ {H'},Kept Hg H'→H'.cell ⟨g,1,some 0⟩=some av∧H'.cell pr=some wr∧Sl H' wr 4 (r.map A2f):=fun hk=>⟨A2b (hk.grow hwg) hc1,A2b (hk.grow hwg) hcr,hsr.grow (hk.grow hwg)⟩
 obtain ⟨q1,q2,q3⟩:=hpg hk
 have hx:((W0++[(x,j)]).map plC)[W0.length]?=some [.int .i64 (x:Int),.int .i64 (j:Int)]:=by simp [plC]
 obtain ⟨gp,op,kp,hia,ca,cc,hbg,_⟩:=Buf.second Tryz.underlying145 A20 hB hk.wf hx
 have hjl:j≤r.length:=by have:=hd.le (x,j) (by simp); rwa [hadj,List.length_map] at this
 have hpot:∀ {F' W':_},Dfs (adjE E) (fun x=>x∈M) s F' W'→(∀ x∈F'++W'.map Prod.fst,x < n)→A3z (adjE E) F' W'≤B0n E n:=fun hd' hn=>C5t hd' hn
 simp only [↓Sh.dn,sx,reduceCtorEq,Nat.reduceEqDiff,f0,f11,hlen,hpos,wl,hia,ca,cc,q1,hiar,q2,hlr]
 by_cases hjr:j=r.length
 ·have hde:decide ((j:Int)=(r.length:Int))=true:=decide_eq_true (by omega)
  obtain ⟨a,cap,w',H4,oo2,rfl,e1,e2,e3,e4,e5⟩:=pushFar x hk.next hk.wf (hM.lt hk.wf) hO (by rw [List.length_append]; omega)
  have hB4:Buf H4 2 v (W0.map plC++[plC (x,j)]) ob:=by
   have:=hB.chg hk.wf e4 fun y hy h2=>(hbf y hy).2 h2
   rwa [List.map_append] at this
  obtain ⟨v2,hsl,hB5⟩:=hB4.pop
  have hsl2:=hsl (P:=Tryz.prog) (H':=H4) Tryz.underlying145 A20
  rw [List.length_map] at hsl2
  have hlen4:=hB4.toSl.len Tryz.underlying145 H4
  simp only [List.length_append,List.length_map,List.length_singleton] at hlen4 hlen wl
  have hd':Dfs (adjE E) (fun x=>x∈M) s (Fl++[x]) W0:=.finish (by rw [hadj,List.length_map,← hjr]; exact hd)
  have hmem:∀ t,t∈M'↔t∈M∨t∈Fl++[x]∨t∈W0.map Prod.fst:=fun t=>by
   rw [hiff]
   simp only [List.map_append,List.map_cons,List.map_nil,List.mem_append,List.mem_singleton]
   constructor
   ·rintro (h1 | h1 | h1 | h1)
    ·exact .inl h1
    ·exact .inr (.inl (.inl h1))
    ·exact .inr (.inr h1)
    ·exact .inr (.inl (.inr h1))
   ·rintro (h1 | (h1 | h1) | h1)
    ·exact .inl h1
    ·exact .inr (.inl h1)
    ·exact .inr (.inr (.inr h1))
    ·exact .inr (.inr (.inl h1))
  have hp:=hpot hd' fun y hy=>hM.ms.lt ((hmem y).2 (.inr (List.mem_append.1 hy)))
  have hM4:=hM.chg hk.wf e4 fun y hy h2=>(hO.fr y hy).2 h2
  simp only [↓Sh.dn,sx,Nat.reduceBEq,Nat.reduceEqDiff,hde,f4,f11,ca,e1,e2,hlen4,wl,hsl2]
  refine k (B0n E n - A3z (adjE E) (Fl++[x]) W0) _ _ ?_ ⟨by simp only [sx,reduceCtorEq,f0],by simp only [sx,Nat.reduceEqDiff,f2],by simp only [sx,Nat.reduceEqDiff,f3],hk.then (Nat.le_refl _) (e4.weak fun y hy=>(hO.fr y hy).1),hc.then e4 fun y hy hl=>.inr ((hof y hy).resolve_right (by omega)),w',v2,by simp only [sx,Nat.reduceEqDiff],by simp only [sx],seen',M',Fl++[x],W0,oo2,ob,rfl,hM4,by rw [← List.append_assoc]; exact e3,fun y hy=>?_,hB5,fun y hy=>⟨(hbf y hy).1,fun h2=>?_⟩,hd',hmem⟩
  ·unfold A3z at hp ⊢
   simp only [List.map_append,List.map_cons,List.map_nil,List.sum_append,List.sum_cons,List.sum_nil,hadj,List.length_map] at hp ⊢
   omega
  ·rcases e5 y hy with h1 | h1
   ·exact hof y h1
   ·exact .inr (by omega)
  ·have hbl:=hB.lt hk.wf y hy
   rcases e5 y h2 with h1 | h1
   ·exact (hbf y hy).2 h1
   ·omega
 have hjr':j < r.length:=by omega
 have hde:decide ((j:Int)=(r.length:Int))=false:=decide_eq_false (by omega)
 simp only [↓Sh.dn,sx,hde]
 refine (A7a (by kernel_rfl)).2 ?_
 obtain ⟨pe,hiae,hce⟩:=PG.edge q3 hjr'
 have hrj:r[j]∈r:=List.getElem_mem hjr'
 have hadjj:(adjE E x)[j]?=some (r[j]).1:=by rw [hadj,List.getElem?_map,List.getElem?_eq_getElem hjr']; rfl
 generalize r[j]=e at hce hrj hadjj
 have kn:=Kept.new hk.wf 4 (A2f e)
 have hkn:=hk.trans kn
 have hMn:=hM.kept hk.wf kn
 have hOn:=hO.kept hk.wf kn
 have hBn:=hB.kept hk.wf kn
 have hnl1:H'.next < (H'.new 4 (A2f e)).2.next:=Nat.lt_succ_self _
 have obn:=(Sh.Obj.new (H:=H') 4 (A2f e)).arr
 obtain ⟨gp2,op2,kp2,ia2,ca2,cc2,hbg2,hwr⟩:=Buf.second Tryz.underlying145 A20 hBn kn.wf hx
 rw [hia] at ia2
 injection ia2 with ia2; injection ia2 with ia2; injection ia2 with ia2
 injection ia2 with g1 g2 g3
 injection g3 with g3
 subst g1 g2 g3
 obtain ⟨H5,w1,w2,w3,w4⟩:=hwr (.int .i64 ((j+1:Nat):Int))
 have st5:A6e Tryz.prog 3 (H'.new 4 (A2f e)).2 (.int .i64 ((j+1:Nat):Int)) (.pointer (some ⟨gp,op+1,some kp⟩))=some H5:=by rw [A1c A3c rfl]; exact w1
 simp only [↓Sh.dn,sx,reduceCtorEq,Nat.reduceEqDiff,f0,ca,cc,q1,hiar,q2,hiae,hce,B5a,A6y,B2a,cc2,A3a hjr' (Nat.le_trans hrl hrb),st5]
 have c5:Chg (fun y=>ob=some y) (H'.new 4 (A2f e)).2 H5:=w3
 have hk5:Kept Hg H5:=hkn.then (Nat.le_refl _) (c5.weak fun y hy=>Nat.le_trans hk0.next (hbf y hy).1)
 have hobn:∀ y,ob=some y→y < H'.next:=hB.lt hk.wf
 have hosk:∀ y,os=some y→ob≠some y:=fun y hy h2=>by have:=hosn y hy; have:=(hbf y h2).1; omega
 have hM5:MB H5 Hg.next n mv os seen' M':=hMn.chg kn.wf c5 fun y hy h2=>hosk y h2 hy
 have hO5:LB H5 Hg.next os z (ord0++Fl) oo':=⟨hOn.bf.chg kn.wf c5 fun y hy h2=>(hbf y h2).2 hy,hOn.fr⟩
 have hB5:Buf H5 2 v ((W0++[(x,j+1)]).map plC) ob:=by
  have h1:((W0++[(x,j)]).map plC).set W0.length [.int .i64 (x:Int),.int .i64 ((j+1:Nat):Int)]=(W0++[(x,j+1)]).map plC:=by
   rw [List.map_append,List.map_append,List.set_append_right _ _ (by simp)]
   simp [plC]
  rw [← h1]; exact w2
 have c0:H5.cell ⟨H'.next,0,some 0⟩=some (.int .i64 (e.1:Int)):=(obn.keep (c5.old _ hnl1 fun h2=>Nat.lt_irrefl _ (hobn _ h2))).cell 0
 have hgall:H5.cells ⟨H'.next,0,some 0⟩ 4=some (A2f e):=(obn.keep (c5.old _ hnl1 fun h2=>Nat.lt_irrefl _ (hobn _ h2))).cells (i:=0) (n:=4) (by simp [A2f])
 obtain ⟨rp,H6,hd6,hk6,rfl⟩:=A29 (e:=e) hk5.wf
 simp only [sx,f2,hgall]
 refine ⟨_,_,by first | exact hd6 | simpa using hd6,?_⟩
 have hk66:=hk5.trans hk6
 have hM6:=hM5.kept hk5.wf hk6
 have hO6:=hO5.kept hk5.wf hk6
 have hB6:=hB5.kept hk5.wf hk6
 have n5:H'.next < H5.next:=Nat.lt_of_lt_of_le hnl1 c5.next
 have c06:H6.cell ⟨H'.next,0,some 0⟩=some (.int .i64 (e.1:Int)):=A2b (hk6.grow hk5.wf) c0
 have hen:e.1 < n:=hrt e hrj
 have hc6:Chg (fun y=>os=some y∨oo=some y) H H6:=((hc.trans kn.chg).then c5 fun y hy hl=>by have:=(hbf y hy).1; omega).trans hk6.chg
 have hfst:(W0++[(x,j+1)]).map Prod.fst=(W0++[(x,j)]).map Prod.fst:=by simp
 have hst:∀ y,y∈M'↔(y∈M∨y∈Fl∨y∈(W0++[(x,j)]).map Prod.fst):=hiff
 by_cases hem:e.1∈M'
 ·have hdm2:decide (e.1∈M')=true:=decide_eq_true hem
  obtain ⟨p5,i5,s5⟩:=hM6.see Tryz.underlying58 A8h hen
  have hd':Dfs (adjE E) (fun x=>x∈M) s Fl (W0++[(x,j+1)]):=.skip hd hadjj ((hst _).1 hem)
  have hp:=hpot hd' (by rw [hfst]; exact hlt)
  simp only [↓Sh.dn,sx,Nat.reduceEqDiff,f3,c06,i5,s5,hdm2]
  refine k (B0n E n - A3z (adjE E) Fl (W0++[(x,j+1)])) _ _ ?_ ⟨by simp only [sx,reduceCtorEq,f0],by simp only [sx,Nat.reduceEqDiff,f2],by simp only [sx,Nat.reduceEqDiff,f3],hk66,hc6,z,v,by simp only [sx,Nat.reduceEqDiff,f4],by simp only [sx,Nat.reduceEqDiff,f11],seen',M',Fl,W0++[(x,j+1)],oo',ob,rfl,hM6,hO6,hof,hB6,hbf,hd',by rw [hfst]; exact hiff⟩
  unfold A3z at hp ⊢
  simp only [List.map_append,List.map_cons,List.map_nil,List.sum_append,List.sum_cons,List.sum_nil] at hp ⊢
  omega
 have hdm2:decide (e.1∈M')=false:=decide_eq_false hem
 obtain ⟨p7,H7,i7,s7,t7,hk7,hM7,c7⟩:=B5s hk66 hM6 hen hem
 have hO7:=hO6.chg hk66.wf c7 fun y hy=>hy
 have hB7:Buf H7 2 v ((W0++[(x,j+1)]).map plC) ob:=hB6.chg hk66.wf c7 fun y hy h2=>hosk y h2 hy
 have n6:H5.next≤H6.next:=hk6.next
 have c07:H7.cell ⟨H'.next,0,some 0⟩=some (.int .i64 (e.1:Int)):=by
  have hne:os≠some H'.next:=fun h2=>by have:=hosn _ h2; omega
  have h1:Arr H6 H'.next 0 4 (A2f e):=(obn.keep (c5.old _ hnl1 fun h2=>Nat.lt_irrefl _ (hobn _ h2))).keep (hk6.old _ n5)
  exact (h1.keep (c7.old _ (by omega) hne)).cell 0
 obtain ⟨a,cap,v8,H8,ob8,hveq,b1,b2,b3,b4⟩:=hB7.push hk7.wf (x:=plC (e.1,0)) rfl
 have hl7:(List.map plC (W0++[(x,j+1)])).length=W0.length+1:=by simp
 rw [hl7] at hveq b1
 subst hveq
 have hwn:W0.length+1≤n:=by rw [List.length_append,List.length_singleton] at hnl; omega
 have ha8:=app1_145 (H:=H7) (base:=a) (len:=W0.length+1) (cap:=cap) (x:=plC (e.1,0)) rfl (by omega)
 rw [b1] at ha8
 have hd':Dfs (adjE E) (fun x=>x∈M) s Fl (W0++[(x,j+1)]++[(e.1,0)]):=.push hd hadjj fun h2=>hem ((hst _).2 h2)
 have hmem:∀ t,t∈M'++[e.1]↔t∈M∨t∈Fl∨t∈(W0++[(x,j+1)]++[(e.1,0)]).map Prod.fst:=fun t=>by
  rw [List.map_append,hfst,List.mem_append,List.mem_append,hiff]
  simp only [List.map_cons,List.map_nil,or_assoc]
 have hp:=hpot hd' fun y hy=>hM7.ms.lt ((hmem y).2 (.inr (List.mem_append.1 hy)))
 have hB8:Buf H8 2 v8 ((W0++[(x,j+1)]++[(e.1,0)]).map plC) ob8:=by
  rw [List.map_append (l₁:=W0++[(x,j+1)])]; exact b2
 have n7:=c7.next
 have hob8:∀ y,ob8=some y→H.next≤y∧oo'≠some y:=fun y hy=>by
  rcases b4 y hy with h1 | h1
  ·exact hbf y h1
  ·exact ⟨by omega,fun h2=>by have:=hO.bf.lt hk.wf y h2; omega⟩
 have hM8:MB H8 Hg.next n _ os _ _:=hM7.chg hk7.wf b3 fun y hy h2=>hosk y h2 hy
 have hO8:LB H8 Hg.next os z (ord0++Fl) oo':=⟨hO7.bf.chg hk7.wf b3 fun y hy h2=>(hbf y h2).2 hy,hO7.fr⟩
 have hk8:Kept Hg H8:=hk7.then (Nat.le_refl _) (b3.weak fun y hy=>Nat.le_trans hk0.next (hbf y hy).1)
 have hc8:Chg (fun y=>os=some y∨oo=some y) H H8:=(hc6.trans (c7.weak fun y hy=>.inl hy)).then b3 fun y hy hl=>by have:=(hbf y hy).1; omega
 simp only [↓Sh.dn,sx,Nat.reduceEqDiff,f3,f11,c06,c07,i7,s7,t7,plNew,plOne,ha8]
 refine k (B0n E n - A3z (adjE E) Fl (W0++[(x,j+1)]++[(e.1,0)])) _ _ ?_ ⟨by simp only [sx,reduceCtorEq,f0],by simp only [sx,Nat.reduceEqDiff,f2],by simp only [sx,Nat.reduceEqDiff,f3],hk8,hc8,z,v8,by simp only [sx,Nat.reduceEqDiff,f4],by simp only [sx],_,M'++[e.1],Fl,W0++[(x,j+1)]++[(e.1,0)],oo',ob8,rfl,hM8,hO8,hof,hB8,hob8,hd',hmem⟩
 unfold A3z at hp ⊢
 simp only [List.map_append,List.map_cons,List.map_nil,List.sum_append,List.sum_cons,List.sum_nil] at hp ⊢
 omega
end Go.Proofs.YtcgbiedfbacgpaaGreat
