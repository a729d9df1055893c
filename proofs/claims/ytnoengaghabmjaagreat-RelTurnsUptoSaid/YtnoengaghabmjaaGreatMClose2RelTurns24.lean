/- A part of the proof: RefMany, RefRev, RefSpread, RefAlive, RefTrim, Same, TurnKinds, LawMade, JagTwo, LawRelTurns. -/
import Derived.Test.YtnoengaghabmjaaGreatMClose2RelTurns14
import Derived.Test.YtnoengaghabmjaaGreatMClose2RelTurns23
import Derived.Test.YtnoengaghabmjaaGreatMClose2RelTurns18
import Derived.Test.YtnoengaghabmjaaGreatMClose2RelTurns3
import Derived.Test.YtnoengaghabmjaaGreatMClose2RelTurns4
import Derived.Test.YtnoengaghabmjaaGreatMClose2RelTurns20
import Derived.Test.YtnoengaghabmjaaGreatMClose2RelTurns2
import Derived.Test.YtnoengaghabmjaaGreatMClose2RelTurns5
import Derived.Test.YtnoengaghabmjaaGreatMClose2RelTurns22
import Derived.Test.YtnoengaghabmjaaGreatMClose2RelTurns1
import Derived.Test.YtnoengaghabmjaaGreatMClose2RelTurns13
import Derived.Test.YtnoengaghabmjaaGreatMClose2RelTurns8
set_option linter.unusedVariables false
set_option linter.unusedSimpArgs false
/- The reference's Many: whether two words are any number of pairs one behind the other. -/
set_option maxHeartbeats 4000000
set_option maxRecDepth 20000
set_option linter.unusedSimpArgs false
set_option linter.unusedVariables false
namespace Go.Proofs.YtnoengaghabmjaaGreat
open Go Go.Proofs Go.Proofs.Sh
section
variable {N:NetD} {x y:List ByteArray} {L:List (Nat×Nat)}
theorem B8o (p:Nat×Nat):(∃ s,N.isEnd s∧Cl (A23 (A6k N) x y) (fun q=>q.1=0∧q.2∈L) (s,p))↔∃ q∈L,∃ u v,A7k N u v∧x.drop q.1=u++x.drop p.1∧y.drop q.2=v++y.drop p.2∧p.1=q.1+u.length∧p.2=q.2+v.length:=by
 constructor
 ·rintro ⟨s,h1,h2⟩
  obtain ⟨q,u,v,⟨h3,h4⟩,h5,h6,h7,h8,h9⟩:=C7e h2
  rw [h3] at h5
  exact ⟨q.2,h4,u,v,⟨s,h1,h5⟩,h6,h7,h8,h9⟩
 ·rintro ⟨q,h1,u,v,⟨s,h2,h3⟩,h4,h5,h6,h7⟩
  refine ⟨s,h2,?_⟩
  have h8:=C2n h3 h4 h5
  obtain ⟨p1,p2⟩:=p
  simp only at h6 h7
  subst h6 h7
  exact h8.trans (.base ⟨rfl,h1⟩)
def B3r (N:NetD) (x y:List ByteArray) (p:Nat×Nat):Prop:=∃ u v,ManyP (A7k N) u v∧x=u++x.drop p.1∧y=v++y.drop p.2∧p.1=u.length∧p.2=v.length
theorem B09:B3r N x y (0,0):=⟨[],[],.nil,rfl,rfl,rfl,rfl⟩
theorem C0a {p:Nat×Nat} (hL:∀ q∈L,B3r N x y q) (h:∃ s,N.isEnd s∧Cl (A23 (A6k N) x y) (fun q=>q.1=0∧q.2∈L) (s,p)):B3r N x y p:=by
 obtain ⟨q,h1,u,v,h2,h3,h4,h5,h6⟩:=(B8o p).1 h
 obtain ⟨u0,v0,h7,h8,h9,h10,h11⟩:=hL q h1
 refine ⟨u0++u,v0++v,.snoc h7 h2,?_,?_,?_,?_⟩
 ·rw [List.append_assoc,← h3]; exact h8
 ·rw [List.append_assoc,← h4]; exact h9
 ·rw [h5,h10,List.length_append]
 ·rw [h6,h11,List.length_append]
theorem B77 (h0:(0,0)∈L) (hL:∀ q∈L,B3r N x y q) (hc:∀ p,(∃ s,N.isEnd s∧Cl (A23 (A6k N) x y) (fun q=>q.1=0∧q.2∈L) (s,p))→p∈L):(x.length,y.length)∈L↔ManyP (A7k N) x y:=by
 constructor
 ·intro h
  obtain ⟨u,v,h1,h2,h3,_,_⟩:=hL _ h
  simp only [List.drop_length,List.append_nil] at h2 h3
  rw [h2,h3]; exact h1
 ·intro h
  have key:∀ {u v:List ByteArray},ManyP (A7k N) u v→∀ x' y',x=u++x'→y=v++y'→(u.length,v.length)∈L:=by
   intro u v h
   induction h with
   | nil=>intro _ _ _ _; exact h0
   | @snoc u v u' v' _ h2 ih=>
    intro x' y' e1 e2
    rw [List.append_assoc] at e1 e2
    have h3:=ih _ _ e1 e2
    refine hc _ ((B8o _).2 ⟨_,h3,u',v',h2,?_,?_,by simp only [List.length_append],by simp only [List.length_append]⟩)
    ·rw [e1]; simp [List.drop_append]
    ·rw [e2]; simp [List.drop_append]
  exact key h [] [] (by simp) (by simp)
end
theorem refMany {H:AH} {v ux uy:Value} {N:NetD} {x y:List ByteArray} (h:A4h H v N) (hok:A1k N) (hsm:A3b N) (hx:Sl H ux 1 (x.map A1b)) (hy:Sl H uy 1 (y.map A1b)) (hxl:x.length≤400) (hyl:y.length≤400) (hw:Wf H):
  Sh.Call Tryz.prog (knows 10) 58 [v,ux,uy] H (fun r H'=>Kept H H'∧r=.bool (tB (ManyP (A7k N) x y))):=by
 refine A4a rfl Tryz.func58 rfl (Nat.le_of_ble_eq_true rfl) ?_
 have hres:Tryz.f58.results.toList=[.tmp 6]:=rfl
 obtain ⟨sg,ar,en,rfl,hsg,har,hen⟩:=h
 have hb1:=NetBox.of (N:=N) hw hsg har hen
 have hk1:Kept H (H.new 4 [sg,.int .i64 N.states,ar,en]).2:=Kept.new hw 4 _
 simp only [↓Sh.dn,sx,Nat.reduceBEq,reduceCtorEq,Nat.reduceEqDiff,A1g hsg.isCell har.isCell hen.isCell]
 generalize H.next=gg at hb1 ⊢
 generalize (H.new 4 [sg,.int .i64 N.states,ar,en]).2=H1 at hb1 hk1 ⊢
 have kn:=Kept.new hk1.wf 2 (A7g (0,0))
 have hl:Buf (H1.new 2 (A7g (0,0))).2 2 (.slice (some ⟨H1.next,0,some 0⟩) 1 1) ([(0,0)].map A7g) (some H1.next):=Buf.fresh (H:=H1) (s:=2) (xs:=[A7g (0,0)]) hk1.wf (by intro x hx; rw [List.mem_singleton.1 hx]; rfl) (by simp) 1 rfl
 have hlx:∀ H',A6a Tryz.prog .len [22] [ux] H'=some (.int .i64 (x.length:Int),H'):=fun H'=>by rw [hx.len Tryz.underlying22 H',List.length_map]
 have hly:∀ H',A6a Tryz.prog .len [22] [uy] H'=some (.int .i64 (y.length:Int),H'):=fun H'=>by rw [hy.len Tryz.underlying22 H',List.length_map]
 simp only [↓Sh.dn,sx,Nat.reduceBEq,reduceCtorEq,Nat.reduceEqDiff,C8d,B5s]
 have hx1:=hx.grow (hk1.grow hw)
 have hy1:=hy.grow (hk1.grow hw)
 refine A1f (m:=160802) (fun m F H'=>F.get 1=some ux∧F.get 2=some uy∧F.get 3=some (.pointer (some ⟨gg,0,some 0⟩))∧Kept H1 H'∧∃ z ob L,F.get 7=some z∧Buf H' 2 z (L.map A7g) ob∧(∀ y,ob=some y→H1.next≤y)∧L.Nodup∧(∀ p∈L,p.1≤x.length∧p.2≤y.length)∧m+L.length=160803∧(0,0)∈L∧∀ q∈L,B3r N x y q)
  ⟨by simp only [↓Sh.dn,sx,Nat.reduceBEq,reduceCtorEq,Nat.reduceEqDiff],by simp only [↓Sh.dn,sx,Nat.reduceBEq,reduceCtorEq,Nat.reduceEqDiff],by simp only [↓Sh.dn,sx,Nat.reduceBEq,reduceCtorEq,Nat.reduceEqDiff],kn,_,some H1.next,[(0,0)],by simp only [↓Sh.dn,sx,Nat.reduceBEq,reduceCtorEq,Nat.reduceEqDiff],hl,fun y hy=>by rw [← Option.some.inj hy]; exact Nat.le_refl _,by simp,by simp,rfl,by simp,fun q hq=>by rw [List.mem_singleton.1 hq]; exact B09⟩ ?_
 clear hl
 rintro m F H' ⟨f1,f2,f3,hk,z,ob,L,f7,hb,hob,hnd,hbd,hm,h0,hma⟩ k
 have hb':=hb1.kept hk1.wf hk
 have hLl:=A3u hnd hbd hxl hyl
 obtain ⟨r3,H3,hd3,k3,O,oo,hO,hOn,hOb,hiff⟩:=B0y (b0:=H'.next) hb'.netAt hok hsm (hx1.grow (hk.grow hk1.wf)) (hy1.grow (hk.grow hk1.wf)) hxl hyl hb.toSl hbd (by omega) (Nat.le_refl _) hk.wf
 have hOd:=C1d hok hbd hiff
 have hOl:=A3u hOn hOd hxl hyl
 have hb3:=hb.kept hk.wf k3
 have hobl:=hb.lt hk.wf
 have hlO:∀ H',A6a Tryz.prog .len [80] [r3] H'=some (.int .i64 (O.length:Int),H'):=fun H'=>by rw [hO.toSl.len Tryz.underlying80 H',List.length_map]
 have hlL:∀ H',A6a Tryz.prog .len [80] [z] H'=some (.int .i64 (L.length:Int),H'):=fun H'=>by rw [hb.toSl.len Tryz.underlying80 H',List.length_map]
 have hk3:=hk.trans k3
 have sO:=hO
 simp only [↓Sh.dn,sx,Nat.reduceBEq,reduceCtorEq,Nat.reduceEqDiff,f1,f2,f3,f7,hb'.c0,hb'.c1,hb'.c2,hb'.c3,hb'.ca,A2a hb',A1a hb',A3a hb',Option.map_some]
 refine ⟨_,_,hd3,?_⟩
 simp only [↓Sh.dn,sx,Nat.reduceBEq,reduceCtorEq,Nat.reduceEqDiff,f7,hlL]
 have hgm:∀ i,∀ p∈A1t L (O.take i),p.1≤x.length∧p.2≤y.length:=fun i p hp=>by
  rcases A70.1 hp with h1 | h1
  ·exact hbd p h1
  ·exact hOd p (List.mem_of_mem_take h1)
 refine A0f O.length 10 (List.range' 20 20++[7,10]) (fun i F H'=>Kept H1 H'∧Buf H' 2 r3 (O.map A7g) oo∧∃ z ob,F.get 7=some z∧Buf H' 2 z ((A1t L (O.take i)).map A7g) ob∧(∀ y,ob=some y→H1.next≤y)∧∀ y,ob=some y→oo≠some y) (by simp only [↓Sh.dn,sx,Nat.reduceBEq,reduceCtorEq,Nat.reduceEqDiff]) ⟨hk3,hO,z,ob,by simp only [↓Sh.dn,sx,Nat.reduceBEq,reduceCtorEq,Nat.reduceEqDiff,f7],by rw [List.take_zero]; exact hb3,hob,fun y hy h=>by have:=hOb y h; have:=hobl y hy; omega⟩ ?_ ?_
 ·rintro i F2 H5 hi hF f10 ⟨hk5,hO5,z5,ob5,f75,hb5,hob5,hsp⟩ k2
  have f8:=hF 8 rfl
  simp only [↓Sh.dn,sx,Nat.reduceBEq,reduceCtorEq,Nat.reduceEqDiff] at f8
  obtain ⟨g1,o1,q1,i1,c1,_⟩:=hO5.toSl.at Tryz.underlying80 A1v (i:=i) (x:=A7g O[i]) (by simp [hi]) .i64
  have htk:O.take (i+1)=O.take i++[O[i]]:=by rw [List.take_add_one,List.getElem?_eq_getElem hi]; rfl
  have hgl:=A3u (A05 (l:=O.take i) hnd) (hgm i) hxl hyl
  have hgs:=C3s L (O.take i) O[i]
  rw [← htk] at hgs
  generalize O[i]=e at c1 hgs
  obtain ⟨r6,H6,hd6,k6,rfl⟩:=C25 (p:=e) hb5.toSl (by omega) hk5.wf
  have hb6:=hb5.kept hk5.wf k6
  have hO6:=hO5.kept hk5.wf k6
  have hk6:=hk5.trans k6
  have c6:=A2k (k6.grow hk5.wf) c1
  simp only [↓Sh.dn,sx,Nat.reduceBEq,reduceCtorEq,Nat.reduceEqDiff,f75,f8,f10,hlO,A5a,hi,decide_true,i1,c1,Option.map_some]
  refine ⟨_,_,hd6,?_⟩
  unfold B9c at hgs
  by_cases hin:e∈A1t L (O.take i)
  ·rw [if_pos hin] at hgs
   simp only [↓Sh.dn,sx,Nat.reduceBEq,reduceCtorEq,Nat.reduceEqDiff,f10,hin,decide_true,A7a hi (by omega)]
   exact k2 _ _ (by repeat (first | refine Same.put ?_ rfl | exact Same.rfl' _)) (by simp only [↓Sh.dn,sx,Nat.reduceBEq,reduceCtorEq,Nat.reduceEqDiff]) ⟨hk6,hO6,z5,ob5,by simp only [↓Sh.dn,sx,Nat.reduceBEq,reduceCtorEq,Nat.reduceEqDiff,f75],by rw [hgs]; exact hb6,hob5,hsp⟩
  ·rw [if_neg hin] at hgs
   obtain ⟨a,cap,z7,H7,ob7,rfl,a1,a2,a3,a4⟩:=hb6.push hk6.wf (x:=A7g e) rfl
   have happ:=spApp H6 (A1t L (O.take i)).length cap a (A7g e) rfl (by omega)
   rw [List.length_map] at a1
   rw [a1] at happ
   have hO6l:=hO6.lt hk6.wf
   have hob6l:=hb6.lt hk6.wf
   have e7:((A1t L (O.take i)).map A7g).length=(A1t L (O.take i)).length:=List.length_map ..
   simp only [e7] at f75
   simp only [↓Sh.dn,sx,Nat.reduceBEq,reduceCtorEq,Nat.reduceEqDiff,f75,f8,f10,hin,decide_false,i1,c6,Option.map_some,B5s,happ,A7a hi (by omega)]
   refine k2 _ _ (by repeat (first | refine Same.put ?_ rfl | exact Same.rfl' _)) (by simp only [↓Sh.dn,sx,Nat.reduceBEq,reduceCtorEq,Nat.reduceEqDiff]) ⟨hk6.then (Nat.le_refl _) (a3.weak fun y hy=>by have:=hob5 y hy; omega),hO6.chg hk6.wf a3 fun y hy h=>hsp y h hy,z7,ob7,by simp only [↓Sh.dn,sx,Nat.reduceBEq,reduceCtorEq,Nat.reduceEqDiff],by rw [hgs,List.map_append]; exact a2,fun y hy=>?_,fun y hy h=>?_⟩
   ·rcases a4 y hy with h1 | h1
    ·exact hob5 y h1
    ·have:=hk6.next; omega
   ·rcases a4 y hy with h1 | h1
    ·exact hsp y h1 h
    ·have:=hO6l y h; omega
 ·rintro F2 H5 hF f10 ⟨hk5,hO5,z5,ob5,f75,hb5,hob5,hsp⟩
  have g1:=hF 1 rfl
  have g2:=hF 2 rfl
  have g3:=hF 3 rfl
  have f8:=hF 8 rfl
  have f9:=hF 9 rfl
  simp only [↓Sh.dn,sx,Nat.reduceBEq,reduceCtorEq,Nat.reduceEqDiff,f1,f2,f3] at g1 g2 g3 f8 f9
  rw [List.take_length] at hb5
  have hgd:∀ p∈A1t L O,p.1≤x.length∧p.2≤y.length:=by have:=hgm O.length; rw [List.take_length] at this; exact this
  have hgn:=A05 (l:=O) hnd
  have hgl:=A3u hgn hgd hxl hyl
  have hlG:∀ H',A6a Tryz.prog .len [80] [z5] H'=some (.int .i64 ((A1t L O).length:Int),H'):=fun H'=>by rw [hb5.toSl.len Tryz.underlying80 H',List.length_map]
  obtain ⟨U,hU⟩:=B61 O L
  have hgm2:∀ q∈A1t L O,B3r N x y q:=fun q hq=>by
   rcases A70.1 hq with h1 | h1
   ·exact hma q h1
   ·exact C0a hma ((hiff q).1 h1)
  have hul:(A1t L O).length=L.length+U.length:=by rw [hU,List.length_append]
  by_cases hnew:(A1t L O).length=L.length
  ·have hU0:U=[]:=List.length_eq_zero_iff.1 (by omega)
   have hGL:A1t L O=L:=by rw [hU,hU0,List.append_nil]
   rw [hGL] at hb5
   obtain ⟨r6,H6,hd6,k6,rfl⟩:=C25 (p:=(x.length,y.length)) hb5.toSl (by omega) hk5.wf
   have hcl:=B77 h0 hma fun p hp=>by
    have:p∈A1t L O:=A70.2 (.inr ((hiff p).2 hp))
    rw [hGL] at this; exact this
   have hd:decide ((x.length,y.length)∈L)=tB (ManyP (A7k N) x y):=by rw [Bool.eq_iff_iff,decide_eq_true_iff,A55]; exact hcl
   have i0:((L.length:Int)=(L.length:Int))=True:=eq_self _
   simp only [↓Sh.dn,sx,Nat.reduceBEq,reduceCtorEq,Nat.reduceEqDiff,f75,f8,f9,f10,g1,g2,hlO,hlG,hlx,hly,A5a,Nat.lt_irrefl,decide_false,hGL,natI,decide_true,B9t]
   refine ⟨_,_,hd6,?_⟩
   simp only [↓Sh.dn,sx,Nat.reduceBEq,reduceCtorEq,Nat.reduceEqDiff,hres,hd]
   exact hk1.trans (hk5.trans k6)
  ·simp only [↓Sh.dn,sx,Nat.reduceBEq,reduceCtorEq,Nat.reduceEqDiff,f75,f8,f9,f10,hlO,hlG,A5a,Nat.lt_irrefl,decide_false,natI,hnew]
   exact k (160803 - (A1t L O).length) _ _ (by omega) ⟨by simp only [↓Sh.dn,sx,Nat.reduceBEq,reduceCtorEq,Nat.reduceEqDiff,g1],by simp only [↓Sh.dn,sx,Nat.reduceBEq,reduceCtorEq,Nat.reduceEqDiff,g2],by simp only [↓Sh.dn,sx,Nat.reduceBEq,reduceCtorEq,Nat.reduceEqDiff,g3],hk5,z5,ob5,A1t L O,by simp only [↓Sh.dn,sx,Nat.reduceBEq,reduceCtorEq,Nat.reduceEqDiff,f75],hb5,hob5,hgn,hgd,by omega,A70.2 (.inl h0),hgm2⟩
end Go.Proofs.YtnoengaghabmjaaGreat
/- The reference's reversed: the edges turned round. -/
namespace Go.Proofs.YtnoengaghabmjaaGreat
open Go Go.Proofs Go.Proofs.Sh
theorem C9a {H:AH} {v ev bv:Value} {vals:List Value} {n:Nat} {E:List (List (ByteArray×Nat))} {ends:List Bool} (h:RG H v n E ends ev bv vals) (hw:Wf H):
  Sh.Call Tryz.prog (knows 10) 83 [v] H (fun r H'=>Kept H H'∧∃ R ot vals obs,Jag H' r ot 2 vals (A0m R) obs∧(∀ y,JIn ot obs y→H.next≤y)∧R.length=n∧(∀ r∈R,r.length≤180000000∧∀ e∈r,e.2 < n)∧∀ x t s,A4k R x t s↔A4k E x s t):=by
 refine A4a rfl Tryz.func83 rfl (Nat.le_of_ble_eq_true rfl) ?_
 have hres:Tryz.f83.results.toList=[.tmp 2]:=rfl
 have hrb:=RBox.of h hw
 have hk1:Kept H (H.new 3 [.int .i64 0,ev,bv]).2:=Kept.new hw 3 _
 have hE:=h.ed.sl.isCell
 have hB:=h.en.isCell
 rw [h.eq]
 simp only [↓Sh.dn,sx,Nat.reduceBEq,reduceCtorEq,Nat.reduceEqDiff,B4x hE hB]
 have e0:∀ y,(H.new 3 [.int .i64 0,ev,bv]).2.next≤y→H.next≤y:=fun y hy=>Nat.le_trans (Nat.le_succ _) hy
 obtain ⟨gb,hgb⟩:∃ gb,H.next=gb:=⟨_,rfl⟩
 rw [hgb] at hrb
 generalize (H.new 3 [.int .i64 0,ev,bv]).2=H1 at hrb hk1 e0 ⊢
 have hn1:=h.n1
 have hn2:=h.n2
 have hlenE:∀ H',A6a Tryz.prog .len [65] [ev] H'=some (.int .i64 (n:Int),H'):=fun H'=>by
  rw [h.ed.sl.len Tryz.underlying65,List.length_map,h.ed.len]; unfold A0m; rw [List.length_map,h.le]
 have hmk:=mk_65 (H:=H1) (l:=n) (c:=n) (Nat.le_refl _) (by omega)
 have k2:=Kept.new hk1.wf 1 (List.replicate n (.slice none 0 0))
 have jg:=Jag.make hk1.wf 2 (n:=n) (by omega)
 simp only [↓Sh.dn,sx,Nat.reduceBEq,reduceCtorEq,Nat.reduceEqDiff,hgb,hrb.c1,hlenE,hmk]
 obtain ⟨ot,hot⟩:∃ ot,(if n=0 then none else some H1.next)=ot:=⟨_,rfl⟩
 rw [hot] at jg
 have lot:∀ y,JIn ot (List.replicate n none) y→H1.next≤y:=by
  rintro y (hy | ⟨i,hy⟩)
  ·rw [← hot,if_neg (by omega)] at hy
   rw [← Option.some.inj hy]; exact Nat.le_refl _
  ·rw [List.getElem?_replicate] at hy
   split at hy <;> cases hy
 generalize (Value.slice (some ⟨H1.next,0,some 0⟩) n n)=rv at jg ⊢
 generalize (H1.new 1 (List.replicate n (.slice none 0 0))).2=H2 at k2 jg ⊢
 have hrc0:A0m (List.replicate n ([]:List (ByteArray×Nat)))=List.replicate n []:=by simp [A0m]
 rw [← hrc0] at jg
 refine A0f n 4 (List.range' 4 47) (fun i F H'=>Kept H1 H'∧∃ R vals obs,Jag H' rv ot 2 vals (A0m R) obs∧(∀ y,JIn ot obs y→H1.next≤y)∧R.length=n∧(∀ r∈R,r.length≤i * 60000∧∀ e∈r,e.2 < n)∧∀ x t s,A4k R x t s↔s < i∧A4k E x s t) (by simp only [↓Sh.dn,sx,Nat.reduceBEq,reduceCtorEq,Nat.reduceEqDiff]) ⟨k2,_,_,_,jg,lot,by simp,fun r hr=>by rw [List.eq_of_mem_replicate hr]; simp,fun x t s=>by
  constructor
  ·rintro ⟨r,h1,h2⟩
   rw [List.getElem?_replicate] at h1
   split at h1
   ·rw [← Option.some.inj h1] at h2; cases h2
   ·cases h1
  ·rintro ⟨h1,_⟩; exact absurd h1 (Nat.not_lt_zero _)⟩ ?_ ?_
 ·rintro i F H' hi hF f4 ⟨hk,R,vs,obs,hJ,hin,hRl,hRr,hiff⟩ k
  have f1:=hF 1 rfl
  have f3:=hF 3 rfl
  simp only [↓Sh.dn,sx,Nat.reduceBEq,reduceCtorEq,Nat.reduceEqDiff,hgb] at f1 f3
  obtain ⟨r,hr⟩:∃ r,E[i]?=some r:=⟨E[i]'(by rw [h.le]; exact hi),List.getElem?_eq_getElem _⟩
  have hr':(A0m E)[i]?=some (r.map A3l):=by unfold A0m; rw [List.getElem?_map,hr]; rfl
  obtain ⟨hrl,hrt⟩:=h.to i r hr
  obtain ⟨ga,oa,ka,wr,hia2,hca,hsr⟩:=(h.ed.grow (hk1.grow hw)).at Tryz.underlying65 A0s hr'
  have hro:∀ {H'},Kept H1 H'→H'.cell ⟨ga,oa,some ka⟩=some wr∧Sl H' wr 2 (r.map A3l)∧A6a Tryz.prog .len [105] [wr] H'=some (.int .i64 (r.length:Int),H'):=fun hk=>by
   have h2:=hsr.grow (hk.grow hk1.wf)
   refine ⟨A9d (hk.grow hk1.wf) hca,h2,?_⟩
   rw [h2.len Tryz.underlying105,List.length_map]
  have hb1:=hrb.kept hk1.wf hk
  simp only [↓Sh.dn,sx,Nat.reduceBEq,reduceCtorEq,Nat.reduceEqDiff,f1,f4,hb1.c1,A5a,hi,decide_true,hlenE]
  refine A0f r.length 5 (List.range' 18 33++[5,6]) (fun q F'' H''=>Kept H1 H''∧∃ R vals obs,Jag H'' rv ot 2 vals (A0m R) obs∧(∀ y,JIn ot obs y→H1.next≤y)∧R.length=n∧(∀ r∈R,r.length≤i * 60000+q∧∀ e∈r,e.2 < n)∧∀ x t s,A4k R x t s↔s < i∧A4k E x s t∨s=i∧(x,t)∈r.take q) (by simp only [↓Sh.dn,sx,Nat.reduceBEq,reduceCtorEq,Nat.reduceEqDiff]) ⟨hk,R,vs,obs,hJ,hin,hRl,fun r hr=>⟨Nat.le_trans (hRr r hr).1 (Nat.le_add_right _ _),(hRr r hr).2⟩,fun x t s=>by rw [hiff]; simp⟩ ?_ ?_
  ·rintro q F'' H'' hq hF'' f5 ⟨hk'',R,vs,obs,hJ,hin,hRl,hRr,hiff⟩ k2
   have g1:=hF'' 1 rfl
   have g3:=hF'' 3 rfl
   have g4:=hF'' 4 rfl
   simp only [↓Sh.dn,sx,Nat.reduceBEq,reduceCtorEq,Nat.reduceEqDiff,f1,f3,f4] at g1 g3 g4
   obtain ⟨hc1,hs1,hl1⟩:=hro hk''
   have hb1:=hrb.kept hk1.wf hk''
   obtain ⟨g',o',k',hia3,hcs2,_⟩:=hs1.at Tryz.underlying105 A5t (i:=q) (x:=A3l r[q]) (by simp [hq]) .i64
   have hrq:r[q]∈r:=List.getElem_mem hq
   have htk:r.take (q+1)=r.take q++[r[q]]:=by rw [List.take_add_one,List.getElem?_eq_getElem hq]; rfl
   generalize r[q]=e at hcs2 hrq htk
   have kn:=Kept.new hk''.wf 2 (A3l e)
   have hk3:=hk''.trans kn
   have hJ3:=hJ.kept hk''.wf kn
   have hnj:¬JIn ot obs H''.next:=fun h=>by have:=hJ.lt hk''.wf _ h; omega
   obtain ⟨ro,hro2⟩:∃ ro,R[e.2]?=some ro:=⟨R[e.2]'(by rw [hRl]; exact hrt e hrq),List.getElem?_eq_getElem _⟩
   have hrow:(A0m R)[e.2]?=some (ro.map A3l):=by unfold A0m; rw [List.getElem?_map,hro2]; rfl
   obtain ⟨hrol,hrot⟩:=hRr ro (List.mem_of_getElem? hro2)
   obtain ⟨ba,cap,w',H5,H6,oo,p,e1,e2,e3,e4,e5,e6,e7,e8,e9⟩:=hJ3.pushAt Tryz.underlying65 A0s hk3.wf hrow (x:=A3l (e.1,i)) rfl
   rw [List.length_map] at e1 e3
   have bl:A2m Tryz.prog 107 [(0,.string e.1),(1,.int .i64 (i:Int))]=some (.agg (A3l (e.1,i)).toArray):=C5x (v0:=.string e.1) (v1:=.int .i64 (i:Int)) rfl rfl
   have hbs:=B0o (H:=(H''.new 2 (A3l e)).2) (x:=.agg (A3l (e.1,i)).toArray) rfl rfl
   have ha:=C8l (H:=(H''.new 2 (A3l e)).2) (base:=ba) (len:=ro.length) (cap:=cap) (x:=A3l (e.1,i)) rfl (by omega)
   rw [e1] at ha
   have c5:=((Sh.Obj.new (H:=H'') 2 (A3l e)).arr.keep (e7.old H''.next (Nat.lt_succ_self _) hnj)).cell 1
   have c5':(A3l e)[1]?=some (.int .i64 (e.2:Int)):=rfl
   rw [c5'] at c5
   have st:A4f Tryz.prog 105 H5 w' (.pointer (some p))=some H6:=by rw [A1d A0s e8,e4]
   have va:∀ xs:Array Value,A0b (.agg xs)=xs.toList:=fun _=>rfl
   have hav:=hJ3.top.veq
   simp only [va] at hbs
   simp only [↓Sh.dn,sx,Nat.reduceBEq,reduceCtorEq,Nat.reduceEqDiff,f5,g1,g3,g4,hb1.c1,hia2,hc1,hl1,hia3,hcs2,A5a,hq,decide_true,Option.map_some,C8k,B3t,C6f,re0,re1]
   refine A9v (fl:=[(0,[]),(1,[]),(2,[]),(3,[]),(4,[]),(5,[]),(6,[]),(7,[]),(8,[]),(9,[]),(10,[]),(11,[]),(12,[]),(13,[2]),(14,[]),(15,[])]) (by kernel_rfl) (by kernel_rfl) (by kernel_rfl) ?_
   simp only [↓Sh.dn,sx,Nat.reduceBEq,reduceCtorEq,Nat.reduceEqDiff,wpr,again,A9b,A3e,A1c,A4e,A6c,A6b,A0g,forall_eq,forall_eq',f5,g1,g3,g4,re0,re1,e2,e3,bl,hbs,ha,c5,st,hav,A7a hq (Nat.le_trans hrl (by decide))]
   have hrs:A0m (R.set e.2 (ro++[(e.1,i)]))=(A0m R).set e.2 (ro.map A3l++[A3l (e.1,i)]):=by unfold A0m; rw [List.map_set]; simp
   refine k2 _ _ (by repeat (first | refine Same.put ?_ rfl | exact Same.rfl' _)) (by simp only [↓Sh.dn,sx,Nat.reduceBEq,reduceCtorEq,Nat.reduceEqDiff]) ⟨hk3.then (Nat.le_refl _) (e6.weak fun y hy=>hin y hy),R.set e.2 (ro++[(e.1,i)]),_,_,by rw [hrs]; exact e5,fun y hy=>?_,by rw [List.length_set]; exact hRl,fun r' hr'=>?_,fun x t s=>?_⟩
   ·rcases e9 y hy with h1 | h1
    ·exact hin y h1
    ·exact Nat.le_trans hk3.next h1
   ·rcases List.mem_or_eq_of_mem_set hr' with h1 | h1
    ·have:=hRr r' h1; exact ⟨by omega,this.2⟩
    ·rw [h1]
     refine ⟨by rw [List.length_append]; simp; omega,fun e' he'=>?_⟩
     rcases List.mem_append.1 he' with h2 | h2
     ·exact hrot e' h2
     ·rw [List.mem_singleton.1 h2]; exact hi
   ·rw [C8q hro2,hiff,htk,List.mem_append,List.mem_singleton]
    constructor
    ·rintro ((h1 | ⟨h1,h2⟩) | ⟨h1,h2,h3⟩)
     ·exact .inl h1
     ·exact .inr ⟨h1,.inl h2⟩
     ·exact .inr ⟨h3,.inr (by rw [h1,h2])⟩
    ·rintro (h1 | ⟨h1,h2 | h2⟩)
     ·exact .inl (.inl h1)
     ·exact .inl (.inr ⟨h1,h2⟩)
     ·exact .inr ⟨by rw [← h2],by rw [← h2],h1⟩
  ·rintro F'' H'' hF'' f5 ⟨hk'',R,vs,obs,hJ,hin,hRl,hRr,hiff⟩
   have g1:=hF'' 1 rfl
   have g3:=hF'' 3 rfl
   have g4:=hF'' 4 rfl
   simp only [↓Sh.dn,sx,Nat.reduceBEq,reduceCtorEq,Nat.reduceEqDiff,f1,f3,f4] at g1 g3 g4
   obtain ⟨hc1,hs1,hl1⟩:=hro hk''
   have hb1:=hrb.kept hk1.wf hk''
   rw [List.take_length] at hiff
   simp only [↓Sh.dn,sx,Nat.reduceBEq,reduceCtorEq,Nat.reduceEqDiff,f5,g1,g3,g4,hb1.c1,hia2,hc1,hl1,A5a,Nat.lt_irrefl,decide_false,A7a hi (Nat.le_trans hn2 (by decide))]
   refine k _ _ ?_ (by simp only [↓Sh.dn,sx,Nat.reduceBEq,reduceCtorEq,Nat.reduceEqDiff]) ⟨hk'',R,vs,obs,hJ,hin,hRl,fun r' hr'=>?_,fun x t s=>?_⟩
   ·repeat refine Same.put ?_ rfl
    exact Same.trans (by repeat (first | refine Same.put ?_ rfl | exact Same.rfl' _)) (hF''.sub rfl)
   ·have:=hRr r' hr'; exact ⟨by omega,this.2⟩
   ·rw [hiff]
    constructor
    ·rintro (⟨h1,h2⟩ | ⟨h1,h2⟩)
     ·exact ⟨by omega,h2⟩
     ·exact ⟨by omega,r,by rw [h1]; exact hr,h2⟩
    ·rintro ⟨h1,h2⟩
     by_cases hs:s=i
     ·subst hs
      obtain ⟨r',h3,h4⟩:=h2
      rw [hr] at h3
      exact .inr ⟨rfl,by rw [Option.some.inj h3]; exact h4⟩
     ·exact .inl ⟨by omega,h2⟩
 ·rintro F H' hF f4 ⟨hk,R,vs,obs,hJ,hin,hRl,hRr,hiff⟩
  have f1:=hF 1 rfl
  have f3:=hF 3 rfl
  simp only [↓Sh.dn,sx,Nat.reduceBEq,reduceCtorEq,Nat.reduceEqDiff,hgb] at f1 f3
  have hb1:=hrb.kept hk1.wf hk
  simp only [↓Sh.dn,sx,Nat.reduceBEq,reduceCtorEq,Nat.reduceEqDiff,f1,f3,f4,hb1.c1,A5a,Nat.lt_irrefl,decide_false,hlenE,hres]
  refine ⟨hk1.trans hk,R,ot,vs,obs,hJ,fun y hy=>by rw [← hgb]; exact e0 y (hin y hy),hRl,fun r hr=>⟨by have:=(hRr r hr).1; omega,(hRr r hr).2⟩,fun x t s=>?_⟩
  rw [hiff]
  constructor
  ·exact fun h=>h.2
  ·rintro ⟨r,h1,h2⟩
   exact ⟨by rw [← h.le]; exact (List.getElem?_eq_some_iff.1 h1).1,r,h1,h2⟩
end Go.Proofs.YtnoengaghabmjaaGreat
/- The reference's spread: what is reached from marked states is marked. -/
namespace Go.Proofs.YtnoengaghabmjaaGreat
open Go Go.Proofs Go.Proofs.Sh
def A2v (R:List (List (ByteArray×Nat))) (em:Bool) (s t:Nat):Prop:=∃ x,A4k R x s t∧(em=true→x=A7f)
theorem B9y {n:Nat} {seen:List Bool} (hl:seen.length=n):Marks n seen ((List.range n).filter fun t=>decide (seen[t]?=some true)):=by
 refine ⟨hl,List.Pairwise.filter _ List.nodup_range,fun t=>?_⟩
 rw [List.mem_filter,List.mem_range,decide_eq_true_eq]
 constructor
 ·intro h; exact ⟨by rw [← hl]; exact (List.getElem?_eq_some_iff.1 h).1,h⟩
 ·exact fun h=>h.2
theorem B3p {H1 H:AH} {rv mv:Value} {os:Option Nat} {vals:List Value} {n:Nat} {R:List (List (ByteArray×Nat))} {seen:List Bool} {em:Bool}
  (hk:Kept H1 H) (hJ':∀ {H'},Chg (fun y=>os=some y) H H'→JagR H' rv 2 (A0m R) vals) (hRl:R.length=n) (hRr:∀ r∈R,r.length≤180000000∧∀ e∈r,e.2 < n) (hb:Buf H 1 mv (seen.map A5r) os) (hfr:∀ y,os=some y→H1.next≤y) (hsl:seen.length=n) (hn:n≤3000):
  Sh.Call Tryz.prog (knows 10) 84 [rv,mv,.bool em] H (fun _ H'=>Chg (fun y=>os=some y) H H'∧∃ seen':List Bool,Buf H' 1 mv (seen'.map A5r) os∧seen'.length=n∧∀ t:Nat,seen'[t]?=some true↔Clo (A2v R em) (fun s=>seen[s]?=some true) t):=by
 refine A4a rfl Tryz.func84 rfl (Nat.le_of_ble_eq_true rfl) ?_
 have hres:Tryz.f84.results.toList=[]:=rfl
 have hw:=hk.wf
 have hM0:MB H H1.next n mv os seen ((List.range n).filter fun t=>decide (seen[t]?=some true)):=⟨B9y hsl,hb,hfr⟩
 have hlenM:∀ H',A6a Tryz.prog .len [66] [mv] H'=some (.int .i64 (n:Int),H'):=fun H'=>by
  rw [hb.toSl.len Tryz.underlying66,List.length_map,hsl]
 have hlos:=hM0.lt hw
 simp only [↓Sh.dn,sx,Nat.reduceBEq,reduceCtorEq,Nat.reduceEqDiff]
 refine A0f n 7 (List.range' 6 19) (fun i F H'=>Kept H H'∧∃ z,F.get 6=some z∧∃ ob,LB H' H.next os z ((List.range i).filter fun t=>decide (seen[t]?=some true)) ob) (by simp only [↓Sh.dn,sx,Nat.reduceBEq,reduceCtorEq,Nat.reduceEqDiff]) ⟨Kept.refl hw,_,by simp only [↓Sh.dn,sx,Nat.reduceBEq,reduceCtorEq,Nat.reduceEqDiff],none,⟨.void none,fun y hy=>by cases hy⟩⟩ ?_ ?_
 ·rintro i F H' hi hF f7 ⟨hk',z,f6,ob,hl⟩ k
  have f1:=hF 1 rfl
  simp only [↓Sh.dn,sx,Nat.reduceBEq,reduceCtorEq,Nat.reduceEqDiff] at f1
  obtain ⟨b,hb1⟩:∃ b,seen[i]?=some b:=⟨seen[i]'(by omega),List.getElem?_eq_getElem _⟩
  obtain ⟨p,hia,hc⟩:=Sl.elem (s:=1) Tryz.underlying66 A3n (hb.toSl.grow (hk'.grow hw)) (i:=i) (u:=.bool b) (by rw [List.getElem?_map,hb1]; rfl)
  have hrange:(List.range (i+1)).filter (fun t=>decide (seen[t]?=some true))=(List.range i).filter (fun t=>decide (seen[t]?=some true))++(if b=true then [i] else []):=by
   rw [List.range_succ,List.filter_append]
   congr 1
   cases b <;> simp [hb1]
  have hll:((List.range i).filter fun t=>decide (seen[t]?=some true)).length≤1073741823:=Nat.le_trans (List.length_filter_le _ _) (by rw [List.length_range]; omega)
  simp only [↓Sh.dn,sx,Nat.reduceBEq,reduceCtorEq,Nat.reduceEqDiff,f1,f7,A5a,hi,decide_true,hlenM,hia,hc]
  cases b with
  | true=>
   obtain ⟨a,cap,w',H4,ob2,rfl,e1,e2,e3,e4⟩:=C0l i hk'.next hk'.wf (fun y hy=>Nat.lt_of_lt_of_le (hlos y hy) hk'.next) hl hll
   simp only [↓Sh.dn,sx,Nat.reduceBEq,reduceCtorEq,Nat.reduceEqDiff,f6,f7,e1,e2,A7a hi (Nat.le_trans hn (by decide))]
   refine k _ _ (by repeat (first | refine Same.put ?_ rfl | exact Same.rfl' _)) (by simp only [↓Sh.dn,sx,Nat.reduceBEq,reduceCtorEq,Nat.reduceEqDiff]) ⟨hk'.then (Nat.le_refl _) (e4.weak fun y hy=>(hl.fr y hy).1),w',by simp only [↓Sh.dn,sx,Nat.reduceBEq,reduceCtorEq,Nat.reduceEqDiff],ob2,by rw [hrange]; exact e3⟩
  | false=>
   simp only [↓Sh.dn,sx,Nat.reduceBEq,reduceCtorEq,Nat.reduceEqDiff,f7,A7a hi (Nat.le_trans hn (by decide))]
   refine k _ _ (by repeat (first | refine Same.put ?_ rfl | exact Same.rfl' _)) (by simp only [↓Sh.dn,sx,Nat.reduceBEq,reduceCtorEq,Nat.reduceEqDiff]) ⟨hk',z,by simp only [↓Sh.dn,sx,Nat.reduceBEq,reduceCtorEq,Nat.reduceEqDiff,f6],ob,by rw [hrange]; simpa using hl⟩
 ·rintro F H' hF f7 ⟨hk',z,f6,ob,hl⟩
  have f0:=hF 0 rfl
  have f1:=hF 1 rfl
  have f2:=hF 2 rfl
  simp only [↓Sh.dn,sx,Nat.reduceBEq,reduceCtorEq,Nat.reduceEqDiff] at f0 f1 f2
  simp only [↓Sh.dn,sx,Nat.reduceBEq,reduceCtorEq,Nat.reduceEqDiff,f1,f7,A5a,Nat.lt_irrefl,decide_false,hlenM]
  refine A1f (m:=n+1) (fun m F H'=>∃ i,m+i=n+1∧F.get 8=some (.int .i64 (i:Int))∧F.get 0=some rv∧F.get 1=some mv∧F.get 2=some (.bool em)∧Chg (fun y=>os=some y) H H'∧∃ z,F.get 6=some z∧∃ seen' out ob,MB H' H1.next n mv os seen' out∧LB H' H.next os z out ob∧i≤out.length∧(∀ t,seen[t]?=some true→t∈out)∧(∀ t∈out,Clo (A2v R em) (fun s=>seen[s]?=some true) t)∧∀ s∈out.take i,∀ t,A2v R em s t→t∈out) ⟨0,by omega,by simp only [↓Sh.dn,sx,Nat.reduceBEq,reduceCtorEq,Nat.reduceEqDiff]; rfl,by simp only [↓Sh.dn,sx,Nat.reduceBEq,reduceCtorEq,Nat.reduceEqDiff,f0],by simp only [↓Sh.dn,sx,Nat.reduceBEq,reduceCtorEq,Nat.reduceEqDiff,f1],by simp only [↓Sh.dn,sx,Nat.reduceBEq,reduceCtorEq,Nat.reduceEqDiff,f2],hk'.chg,z,by simp only [↓Sh.dn,sx,Nat.reduceBEq,reduceCtorEq,Nat.reduceEqDiff,f6],seen,_,ob,hM0.kept hw hk',hl,Nat.zero_le _,fun t ht=>(hM0.ms.iff t).1 ht,fun t ht=>.base ((hM0.ms.iff t).2 ht),fun s hs=>by simp at hs⟩ ?_
  clear hk' hl f0 f1 f2 f6 f7 hF
  clear z ob
  clear F H'
  rintro m F H' ⟨i,hmi,f8,f0,f1,f2,hk',z,f6,seen',out,ob,hM,hl,hio,hLout,hclo,hcl⟩ k
  have hkk:∀ {H'},Chg (fun y=>os=some y) H H'→Kept H1 H':=fun hc=>hk.then (Nat.le_refl _) (hc.weak hfr)
  have hlen:=hl.bf.toSl.len Tryz.underlying88 H'
  rw [List.length_map] at hlen
  have hout:=hM.ms.le
  by_cases hi:i < out.length
  ·simp only [↓Sh.dn,sx,Nat.reduceBEq,reduceCtorEq,Nat.reduceEqDiff,f6,f8,A5a,hi,decide_true,hlen]
   have hsn:out[i] < n:=hM.ms.lt (List.getElem_mem hi)
   have hget:out[i]?=some out[i]:=List.getElem?_eq_getElem hi
   have hcs:Clo (A2v R em) (fun s=>seen[s]?=some true) out[i]:=hclo _ (List.getElem_mem hi)
   generalize out[i]=s at hsn hget hcs
   obtain ⟨r,hr⟩:∃ r,R[s]?=some r:=⟨R[s]'(by rw [hRl]; exact hsn),List.getElem?_eq_getElem _⟩
   have hr':(A0m R)[s]?=some (r.map A3l):=by unfold A0m; rw [List.getElem?_map,hr]; rfl
   obtain ⟨hrl,hrt⟩:=hRr r (List.mem_of_getElem? hr)
   refine A0f r.length 9 (List.range' 31 46++[6,9,10]) (fun q F'' H''=>Chg (fun y=>os=some y) H H''∧∃ z',F''.get 6=some z'∧∃ seen' out' ob',MB H'' H1.next n mv os seen' out'∧LB H'' H.next os z' out' ob'∧out'[i]?=some s∧out'.take i=out.take i∧(∀ x∈out,x∈out')∧(∀ t∈out',Clo (A2v R em) (fun s=>seen[s]?=some true) t)∧∀ e∈r.take q,(em=true→e.1=A7f)→e.2∈out') (by simp only [↓Sh.dn,sx,Nat.reduceBEq,reduceCtorEq,Nat.reduceEqDiff]) ⟨hk',z,by simp only [↓Sh.dn,sx,Nat.reduceBEq,reduceCtorEq,Nat.reduceEqDiff,f6],seen',out,ob,hM,hl,hget,rfl,fun x hx=>hx,hclo,fun e he=>by simp at he⟩ ?_ ?_
   ·rintro q F'' H'' hq hF'' f9 ⟨hk'',z',f6',seen',out',ob',hM',hl',hget',htk,hsub,hclo',hed⟩ k2
    have g0:=hF'' 0 rfl
    have g1:=hF'' 1 rfl
    have g2:=hF'' 2 rfl
    have g8:=hF'' 8 rfl
    simp only [↓Sh.dn,sx,Nat.reduceBEq,reduceCtorEq,Nat.reduceEqDiff,f0,f1,f2,f8] at g0 g1 g2 g8
    obtain ⟨ga,oa,ka,wr,hia,hc1,hs1⟩:=(hJ' hk'').at Tryz.underlying65 A0s hr'
    have hl1:=hs1.len Tryz.underlying105 H''
    rw [List.length_map] at hl1
    have hil:i < out'.length:=(List.getElem?_eq_some_iff.1 hget').1
    have hgs:out'[i]=s:=Option.some.inj ((List.getElem?_eq_getElem hil).symm.trans hget')
    obtain ⟨p1,hia1,hcc1⟩:=B7k Tryz.underlying88 A6d hl'.bf.toSl hil
    rw [hgs] at hcc1
    obtain ⟨g',o',k',hia2,hcs2,_⟩:=hs1.at Tryz.underlying105 A5t (i:=q) (x:=A3l r[q]) (by simp [hq]) .i64
    have hrq:r[q]∈r:=List.getElem_mem hq
    have htake:r.take (q+1)=r.take q++[r[q]]:=by rw [List.take_add_one,List.getElem?_eq_getElem hq]; rfl
    generalize r[q]=e at hcs2 hrq htake
    have kn:=Kept.new hk''.wf 2 (A3l e)
    have hk3:=hk''.trans (kn.chg (X:=fun y=>os=some y))
    have hM3:=hM'.kept hk''.wf kn
    have hl3:=hl'.kept hk''.wf kn
    simp only [↓Sh.dn,sx,Nat.reduceBEq,reduceCtorEq,Nat.reduceEqDiff,f6',f9,g0,g1,g2,g8,hia1,hcc1,hia,hc1,hl1,hia2,hcs2,A5a,hq,decide_true,Option.map_some,C8k,B3t,C6f,re0,re1]
    have hnext : ∀ {seen2 : List Bool} {out2 : List Nat} {ob2 : Option Nat} {z2 : Value} {F2 : Fr} {H2 : AH}, Same (List.range' 31 46 ++ [6, 9, 10]) F'' F2 → F2.get 6 = some z2 → F2.get 9 = some (.int .i64 ((q + 1 : Nat) : Int)) → Chg (fun y => os = some y) H H2 → MB H2 H1.next n mv os seen2 out2 → LB H2 H.next os z2 out2 ob2 → (out2 = out' ∨ out2 = out' ++ [e.2] ∧ (em = true → e.1 = A7f)) → ((em = true → e.1 = A7f) → e.2 ∈ out2) →
        wp Tryz.prog (knows 10) _ _ F2 H2 := fun {seen2 out2 ob2 z2 F2 H2} a1 a2 a3 a4 a5 a6 a7 a8 => k2 F2 H2 a1 a3 ⟨a4, z2, a2, seen2, out2, ob2, a5, a6, by
          rcases a7 with h | ⟨h, _⟩
          · rw [h]; exact hget'
          · rw [h, List.getElem?_append_left hil]; exact hget', by
          rcases a7 with h | ⟨h, _⟩
          · rw [h]; exact htk
          · rw [h, List.take_append_of_le_length (by omega)]; exact htk, fun x hx => by
          rcases a7 with h | ⟨h, _⟩
          · rw [h]; exact hsub x hx
          · rw [h]; exact List.mem_append_left _ (hsub x hx), fun t ht => by
          rcases a7 with h | ⟨h, he⟩
          · rw [h] at ht; exact hclo' t ht
          · rw [h] at ht
            rcases List.mem_append.1 ht with h2 | h2
            · exact hclo' t h2
            · rw [List.mem_singleton.1 h2]; exact .step hcs ⟨e.1, ⟨r, hr, hrq⟩, he⟩, fun x hx hxe => by
          rw [htake] at hx
          rcases List.mem_append.1 hx with h2 | h2
          · have := hed x h2 hxe
            rcases a7 with h | ⟨h, _⟩
            · rw [h]; exact this
            · rw [h]; exact List.mem_append_left _ this
          · rw [List.mem_singleton.1 h2] at hxe ⊢; exact a8 hxe⟩
    have hrl':r.length≤4611686018427387904:=Nat.le_trans hrl (by decide)
    by_cases hin:e.2∈out'
    ·obtain ⟨p5,hia5,hc5⟩:=hM3.see Tryz.underlying66 A3n (hrt e hrq)
     simp only [↓Sh.dn,sx,Nat.reduceBEq,reduceCtorEq,Nat.reduceEqDiff,re1,g1,hia5,hc5,hin,decide_true,f9,A7a hq hrl']
     exact hnext (by repeat (first | refine Same.put ?_ rfl | exact Same.rfl' _)) (by simp only [↓Sh.dn,sx,Nat.reduceBEq,reduceCtorEq,Nat.reduceEqDiff,f6']) (by simp only [↓Sh.dn,sx,Nat.reduceBEq,reduceCtorEq,Nat.reduceEqDiff]) hk3 hM3 hl3 (.inl rfl) fun _=>hin
    ·have hkk3:=hkk hk3
     obtain ⟨p3,H3,e1,e2,e3,e4,e5,e6⟩:=B28 hkk3 hM3 (hrt e hrq) hin
     have hout':=hM3.ms.le
     obtain ⟨a,cap,w',H4,ob2,rfl,e7,e8,e9,e10⟩:=C0l e.2 (Nat.le_trans hk3.next e6.next) e4.wf (e5.lt e4.wf) (hl3.chg hk3.wf e6 fun y h=>h) (by omega)
     have hk4:Chg (fun y=>os=some y) H H4:=(hk3.trans e6).then e10 fun y hy hlt=>by have:=(hl3.fr y hy).1; omega
     have hM4:=e5.chg e4.wf e10 (fun y hy h=>(hl3.fr y hy).2 h)
     have hre:H3.cell ⟨H''.next,1,some 0⟩=some (.int .i64 (e.2:Int)):=by
      have:=((Sh.Obj.new (H:=H'') 2 (A3l e)).arr.keep (e6.old H''.next (Nat.lt_succ_self _) fun hy=>Nat.lt_irrefl _ (hM'.lt hk''.wf _ hy))).cell 1
      exact this
     cases em with
     | false=>
      simp only [↓Sh.dn,sx,Nat.reduceBEq,reduceCtorEq,Nat.reduceEqDiff,re1,re0,g1,g2,e1,e2,e3,f6',hre,e7,e8,f9,A7a hq hrl']
      exact hnext (by repeat (first | refine Same.put ?_ rfl | exact Same.rfl' _)) (by simp only [↓Sh.dn,sx,Nat.reduceBEq,reduceCtorEq,Nat.reduceEqDiff]) (by simp only [↓Sh.dn,sx,Nat.reduceBEq,reduceCtorEq,Nat.reduceEqDiff]) hk4 hM4 e9 (.inr ⟨rfl,fun h=>by cases h⟩) fun _=>List.mem_append_right _ List.mem_cons_self
     | true=>
      by_cases he:e.1=⟨#[]⟩
      ·simp only [↓Sh.dn,sx,Nat.reduceBEq,reduceCtorEq,Nat.reduceEqDiff,re1,re0,g1,g2,he,decide_true,e1,e2,e3,f6',hre,e7,e8,f9,A7a hq hrl']
       exact hnext (by repeat (first | refine Same.put ?_ rfl | exact Same.rfl' _)) (by simp only [↓Sh.dn,sx,Nat.reduceBEq,reduceCtorEq,Nat.reduceEqDiff]) (by simp only [↓Sh.dn,sx,Nat.reduceBEq,reduceCtorEq,Nat.reduceEqDiff]) hk4 hM4 e9 (.inr ⟨rfl,fun _=>he⟩) fun _=>List.mem_append_right _ List.mem_cons_self
      ·simp only [↓Sh.dn,sx,Nat.reduceBEq,reduceCtorEq,Nat.reduceEqDiff,re1,re0,g1,g2,he,decide_false,e1,e2,f9,A7a hq hrl']
       exact hnext (by repeat (first | refine Same.put ?_ rfl | exact Same.rfl' _)) (by simp only [↓Sh.dn,sx,Nat.reduceBEq,reduceCtorEq,Nat.reduceEqDiff,f6']) (by simp only [↓Sh.dn,sx,Nat.reduceBEq,reduceCtorEq,Nat.reduceEqDiff]) hk3 hM3 hl3 (.inl rfl) fun h=>absurd (h rfl) he
   ·rintro F'' H'' hF'' f9 ⟨hk'',z',f6',seen',out',ob',hM',hl',hget',htk,hsub,hclo',hed⟩
    have g0:=hF'' 0 rfl
    have g1:=hF'' 1 rfl
    have g2:=hF'' 2 rfl
    have g8:=hF'' 8 rfl
    simp only [↓Sh.dn,sx,Nat.reduceBEq,reduceCtorEq,Nat.reduceEqDiff,f0,f1,f2,f8] at g0 g1 g2 g8
    obtain ⟨ga,oa,ka,wr,hia,hc1,hs1⟩:=(hJ' hk'').at Tryz.underlying65 A0s hr'
    have hl1:=hs1.len Tryz.underlying105 H''
    rw [List.length_map] at hl1
    have hil:i < out'.length:=(List.getElem?_eq_some_iff.1 hget').1
    have hgs:out'[i]=s:=Option.some.inj ((List.getElem?_eq_getElem hil).symm.trans hget')
    obtain ⟨p1,hia1,hcc1⟩:=B7k Tryz.underlying88 A6d hl'.bf.toSl hil
    rw [hgs] at hcc1
    have hout':=hM'.ms.le
    simp only [↓Sh.dn,sx,Nat.reduceBEq,reduceCtorEq,Nat.reduceEqDiff,f6',f9,g0,g1,g2,g8,hia1,hcc1,hia,hc1,hl1,A5a,Nat.lt_irrefl,decide_false,A7a hil (Nat.le_trans (Nat.le_trans hout' hn) (by decide))]
    refine k (n+1 - (i+1)) _ _ (by omega) ⟨i+1,by omega,by simp only [↓Sh.dn,sx,Nat.reduceBEq,reduceCtorEq,Nat.reduceEqDiff],by simp only [↓Sh.dn,sx,Nat.reduceBEq,reduceCtorEq,Nat.reduceEqDiff,g0],by simp only [↓Sh.dn,sx,Nat.reduceBEq,reduceCtorEq,Nat.reduceEqDiff,g1],by simp only [↓Sh.dn,sx,Nat.reduceBEq,reduceCtorEq,Nat.reduceEqDiff,g2],hk'',z',by simp only [↓Sh.dn,sx,Nat.reduceBEq,reduceCtorEq,Nat.reduceEqDiff,f6'],seen',out',ob',hM',hl',hil,fun t ht=>hsub t (hLout t ht),hclo',fun x hx t hg=>?_⟩
    rw [List.take_add_one,hget'] at hx
    rcases List.mem_append.1 hx with hx | hx
    ·rw [htk] at hx
     exact hsub t (hcl x hx t hg)
    ·simp only [Option.toList,List.mem_singleton] at hx
     subst hx
     obtain ⟨y,⟨r',hr2,hg2⟩,hye⟩:=hg
     rw [hr] at hr2
     rw [← Option.some.inj hr2] at hg2
     exact hed _ (by rw [List.take_length]; exact hg2) hye
  ·simp only [↓Sh.dn,sx,Nat.reduceBEq,reduceCtorEq,Nat.reduceEqDiff,f6,f8,A5a,hi,decide_false,hlen,hres]
   refine ⟨hk',seen',hM.bf,hM.ms.len,fun t=>?_⟩
   rw [hM.ms.iff]
   exact Clo.iff hLout hclo (fun s hs=>hcl s (by rw [List.take_of_length_le (by omega)]; exact hs)) t
theorem C13 {H1 H:AH} {rv mv:Value} {ot os:Option Nat} {vals:List Value} {obs:List (Option Nat)} {n:Nat} {R:List (List (ByteArray×Nat))} {seen:List Bool} {em:Bool}
  (hk:Kept H1 H) (hJ:Jag H rv ot 2 vals (A0m R) obs) (hRl:R.length=n) (hRr:∀ r∈R,r.length≤180000000∧∀ e∈r,e.2 < n) (hb:Buf H 1 mv (seen.map A5r) os) (hfr:∀ y,os=some y→H1.next≤y) (hsep:∀ y,os=some y→¬JIn ot obs y) (hsl:seen.length=n) (hn:n≤3000):
  Sh.Call Tryz.prog (knows 10) 84 [rv,mv,.bool em] H (fun _ H'=>Chg (fun y=>os=some y) H H'∧∃ seen':List Bool,Buf H' 1 mv (seen'.map A5r) os∧seen'.length=n∧∀ t:Nat,seen'[t]?=some true↔Clo (A2v R em) (fun s=>seen[s]?=some true) t):=B3p hk (fun hc=>(hJ.chg hk.wf hc fun y hy h=>hsep y h hy).read) hRl hRr hb hfr hsl hn
end Go.Proofs.YtnoengaghabmjaaGreat
/- The reference's Alive, kept. -/
namespace Go.Proofs.YtnoengaghabmjaaGreat
open Go Go.Proofs Go.Proofs.Sh
theorem refAlive {H:AH} {v ev bv:Value} {vals:List Value} {n:Nat} {E:List (List (ByteArray×Nat))} {ends:List Bool} (h:RG H v n E ends ev bv vals) (hw:Wf H):
  Sh.Call Tryz.prog (knows 10) 62 [v] H (fun r H'=>Kept H H'∧∃ B:List Bool,Sl H' r 1 (B.map A5r)∧B.length=n∧∀ t:Nat,B[t]?=some true↔Clo (fun s t=>∃ x,A4k E x t s) (fun s=>ends[s]?=some true) t):=by
 refine A4a rfl Tryz.func62 rfl (Nat.le_of_ble_eq_true rfl) ?_
 have hres:Tryz.f62.results.toList=[.tmp 2]:=rfl
 have hrb:=RBox.of h hw
 have hk1:Kept H (H.new 3 [.int .i64 0,ev,bv]).2:=Kept.new hw 3 _
 have hE:=h.ed.sl.isCell
 have hB:=h.en.isCell
 rw [h.eq]
 simp only [↓Sh.dn,sx,Nat.reduceBEq,reduceCtorEq,Nat.reduceEqDiff,B4x hE hB]
 generalize (H.new 3 [.int .i64 0,ev,bv]).2=H1 at hrb hk1 ⊢
 generalize H.next=gb at hrb ⊢
 have hs1:=hrb.rg.en
 obtain ⟨v',H2,b',e1,e2,e3,e4⟩:=(Buf.void (H:=H1) (s:=1) none).append hk1.wf (xs:=ends.map A5r) (by intro x hx; obtain ⟨b,_,rfl⟩:=List.mem_map.1 hx; rfl)
 have happ:=app_66 (base:=none) (len:=0) (cap:=0) (hs1.srcKind Tryz.underlying66) hs1.newCells (by rw [List.length_map,h.ln]; have:=h.n2; omega)
 rw [e1] at happ
 have hk2:Kept H1 H2:=e3.kept fun g hg h=>by cases h
 rw [List.nil_append] at e2
 have hos:∀ y,b'=some y→H1.next≤y∧y < H2.next:=by
  intro y hy
  rcases e4 with h4 | ⟨h4,h5⟩
  ·rw [h4] at hy; cases hy
  ·rw [h4] at hy; rw [← Option.some.inj hy]; exact ⟨Nat.le_refl _,h5⟩
 have hrb2:=hrb.kept hk1.wf hk2
 obtain ⟨rv,H3,hd3,hk3,R,ot,vs,obs,hJ,hin,hRl,hRr,hRg⟩:=C9a hrb2.rg hk2.wf
 have hk13:=hk2.trans hk3
 have hb3:=e2.kept hk2.wf hk3
 obtain ⟨rr,H4,hd4,hc4,seen,hb4,hsl,hiff⟩:=C13 (em:=false) hk13 hJ hRl hRr hb3 (fun y hy=>(hos y hy).1) (fun y hy hj=>by have:=hin y hj; have:=(hos y hy).2; omega) h.ln h.n2
 simp only [↓Sh.dn,sx,Nat.reduceBEq,reduceCtorEq,Nat.reduceEqDiff,hrb.c2,happ]
 simp only [↓Sh.dn,sx,Nat.reduceBEq,reduceCtorEq,Nat.reduceEqDiff,hrb2.ca,Option.map_some]
 refine ⟨_,_,hd3,?_⟩
 refine ⟨_,_,hd4,?_⟩
 simp only [↓Sh.dn,sx,Nat.reduceBEq,reduceCtorEq,Nat.reduceEqDiff,hres]
 refine ⟨hk1.trans (hk13.then (Nat.le_refl _) (hc4.weak fun y hy=>(hos y hy).1)),seen,hb4.toSl,hsl,fun t=>?_⟩
 rw [hiff]
 have:A2v R false=fun s t=>∃ x,A4k E x t s:=by
  funext s t
  apply propext
  unfold A2v
  simp [hRg]
 rw [this]
end Go.Proofs.YtnoengaghabmjaaGreat
/- The reference's Reached and IsTrim. -/
namespace Go.Proofs.YtnoengaghabmjaaGreat
open Go Go.Proofs Go.Proofs.Sh
theorem C6o {H:AH} {v ev bv:Value} {vals:List Value} {n:Nat} {E:List (List (ByteArray×Nat))} {ends:List Bool} (h:RG H v n E ends ev bv vals) (hw:Wf H):
  Sh.Call Tryz.prog (knows 10) 61 [v] H (fun r H'=>Kept H H'∧∃ B:List Bool,Sl H' r 1 (B.map A5r)∧B.length=n∧∀ t:Nat,B[t]?=some true↔Clo (fun s t=>∃ x,A4k E x s t) (fun s=>s=0) t):=by
 refine A4a rfl Tryz.func61 rfl (Nat.le_of_ble_eq_true rfl) ?_
 have hres:Tryz.f61.results.toList=[.tmp 2]:=rfl
 have hrb:=RBox.of h hw
 have hk1:Kept H (H.new 3 [.int .i64 0,ev,bv]).2:=Kept.new hw 3 _
 have hE:=h.ed.sl.isCell
 have hB:=h.en.isCell
 rw [h.eq]
 simp only [↓Sh.dn,sx,Nat.reduceBEq,reduceCtorEq,Nat.reduceEqDiff,B4x hE hB]
 generalize (H.new 3 [.int .i64 0,ev,bv]).2=H1 at hrb hk1 ⊢
 generalize H.next=gb at hrb ⊢
 have hn1:=h.n1
 have hn2:=h.n2
 have hlenE:∀ H',A6a Tryz.prog .len [65] [ev] H'=some (.int .i64 (n:Int),H'):=fun H'=>by
  rw [h.ed.sl.len Tryz.underlying65,List.length_map,h.ed.len]; unfold A0m; rw [List.length_map,h.le]
 have hmk:=C31 (H:=H1) (l:=n) (c:=n) (Nat.le_refl _) (by omega)
 have k2:=Kept.new hk1.wf 1 (List.replicate n (.bool false))
 have f1:=Buf.fill hk1.wf (.bool false) (c:=n) (by omega)
 rw [if_neg (by omega)] at f1
 have hM1:MB (H1.new 1 (List.replicate n (.bool false))).2 H1.next n (.slice (some ⟨H1.next,0,some 0⟩) n n) (some H1.next) (List.replicate n false) []:=
  ⟨Marks.empty n,by rw [List.map_replicate]; exact f1,fun y hy=>by rw [← Option.some.inj hy]; exact Nat.le_refl _⟩
 simp only [↓Sh.dn,sx,Nat.reduceBEq,reduceCtorEq,Nat.reduceEqDiff,hrb.c1,hlenE,hmk]
 have hr1:=hrb.kept hk1.wf k2
 generalize (Value.slice (some ⟨H1.next,0,some 0⟩) n n)=mv at hM1 ⊢
 generalize (H1.new 1 (List.replicate n (.bool false))).2=H2 at k2 hM1 hr1 ⊢
 have hlM:∀ H',A6a Tryz.prog .len [66] [mv] H'=some (.int .i64 (n:Int),H'):=fun H'=>by rw [hM1.bf.toSl.len Tryz.underlying66,List.length_map,List.length_replicate]
 obtain ⟨p,H3,e1,e2,e3,k3,hM3,c3⟩:=B28 k2 hM1 (t:=0) (by omega) (by simp)
 have e1':A4c Tryz.prog 66 mv (.int .i64 0)=some (.pointer (some p)):=e1
 have hpos:decide ((0:Int) < (n:Int))=true:=decide_eq_true (by omega)
 have hr3:=hrb.kept hk1.wf k3
 obtain ⟨r4,H4,hd4,c4,B,hb4,hBl,hiff⟩:=B3p (em:=false) k3 (fun {H'} hc=>hrb.rg.ed.grow ((k3.then (Nat.le_refl _) (hc.weak hM3.fr)).grow hk1.wf)) h.le (fun r hr=>by
  obtain ⟨i,hi⟩:=List.mem_iff_getElem?.1 hr
  have:=h.to i r hi
  exact ⟨by omega,this.2⟩) hM3.bf hM3.fr hM3.ms.len hn2
 simp only [↓Sh.dn,sx,Nat.reduceBEq,reduceCtorEq,Nat.reduceEqDiff,hlM,hpos,hr1.c0,e1',e3]
 simp only [↓Sh.dn,sx,Nat.reduceBEq,reduceCtorEq,Nat.reduceEqDiff,hr3.c1]
 refine ⟨_,_,hd4,?_⟩
 simp only [↓Sh.dn,sx,Nat.reduceBEq,reduceCtorEq,Nat.reduceEqDiff,hres]
 refine ⟨hk1.trans (k3.then (Nat.le_refl _) (c4.weak hM3.fr)),B,hb4.toSl,hBl,fun t=>?_⟩
 rw [hiff]
 have q1:A2v E false=fun s t=>∃ x,A4k E x s t:=by
  funext s t
  apply propext
  unfold A2v
  simp
 have q2:(fun s:Nat=>((List.replicate n false).set 0 true)[s]?=some true)=fun s=>s=0:=by
  funext s
  apply propext
  rw [hM3.ms.iff]; simp
 rw [q1,q2]
theorem C9h {N:NetD} (hok:A1k N) (s t:Nat):(∃ x,A4k (A6x N) x s t)↔∃ a b,A6k N s a b t:=by
 rw [B1y hok]
 unfold NetD.goes A6k
 constructor
 ·rintro ⟨x,a,h1,h2,h3,h4⟩; exact ⟨_,_,a,h1,h2,rfl,rfl,h4⟩
 ·rintro ⟨_,_,a,h1,h2,_,_,h4⟩; exact ⟨_,a,h1,h2,rfl,h4⟩
theorem C6t {H:AH} {v:Value} {N:NetD} (h:A4h H v N) (hok:A1k N) (hsm:A3b N) (hw:Wf H):
  Sh.Call Tryz.prog (knows 10) 25 [v] H (fun r H'=>Kept H H'∧r=.bool (tB (C0q N))):=by
 refine A4a rfl Tryz.func25 rfl (Nat.le_of_ble_eq_true rfl) ?_
 have hres:Tryz.f25.results.toList=[.tmp 2]:=rfl
 obtain ⟨sg,ar,en,rfl,hsg,har,hen⟩:=h
 have hb1:=NetBox.of (N:=N) hw hsg har hen
 have hk1:Kept H (H.new 4 [sg,.int .i64 N.states,ar,en]).2:=Kept.new hw 4 _
 simp only [↓Sh.dn,sx,Nat.reduceBEq,reduceCtorEq,Nat.reduceEqDiff,A1g hsg.isCell har.isCell hen.isCell]
 generalize H.next=gg at hb1 ⊢
 generalize (H.new 4 [sg,.int .i64 N.states,ar,en]).2=H1 at hb1 hk1 ⊢
 obtain ⟨r,H3,hd3,hk3,ev,bv,vals,hR⟩:=B4m hb1.netAt hok hsm hk1.wf
 simp only [↓Sh.dn,sx,Nat.reduceBEq,reduceCtorEq,Nat.reduceEqDiff,hb1.c0,hb1.c1,hb1.c2,hb1.c3,hb1.ca,A2a hb1,A1a hb1,A3a hb1,Option.map_some]
 refine ⟨_,_,hd3,?_⟩
 have hE':=hR.ed.sl.isCell
 have hB':=hR.en.isCell
 have hkn:=Kept.new hk3.wf 3 [.int .i64 0,ev,bv]
 have hbx:=RBox.of hR hk3.wf
 rw [hR.eq] at *
 simp only [↓Sh.dn,sx,Nat.reduceBEq,reduceCtorEq,Nat.reduceEqDiff,B07,B7w hE' hB',C76]
 have hb4:=(hb1.kept hk1.wf hk3).kept hk3.wf hkn
 have hk4:=(hk1.trans hk3).trans hkn
 generalize H3.next=gb at hbx ⊢
 generalize (H3.new 3 [.int .i64 0,ev,bv]).2=H4 at hbx hkn hb4 hk4 ⊢
 obtain ⟨r5,H5,hd5,k5,A,hA,hAl,hAi⟩:=C6o hbx.rg hkn.wf
 have hbx5:=hbx.kept hkn.wf k5
 obtain ⟨r6,H6,hd6,k6,B,hB,hBl,hBi⟩:=refAlive hbx5.rg k5.wf
 have hvq:=C6x hR.ed.sl.veq hR.en.veq
 have s1:=hok.st1
 have s2:=hok.st2
 obtain ⟨n,hn⟩:∃ n:Nat,N.states=(n:Int):=⟨N.states.toNat,by omega⟩
 have hnn:N.states.toNat=n:=by omega
 rw [hnn] at hAl hBl
 have hA6:=hA.grow (k6.grow k5.wf)
 have hk6:=(hk4.trans k5).trans k6
 have hb6:=(hb4.kept hk4.wf k5).kept (hk4.trans k5).wf k6
 have q1:(fun s t=>∃ x,A4k (A6x N) x s t)=fun s t=>∃ a b,A6k N s a b t:=funext fun s=>funext fun t=>propext (C9h hok s t)
 have q2:(fun s t=>∃ x,A4k (A6x N) x t s)=fun s t=>∃ a b,A6k N t a b s:=funext fun s=>funext fun t=>propext (C9h hok t s)
 have q3:(fun s:Nat=>(marksOf EndD.state N.states.toNat N.ends)[s]?=some true)=N.isEnd:=funext fun s=>propext (B9x hok s)
 rw [q1] at hAi
 rw [q2,q3] at hBi
 refine A6o (fl:=[(0,false),(2,false),(1,false),(3,true),(4,true),(5,true)]) (by kernel_rfl) (by kernel_rfl) hkn.wf ?_
 simp only [↓Sh.dn,sx,Nat.reduceBEq,reduceCtorEq,Nat.reduceEqDiff,wpg,A4q,isEff,A9b,isRead,A3e,A1c,A4e,A6c,A6b,forall_eq,forall_eq',hbx.ca,hbx5.ca,Option.map_some,hvq]
 refine ⟨_,_,hd5,k5.wf,k5.grow hkn.wf,?_⟩
 first | refine ⟨_,_,hd6,k6.wf,k6.grow k5.wf,?_⟩ | refine ⟨_,_,hd6,k6.wf,?_⟩
 try simp only [↓Sh.dn,sx,Nat.reduceBEq,reduceCtorEq,Nat.reduceEqDiff,wpg,A4q,isEff,A9b,isRead,A3e,A1c,A4e,A6c,A6b,forall_eq,forall_eq']
 refine C5v n 6 1 (List.range' 13 18++[6]) (fun i F H'=>H'=H6∧∀ j,1≤j→j < i→A[j]?=some true∧B[j]?=some true) (by omega) (by simp only [↓Sh.dn,sx,Nat.reduceBEq,reduceCtorEq,Nat.reduceEqDiff]; rfl) ⟨rfl,fun j h1 h2=>by omega⟩ ?_ ?_
 ·rintro i F H' hi1 hi hF f6 ⟨rfl,hall⟩ k
  have f1:=hF 1 rfl
  have f4:=hF 4 rfl
  have f5:=hF 5 rfl
  simp only [↓Sh.dn,sx,Nat.reduceBEq,reduceCtorEq,Nat.reduceEqDiff] at f1 f4 f5
  obtain ⟨a,ha⟩:∃ a,A[i]?=some a:=⟨A[i]'(by omega),List.getElem?_eq_getElem _⟩
  obtain ⟨b,hb⟩:∃ b,B[i]?=some b:=⟨B[i]'(by omega),List.getElem?_eq_getElem _⟩
  obtain ⟨p1,i1,e1⟩:=Sl.elem (s:=1) Tryz.underlying66 A3n hA6 (i:=i) (u:=.bool a) (by rw [List.getElem?_map,ha]; rfl)
  obtain ⟨p2,i2,e2⟩:=Sl.elem (s:=1) Tryz.underlying66 A3n hB (i:=i) (u:=.bool b) (by rw [List.getElem?_map,hb]; rfl)
  have hbad:(a=false∨b=false)→tB (C0q N)=false:=fun hab=>by
   rw [Bool.eq_false_iff]
   intro ht
   obtain ⟨t1,t2⟩:=A55.1 ht i hi1 (by omega)
   rw [← hAi] at t1
   rw [← hBi] at t2
   rcases hab with h1 | h1
   ·rw [ha,h1] at t1; cases t1
   ·rw [hb,h1] at t2; cases t2
  cases a with
  | false=>
   simp only [↓Sh.dn,sx,Nat.reduceBEq,reduceCtorEq,Nat.reduceEqDiff,f1,f4,f5,f6,hb6.c0,hb6.c1,hb6.c2,hb6.c3,hb6.ca,A2a hb6,A1a hb6,A3a hb6,hn,A5a,hi,decide_true,i1,e1,hres,hbad (.inl rfl)]
   exact hk6
  | true=>
  cases b with
  | false=>
   simp only [↓Sh.dn,sx,Nat.reduceBEq,reduceCtorEq,Nat.reduceEqDiff,f1,f4,f5,f6,hb6.c0,hb6.c1,hb6.c2,hb6.c3,hb6.ca,A2a hb6,A1a hb6,A3a hb6,hn,A5a,hi,decide_true,i1,e1,i2,e2,hres,hbad (.inr rfl)]
   exact hk6
  | true=>
   simp only [↓Sh.dn,sx,Nat.reduceBEq,reduceCtorEq,Nat.reduceEqDiff,f1,f4,f5,f6,hb6.c0,hb6.c1,hb6.c2,hb6.c3,hb6.ca,A2a hb6,A1a hb6,A3a hb6,hn,A5a,hi,decide_true,i1,e1,i2,e2,A7a hi (by omega)]
   refine k _ _ (by repeat (first | refine Same.put ?_ rfl | exact Same.rfl' _)) (by simp only [↓Sh.dn,sx,Nat.reduceBEq,reduceCtorEq,Nat.reduceEqDiff]) ⟨rfl,fun j h1 h2=>?_⟩
   by_cases hj:j=i
   ·subst hj; exact ⟨ha,hb⟩
   ·exact hall j h1 (by omega)
 ·rintro F H' hF f6 ⟨rfl,hall⟩
  have f1:=hF 1 rfl
  simp only [↓Sh.dn,sx,Nat.reduceBEq,reduceCtorEq,Nat.reduceEqDiff] at f1
  have hgood:tB (C0q N)=true:=A55.2 fun i h1 h2=>by
   obtain ⟨t1,t2⟩:=hall i h1 (by omega)
   exact ⟨(hAi i).1 t1,(hBi i).1 t2⟩
  simp only [↓Sh.dn,sx,Nat.reduceBEq,reduceCtorEq,Nat.reduceEqDiff,f1,f6,hb6.c0,hb6.c1,hb6.c2,hb6.c3,hb6.ca,A2a hb6,A1a hb6,A3a hb6,hn,A5a,Nat.lt_irrefl,decide_false,hres,hgood]
  exact hk6
end Go.Proofs.YtnoengaghabmjaaGreat
/- Whether lists of texts are equal; a text is put into a list; ascending lists. -/
namespace Go.Proofs.YtnoengaghabmjaaGreat
open Go Go.Proofs Go.Proofs.Sh
def ordW:List ByteArray→List ByteArray→Int
 | [],[]=>0
 | [],_ :: _=>-1
 | _ :: _,[]=>1
 | a :: x,b :: y=>if A3o a b=true then -1 else if a=b then ordW x y else 1
theorem B00:∀ l,ordW l l=0
 | []=>rfl
 | a :: x=>by simp [ordW,A0p,B00 x]
theorem C61:∀ {l m:List ByteArray},ordW l m=0↔l=m
 | [],[]=>by simp [ordW]
 | [],_ :: _=>by simp [ordW]
 | _ :: _,[]=>by simp [ordW]
 | a :: x,b :: y=>by
  unfold ordW
  by_cases h:A3o a b=true
  ·rw [if_pos h]
   constructor
   ·intro h1; cases h1
   ·intro h1; injection h1 with h1 _; rw [h1,A0p] at h; cases h
  ·rw [if_neg h]
   by_cases h2:a=b
   ·rw [if_pos h2,C61,h2]; simp
   ·rw [if_neg h2]; simp [h2]
theorem A28:∀ {i:Nat} {l m:List ByteArray},l.take i=m.take i→ordW l m=ordW (l.drop i) (m.drop i)
 | 0,l,m,_=>rfl
 | i+1,[],[],_=>rfl
 | i+1,[],_ :: _,h=>by simp at h
 | i+1,_ :: _,[],h=>by simp at h
 | i+1,a :: x,b :: y,h=>by
  simp only [List.take_succ_cons,List.cons.injEq] at h
  obtain ⟨h1,h2⟩:=h
  subst h1
  simp only [List.drop_succ_cons]
  rw [← A28 h2]
  unfold ordW
  rw [A0p]
  cases x <;> cases y <;> simp [ordW]
theorem refOrdW {H:AH} {v u:Value} {l m:List ByteArray} (hl:Sl H v 1 (l.map A1b)) (hm:Sl H u 1 (m.map A1b)) (hll:l.length≤1048576) (hml:m.length≤1048576) (hw:Wf H):
  Sh.Call Tryz.prog (knows 10) 100 [v,u] H (fun r H'=>H'=H∧r=.int .i64 (ordW l m)):=by
 refine A4a rfl Tryz.func100 rfl (Nat.le_of_ble_eq_true rfl) ?_
 have hres:Tryz.f100.results.toList=[.tmp 4]:=rfl
 have hlen:=fun H'=>hl.len Tryz.underlying22 H'
 have mlen:=fun H'=>hm.len Tryz.underlying22 H'
 simp only [List.length_map] at hlen mlen
 simp only [↓Sh.dn,sx,Nat.reduceBEq,reduceCtorEq,Nat.reduceEqDiff]
 have hmin:min l.length m.length≤1048576:=by omega
 refine A0f (min l.length m.length) 5 (List.range' 5 31) (fun i F H'=>H'=H∧l.take i=m.take i) (by simp only [↓Sh.dn,sx,Nat.reduceBEq,reduceCtorEq,Nat.reduceEqDiff]) ⟨rfl,rfl⟩ ?_ ?_
 ·rintro i F H' hi hF f5 ⟨rfl,htk⟩ k
  have f0:=hF 0 rfl
  have f1:=hF 1 rfl
  simp only [↓Sh.dn,sx,Nat.reduceBEq,reduceCtorEq,Nat.reduceEqDiff] at f0 f1
  have hi1:i < l.length:=by omega
  have hi2:i < m.length:=by omega
  obtain ⟨p1,hia1,hc1⟩:=Sl.elem (s:=1) Tryz.underlying22 A2n hl (i:=i) (u:=.string l[i]) (by rw [List.getElem?_map,List.getElem?_eq_getElem hi1]; rfl)
  obtain ⟨p2,hia2,hc2⟩:=Sl.elem (s:=1) Tryz.underlying22 A2n hm (i:=i) (u:=.string m[i]) (by rw [List.getElem?_map,List.getElem?_eq_getElem hi2]; rfl)
  have ho:∀ k:Int,ordW (l[i] :: l.drop (i+1)) (m[i] :: m.drop (i+1))=k→ordW l m=k:=fun k hk=>by
   rw [A28 htk,List.drop_eq_getElem_cons hi1,List.drop_eq_getElem_cons hi2]; exact hk
  have ht1:l.take (i+1)=l.take i++[l[i]]:=by rw [List.take_add_one,List.getElem?_eq_getElem hi1]; rfl
  have ht2:m.take (i+1)=m.take i++[m[i]]:=by rw [List.take_add_one,List.getElem?_eq_getElem hi2]; rfl
  generalize l[i]=x at hc1 ho ht1
  generalize m[i]=y at hc2 ho ht2
  simp only [↓Sh.dn,sx,Nat.reduceBEq,reduceCtorEq,Nat.reduceEqDiff,f0,f1,f5,hlen,mlen,A5a,hi1,hi2,decide_true,hia1,hc1,hia2,hc2]
  cases hlt:A3o x y with
  | true=>
   have:=ho (-1) (by simp [ordW,hlt])
   simp only [↓Sh.dn,sx,Nat.reduceBEq,reduceCtorEq,Nat.reduceEqDiff,hres,this]
  | false=>
   by_cases hxy:x=y
   ·simp only [↓Sh.dn,sx,Nat.reduceBEq,reduceCtorEq,Nat.reduceEqDiff,f0,f1,f5,hia1,hc1,hia2,hc2,hlt,hxy,decide_true,A0p,wrap_succ hi hmin]
    exact k _ _ (by repeat (first | refine Same.put ?_ rfl | exact Same.rfl' _)) (by simp only [↓Sh.dn,sx,Nat.reduceBEq,reduceCtorEq,Nat.reduceEqDiff]) ⟨rfl,by rw [ht1,ht2,htk,hxy]⟩
   ·have:=ho 1 (by simp [ordW,hlt,hxy])
    simp only [↓Sh.dn,sx,Nat.reduceBEq,reduceCtorEq,Nat.reduceEqDiff,f0,f1,f5,hia1,hc1,hia2,hc2,hlt,hxy,decide_false,hres,this]
 ·rintro F H' hF f5 ⟨rfl,htk⟩
  have f0:=hF 0 rfl
  have f1:=hF 1 rfl
  simp only [↓Sh.dn,sx,Nat.reduceBEq,reduceCtorEq,Nat.reduceEqDiff] at f0 f1
  by_cases h1:l.length < m.length
  ·have e:min l.length m.length=l.length:=by omega
   rw [e] at f5 htk
   have:ordW l m=-1:=by
    rw [A28 htk,List.drop_length,List.drop_eq_getElem_cons h1]; rfl
   simp only [↓Sh.dn,sx,Nat.reduceBEq,reduceCtorEq,Nat.reduceEqDiff,f0,f1,f5,hlen,mlen,A5a,Nat.lt_irrefl,h1,decide_true,decide_false,hres,this]
  ·have e:min l.length m.length=m.length:=by omega
   rw [e] at f5 htk
   by_cases h2:m.length < l.length
   ·have : ordW l m = 1 := by
      rw [A28 htk, List.drop_length, List.drop_eq_getElem_cons h2]; rfl
    simp only [↓Sh.dn, sx, Nat.reduceBEq, reduceCtorEq, Nat.reduceEqDiff, f0, f1, f5, hlen, mlen, A5a, Nat.lt_irrefl, h1, h2, decide_true, decide_false, hres, this]
   ·have heq : l = m := by
      rw [List.take_length, List.take_of_length_le (by omega)] at htk
      exact htk
    have : ordW l m = 0 := by rw [heq, B00]
    simp only [↓Sh.dn, sx, Nat.reduceBEq, reduceCtorEq, Nat.reduceEqDiff, f0, f1, f5, hlen, mlen, A5a, Nat.lt_irrefl, h1, h2, decide_true, decide_false, hres, this]
theorem refOrder {H:AH} {v u:Value} {l m:List ByteArray} (hl:Sl H v 1 (l.map A1b)) (hm:Sl H u 1 (m.map A1b)) (hll:l.length≤1048576) (hml:m.length≤1048576) (hw:Wf H):
  Sh.Call Tryz.prog (knows 10) 100 [v,u] H (fun r H'=>H'=H∧∃ k:Int,r=.int .i64 k∧(k=0↔l=m)):=by
 refine (refOrdW hl hm hll hml hw).mono ?_
 rintro r H' ⟨rfl,rfl⟩
 exact ⟨rfl,_,rfl,C61⟩
theorem B9v {H:AH} {v u:Value} {l m:List ByteArray} (hl:Sl H v 1 (l.map A1b)) (hm:Sl H u 1 (m.map A1b)) (hll:l.length≤1048576) (hml:m.length≤1048576) (hw:Wf H):
  Sh.Call Tryz.prog (knows 10) 47 [v,u] H (fun r H'=>H'=H∧r=.bool (decide (l=m))):=by
 refine A4a rfl Tryz.func47 rfl (Nat.le_of_ble_eq_true rfl) ?_
 have hres:Tryz.f47.results.toList=[.tmp 4]:=rfl
 obtain ⟨r,H1,hd,rfl,k,rfl,hk⟩:=refOrder hl hm hll hml hw
 simp only [↓Sh.dn,sx,Nat.reduceBEq,reduceCtorEq,Nat.reduceEqDiff]
 refine ⟨_,_,hd,?_⟩
 have:decide (k=0)=decide (l=m):=decide_eq_decide.2 hk
 simp only [↓Sh.dn,sx,Nat.reduceBEq,reduceCtorEq,Nat.reduceEqDiff,hres,this]
structure LS (H:AH) (base:Nat) (z:Value) (l:List ByteArray) (ob:Option Nat):Prop where
 bf:Buf H 1 z (l.map A1b) ob
 fr:∀ y,ob=some y→base≤y
theorem LS.void (H:AH) (base:Nat):LS H base (.slice none 0 0) [] none:=⟨.void none,fun y hy=>by cases hy⟩
theorem LS.kept {H H':AH} {base:Nat} {z:Value} {l:List ByteArray} {ob:Option Nat} (h:LS H base z l ob) (hw:Wf H) (hk:Kept H H'):LS H' base z l ob:=⟨h.bf.kept hw hk,h.fr⟩
end Go.Proofs.YtnoengaghabmjaaGreat
/- What is made of a net, by its kind: its error and its pairs, by the reference; what is made. -/
namespace Go.Proofs.YtnoengaghabmjaaGreat
open Go Go.Proofs Go.Proofs.Sh
theorem C37 {H:AH} {v:Value} {N:NetD} (h:A4h H v N) (hsm:A3b N) (hw:Wf H):
  Sh.Call Tryz.prog (knows 10) 23 [v,.int .i64 0] H (fun r H'=>Kept H H'∧r=.int .i64 (A2b N 0)):=by
 refine A4a rfl Tryz.func23 rfl (Nat.le_of_ble_eq_true rfl) ?_
 have hres:Tryz.f23.results.toList=[.tmp 4]:=rfl
 obtain ⟨sg,ar,en,rfl,hsg,har,hen⟩:=h
 have hb3:=NetBox.of (N:=N) hw hsg har hen
 have k3:Kept H (H.new 4 [sg,.int .i64 N.states,ar,en]).2:=Kept.new hw 4 _
 simp only [↓Sh.dn,sx,Nat.reduceBEq,reduceCtorEq,Nat.reduceEqDiff,A1g hsg.isCell har.isCell hen.isCell]
 generalize H.next=gg at hb3 ⊢
 generalize (H.new 4 [sg,.int .i64 N.states,ar,en]).2=H3 at hb3 k3 ⊢
 obtain ⟨r4,H4,hd4,k4,rfl⟩:=A8t hb3.netAt hsm k3.wf
 simp only [↓Sh.dn,sx,Nat.reduceBEq,reduceCtorEq,Nat.reduceEqDiff,hb3.c0,hb3.c1,hb3.c2,hb3.c3,hb3.ca,A2a hb3,A1a hb3,A3a hb3,Option.map_some]
 refine ⟨_,_,hd4,?_⟩
 by_cases hE:A5f N=0
 case neg=>
  have e1:A2b N 0=A5f N:=by unfold A2b; rw [if_pos hE]
  simp only [↓Sh.dn,sx,Nat.reduceBEq,reduceCtorEq,Nat.reduceEqDiff,hE,decide_false,hres,e1]
  exact k3.trans k4
 have k34:=k3.trans k4
 have hb4:=hb3.kept k3.wf k4
 have d00:decide ((0:Int)=0)=true:=rfl
 have d01:decide ((0:Int)=1)=false:=rfl
 have d02:decide ((0:Int)=2)=false:=rfl
 have d03:decide ((0:Int)=3)=false:=rfl
 have d04:decide ((0:Int)=4)=false:=rfl
 have d05:decide ((0:Int)=5)=false:=rfl
 have e0:A2b N 0=if A97 N=true then 6 else 0:=by unfold A2b; rw [if_neg (by simpa using hE)]; rfl
 obtain ⟨r5,H5,hd5,k5,rfl⟩:=B1w hb4.netAt hsm k34.wf
 have k35:=k34.trans k5
 simp only [↓Sh.dn,sx,Nat.reduceBEq,reduceCtorEq,Nat.reduceEqDiff,hE,decide_true,hb4.c0,hb4.c1,hb4.c2,hb4.c3,hb4.ca,A2a hb4,A1a hb4,A3a hb4,Option.map_some,eq_self,decide_true,d00,d01,d02,d03,d04,d05]
 refine ⟨_,_,hd5,?_⟩
 cases hsd:(N.arcs.any fun a=>!decide (a.inn=a.out)) with
 | true=>
  have e1:A2b N 0=6:=by rw [e0]; exact if_pos (c:=A97 N=true) hsd
  simp only [↓Sh.dn,sx,Nat.reduceBEq,reduceCtorEq,Nat.reduceEqDiff,hres,e1,eq_self,decide_true,d00,d01,d02,d03,d04,d05]
  exact k35
 | false=>
  have e1:A2b N 0=0:=by rw [e0,if_neg (by unfold A97; rw [hsd]; simp)]
  simp only [↓Sh.dn,sx,Nat.reduceBEq,reduceCtorEq,Nat.reduceEqDiff,hres,e1,eq_self,decide_true,d00,d01,d02,d03,d04,d05]
  exact k35
theorem C0u {H:AH} {v:Value} {N:NetD} (h:A4h H v N) (hsm:A3b N) (hw:Wf H):
  Sh.Call Tryz.prog (knows 10) 23 [v,.int .i64 1] H (fun r H'=>Kept H H'∧r=.int .i64 (A2b N 1)):=by
 refine A4a rfl Tryz.func23 rfl (Nat.le_of_ble_eq_true rfl) ?_
 have hres:Tryz.f23.results.toList=[.tmp 4]:=rfl
 obtain ⟨sg,ar,en,rfl,hsg,har,hen⟩:=h
 have hb3:=NetBox.of (N:=N) hw hsg har hen
 have k3:Kept H (H.new 4 [sg,.int .i64 N.states,ar,en]).2:=Kept.new hw 4 _
 simp only [↓Sh.dn,sx,Nat.reduceBEq,reduceCtorEq,Nat.reduceEqDiff,A1g hsg.isCell har.isCell hen.isCell]
 generalize H.next=gg at hb3 ⊢
 generalize (H.new 4 [sg,.int .i64 N.states,ar,en]).2=H3 at hb3 k3 ⊢
 obtain ⟨r4,H4,hd4,k4,rfl⟩:=A8t hb3.netAt hsm k3.wf
 simp only [↓Sh.dn,sx,Nat.reduceBEq,reduceCtorEq,Nat.reduceEqDiff,hb3.c0,hb3.c1,hb3.c2,hb3.c3,hb3.ca,A2a hb3,A1a hb3,A3a hb3,Option.map_some]
 refine ⟨_,_,hd4,?_⟩
 by_cases hE:A5f N=0
 case neg=>
  have e1:A2b N 1=A5f N:=by unfold A2b; rw [if_pos hE]
  simp only [↓Sh.dn,sx,Nat.reduceBEq,reduceCtorEq,Nat.reduceEqDiff,hE,decide_false,hres,e1]
  exact k3.trans k4
 have k34:=k3.trans k4
 have hb4:=hb3.kept k3.wf k4
 have d10:decide ((1:Int)=0)=false:=rfl
 have d11:decide ((1:Int)=1)=true:=rfl
 have d12:decide ((1:Int)=2)=false:=rfl
 have d13:decide ((1:Int)=3)=false:=rfl
 have d14:decide ((1:Int)=4)=false:=rfl
 have d15:decide ((1:Int)=5)=false:=rfl
 have e0:A2b N 1=if A10 N=true then 3 else 0:=by unfold A2b; rw [if_neg (by simpa using hE)]; rfl
 unfold A10 at e0
 have hlA:=fun H'=>hb4.har.len Tryz.underlying23 H'
 have hlE:=fun H'=>hb4.hen.len Tryz.underlying24 H'
 simp only [List.length_map] at hlA hlE
 have q2:decide ((50000:Int) < (N.arcs.length:Int))=decide (50000 < N.arcs.length):=decide_eq_decide.2 (by omega)
 have q3:decide ((50000:Int) < (N.ends.length:Int))=decide (50000 < N.ends.length):=decide_eq_decide.2 (by omega)
 cases p1:decide (300 < N.states) with
 | true=>
  simp only [p1,Bool.true_or,if_true] at e0
  simp only [↓Sh.dn,sx,Nat.reduceBEq,reduceCtorEq,Nat.reduceEqDiff,hE,decide_true,hb4.c0,hb4.c1,hb4.c2,hb4.c3,hb4.ca,A2a hb4,A1a hb4,A3a hb4,Option.map_some,p1,hres,e0,eq_self,decide_true,d10,d11,d12,d13,d14,d15]
  exact k34
 | false=>
 cases p2:decide (50000 < N.arcs.length) with
 | true=>
  simp only [p1,p2,Bool.false_or,Bool.true_or,if_true] at e0
  simp only [↓Sh.dn,sx,Nat.reduceBEq,reduceCtorEq,Nat.reduceEqDiff,hE,decide_true,hb4.c0,hb4.c1,hb4.c2,hb4.c3,hb4.ca,A2a hb4,A1a hb4,A3a hb4,Option.map_some,p1,hlA,q2,p2,hres,e0,eq_self,decide_true,d10,d11,d12,d13,d14,d15]
  exact k34
 | false=>
 cases p3:decide (50000 < N.ends.length) with
 | true=>
  simp only [p1,p2,p3,Bool.false_or,if_true] at e0
  simp only [↓Sh.dn,sx,Nat.reduceBEq,reduceCtorEq,Nat.reduceEqDiff,hE,decide_true,hb4.c0,hb4.c1,hb4.c2,hb4.c3,hb4.ca,A2a hb4,A1a hb4,A3a hb4,Option.map_some,p1,hlA,q2,p2,hlE,q3,p3,hres,e0,eq_self,decide_true,d10,d11,d12,d13,d14,d15]
  exact k34
 | false=>
  simp only [p1,p2,p3,Bool.or_self,Bool.false_eq_true,if_false] at e0
  simp only [↓Sh.dn,sx,Nat.reduceBEq,reduceCtorEq,Nat.reduceEqDiff,hE,decide_true,hb4.c0,hb4.c1,hb4.c2,hb4.c3,hb4.ca,A2a hb4,A1a hb4,A3a hb4,Option.map_some,p1,hlA,q2,p2,hlE,q3,p3,hres,e0,eq_self,decide_true,d10,d11,d12,d13,d14,d15]
  exact k34
theorem C6v {H:AH} {v:Value} {N:NetD} (h:A4h H v N) (hsm:A3b N) (hw:Wf H):
  Sh.Call Tryz.prog (knows 10) 23 [v,.int .i64 2] H (fun r H'=>Kept H H'∧r=.int .i64 (A2b N 2)):=by
 refine A4a rfl Tryz.func23 rfl (Nat.le_of_ble_eq_true rfl) ?_
 have hres:Tryz.f23.results.toList=[.tmp 4]:=rfl
 obtain ⟨sg,ar,en,rfl,hsg,har,hen⟩:=h
 have hb3:=NetBox.of (N:=N) hw hsg har hen
 have k3:Kept H (H.new 4 [sg,.int .i64 N.states,ar,en]).2:=Kept.new hw 4 _
 simp only [↓Sh.dn,sx,Nat.reduceBEq,reduceCtorEq,Nat.reduceEqDiff,A1g hsg.isCell har.isCell hen.isCell]
 generalize H.next=gg at hb3 ⊢
 generalize (H.new 4 [sg,.int .i64 N.states,ar,en]).2=H3 at hb3 k3 ⊢
 obtain ⟨r4,H4,hd4,k4,rfl⟩:=A8t hb3.netAt hsm k3.wf
 simp only [↓Sh.dn,sx,Nat.reduceBEq,reduceCtorEq,Nat.reduceEqDiff,hb3.c0,hb3.c1,hb3.c2,hb3.c3,hb3.ca,A2a hb3,A1a hb3,A3a hb3,Option.map_some]
 refine ⟨_,_,hd4,?_⟩
 by_cases hE:A5f N=0
 case neg=>
  have e1:A2b N 2=A5f N:=by unfold A2b; rw [if_pos hE]
  simp only [↓Sh.dn,sx,Nat.reduceBEq,reduceCtorEq,Nat.reduceEqDiff,hE,decide_false,hres,e1]
  exact k3.trans k4
 have k34:=k3.trans k4
 have hb4:=hb3.kept k3.wf k4
 have d20:decide ((2:Int)=0)=false:=rfl
 have d21:decide ((2:Int)=1)=false:=rfl
 have d22:decide ((2:Int)=2)=true:=rfl
 have d23:decide ((2:Int)=3)=false:=rfl
 have d24:decide ((2:Int)=4)=false:=rfl
 have d25:decide ((2:Int)=5)=false:=rfl
 have e1:A2b N 2=0:=by unfold A2b; rw [if_neg (by simpa using hE)]; rfl
 simp only [↓Sh.dn,sx,Nat.reduceBEq,reduceCtorEq,Nat.reduceEqDiff,hE,decide_true,hb4.c0,hb4.c1,hb4.c2,hb4.c3,hb4.ca,A2a hb4,A1a hb4,A3a hb4,Option.map_some,hres,e1,eq_self,decide_true,d20,d21,d22,d23,d24,d25]
 exact k34
theorem C3z {H:AH} {v:Value} {N:NetD} (h:A4h H v N) (hsm:A3b N) (hw:Wf H):
  Sh.Call Tryz.prog (knows 10) 23 [v,.int .i64 3] H (fun r H'=>Kept H H'∧r=.int .i64 (A2b N 3)):=by
 refine A4a rfl Tryz.func23 rfl (Nat.le_of_ble_eq_true rfl) ?_
 have hres:Tryz.f23.results.toList=[.tmp 4]:=rfl
 obtain ⟨sg,ar,en,rfl,hsg,har,hen⟩:=h
 have hb3:=NetBox.of (N:=N) hw hsg har hen
 have k3:Kept H (H.new 4 [sg,.int .i64 N.states,ar,en]).2:=Kept.new hw 4 _
 simp only [↓Sh.dn,sx,Nat.reduceBEq,reduceCtorEq,Nat.reduceEqDiff,A1g hsg.isCell har.isCell hen.isCell]
 generalize H.next=gg at hb3 ⊢
 generalize (H.new 4 [sg,.int .i64 N.states,ar,en]).2=H3 at hb3 k3 ⊢
 obtain ⟨r4,H4,hd4,k4,rfl⟩:=A8t hb3.netAt hsm k3.wf
 simp only [↓Sh.dn,sx,Nat.reduceBEq,reduceCtorEq,Nat.reduceEqDiff,hb3.c0,hb3.c1,hb3.c2,hb3.c3,hb3.ca,A2a hb3,A1a hb3,A3a hb3,Option.map_some]
 refine ⟨_,_,hd4,?_⟩
 by_cases hE:A5f N=0
 case neg=>
  have e1:A2b N 3=A5f N:=by unfold A2b; rw [if_pos hE]
  simp only [↓Sh.dn,sx,Nat.reduceBEq,reduceCtorEq,Nat.reduceEqDiff,hE,decide_false,hres,e1]
  exact k3.trans k4
 have k34:=k3.trans k4
 have hb4:=hb3.kept k3.wf k4
 have d30:decide ((3:Int)=0)=false:=rfl
 have d31:decide ((3:Int)=1)=false:=rfl
 have d32:decide ((3:Int)=2)=false:=rfl
 have d33:decide ((3:Int)=3)=true:=rfl
 have d34:decide ((3:Int)=4)=false:=rfl
 have d35:decide ((3:Int)=5)=false:=rfl
 have e0:A2b N 3=if decide (300 < N.states)=true then 3 else 0:=by unfold A2b; rw [if_neg (by simpa using hE)]; rfl
 cases hgr:decide (300 < N.states) with
 | true=>
  rw [hgr,if_pos rfl] at e0
  simp only [↓Sh.dn,sx,Nat.reduceBEq,reduceCtorEq,Nat.reduceEqDiff,hE,decide_true,hb4.c0,hb4.c1,hb4.c2,hb4.c3,hb4.ca,A2a hb4,A1a hb4,A3a hb4,Option.map_some,hgr,hres,e0,eq_self,decide_true,d30,d31,d32,d33,d34,d35]
  exact k34
 | false=>
  rw [hgr,if_neg (by simp)] at e0
  simp only [↓Sh.dn,sx,Nat.reduceBEq,reduceCtorEq,Nat.reduceEqDiff,hE,decide_true,hb4.c0,hb4.c1,hb4.c2,hb4.c3,hb4.ca,A2a hb4,A1a hb4,A3a hb4,Option.map_some,hgr,hres,e0,eq_self,decide_true,d30,d31,d32,d33,d34,d35]
  exact k34
theorem C8y {H:AH} {v:Value} {N:NetD} (h:A4h H v N) (hsm:A3b N) (hw:Wf H):
  Sh.Call Tryz.prog (knows 10) 23 [v,.int .i64 4] H (fun r H'=>Kept H H'∧r=.int .i64 (A2b N 4)):=by
 refine A4a rfl Tryz.func23 rfl (Nat.le_of_ble_eq_true rfl) ?_
 have hres:Tryz.f23.results.toList=[.tmp 4]:=rfl
 obtain ⟨sg,ar,en,rfl,hsg,har,hen⟩:=h
 have hb3:=NetBox.of (N:=N) hw hsg har hen
 have k3:Kept H (H.new 4 [sg,.int .i64 N.states,ar,en]).2:=Kept.new hw 4 _
 simp only [↓Sh.dn,sx,Nat.reduceBEq,reduceCtorEq,Nat.reduceEqDiff,A1g hsg.isCell har.isCell hen.isCell]
 generalize H.next=gg at hb3 ⊢
 generalize (H.new 4 [sg,.int .i64 N.states,ar,en]).2=H3 at hb3 k3 ⊢
 obtain ⟨r4,H4,hd4,k4,rfl⟩:=A8t hb3.netAt hsm k3.wf
 simp only [↓Sh.dn,sx,Nat.reduceBEq,reduceCtorEq,Nat.reduceEqDiff,hb3.c0,hb3.c1,hb3.c2,hb3.c3,hb3.ca,A2a hb3,A1a hb3,A3a hb3,Option.map_some]
 refine ⟨_,_,hd4,?_⟩
 by_cases hE:A5f N=0
 case neg=>
  have e1:A2b N 4=A5f N:=by unfold A2b; rw [if_pos hE]
  simp only [↓Sh.dn,sx,Nat.reduceBEq,reduceCtorEq,Nat.reduceEqDiff,hE,decide_false,hres,e1]
  exact k3.trans k4
 have k34:=k3.trans k4
 have hb4:=hb3.kept k3.wf k4
 have d40:decide ((4:Int)=0)=false:=rfl
 have d41:decide ((4:Int)=1)=false:=rfl
 have d42:decide ((4:Int)=2)=false:=rfl
 have d43:decide ((4:Int)=3)=false:=rfl
 have d44:decide ((4:Int)=4)=true:=rfl
 have d45:decide ((4:Int)=5)=false:=rfl
 have e0:A2b N 4=if decide (300 < N.states)=true then 3 else 0:=by unfold A2b; rw [if_neg (by simpa using hE)]; rfl
 cases hgr:decide (300 < N.states) with
 | true=>
  rw [hgr,if_pos rfl] at e0
  simp only [↓Sh.dn,sx,Nat.reduceBEq,reduceCtorEq,Nat.reduceEqDiff,hE,decide_true,hb4.c0,hb4.c1,hb4.c2,hb4.c3,hb4.ca,A2a hb4,A1a hb4,A3a hb4,Option.map_some,hgr,hres,e0,eq_self,decide_true,d40,d41,d42,d43,d44,d45]
  exact k34
 | false=>
  rw [hgr,if_neg (by simp)] at e0
  simp only [↓Sh.dn,sx,Nat.reduceBEq,reduceCtorEq,Nat.reduceEqDiff,hE,decide_true,hb4.c0,hb4.c1,hb4.c2,hb4.c3,hb4.ca,A2a hb4,A1a hb4,A3a hb4,Option.map_some,hgr,hres,e0,eq_self,decide_true,d40,d41,d42,d43,d44,d45]
  exact k34
theorem C7v {H:AH} {v:Value} {N:NetD} (h:A4h H v N) (hsm:A3b N) (hw:Wf H):
  Sh.Call Tryz.prog (knows 10) 23 [v,.int .i64 5] H (fun r H'=>Kept H H'∧r=.int .i64 (A2b N 5)):=by
 refine A4a rfl Tryz.func23 rfl (Nat.le_of_ble_eq_true rfl) ?_
 have hres:Tryz.f23.results.toList=[.tmp 4]:=rfl
 obtain ⟨sg,ar,en,rfl,hsg,har,hen⟩:=h
 have hb3:=NetBox.of (N:=N) hw hsg har hen
 have k3:Kept H (H.new 4 [sg,.int .i64 N.states,ar,en]).2:=Kept.new hw 4 _
 simp only [↓Sh.dn,sx,Nat.reduceBEq,reduceCtorEq,Nat.reduceEqDiff,A1g hsg.isCell har.isCell hen.isCell]
 generalize H.next=gg at hb3 ⊢
 generalize (H.new 4 [sg,.int .i64 N.states,ar,en]).2=H3 at hb3 k3 ⊢
 obtain ⟨r4,H4,hd4,k4,rfl⟩:=A8t hb3.netAt hsm k3.wf
 simp only [↓Sh.dn,sx,Nat.reduceBEq,reduceCtorEq,Nat.reduceEqDiff,hb3.c0,hb3.c1,hb3.c2,hb3.c3,hb3.ca,A2a hb3,A1a hb3,A3a hb3,Option.map_some]
 refine ⟨_,_,hd4,?_⟩
 by_cases hE:A5f N=0
 case neg=>
  have e1:A2b N 5=A5f N:=by unfold A2b; rw [if_pos hE]
  simp only [↓Sh.dn,sx,Nat.reduceBEq,reduceCtorEq,Nat.reduceEqDiff,hE,decide_false,hres,e1]
  exact k3.trans k4
 have k34:=k3.trans k4
 have hb4:=hb3.kept k3.wf k4
 have d50:decide ((5:Int)=0)=false:=rfl
 have d51:decide ((5:Int)=1)=false:=rfl
 have d52:decide ((5:Int)=2)=false:=rfl
 have d53:decide ((5:Int)=3)=false:=rfl
 have d54:decide ((5:Int)=4)=false:=rfl
 have d55:decide ((5:Int)=5)=true:=rfl
 have e1:A2b N 5=0:=by unfold A2b; rw [if_neg (by simpa using hE)]; rfl
 simp only [↓Sh.dn,sx,Nat.reduceBEq,reduceCtorEq,Nat.reduceEqDiff,hE,decide_true,hb4.c0,hb4.c1,hb4.c2,hb4.c3,hb4.ca,A2a hb4,A1a hb4,A3a hb4,Option.map_some,hres,e1,eq_self,decide_true,d50,d51,d52,d53,d54,d55]
 exact k34
theorem C4n {H:AH} {v:Value} {N:NetD} {kd:Nat} (hkd:kd < 6) (h:A4h H v N) (hsm:A3b N) (hw:Wf H):
  Sh.Call Tryz.prog (knows 10) 23 [v,.int .i64 (kd:Int)] H (fun r H'=>Kept H H'∧r=.int .i64 (A2b N kd)):=by
 obtain rfl | rfl | rfl | rfl | rfl | rfl:kd=0∨kd=1∨kd=2∨kd=3∨kd=4∨kd=5:=by omega
 ·exact C37 h hsm hw
 ·exact C0u h hsm hw
 ·exact C6v h hsm hw
 ·exact C3z h hsm hw
 ·exact C8y h hsm hw
 ·exact C7v h hsm hw
theorem C1r {H:AH} {v ux uy:Value} {N:NetD} {x y:List ByteArray} (h:A4h H v N) (hok:A1k N) (hsm:A3b N) (hx:Sl H ux 1 (x.map A1b)) (hy:Sl H uy 1 (y.map A1b)) (hxl:x.length≤400) (hyl:y.length≤400) (hw:Wf H):
  Sh.Call Tryz.prog (knows 10) 24 [v,.int .i64 0,ux,uy] H (fun r H'=>Kept H H'∧r=.bool (tB (A7i N 0 x y))):=by
 refine A4a rfl Tryz.func24 rfl (Nat.le_of_ble_eq_true rfl) ?_
 have hres:Tryz.f24.results.toList=[.tmp 8]:=rfl
 obtain ⟨sg,ar,en,rfl,hsg,har,hen⟩:=h
 have hb3:=NetBox.of (N:=N) hw hsg har hen
 have k3:Kept H (H.new 4 [sg,.int .i64 N.states,ar,en]).2:=Kept.new hw 4 _
 simp only [↓Sh.dn,sx,Nat.reduceBEq,reduceCtorEq,Nat.reduceEqDiff,A1g hsg.isCell har.isCell hen.isCell]
 generalize H.next=gg at hb3 ⊢
 generalize (H.new 4 [sg,.int .i64 N.states,ar,en]).2=H3 at hb3 k3 ⊢
 have hx3:=hx.grow (k3.grow hw)
 have hy3:=hy.grow (k3.grow hw)
 have d00:decide ((0:Int)=0)=true:=rfl
 have d01:decide ((0:Int)=1)=false:=rfl
 have d02:decide ((0:Int)=2)=false:=rfl
 have d03:decide ((0:Int)=3)=false:=rfl
 have d04:decide ((0:Int)=4)=false:=rfl
 have d05:decide ((0:Int)=5)=false:=rfl
 obtain ⟨r4,H4,hd4,rfl,rfl⟩:=B9v hx3 hy3 (by omega) (by omega) k3.wf
 have e0:A7i N 0 x y↔(x=y∧A5p (N) x):=Iff.rfl
 simp only [↓Sh.dn,sx,Nat.reduceBEq,reduceCtorEq,Nat.reduceEqDiff,hb3.c0,hb3.c1,hb3.c2,hb3.c3,hb3.ca,A2a hb3,A1a hb3,A3a hb3,Option.map_some,eq_self,decide_true,d00,d01,d02,d03,d04,d05]
 refine ⟨_,_,hd4,?_⟩
 by_cases hxy:x=y
 case neg=>
  have e1:tB (A7i N 0 x y)=false:=by rw [Bool.eq_false_iff]; intro ht; exact hxy (e0.1 (A55.1 ht)).1
  simp only [↓Sh.dn,sx,Nat.reduceBEq,reduceCtorEq,Nat.reduceEqDiff,hxy,decide_false,hres,e1,hb3.c0,hb3.c1,hb3.c2,hb3.c3,hb3.ca,A2a hb3,A1a hb3,A3a hb3,Option.map_some,eq_self,decide_true,d00,d01,d02,d03,d04,d05]
  exact k3
 obtain ⟨r5,H5,hd5,k5,rfl⟩:=B3u hb3.netAt hok hsm hx3 (by omega) k3.wf
 have e1:tB (A5p (N) x)=tB (A7i N 0 x y):=A37 ⟨fun h=>e0.2 ⟨hxy,h⟩,fun h=>(e0.1 h).2⟩
 rw [e1] at hd5
 simp only [↓Sh.dn,sx,Nat.reduceBEq,reduceCtorEq,Nat.reduceEqDiff,hxy,decide_true,hb3.c0,hb3.c1,hb3.c2,hb3.c3,hb3.ca,A2a hb3,A1a hb3,A3a hb3,Option.map_some,eq_self,decide_true,d00,d01,d02,d03,d04,d05]
 rw [← hxy]
 refine ⟨_,_,hd5,?_⟩
 simp only [↓Sh.dn,sx,Nat.reduceBEq,reduceCtorEq,Nat.reduceEqDiff,hres]
 rw [← hxy]
 exact ⟨k3.trans k5,rfl⟩
theorem C6p {H:AH} {v ux uy:Value} {N:NetD} {x y:List ByteArray} (h:A4h H v N) (hok:A1k N) (hsm:A3b N) (hx:Sl H ux 1 (x.map A1b)) (hy:Sl H uy 1 (y.map A1b)) (hxl:x.length≤400) (hyl:y.length≤400) (hw:Wf H):
  Sh.Call Tryz.prog (knows 10) 24 [v,.int .i64 1,ux,uy] H (fun r H'=>Kept H H'∧r=.bool (tB (A7i N 1 x y))):=by
 refine A4a rfl Tryz.func24 rfl (Nat.le_of_ble_eq_true rfl) ?_
 have hres:Tryz.f24.results.toList=[.tmp 8]:=rfl
 obtain ⟨sg,ar,en,rfl,hsg,har,hen⟩:=h
 have hb3:=NetBox.of (N:=N) hw hsg har hen
 have k3:Kept H (H.new 4 [sg,.int .i64 N.states,ar,en]).2:=Kept.new hw 4 _
 simp only [↓Sh.dn,sx,Nat.reduceBEq,reduceCtorEq,Nat.reduceEqDiff,A1g hsg.isCell har.isCell hen.isCell]
 generalize H.next=gg at hb3 ⊢
 generalize (H.new 4 [sg,.int .i64 N.states,ar,en]).2=H3 at hb3 k3 ⊢
 have hx3:=hx.grow (k3.grow hw)
 have hy3:=hy.grow (k3.grow hw)
 have d10:decide ((1:Int)=0)=false:=rfl
 have d11:decide ((1:Int)=1)=true:=rfl
 have d12:decide ((1:Int)=2)=false:=rfl
 have d13:decide ((1:Int)=3)=false:=rfl
 have d14:decide ((1:Int)=4)=false:=rfl
 have d15:decide ((1:Int)=5)=false:=rfl
 obtain ⟨r5,H5,hd5,k5,rfl⟩:=refMany hb3.netAt hok hsm hx3 hy3 hxl hyl k3.wf
 have e1:tB (ManyP (A7k N) x y)=tB (A7i N 1 x y):=rfl
 rw [e1] at hd5
 simp only [↓Sh.dn,sx,Nat.reduceBEq,reduceCtorEq,Nat.reduceEqDiff,hb3.c0,hb3.c1,hb3.c2,hb3.c3,hb3.ca,A2a hb3,A1a hb3,A3a hb3,Option.map_some,eq_self,decide_true,d10,d11,d12,d13,d14,d15]
 refine ⟨_,_,hd5,?_⟩
 simp only [↓Sh.dn,sx,Nat.reduceBEq,reduceCtorEq,Nat.reduceEqDiff,hres]
 exact k3.trans k5
theorem C2r {H:AH} {v ux uy:Value} {N:NetD} {x y:List ByteArray} (h:A4h H v N) (hok:A1k N) (hsm:A3b N) (hx:Sl H ux 1 (x.map A1b)) (hy:Sl H uy 1 (y.map A1b)) (hxl:x.length≤400) (hyl:y.length≤400) (hw:Wf H):
  Sh.Call Tryz.prog (knows 10) 24 [v,.int .i64 2,ux,uy] H (fun r H'=>Kept H H'∧r=.bool (tB (A7i N 2 x y))):=by
 refine A4a rfl Tryz.func24 rfl (Nat.le_of_ble_eq_true rfl) ?_
 have hres:Tryz.f24.results.toList=[.tmp 8]:=rfl
 obtain ⟨sg,ar,en,rfl,hsg,har,hen⟩:=h
 have hb3:=NetBox.of (N:=N) hw hsg har hen
 have k3:Kept H (H.new 4 [sg,.int .i64 N.states,ar,en]).2:=Kept.new hw 4 _
 simp only [↓Sh.dn,sx,Nat.reduceBEq,reduceCtorEq,Nat.reduceEqDiff,A1g hsg.isCell har.isCell hen.isCell]
 generalize H.next=gg at hb3 ⊢
 generalize (H.new 4 [sg,.int .i64 N.states,ar,en]).2=H3 at hb3 k3 ⊢
 have hx3:=hx.grow (k3.grow hw)
 have hy3:=hy.grow (k3.grow hw)
 have d20:decide ((2:Int)=0)=false:=rfl
 have d21:decide ((2:Int)=1)=false:=rfl
 have d22:decide ((2:Int)=2)=true:=rfl
 have d23:decide ((2:Int)=3)=false:=rfl
 have d24:decide ((2:Int)=4)=false:=rfl
 have d25:decide ((2:Int)=5)=false:=rfl
 obtain ⟨r5,H5,hd5,k5,rfl⟩:=B98 hb3.netAt hok hsm hy3 hx3 hyl hxl k3.wf
 have e1:tB (A7k N y x)=tB (A7i N 2 x y):=rfl
 rw [e1] at hd5
 simp only [↓Sh.dn,sx,Nat.reduceBEq,reduceCtorEq,Nat.reduceEqDiff,hb3.c0,hb3.c1,hb3.c2,hb3.c3,hb3.ca,A2a hb3,A1a hb3,A3a hb3,Option.map_some,eq_self,decide_true,d20,d21,d22,d23,d24,d25]
 refine ⟨_,_,hd5,?_⟩
 simp only [↓Sh.dn,sx,Nat.reduceBEq,reduceCtorEq,Nat.reduceEqDiff,hres]
 exact k3.trans k5
theorem C4p {H:AH} {v ux uy:Value} {N:NetD} {x y:List ByteArray} (h:A4h H v N) (hok:A1k N) (hsm:A3b N) (hx:Sl H ux 1 (x.map A1b)) (hy:Sl H uy 1 (y.map A1b)) (hxl:x.length≤400) (hyl:y.length≤400) (hw:Wf H):
  Sh.Call Tryz.prog (knows 10) 24 [v,.int .i64 3,ux,uy] H (fun r H'=>Kept H H'∧r=.bool (tB (A7i N 3 x y))):=by
 refine A4a rfl Tryz.func24 rfl (Nat.le_of_ble_eq_true rfl) ?_
 have hres:Tryz.f24.results.toList=[.tmp 8]:=rfl
 obtain ⟨sg,ar,en,rfl,hsg,har,hen⟩:=h
 have hb3:=NetBox.of (N:=N) hw hsg har hen
 have k3:Kept H (H.new 4 [sg,.int .i64 N.states,ar,en]).2:=Kept.new hw 4 _
 simp only [↓Sh.dn,sx,Nat.reduceBEq,reduceCtorEq,Nat.reduceEqDiff,A1g hsg.isCell har.isCell hen.isCell]
 generalize H.next=gg at hb3 ⊢
 generalize (H.new 4 [sg,.int .i64 N.states,ar,en]).2=H3 at hb3 k3 ⊢
 have hx3:=hx.grow (k3.grow hw)
 have hy3:=hy.grow (k3.grow hw)
 have d30:decide ((3:Int)=0)=false:=rfl
 have d31:decide ((3:Int)=1)=false:=rfl
 have d32:decide ((3:Int)=2)=false:=rfl
 have d33:decide ((3:Int)=3)=true:=rfl
 have d34:decide ((3:Int)=4)=false:=rfl
 have d35:decide ((3:Int)=5)=false:=rfl
 obtain ⟨r4,H4,hd4,rfl,rfl⟩:=B9v hx3 hy3 (by omega) (by omega) k3.wf
 have e0:A7i N 3 x y↔(x=y∧A5p (N) x):=Iff.rfl
 simp only [↓Sh.dn,sx,Nat.reduceBEq,reduceCtorEq,Nat.reduceEqDiff,hb3.c0,hb3.c1,hb3.c2,hb3.c3,hb3.ca,A2a hb3,A1a hb3,A3a hb3,Option.map_some,eq_self,decide_true,d30,d31,d32,d33,d34,d35]
 refine ⟨_,_,hd4,?_⟩
 by_cases hxy:x=y
 case neg=>
  have e1:tB (A7i N 3 x y)=false:=by rw [Bool.eq_false_iff]; intro ht; exact hxy (e0.1 (A55.1 ht)).1
  simp only [↓Sh.dn,sx,Nat.reduceBEq,reduceCtorEq,Nat.reduceEqDiff,hxy,decide_false,hres,e1,hb3.c0,hb3.c1,hb3.c2,hb3.c3,hb3.ca,A2a hb3,A1a hb3,A3a hb3,Option.map_some,eq_self,decide_true,d30,d31,d32,d33,d34,d35]
  exact k3
 obtain ⟨r5,H5,hd5,k5,rfl⟩:=B3u hb3.netAt hok hsm hx3 (by omega) k3.wf
 have e1:tB (A5p (N) x)=tB (A7i N 3 x y):=A37 ⟨fun h=>e0.2 ⟨hxy,h⟩,fun h=>(e0.1 h).2⟩
 rw [e1] at hd5
 simp only [↓Sh.dn,sx,Nat.reduceBEq,reduceCtorEq,Nat.reduceEqDiff,hxy,decide_true,hb3.c0,hb3.c1,hb3.c2,hb3.c3,hb3.ca,A2a hb3,A1a hb3,A3a hb3,Option.map_some,eq_self,decide_true,d30,d31,d32,d33,d34,d35]
 rw [← hxy]
 refine ⟨_,_,hd5,?_⟩
 simp only [↓Sh.dn,sx,Nat.reduceBEq,reduceCtorEq,Nat.reduceEqDiff,hres]
 rw [← hxy]
 exact ⟨k3.trans k5,rfl⟩
theorem C6q {H:AH} {v ux uy:Value} {N:NetD} {x y:List ByteArray} (h:A4h H v N) (hok:A1k N) (hsm:A3b N) (hx:Sl H ux 1 (x.map A1b)) (hy:Sl H uy 1 (y.map A1b)) (hxl:x.length≤400) (hyl:y.length≤400) (hw:Wf H):
  Sh.Call Tryz.prog (knows 10) 24 [v,.int .i64 4,ux,uy] H (fun r H'=>Kept H H'∧r=.bool (tB (A7i N 4 x y))):=by
 refine A4a rfl Tryz.func24 rfl (Nat.le_of_ble_eq_true rfl) ?_
 have hres:Tryz.f24.results.toList=[.tmp 8]:=rfl
 obtain ⟨sg,ar,en,rfl,hsg,har,hen⟩:=h
 have hb3:=NetBox.of (N:=N) hw hsg har hen
 have k3:Kept H (H.new 4 [sg,.int .i64 N.states,ar,en]).2:=Kept.new hw 4 _
 simp only [↓Sh.dn,sx,Nat.reduceBEq,reduceCtorEq,Nat.reduceEqDiff,A1g hsg.isCell har.isCell hen.isCell]
 generalize H.next=gg at hb3 ⊢
 generalize (H.new 4 [sg,.int .i64 N.states,ar,en]).2=H3 at hb3 k3 ⊢
 have hx3:=hx.grow (k3.grow hw)
 have hy3:=hy.grow (k3.grow hw)
 have d40:decide ((4:Int)=0)=false:=rfl
 have d41:decide ((4:Int)=1)=false:=rfl
 have d42:decide ((4:Int)=2)=false:=rfl
 have d43:decide ((4:Int)=3)=false:=rfl
 have d44:decide ((4:Int)=4)=true:=rfl
 have d45:decide ((4:Int)=5)=false:=rfl
 obtain ⟨r4,H4,hd4,rfl,rfl⟩:=B9v hx3 hy3 (by omega) (by omega) k3.wf
 have e0:A7i N 4 x y↔(x=y∧A5p (B9a N) x):=Iff.rfl
 simp only [↓Sh.dn,sx,Nat.reduceBEq,reduceCtorEq,Nat.reduceEqDiff,hb3.c0,hb3.c1,hb3.c2,hb3.c3,hb3.ca,A2a hb3,A1a hb3,A3a hb3,Option.map_some,eq_self,decide_true,d40,d41,d42,d43,d44,d45]
 refine ⟨_,_,hd4,?_⟩
 by_cases hxy:x=y
 case neg=>
  have e1:tB (A7i N 4 x y)=false:=by rw [Bool.eq_false_iff]; intro ht; exact hxy (e0.1 (A55.1 ht)).1
  simp only [↓Sh.dn,sx,Nat.reduceBEq,reduceCtorEq,Nat.reduceEqDiff,hxy,decide_false,hres,e1,hb3.c0,hb3.c1,hb3.c2,hb3.c3,hb3.ca,A2a hb3,A1a hb3,A3a hb3,Option.map_some,eq_self,decide_true,d40,d41,d42,d43,d44,d45]
  exact k3
 obtain ⟨r5,H5,hd5,k5,rfl⟩:=refBelow hb3.netAt hok hsm hx3 (by omega) k3.wf
 have e1:tB (A5p (B9a N) x)=tB (A7i N 4 x y):=A37 ⟨fun h=>e0.2 ⟨hxy,h⟩,fun h=>(e0.1 h).2⟩
 rw [e1] at hd5
 simp only [↓Sh.dn,sx,Nat.reduceBEq,reduceCtorEq,Nat.reduceEqDiff,hxy,decide_true,hb3.c0,hb3.c1,hb3.c2,hb3.c3,hb3.ca,A2a hb3,A1a hb3,A3a hb3,Option.map_some,eq_self,decide_true,d40,d41,d42,d43,d44,d45]
 rw [← hxy]
 refine ⟨_,_,hd5,?_⟩
 simp only [↓Sh.dn,sx,Nat.reduceBEq,reduceCtorEq,Nat.reduceEqDiff,hres]
 rw [← hxy]
 exact ⟨k3.trans k5,rfl⟩
theorem C2q {H:AH} {v ux uy:Value} {N:NetD} {x y:List ByteArray} (h:A4h H v N) (hok:A1k N) (hsm:A3b N) (hx:Sl H ux 1 (x.map A1b)) (hy:Sl H uy 1 (y.map A1b)) (hxl:x.length≤400) (hyl:y.length≤400) (hw:Wf H):
  Sh.Call Tryz.prog (knows 10) 24 [v,.int .i64 5,ux,uy] H (fun r H'=>Kept H H'∧r=.bool (tB (A7i N 5 x y))):=by
 refine A4a rfl Tryz.func24 rfl (Nat.le_of_ble_eq_true rfl) ?_
 have hres:Tryz.f24.results.toList=[.tmp 8]:=rfl
 obtain ⟨sg,ar,en,rfl,hsg,har,hen⟩:=h
 have hb3:=NetBox.of (N:=N) hw hsg har hen
 have k3:Kept H (H.new 4 [sg,.int .i64 N.states,ar,en]).2:=Kept.new hw 4 _
 simp only [↓Sh.dn,sx,Nat.reduceBEq,reduceCtorEq,Nat.reduceEqDiff,A1g hsg.isCell har.isCell hen.isCell]
 generalize H.next=gg at hb3 ⊢
 generalize (H.new 4 [sg,.int .i64 N.states,ar,en]).2=H3 at hb3 k3 ⊢
 have hx3:=hx.grow (k3.grow hw)
 have hy3:=hy.grow (k3.grow hw)
 have d50:decide ((5:Int)=0)=false:=rfl
 have d51:decide ((5:Int)=1)=false:=rfl
 have d52:decide ((5:Int)=2)=false:=rfl
 have d53:decide ((5:Int)=3)=false:=rfl
 have d54:decide ((5:Int)=4)=false:=rfl
 have d55:decide ((5:Int)=5)=true:=rfl
 obtain ⟨r5,H5,hd5,k5,rfl⟩:=B98 hb3.netAt hok hsm hx3 hy3 hxl hyl k3.wf
 have e1:tB (A7k N x y)=tB (A7i N 5 x y):=rfl
 rw [e1] at hd5
 simp only [↓Sh.dn,sx,Nat.reduceBEq,reduceCtorEq,Nat.reduceEqDiff,hb3.c0,hb3.c1,hb3.c2,hb3.c3,hb3.ca,A2a hb3,A1a hb3,A3a hb3,Option.map_some,eq_self,decide_true,d50,d51,d52,d53,d54,d55]
 refine ⟨_,_,hd5,?_⟩
 simp only [↓Sh.dn,sx,Nat.reduceBEq,reduceCtorEq,Nat.reduceEqDiff,hres]
 exact k3.trans k5
theorem B7z {H:AH} {v ux uy:Value} {N:NetD} {x y:List ByteArray} {kd:Nat} (hkd:kd < 6) (h:A4h H v N) (hok:A1k N) (hsm:A3b N) (hx:Sl H ux 1 (x.map A1b)) (hy:Sl H uy 1 (y.map A1b)) (hxl:x.length≤400) (hyl:y.length≤400) (hw:Wf H):
  Sh.Call Tryz.prog (knows 10) 24 [v,.int .i64 (kd:Int),ux,uy] H (fun r H'=>Kept H H'∧r=.bool (tB (A7i N kd x y))):=by
 obtain rfl | rfl | rfl | rfl | rfl | rfl:kd=0∨kd=1∨kd=2∨kd=3∨kd=4∨kd=5:=by omega
 ·exact C1r h hok hsm hx hy hxl hyl hw
 ·exact C6p h hok hsm hx hy hxl hyl hw
 ·exact C2r h hok hsm hx hy hxl hyl hw
 ·exact C4p h hok hsm hx hy hxl hyl hw
 ·exact C6q h hok hsm hx hy hxl hyl hw
 ·exact C2q h hok hsm hx hy hxl hyl hw
theorem lawTurn0 {H:AH} {v:Value} {N:NetD} (h:A4h H v N) (hsm:A3b N) (hw:Wf H):
  Sh.Call Tryz.prog (knows 10) 22 [v,.int .i64 0] H (fun r H'=>MakeOut H H' N.sigma (A2b N 0) (A7i N 0) (A5v 0) r):=by
 refine A4a rfl Tryz.func22 rfl (Nat.le_of_ble_eq_true rfl) ?_
 have hres:Tryz.f22.results.toList=[.cell 4 26,.tmp 5]:=rfl
 obtain ⟨sg,ar,en,rfl,hsg,har,hen⟩:=h
 have hb1:=NetBox.of (N:=N) hw hsg har hen
 have k1:Kept H (H.new 4 [sg,.int .i64 N.states,ar,en]).2:=Kept.new hw 4 _
 simp only [↓Sh.dn,sx,Nat.reduceBEq,reduceCtorEq,Nat.reduceEqDiff,A1g hsg.isCell har.isCell hen.isCell,A5b]
 generalize H.next=gg at hb1 ⊢
 generalize (H.new 4 [sg,.int .i64 N.states,ar,en]).2=H1 at hb1 k1 ⊢
 have sl:Slot (H1.new 4 [.slice none 0 0,.int .i64 0,.slice none 0 0,.slice none 0 0]).2 H1.next:=Slot.new
 have k3:=k1.news 4 [.slice none 0 0,.int .i64 0,.slice none 0 0,.slice none 0 0]
 have hb3:=hb1.new k1.wf 4 [.slice none 0 0,.int .i64 0,.slice none 0 0,.slice none 0 0]
 have gol:H.next≤H1.next:=k1.next
 generalize H1.next=go at sl gol ⊢
 generalize (H1.new 4 [.slice none 0 0,.int .i64 0,.slice none 0 0,.slice none 0 0]).2=H3 at sl k3 hb3 ⊢
 clear hb1 k1 H1
 have d00:decide ((0:Int)=0)=true:=rfl
 have d01:decide ((0:Int)=1)=false:=rfl
 have d02:decide ((0:Int)=2)=false:=rfl
 have d03:decide ((0:Int)=3)=false:=rfl
 have d04:decide ((0:Int)=4)=false:=rfl
 have d05:decide ((0:Int)=5)=false:=rfl
 obtain ⟨r6,H6,hd6,k6,mv,rfl,hbad,hok⟩:=C11 hb3.netAt hsm k3.wf
 simp only [↓Sh.dn,sx,Nat.reduceBEq,reduceCtorEq,Nat.reduceEqDiff,hb3.c0,hb3.c1,hb3.c2,hb3.c3,hb3.ca,A2a hb3,A1a hb3,A3a hb3,Option.map_some,eq_self,decide_true,d00,d01,d02,d03,d04,d05]
 refine ⟨_,_,hd6,?_⟩
 obtain ⟨H7,sgz,stz,arz,enz,rfl,s7,c7,w7,hfin⟩:=MakeOut.pass sl gol k3 (Kept.refl k3.wf) k6 hbad hok
 simp only [↓Sh.dn,sx,Nat.reduceBEq,reduceCtorEq,Nat.reduceEqDiff,s7,hres,c7,Option.map_some]
 exact hfin
theorem lawTurn1 {H:AH} {v:Value} {N:NetD} (h:A4h H v N) (hsm:A3b N) (hw:Wf H):
  Sh.Call Tryz.prog (knows 10) 22 [v,.int .i64 1] H (fun r H'=>MakeOut H H' N.sigma (A2b N 1) (A7i N 1) (A5v 1) r):=by
 refine A4a rfl Tryz.func22 rfl (Nat.le_of_ble_eq_true rfl) ?_
 have hres:Tryz.f22.results.toList=[.cell 4 26,.tmp 5]:=rfl
 obtain ⟨sg,ar,en,rfl,hsg,har,hen⟩:=h
 have hb1:=NetBox.of (N:=N) hw hsg har hen
 have k1:Kept H (H.new 4 [sg,.int .i64 N.states,ar,en]).2:=Kept.new hw 4 _
 simp only [↓Sh.dn,sx,Nat.reduceBEq,reduceCtorEq,Nat.reduceEqDiff,A1g hsg.isCell har.isCell hen.isCell,A5b]
 generalize H.next=gg at hb1 ⊢
 generalize (H.new 4 [sg,.int .i64 N.states,ar,en]).2=H1 at hb1 k1 ⊢
 have sl:Slot (H1.new 4 [.slice none 0 0,.int .i64 0,.slice none 0 0,.slice none 0 0]).2 H1.next:=Slot.new
 have k3:=k1.news 4 [.slice none 0 0,.int .i64 0,.slice none 0 0,.slice none 0 0]
 have hb3:=hb1.new k1.wf 4 [.slice none 0 0,.int .i64 0,.slice none 0 0,.slice none 0 0]
 have gol:H.next≤H1.next:=k1.next
 generalize H1.next=go at sl gol ⊢
 generalize (H1.new 4 [.slice none 0 0,.int .i64 0,.slice none 0 0,.slice none 0 0]).2=H3 at sl k3 hb3 ⊢
 clear hb1 k1 H1
 have d10:decide ((1:Int)=0)=false:=rfl
 have d11:decide ((1:Int)=1)=true:=rfl
 have d12:decide ((1:Int)=2)=false:=rfl
 have d13:decide ((1:Int)=3)=false:=rfl
 have d14:decide ((1:Int)=4)=false:=rfl
 have d15:decide ((1:Int)=5)=false:=rfl
 obtain ⟨r6,H6,hd6,k6,mv,rfl,hbad,hok⟩:=relStar hb3.netAt hsm k3.wf
 simp only [↓Sh.dn,sx,Nat.reduceBEq,reduceCtorEq,Nat.reduceEqDiff,hb3.c0,hb3.c1,hb3.c2,hb3.c3,hb3.ca,A2a hb3,A1a hb3,A3a hb3,Option.map_some,eq_self,decide_true,d10,d11,d12,d13,d14,d15]
 refine ⟨_,_,hd6,?_⟩
 obtain ⟨H7,sgz,stz,arz,enz,rfl,s7,c7,w7,hfin⟩:=MakeOut.pass sl gol k3 (Kept.refl k3.wf) k6 hbad hok
 simp only [↓Sh.dn,sx,Nat.reduceBEq,reduceCtorEq,Nat.reduceEqDiff,s7,hres,c7,Option.map_some]
 exact hfin
theorem lawTurn2 {H:AH} {v:Value} {N:NetD} (h:A4h H v N) (hsm:A3b N) (hw:Wf H):
  Sh.Call Tryz.prog (knows 10) 22 [v,.int .i64 2] H (fun r H'=>MakeOut H H' N.sigma (A2b N 2) (A7i N 2) (A5v 2) r):=by
 refine A4a rfl Tryz.func22 rfl (Nat.le_of_ble_eq_true rfl) ?_
 have hres:Tryz.f22.results.toList=[.cell 4 26,.tmp 5]:=rfl
 obtain ⟨sg,ar,en,rfl,hsg,har,hen⟩:=h
 have hb1:=NetBox.of (N:=N) hw hsg har hen
 have k1:Kept H (H.new 4 [sg,.int .i64 N.states,ar,en]).2:=Kept.new hw 4 _
 simp only [↓Sh.dn,sx,Nat.reduceBEq,reduceCtorEq,Nat.reduceEqDiff,A1g hsg.isCell har.isCell hen.isCell,A5b]
 generalize H.next=gg at hb1 ⊢
 generalize (H.new 4 [sg,.int .i64 N.states,ar,en]).2=H1 at hb1 k1 ⊢
 have sl:Slot (H1.new 4 [.slice none 0 0,.int .i64 0,.slice none 0 0,.slice none 0 0]).2 H1.next:=Slot.new
 have k3:=k1.news 4 [.slice none 0 0,.int .i64 0,.slice none 0 0,.slice none 0 0]
 have hb3:=hb1.new k1.wf 4 [.slice none 0 0,.int .i64 0,.slice none 0 0,.slice none 0 0]
 have gol:H.next≤H1.next:=k1.next
 generalize H1.next=go at sl gol ⊢
 generalize (H1.new 4 [.slice none 0 0,.int .i64 0,.slice none 0 0,.slice none 0 0]).2=H3 at sl k3 hb3 ⊢
 clear hb1 k1 H1
 have d20:decide ((2:Int)=0)=false:=rfl
 have d21:decide ((2:Int)=1)=false:=rfl
 have d22:decide ((2:Int)=2)=true:=rfl
 have d23:decide ((2:Int)=3)=false:=rfl
 have d24:decide ((2:Int)=4)=false:=rfl
 have d25:decide ((2:Int)=5)=false:=rfl
 obtain ⟨r6,H6,hd6,k6,mv,rfl,hbad,hok⟩:=C7r hb3.netAt hsm k3.wf
 simp only [↓Sh.dn,sx,Nat.reduceBEq,reduceCtorEq,Nat.reduceEqDiff,hb3.c0,hb3.c1,hb3.c2,hb3.c3,hb3.ca,A2a hb3,A1a hb3,A3a hb3,Option.map_some,eq_self,decide_true,d20,d21,d22,d23,d24,d25]
 refine ⟨_,_,hd6,?_⟩
 obtain ⟨H7,sgz,stz,arz,enz,rfl,s7,c7,w7,hfin⟩:=MakeOut.pass sl gol k3 (Kept.refl k3.wf) k6 hbad hok
 simp only [↓Sh.dn,sx,Nat.reduceBEq,reduceCtorEq,Nat.reduceEqDiff,s7,hres,c7,Option.map_some]
 exact hfin
theorem lawTurn3 {H:AH} {v:Value} {N:NetD} (h:A4h H v N) (hsm:A3b N) (hw:Wf H):
  Sh.Call Tryz.prog (knows 10) 22 [v,.int .i64 3] H (fun r H'=>MakeOut H H' N.sigma (A2b N 3) (A7i N 3) (A5v 3) r):=by
 refine A4a rfl Tryz.func22 rfl (Nat.le_of_ble_eq_true rfl) ?_
 have hres:Tryz.f22.results.toList=[.cell 4 26,.tmp 5]:=rfl
 obtain ⟨sg,ar,en,rfl,hsg,har,hen⟩:=h
 have hb1:=NetBox.of (N:=N) hw hsg har hen
 have k1:Kept H (H.new 4 [sg,.int .i64 N.states,ar,en]).2:=Kept.new hw 4 _
 simp only [↓Sh.dn,sx,Nat.reduceBEq,reduceCtorEq,Nat.reduceEqDiff,A1g hsg.isCell har.isCell hen.isCell,A5b]
 generalize H.next=gg at hb1 ⊢
 generalize (H.new 4 [sg,.int .i64 N.states,ar,en]).2=H1 at hb1 k1 ⊢
 have sl:Slot (H1.new 4 [.slice none 0 0,.int .i64 0,.slice none 0 0,.slice none 0 0]).2 H1.next:=Slot.new
 have k3:=k1.news 4 [.slice none 0 0,.int .i64 0,.slice none 0 0,.slice none 0 0]
 have hb3:=hb1.new k1.wf 4 [.slice none 0 0,.int .i64 0,.slice none 0 0,.slice none 0 0]
 have gol:H.next≤H1.next:=k1.next
 generalize H1.next=go at sl gol ⊢
 generalize (H1.new 4 [.slice none 0 0,.int .i64 0,.slice none 0 0,.slice none 0 0]).2=H3 at sl k3 hb3 ⊢
 clear hb1 k1 H1
 have d30:decide ((3:Int)=0)=false:=rfl
 have d31:decide ((3:Int)=1)=false:=rfl
 have d32:decide ((3:Int)=2)=false:=rfl
 have d33:decide ((3:Int)=3)=true:=rfl
 have d34:decide ((3:Int)=4)=false:=rfl
 have d35:decide ((3:Int)=5)=false:=rfl
 obtain ⟨r6,H6,hd6,k6,mv,rfl,hbad,hok⟩:=relUpper hb3.netAt hsm k3.wf
 simp only [↓Sh.dn,sx,Nat.reduceBEq,reduceCtorEq,Nat.reduceEqDiff,hb3.c0,hb3.c1,hb3.c2,hb3.c3,hb3.ca,A2a hb3,A1a hb3,A3a hb3,Option.map_some,eq_self,decide_true,d30,d31,d32,d33,d34,d35]
 refine ⟨_,_,hd6,?_⟩
 obtain ⟨H7,sgz,stz,arz,enz,rfl,s7,c7,w7,hfin⟩:=MakeOut.pass sl gol k3 (Kept.refl k3.wf) k6 hbad hok
 simp only [↓Sh.dn,sx,Nat.reduceBEq,reduceCtorEq,Nat.reduceEqDiff,s7,hres,c7,Option.map_some]
 exact hfin
theorem lawTurn4 {H:AH} {v:Value} {N:NetD} (h:A4h H v N) (hsm:A3b N) (hw:Wf H):
  Sh.Call Tryz.prog (knows 10) 22 [v,.int .i64 4] H (fun r H'=>MakeOut H H' N.sigma (A2b N 4) (A7i N 4) (A5v 4) r):=by
 refine A4a rfl Tryz.func22 rfl (Nat.le_of_ble_eq_true rfl) ?_
 have hres:Tryz.f22.results.toList=[.cell 4 26,.tmp 5]:=rfl
 obtain ⟨sg,ar,en,rfl,hsg,har,hen⟩:=h
 have hb1:=NetBox.of (N:=N) hw hsg har hen
 have k1:Kept H (H.new 4 [sg,.int .i64 N.states,ar,en]).2:=Kept.new hw 4 _
 simp only [↓Sh.dn,sx,Nat.reduceBEq,reduceCtorEq,Nat.reduceEqDiff,A1g hsg.isCell har.isCell hen.isCell,A5b]
 generalize H.next=gg at hb1 ⊢
 generalize (H.new 4 [sg,.int .i64 N.states,ar,en]).2=H1 at hb1 k1 ⊢
 have sl:Slot (H1.new 4 [.slice none 0 0,.int .i64 0,.slice none 0 0,.slice none 0 0]).2 H1.next:=Slot.new
 have k3:=k1.news 4 [.slice none 0 0,.int .i64 0,.slice none 0 0,.slice none 0 0]
 have hb3:=hb1.new k1.wf 4 [.slice none 0 0,.int .i64 0,.slice none 0 0,.slice none 0 0]
 have gol:H.next≤H1.next:=k1.next
 generalize H1.next=go at sl gol ⊢
 generalize (H1.new 4 [.slice none 0 0,.int .i64 0,.slice none 0 0,.slice none 0 0]).2=H3 at sl k3 hb3 ⊢
 clear hb1 k1 H1
 have d40:decide ((4:Int)=0)=false:=rfl
 have d41:decide ((4:Int)=1)=false:=rfl
 have d42:decide ((4:Int)=2)=false:=rfl
 have d43:decide ((4:Int)=3)=false:=rfl
 have d44:decide ((4:Int)=4)=true:=rfl
 have d45:decide ((4:Int)=5)=false:=rfl
 obtain ⟨r6,H6,hd6,k6,mv,rfl,hbad,hok⟩:=relLower hb3.netAt hsm k3.wf
 simp only [↓Sh.dn,sx,Nat.reduceBEq,reduceCtorEq,Nat.reduceEqDiff,hb3.c0,hb3.c1,hb3.c2,hb3.c3,hb3.ca,A2a hb3,A1a hb3,A3a hb3,Option.map_some,eq_self,decide_true,d40,d41,d42,d43,d44,d45]
 refine ⟨_,_,hd6,?_⟩
 obtain ⟨H7,sgz,stz,arz,enz,rfl,s7,c7,w7,hfin⟩:=MakeOut.pass sl gol k3 (Kept.refl k3.wf) k6 hbad hok
 simp only [↓Sh.dn,sx,Nat.reduceBEq,reduceCtorEq,Nat.reduceEqDiff,s7,hres,c7,Option.map_some]
 exact hfin
theorem lawTurn5 {H:AH} {v:Value} {N:NetD} (h:A4h H v N) (hsm:A3b N) (hw:Wf H):
  Sh.Call Tryz.prog (knows 10) 22 [v,.int .i64 5] H (fun r H'=>MakeOut H H' N.sigma (A2b N 5) (A7i N 5) (A5v 5) r):=by
 refine A4a rfl Tryz.func22 rfl (Nat.le_of_ble_eq_true rfl) ?_
 have hres:Tryz.f22.results.toList=[.cell 4 26,.tmp 5]:=rfl
 obtain ⟨sg,ar,en,rfl,hsg,har,hen⟩:=h
 have hb1:=NetBox.of (N:=N) hw hsg har hen
 have k1:Kept H (H.new 4 [sg,.int .i64 N.states,ar,en]).2:=Kept.new hw 4 _
 simp only [↓Sh.dn,sx,Nat.reduceBEq,reduceCtorEq,Nat.reduceEqDiff,A1g hsg.isCell har.isCell hen.isCell,A5b]
 generalize H.next=gg at hb1 ⊢
 generalize (H.new 4 [sg,.int .i64 N.states,ar,en]).2=H1 at hb1 k1 ⊢
 have sl:Slot (H1.new 4 [.slice none 0 0,.int .i64 0,.slice none 0 0,.slice none 0 0]).2 H1.next:=Slot.new
 have k3:=k1.news 4 [.slice none 0 0,.int .i64 0,.slice none 0 0,.slice none 0 0]
 have hb3:=hb1.new k1.wf 4 [.slice none 0 0,.int .i64 0,.slice none 0 0,.slice none 0 0]
 have gol:H.next≤H1.next:=k1.next
 generalize H1.next=go at sl gol ⊢
 generalize (H1.new 4 [.slice none 0 0,.int .i64 0,.slice none 0 0,.slice none 0 0]).2=H3 at sl k3 hb3 ⊢
 clear hb1 k1 H1
 have d50:decide ((5:Int)=0)=false:=rfl
 have d51:decide ((5:Int)=1)=false:=rfl
 have d52:decide ((5:Int)=2)=false:=rfl
 have d53:decide ((5:Int)=3)=false:=rfl
 have d54:decide ((5:Int)=4)=false:=rfl
 have d55:decide ((5:Int)=5)=true:=rfl
 obtain ⟨r6,H6,hd6,k6,mv,rfl,hbad,hok⟩:=relTrim hb3.netAt hsm k3.wf
 simp only [↓Sh.dn,sx,Nat.reduceBEq,reduceCtorEq,Nat.reduceEqDiff,hb3.c0,hb3.c1,hb3.c2,hb3.c3,hb3.ca,A2a hb3,A1a hb3,A3a hb3,Option.map_some,eq_self,decide_true,d50,d51,d52,d53,d54,d55]
 refine ⟨_,_,hd6,?_⟩
 obtain ⟨H7,sgz,stz,arz,enz,rfl,s7,c7,w7,hfin⟩:=MakeOut.pass sl gol k3 (Kept.refl k3.wf) k6 hbad hok
 simp only [↓Sh.dn,sx,Nat.reduceBEq,reduceCtorEq,Nat.reduceEqDiff,s7,hres,c7,Option.map_some]
 exact hfin
theorem lawTurn {H:AH} {v:Value} {N:NetD} {kd:Nat} (hkd:kd < 6) (h:A4h H v N) (hsm:A3b N) (hw:Wf H):
  Sh.Call Tryz.prog (knows 10) 22 [v,.int .i64 (kd:Int)] H (fun r H'=>MakeOut H H' N.sigma (A2b N kd) (A7i N kd) (A5v kd) r):=by
 obtain rfl | rfl | rfl | rfl | rfl | rfl:kd=0∨kd=1∨kd=2∨kd=3∨kd=4∨kd=5:=by omega
 ·exact lawTurn0 h hsm hw
 ·exact lawTurn1 h hsm hw
 ·exact lawTurn2 h hsm hw
 ·exact lawTurn3 h hsm hw
 ·exact lawTurn4 h hsm hw
 ·exact lawTurn5 h hsm hw
end Go.Proofs.YtnoengaghabmjaaGreat
/- What the laws of chapter 05 ask of a net that is made. -/
namespace Go.Proofs.YtnoengaghabmjaaGreat
open Go Go.Proofs Go.Proofs.Sh
theorem boolEq {c b:Bool}:abin Tryz.prog 4 c .eql (.bool b) (.bool b)=some (.bool true):=by
 unfold abin aeq B8k A5h
 simp only [eqT,Tryz.underlying4,cond_true,beq_self_eq_true,Option.map_some]
theorem lawNone {H:AH} (hw:Wf H):Sh.Call Tryz.prog (knows 10) 18 [A5z] H (fun r H'=>Kept H H'∧r=.bool true):=by
 refine A4a rfl Tryz.func18 rfl (Nat.le_of_ble_eq_true rfl) ?_
 have hres:Tryz.f18.results.toList=[.tmp 2]:=rfl
 have hb:=NetBox.of (N:=⟨[],0,[],[]⟩) hw (Sl.nil H 1) (Sl.nil H 5) (Sl.nil H 2)
 have k:=Kept.new hw 4 [.slice none 0 0,.int .i64 (NetD.states ⟨[],0,[],[]⟩),.slice none 0 0,.slice none 0 0]
 unfold A5z
 simp only [↓Sh.dn,sx,Nat.reduceBEq,reduceCtorEq,Nat.reduceEqDiff,A5b]
 simp only [] at hb k
 generalize H.next=gg at hb ⊢
 generalize (H.new 4 [.slice none 0 0,.int .i64 0,.slice none 0 0,.slice none 0 0]).2=H1 at hb k ⊢
 have z:((0:Nat):Int)=0:=rfl
 have l0:=fun H'=>hb.hsg.len Tryz.underlying22 H'
 have l2:=fun H'=>hb.har.len Tryz.underlying23 H'
 have l3:=fun H'=>hb.hen.len Tryz.underlying24 H'
 simp only [List.map_nil,List.length_nil,z] at l0 l2 l3
 simp only [↓Sh.dn,sx,Nat.reduceBEq,reduceCtorEq,Nat.reduceEqDiff,hb.c0,hb.c1,hb.c2,hb.c3,hb.ca,A2a hb,A1a hb,A3a hb,l0,l2,l3,List.length_nil,z,eq_self,decide_true,hres]
 exact k
theorem C95 {H:AH} {mv usg ux uy:Value} {M:NetD} {sigma x y:List ByteArray} (hM:A4h H mv M) (hsm:A3b M) (hE:A5f M=0) (hs:M.sigma=sigma) (hsg:Sl H usg 1 (sigma.map A1b)) (hsl:sigma.length≤1048576) (hx:Sl H ux 1 (x.map A1b)) (hy:Sl H uy 1 (y.map A1b)) (hxl:x.length≤400) (hyl:y.length≤400) {b:Bool} (hb:b=tB (A7k M x y)) (hw:Wf H):
  Sh.Call Tryz.prog (knows 10) 20 [mv,usg,ux,uy,.bool b] H (fun r H'=>Kept H H'∧r=.bool true):=by
 subst hb
 refine A4a rfl Tryz.func20 rfl (Nat.le_of_ble_eq_true rfl) ?_
 have hres:Tryz.f20.results.toList=[.tmp 10]:=rfl
 obtain ⟨sg,ar,en,rfl,s1,s2,s3⟩:=hM
 have hb1:=NetBox.of (N:=M) hw s1 s2 s3
 have k1:=Kept.new hw 4 [sg,.int .i64 M.states,ar,en]
 simp only [↓Sh.dn,sx,Nat.reduceBEq,reduceCtorEq,Nat.reduceEqDiff,A1g s1.isCell s2.isCell s3.isCell]
 generalize H.next=gg at hb1 ⊢
 generalize (H.new 4 [sg,.int .i64 M.states,ar,en]).2=H1 at hb1 k1 ⊢
 obtain ⟨r2,H2,hd2,k2,rfl⟩:=A8t hb1.netAt hsm k1.wf
 have k12:=k1.trans k2
 have hb2:=hb1.kept k1.wf k2
 obtain ⟨r3,H3,hd3,rfl,rfl⟩:=B9v hb2.hsg (hsg.grow (k12.grow hw)) (by rw [hs]; exact hsl) hsl k12.wf
 obtain ⟨okM,_,_⟩:=A1i hE
 obtain ⟨r4,H4,hd4,k4,rfl⟩:=B98 hb2.netAt okM hsm (hx.grow (k12.grow hw)) (hy.grow (k12.grow hw)) hxl hyl k12.wf
 rw [decide_eq_true hs] at hd3
 rw [hE] at hd2
 simp only [↓Sh.dn,sx,Nat.reduceBEq,reduceCtorEq,Nat.reduceEqDiff,hb1.c0,hb1.c1,hb1.c2,hb1.c3,hb1.ca,A2a hb1,A1a hb1,A3a hb1,Option.map_some]
 refine ⟨_,_,hd2,?_⟩
 simp only [↓Sh.dn,sx,Nat.reduceBEq,reduceCtorEq,Nat.reduceEqDiff,hb2.c0,hb2.c1,hb2.c2,hb2.c3,hb2.ca,A2a hb2,A1a hb2,A3a hb2,Option.map_some,eq_self,decide_true]
 refine ⟨_,_,hd3,?_⟩
 simp only [↓Sh.dn,sx,Nat.reduceBEq,reduceCtorEq,Nat.reduceEqDiff,hb2.c0,hb2.c1,hb2.c2,hb2.c3,hb2.ca,A2a hb2,A1a hb2,A3a hb2,Option.map_some]
 refine ⟨_,_,hd4,?_⟩
 simp only [↓Sh.dn,sx,Nat.reduceBEq,reduceCtorEq,Nat.reduceEqDiff,boolEq,hres]
 exact k12.trans k4
end Go.Proofs.YtnoengaghabmjaaGreat
/- Two lists in a row. -/
namespace Go.Proofs.YtnoengaghabmjaaGreat
open Go Go.Proofs Go.Proofs.Sh
theorem two_jag {H:AH} {u v:Value} {x y:List ByteArray} (hu:Sl H u 1 (x.map A1b)) (hv:Sl H v 1 (y.map A1b)) (hw:Wf H):JagR (H.new 1 [u,v]).2 (.slice (some ⟨H.next,0,some 0⟩) 2 2) 1 ([x,y].map fun w=>w.map A1b) [u,v]:=by
 have k:=Kept.new hw 1 [u,v]
 refine ⟨(Buf.fresh (H:=H) (s:=1) (xs:=[[u],[v]]) hw (by
  intro x hx
  simp only [List.mem_cons,List.not_mem_nil,or_false] at hx
  rcases hx with rfl | rfl <;> rfl) (by simp) 2 rfl).toSl,rfl,fun i w' r h1 h2=>?_⟩
 match i with
 | 0=>
  simp only [List.map_cons,List.map_nil,List.getElem?_cons_zero,Option.some.injEq] at h1 h2
  subst h1 h2
  exact hu.grow (k.grow hw)
 | 1=>
  simp only [List.map_cons,List.map_nil,List.getElem?_cons_succ,List.getElem?_cons_zero,Option.some.injEq] at h1 h2
  subst h1 h2
  exact hv.grow (k.grow hw)
 | i+2=>simp at h1
end Go.Proofs.YtnoengaghabmjaaGreat
/- For every net, of any kind, and every two lists of texts: each net that is made of it holds the pair of the lists, and of the first list with itself, just if it should, or the error is the reference's. -/
namespace Go.Proofs.YtnoengaghabmjaaGreat
open Go Go.Proofs Go.Proofs.Sh
theorem acc_ok {M:NetD} (h:A5f M=0) (hl:∀ a∈M.arcs,a.inn=a.out):A45 M=0:=by
 obtain ⟨_,h1,h2⟩:=A1i h
 unfold A45
 have hu:B1r M=false:=by
  unfold B1r
  rw [List.any_eq_false]
  intro a ha
  simp [hl a ha]
 rw [if_neg (by simpa using h1),if_neg (by rw [hu]; simp),if_pos h2]
theorem turn_rel {N:NetD} {kd:Nat} (h:A2b N kd=0):A5f N=0:=by
 unfold A2b at h
 split at h
 ·rename_i h1; exact absurd h h1
 ·rename_i h1; simpa using h1
theorem C5a {H:AH} {v ux uy:Value} {N:NetD} {x y:List ByteArray} (h:A4h H v N) (hsm:A3b N) (hx:Sl H ux 1 (x.map A1b)) (hy:Sl H uy 1 (y.map A1b)) (hxl:x.length≤1048576) (hyl:y.length≤1048576) (hw:Wf H):
  Sh.Call Tryz.prog (knows 10) 5 [v,ux,uy] H (fun r _=>r=.bool true):=by
 refine A4a rfl Tryz.func5 rfl (Nat.le_of_ble_eq_true rfl) ?_
 have hres:Tryz.f5.results.toList=[.tmp 6]:=rfl
 obtain ⟨sg,ar,en,rfl,hsg,har,hen⟩:=h
 have hb1:=NetBox.of (N:=N) hw hsg har hen
 have hk1:Kept H (H.new 4 [sg,.int .i64 N.states,ar,en]).2:=Kept.new hw 4 _
 simp only [↓Sh.dn,sx,Nat.reduceBEq,reduceCtorEq,Nat.reduceEqDiff,A1g hsg.isCell har.isCell hen.isCell]
 generalize H.next=gg at hb1 ⊢
 generalize (H.new 4 [sg,.int .i64 N.states,ar,en]).2=H1 at hb1 hk1 ⊢
 obtain ⟨n1,n2,n3⟩:=one_net hb1.hsg hb1.har hb1.hen hsm hk1.wf
 have kn:=Kept.new hk1.wf 4 [sg,.int .i64 N.states,ar,en]
 have hb2:=hb1.kept hk1.wf kn
 have hk2:=hk1.trans kn
 obtain ⟨r,K1,hd1,rfl,b,rfl⟩:=lawOver n2 (by simp) n3
 simp only [↓Sh.dn,sx,Nat.reduceBEq,reduceCtorEq,Nat.reduceEqDiff,hb1.c0,hb1.c1,hb1.c2,hb1.c3,hb1.ca,A2a hb1,A1a hb1,A3a hb1,Option.map_some,n1]
 refine ⟨_,_,hd1,?_⟩
 generalize (H1.new 4 [sg,.int .i64 N.states,ar,en]).2=H2 at kn hb2 hk2 ⊢
 have hx2:=hx.grow (hk2.grow hw)
 have hy2:=hy.grow (hk2.grow hw)
 cases b with
 | true=>
  obtain ⟨r,H3,hd3,rfl,rfl⟩:=B3j (H:=H2)
  simp only [↓Sh.dn,sx,Nat.reduceBEq,reduceCtorEq,Nat.reduceEqDiff]
  refine ⟨_,_,hd3,?_⟩
  simp only [↓Sh.dn,sx,Nat.reduceBEq,reduceCtorEq,Nat.reduceEqDiff,hres]
 | false=>
 have hbs:=C5q (P:=Tryz.prog) (H:=H2) Tryz.underlying30 A99 B7s rfl hx2.isCell hy2.isCell
 have hJ:=two_jag hx2 hy2 hk2.wf
 have km:=Kept.new hk2.wf 1 [ux,uy]
 obtain ⟨r,K2,hd2,rfl,rfl⟩:=lawLong hJ (by simp)
 simp only [↓Sh.dn,sx,Nat.reduceBEq,reduceCtorEq,Nat.reduceEqDiff,hbs]
 refine ⟨_,_,hd2,?_⟩
 have hb3:=hb2.kept hk2.wf km
 have hk3:=hk2.trans km
 generalize (H2.new 1 [ux,uy]).2=H3 at km hb3 hk3 ⊢
 cases hlg:[x,y].any fun w=>decide (240 < w.length) with
 | true=>
  obtain ⟨r,H4,hd3,rfl,rfl⟩:=B3j (H:=H3)
  simp only [↓Sh.dn,sx,Nat.reduceBEq,reduceCtorEq,Nat.reduceEqDiff]
  refine ⟨_,_,hd3,?_⟩
  simp only [↓Sh.dn,sx,Nat.reduceBEq,reduceCtorEq,Nat.reduceEqDiff,hres]
 | false=>
 have hx4:x.length≤400∧y.length≤400:=by
  simp only [List.any_cons,List.any_nil,Bool.or_false,Bool.or_eq_false_iff,decide_eq_false_iff_not] at hlg
  omega
 have hx3:=hx.grow (hk3.grow hw)
 have hy3:=hy.grow (hk3.grow hw)
 simp only [↓Sh.dn,sx,Nat.reduceBEq,reduceCtorEq,Nat.reduceEqDiff]
 refine A0f 6 7 (List.range' 21 73++[6,7,8,9,10]) (fun i F H'=>Kept H3 H') (by simp only [↓Sh.dn,sx,Nat.reduceBEq,reduceCtorEq,Nat.reduceEqDiff]) (Kept.refl hk3.wf) ?_ ?_
 ·rintro kd F H' hi hF f7 hk k
  have f1:=hF 1 rfl
  have f2:=hF 2 rfl
  have f3:=hF 3 rfl
  simp only [↓Sh.dn,sx,Nat.reduceBEq,reduceCtorEq,Nat.reduceEqDiff] at f1 f2 f3
  have hle:decide ((kd:Int)≤5)=true:=decide_eq_true (by omega)
  have hb':=hb3.kept hk3.wf hk
  have hx':=hx3.grow (hk.grow hk3.wf)
  have hy':=hy3.grow (hk.grow hk3.wf)
  have wi:=A7a hi (by omega)
  obtain ⟨r4,H4,hd4,k4,mv,rfl,hbad,hok⟩:=lawTurn hi hb'.netAt hsm hk.wf
  simp only [↓Sh.dn,sx,Nat.reduceBEq,reduceCtorEq,Nat.reduceEqDiff,f1,f2,f3,f7,hle,hb'.c0,hb'.c1,hb'.c2,hb'.c3,hb'.ca,A2a hb',A1a hb',A3a hb',Option.map_some]
  refine ⟨_,_,hd4,?_⟩
  have hb4:=hb'.kept hk.wf k4
  have hk4:=hk.trans k4
  by_cases hE:A2b N kd=0
  case neg=>
   have hz:=hbad hE
   unfold A5z at hz
   subst hz
   have k5:=Kept.new hk4.wf 4 [.slice none 0 0,.int .i64 0,.slice none 0 0,.slice none 0 0]
   have m5:=NetBox.of (N:=⟨[],0,[],[]⟩) hk4.wf (Sl.nil H4 1) (Sl.nil H4 5) (Sl.nil H4 2)
   simp only [↓Sh.dn,sx,Nat.reduceBEq,reduceCtorEq,Nat.reduceEqDiff,A5b,A02 (H:=(H4.new 4 [.slice none 0 0,.int .i64 0,.slice none 0 0,.slice none 0 0]).2) (sg:=.slice none 0 0) (ar:=.slice none 0 0) (en:=.slice none 0 0) rfl rfl rfl,A5d]
   simp only [] at m5
   have hb5:=hb4.kept hk4.wf k5
   have hk5:=hk4.trans k5
   generalize H4.next=gn at m5 ⊢
   generalize (H4.new 4 [.slice none 0 0,.int .i64 0,.slice none 0 0,.slice none 0 0]).2=H5 at m5 hb5 k5 hk5 ⊢
   obtain ⟨r6,H6,hd6,k6,rfl⟩:=C4n hi hb5.netAt hsm hk5.wf
   simp only [↓Sh.dn,sx,Nat.reduceBEq,reduceCtorEq,Nat.reduceEqDiff,f1,f2,f3,f7,hb5.c0,hb5.c1,hb5.c2,hb5.c3,hb5.ca,A2a hb5,A1a hb5,A3a hb5,Option.map_some]
   refine ⟨_,_,hd6,?_⟩
   have m6:=m5.kept hk5.wf k6
   have hk6:=hk5.trans k6
   obtain ⟨r7,H7,hd7,k7,rfl⟩:=lawNone hk6.wf
   unfold A5z at hd7
   simp only [↓Sh.dn,sx,Nat.reduceBEq,reduceCtorEq,Nat.reduceEqDiff,hE,decide_false,eq_self,decide_true,m6.c0,m6.c1,m6.c2,m6.c3,m6.ca,A2a m6,A1a m6,A3a m6,Option.map_some]
   refine ⟨_,_,hd7,?_⟩
   simp only [↓Sh.dn,sx,Nat.reduceBEq,reduceCtorEq,Nat.reduceEqDiff,f7,wi]
   exact k _ _ (by repeat (first | refine Same.put ?_ rfl | exact Same.rfl' _)) (by simp only [↓Sh.dn,sx,Nat.reduceBEq,reduceCtorEq,Nat.reduceEqDiff]) (hk6.trans k7)
  obtain ⟨M,hM,q1,q2,q3,q4,q5⟩:=hok hE
  obtain ⟨⟨sgM,arM,enM,rfl,z1,z2,z3⟩⟩:=hM H4 fun _ _=>rfl
  have k5:=Kept.new hk4.wf 4 [sgM,.int .i64 M.states,arM,enM]
  have m5:=NetBox.of (N:=M) hk4.wf z1 z2 z3
  simp only [↓Sh.dn,sx,Nat.reduceBEq,reduceCtorEq,Nat.reduceEqDiff,A5b,A02 z1.isCell z2.isCell z3.isCell,A5d]
  have hb5:=hb4.kept hk4.wf k5
  have hk5:=hk4.trans k5
  generalize H4.next=gn at m5 ⊢
  generalize (H4.new 4 [sgM,.int .i64 M.states,arM,enM]).2=H5 at m5 hb5 k5 hk5 ⊢
  obtain ⟨r6,H6,hd6,k6,rfl⟩:=C4n hi hb5.netAt hsm hk5.wf
  simp only [↓Sh.dn,sx,Nat.reduceBEq,reduceCtorEq,Nat.reduceEqDiff,f1,f2,f3,f7,hb5.c0,hb5.c1,hb5.c2,hb5.c3,hb5.ca,A2a hb5,A1a hb5,A3a hb5,Option.map_some]
  refine ⟨_,_,hd6,?_⟩
  have m6:=m5.kept hk5.wf k6
  have hb6:=hb5.kept hk5.wf k6
  have hk6:=hk5.trans k6
  obtain ⟨okN,_,_⟩:=A1i (turn_rel hE)
  have hx6:=hx3.grow (hk6.grow hk3.wf)
  have hy6:=hy3.grow (hk6.grow hk3.wf)
  obtain ⟨r7,H7,hd7,k7,rfl⟩:=B7z hi hb6.netAt okN hsm hx6 hy6 hx4.1 hx4.2 hk6.wf
  have m7:=m6.kept hk6.wf k7
  have hb7:=hb6.kept hk6.wf k7
  have hk7:=hk6.trans k7
  have hx7:=hx3.grow (hk7.grow hk3.wf)
  have hy7:=hy3.grow (hk7.grow hk3.wf)
  obtain ⟨r8,H8,hd8,k8,rfl⟩:=C95 m7.netAt q1 q2 q3 hb7.hsg hsm.sg hx7 hy7 hx4.1 hx4.2 (b:=tB (A7i N kd x y)) (A37 (q4 x y).symm) hk7.wf
  have m8:=m7.kept hk7.wf k8
  have hb8:=hb7.kept hk7.wf k8
  have hk8:=hk7.trans k8
  have hx8:=hx3.grow (hk8.grow hk3.wf)
  obtain ⟨r9,H9,hd9,k9,rfl⟩:=B7z hi hb8.netAt okN hsm hx8 hx8 hx4.1 hx4.1 hk8.wf
  have m9:=m8.kept hk8.wf k9
  have hb9:=hb8.kept hk8.wf k9
  have hk9:=hk8.trans k9
  have hx9:=hx3.grow (hk9.grow hk3.wf)
  obtain ⟨r10,H10,hd10,k10,rfl⟩:=C95 m9.netAt q1 q2 q3 hb9.hsg hsm.sg hx9 hx9 hx4.1 hx4.1 (b:=tB (A7i N kd x x)) (A37 (q4 x x).symm) hk9.wf
  have m10:=m9.kept hk9.wf k10
  have hk10:=hk9.trans k10
  have hvqN:veq (.agg #[sg,.int .i64 N.states,ar,en]) (.agg #[sg,.int .i64 N.states,ar,en])=true:=A9t (by simp only [A6l,A0o,A1c,hsg.veq,har.veq,hen.veq,Bool.and_self])
  have hvqM:veq (.agg #[sgM,.int .i64 M.states,arM,enM]) (.agg #[sgM,.int .i64 M.states,arM,enM])=true:=A9t (by simp only [A6l,A0o,A1c,z1.veq,z2.veq,z3.veq,Bool.and_self])
  have vx:=hx.veq
  have vy:=hy.veq
  have vs:=hsg.veq
  have i00:decide ((0:Int)=0)=true:=rfl
  simp only [↓Sh.dn,sx,Nat.reduceBEq,reduceCtorEq,Nat.reduceEqDiff,hE,decide_true,eq_self]
  refine A6o (fl:=[(0,true),(1,true),(2,true),(3,false),(4,true),(5,false),(6,true),(7,true),(8,false),(9,true),(10,true),(11,true),(12,false),(13,true),(14,true),(15,true),(16,true),(17,false),(18,true),(19,false),(20,true),(21,true),(22,false),(23,true),(24,true),(25,true),(26,false),(27,true),(28,true),(29,true)]) (by kernel_rfl) (by kernel_rfl) hk6.wf ?_
  simp only [↓Sh.dn,sx,Nat.reduceBEq,reduceCtorEq,Nat.reduceEqDiff,wpg,A4q,isEff,A9b,isRead,A3e,A1c,A4e,A6c,A6b,forall_eq,forall_eq',f1,f2,f3,f7,eq_self,decide_true,i00,m6.c0,m6.c1,m6.c2,m6.c3,m6.ca,A2a m6,A1a m6,A3a m6,m7.c0,m7.c1,m7.c2,m7.c3,m7.ca,A2a m7,A1a m7,A3a m7,m8.c0,m8.c1,m8.c2,m8.c3,m8.ca,A2a m8,A1a m8,A3a m8,m9.c0,m9.c1,m9.c2,m9.c3,m9.ca,A2a m9,A1a m9,A3a m9,hb6.c0,hb6.c1,hb6.c2,hb6.c3,hb6.ca,A2a hb6,A1a hb6,A3a hb6,hb7.c0,hb7.c1,hb7.c2,hb7.c3,hb7.ca,A2a hb7,A1a hb7,A3a hb7,hb8.c0,hb8.c1,hb8.c2,hb8.c3,hb8.ca,A2a hb8,A1a hb8,A3a hb8,hb9.c0,hb9.c1,hb9.c2,hb9.c3,hb9.ca,A2a hb9,A1a hb9,A3a hb9,Option.map_some,hvqN,hvqM,vx,vy,vs]
  refine ⟨_,_,hd7,k7.wf,k7.grow hk6.wf,?_⟩
  try simp only [↓Sh.dn,sx,Nat.reduceBEq,reduceCtorEq,Nat.reduceEqDiff,wpg,A4q,isEff,A9b,isRead,A3e,A1c,A4e,A6c,A6b,forall_eq,forall_eq',f1,f2,f3,f7,eq_self,decide_true,i00,m7.c0,m7.c1,m7.c2,m7.c3,m7.ca,A2a m7,A1a m7,A3a m7,hb7.c0,hb7.c1,hb7.c2,hb7.c3,hb7.ca,A2a hb7,A1a hb7,A3a hb7,Option.map_some,hvqN,hvqM,vx,vy,vs]
  first | refine ⟨_,_,hd8,k8.wf,k8.grow hk7.wf,?_⟩ | refine ⟨_,_,hd8,k8.wf,?_⟩
  try simp only [↓Sh.dn,sx,Nat.reduceBEq,reduceCtorEq,Nat.reduceEqDiff,wpg,A4q,isEff,A9b,isRead,A3e,A1c,A4e,A6c,A6b,forall_eq,forall_eq',f1,f2,f3,f7,eq_self,decide_true,i00,m8.c0,m8.c1,m8.c2,m8.c3,m8.ca,A2a m8,A1a m8,A3a m8,hb8.c0,hb8.c1,hb8.c2,hb8.c3,hb8.ca,A2a hb8,A1a hb8,A3a hb8,Option.map_some,hvqN,hvqM,vx,vy,vs]
  first | refine ⟨_,_,hd9,k9.wf,k9.grow hk8.wf,?_⟩ | refine ⟨_,_,hd9,k9.wf,?_⟩
  try simp only [↓Sh.dn,sx,Nat.reduceBEq,reduceCtorEq,Nat.reduceEqDiff,wpg,A4q,isEff,A9b,isRead,A3e,A1c,A4e,A6c,A6b,forall_eq,forall_eq',f1,f2,f3,f7,eq_self,decide_true,i00,m9.c0,m9.c1,m9.c2,m9.c3,m9.ca,A2a m9,A1a m9,A3a m9,hb9.c0,hb9.c1,hb9.c2,hb9.c3,hb9.ca,A2a hb9,A1a hb9,A3a hb9,Option.map_some,hvqN,hvqM,vx,vy,vs]
  refine ⟨_,_,hd10,k10.wf,?_⟩
  simp only [↓Sh.dn,sx,Nat.reduceBEq,reduceCtorEq,Nat.reduceEqDiff,wpg,A4q,isEff,A9b,isRead,A3e,A1c,A4e,A6c,A6b,forall_eq,forall_eq',f7]
  obtain ⟨okM,_,_⟩:=A1i q2
  obtain ⟨r11,H11,hd11,k11,rfl⟩:=C9c m10.netAt q1 hk10.wf
  obtain ⟨r12,H12,hd12,k12,rfl⟩:=C6t m10.netAt okM q1 hk10.wf
  have c34:(kd:Int)=3∨(kd:Int)=4→A45 M=0:=fun h=>acc_ok q2 (by
   rcases h with h | h
   ·have:kd=3:=by omega
    subst this; exact q5
   ·have:kd=4:=by omega
    subst this; exact q5)
  have c5:(kd:Int)=5→tB (C0q M)=true:=fun h=>by
   have:kd=5:=by omega
   subst this; exact A55.2 q5
  by_cases e3:(kd:Int)=3
  ·rw [c34 (.inl e3)] at hd11
   have w3:IntKind.wrap .i64 (3+1)=((kd+1:Nat):Int):=by rw [wrap64 (by decide) (by decide)]; omega
   simp only [↓Sh.dn,sx,Nat.reduceBEq,reduceCtorEq,Nat.reduceEqDiff,f7,e3,decide_true,m10.c0,m10.c1,m10.c2,m10.c3,m10.ca,A2a m10,A1a m10,A3a m10,Option.map_some]
   refine ⟨_,_,hd11,?_⟩
   have n5:decide ((3:Int)=5)=false:=rfl
   simp only [↓Sh.dn,sx,Nat.reduceBEq,reduceCtorEq,Nat.reduceEqDiff,f7,e3,n5,i00,eq_self,decide_true,w3]
   exact k _ _ (by repeat (first | refine Same.put ?_ rfl | exact Same.rfl' _)) (by simp only [↓Sh.dn,sx,Nat.reduceBEq,reduceCtorEq,Nat.reduceEqDiff]) (hk10.trans k11)
  by_cases e4:(kd:Int)=4
  ·rw [c34 (.inr e4)] at hd11
   have w4:IntKind.wrap .i64 (4+1)=((kd+1:Nat):Int):=by rw [wrap64 (by decide) (by decide)]; omega
   have n3:decide ((4:Int)=3)=false:=rfl
   have n5:decide ((4:Int)=5)=false:=rfl
   simp only [↓Sh.dn,sx,Nat.reduceBEq,reduceCtorEq,Nat.reduceEqDiff,f7,e4,n3,decide_true,m10.c0,m10.c1,m10.c2,m10.c3,m10.ca,A2a m10,A1a m10,A3a m10,Option.map_some]
   refine ⟨_,_,hd11,?_⟩
   simp only [↓Sh.dn,sx,Nat.reduceBEq,reduceCtorEq,Nat.reduceEqDiff,f7,e4,n5,i00,eq_self,decide_true,w4]
   exact k _ _ (by repeat (first | refine Same.put ?_ rfl | exact Same.rfl' _)) (by simp only [↓Sh.dn,sx,Nat.reduceBEq,reduceCtorEq,Nat.reduceEqDiff]) (hk10.trans k11)
  by_cases e5:(kd:Int)=5
  ·rw [c5 e5] at hd12
   have n3:decide ((5:Int)=3)=false:=rfl
   have n4:decide ((5:Int)=4)=false:=rfl
   have w5:IntKind.wrap .i64 (5+1)=((kd+1:Nat):Int):=by rw [wrap64 (by decide) (by decide)]; omega
   simp only [↓Sh.dn,sx,Nat.reduceBEq,reduceCtorEq,Nat.reduceEqDiff,f7,e5,n3,n4,eq_self,decide_true,m10.c0,m10.c1,m10.c2,m10.c3,m10.ca,A2a m10,A1a m10,A3a m10,Option.map_some]
   refine ⟨_,_,hd12,?_⟩
   simp only [↓Sh.dn,sx,Nat.reduceBEq,reduceCtorEq,Nat.reduceEqDiff,f7,e5,n3,n4,eq_self,decide_true,w5]
   exact k _ _ (by repeat (first | refine Same.put ?_ rfl | exact Same.rfl' _)) (by simp only [↓Sh.dn,sx,Nat.reduceBEq,reduceCtorEq,Nat.reduceEqDiff]) (hk10.trans k12)
  ·simp only [↓Sh.dn,sx,Nat.reduceBEq,reduceCtorEq,Nat.reduceEqDiff,f7,e3,e4,e5,decide_false,wi]
   exact k _ _ (by repeat (first | refine Same.put ?_ rfl | exact Same.rfl' _)) (by simp only [↓Sh.dn,sx,Nat.reduceBEq,reduceCtorEq,Nat.reduceEqDiff]) hk10
 ·rintro F H' hF f7 hk
  have hle:decide (((6:Nat):Int)≤5)=false:=rfl
  obtain ⟨r9,H9,hd9,rfl,rfl⟩:=B3j (H:=H')
  simp only [↓Sh.dn,sx,Nat.reduceBEq,reduceCtorEq,Nat.reduceEqDiff,f7,hle]
  refine ⟨_,_,hd9,?_⟩
  simp only [↓Sh.dn,sx,Nat.reduceBEq,reduceCtorEq,Nat.reduceEqDiff,hres]
theorem lawMain {H:AH} {avs:List Value} {K:Type} {ds:List (DataW K)} (hb:Rows.uptoBulkAll ds≤1048576) (hw:Wf H) (hr:RDs Tryz.prog H [26,22,22] avs ds) (hfl:Flat Tryz.prog [26,22,22] avs):
  Sh.Call Tryz.prog (knows 10) 5 avs H (fun r _=>r=.bool true):=by
 obtain ⟨v,vs,d,ds,rfl,rfl,⟨f,h1⟩,h2⟩:=hr.cons_inv
 obtain ⟨v2,vs,d2,ds,rfl,rfl,⟨f2,h3⟩,h4⟩:=h2.cons_inv
 obtain ⟨v3,vs,d3,ds,rfl,rfl,⟨f3,h5⟩,h6⟩:=h4.cons_inv
 obtain ⟨rfl,rfl⟩:=h6.nil_inv
 simp only [Rows.uptoBulkAll,Nat.add_zero] at hb
 obtain ⟨N,⟨hn⟩,hsm,hsz⟩:=net_in h1 (by omega)
 obtain ⟨x,hx,hxl,hxx⟩:=C70 hfl (j:=1) rfl rfl h3 (by omega)
 obtain ⟨y,hy,hyl,hyy⟩:=C70 hfl (j:=2) rfl rfl h5 (by omega)
 exact C5a hn hsm hx hy hxl hyl hw
end Go.Proofs.YtnoengaghabmjaaGreat
