/- A part of the proof: GraphRings, GraphFinite. -/
import Derived.Test.YtcgbiedfbacgpaaGreatMCloseAutoFinds12
import Derived.Test.YtcgbiedfbacgpaaGreatMCloseAutoFinds13
set_option linter.unusedVariables false
set_option linter.unusedSimpArgs false
/- (*graph.Graph).Rings: the class of each state. -/
set_option maxHeartbeats 4000000
set_option maxRecDepth 20000
set_option linter.unusedSimpArgs false
set_option linter.unusedVariables false
namespace Go.Proofs.YtcgbiedfbacgpaaGreat
open Go Go.Proofs Go.Proofs.Sh
theorem B4c {E:List (List (Nat×Int×Int×Int))} {x y:Nat}:y∈adjE E x↔A2c E (fun _=>True) x y:=by
 unfold adjE A2c
 rw [List.mem_map]
 constructor
 ·rintro ⟨e,h1,h2⟩
  cases hr:E[x]? with
  | none=>rw [hr] at h1; cases h1
  | some r=>rw [hr] at h1; exact ⟨r,rfl,e,h1,h2,trivial⟩
 ·rintro ⟨r,hr,e,h1,h2,_⟩
  exact ⟨e,by rw [hr]; exact h1,h2⟩
def RingsOut (H H':AH) (n:Nat) (E:List (List (Nat×Int×Int×Int))) (r:Value):Prop:=
 Kept H H'∧∃ C:List Nat,∃ o,Buf H' 1 r (C.map natC) o∧(∀ y,o=some y→H.next≤y)∧C.length=n∧∀ x y,x < n→y < n→(C[x]?=C[y]?↔Both (adjE E) x y)
theorem C9m {H:AH} {g n:Nat} {E:List (List (Nat×Int×Int×Int))} {ends:List Int} {sv av ev cv:Value} {vals:List Value} {sigma:List ByteArray} {costs:List Int}
  (h:PG H g n 60000 E ends sv av ev cv vals sigma costs) (hsg:sigma.length≤1048576) (hw:Wf H):
  Sh.Call Tryz.prog (knows 7) 68 [.pointer (some ⟨g,0,some 0⟩),.func (.func 67) #[] #[]] H (fun r H'=>RingsOut H H' n E r):=by
 refine A2a rfl Tryz.func68 rfl (Nat.le_of_ble_eq_true rfl) ?_
 have hres:Tryz.f68.results.toList=[.tmp 4]:=rfl
 have hn1:=h.n1
 have hn2:=h.n2
 have hc1:=h.gr.arr.cell 1
 have hlenA:∀ H',A4a Tryz.prog .len [68] [av] H'=some (.int .i64 (n:Int),H'):=fun H'=>by
  rw [h.gr.jag.sl.len Tryz.underlying68,List.length_map,h.gr.jag.len]; unfold A9i; rw [List.length_map,h.le]
 have hmk:=B74 (H:=H) (l:=n) (c:=n) (Nat.le_refl _) (by omega)
 have k1:=Kept.new hw 1 (List.replicate n (.bool false))
 have f1:=Buf.fill hw (.bool false) (c:=n) (by omega)
 rw [if_neg (by omega)] at f1
 have hM1:MB (H.new 1 (List.replicate n (.bool false))).2 H.next n (.slice (some ⟨H.next,0,some 0⟩) n n) (some H.next) (List.replicate n false) []:=
  ⟨Marks.empty n,by rw [List.map_replicate]; exact f1,fun y hy=>by rw [← Option.some.inj hy]; exact Nat.le_refl _⟩
 have hx1:H.next < (H.new 1 (List.replicate n (.bool false))).2.next:=Nat.lt_succ_self _
 have hc1':=A2b (k1.grow hw) hc1
 simp only [↓Sh.dn,sx,reduceCtorEq,hc1,hc1',hlenA,hmk]
 generalize (Value.slice (some ⟨H.next,0,some 0⟩) n n)=mv at hM1 ⊢
 generalize (H.new 1 (List.replicate n (.bool false))).2=H1 at k1 hM1 hx1 hc1' ⊢
 obtain ⟨os,hos⟩:∃ os,some H.next=os:=⟨_,rfl⟩
 rw [hos] at hM1
 refine A9c n 25 (List.range' 25 10++[5,7]) (fun i F H'=>Kept H H'∧∃ z,F.get 5=some z∧∃ seen M ord oo,MB H' H.next n mv os seen M∧LB H' H.next os z ord oo∧OrdOk (adjE E) ord∧(∀ t,t∈M↔t∈ord)∧∀ s,s < i→s∈ord) (by simp only [sx])
  ⟨k1,.slice none 0 0,by simp only [sx,Nat.reduceEqDiff],_,[],[],none,hM1,⟨.void none,fun y hy=>by cases hy⟩,OrdOk.none _,fun t=>Iff.rfl,fun s hs=>absurd hs (Nat.not_lt_zero s)⟩ ?_ ?_
 ·rintro i F H' hi hF f25 ⟨hk,z,f5,seen,M,ord,oo,hM,hO,hok,hMo,hall⟩ k
  have g0:=hF 0 rfl
  have g1:=hF 1 rfl
  have g6:=hF 6 rfl
  have g24:=hF 24 rfl
  simp only [sx,reduceCtorEq,Nat.reduceEqDiff] at g0 g1 g6 g24
  have hol:ord.length≤3000:=Nat.le_trans (A3n hok.nod fun x hx=>hM.ms.lt ((hMo x).2 hx)) hn2
  obtain ⟨r,H2,hd2,c2,seen2,M2,F2,oo2,hM2,hO2,hof2,hD,hi2⟩:=B7q h hw (by decide) hk hM hO hol hi
  have hs:=hok.step (s:=i) hMo hD
  simp only [↓Sh.dn,sx,reduceCtorEq,Nat.reduceEqDiff,g0,g1,g6,g24,f5,f25,A1a,hi,decide_true]
  refine ⟨_,_,hd2,?_⟩
  simp only [A3a hi (Nat.le_trans hn2 (by decide))]
  refine k _ _ (by repeat (first | refine Same.put ?_ rfl | exact Same.rfl' _)) (by simp only [sx]) ⟨hk.then (Nat.le_refl _) (c2.weak fun y hy=>hy.elim (hM.fr y) fun h2=>(hO.fr y h2).1),r,by simp only [sx,Nat.reduceEqDiff],seen2,M2,ord++F2,oo2,hM2,hO2,hs.1,fun t=>by rw [hi2,List.mem_append,hMo],fun s hs2=>?_⟩
  by_cases h2:s=i
  ·rw [h2]; exact hs.2
  ·exact List.mem_append_left _ (hall s (by omega))
 ·rintro F H' hF f25 ⟨hk,z,f5,seen,M,ord,oo,hM,hO,hok,hMo,hall⟩
  have g0:=hF 0 rfl
  have g1:=hF 1 rfl
  have g24:=hF 24 rfl
  simp only [sx,reduceCtorEq,Nat.reduceEqDiff] at g0 g1 g24
  have hlt:∀ x∈ord,x < n:=fun x hx=>hM.ms.lt ((hMo x).2 hx)
  have hol:ord.length≤n:=A3n hok.nod hlt
  obtain ⟨r4,H4,hd4,hk4,g',rfl,R,base,hbase,hG,hRl,hRr,hRg⟩:=B0d (h.kept hw hk) hsg hk.wf
  obtain ⟨sv',av',ev',cv',vals',hR⟩:=hG.read
  have hPG:PG H4 g' n 180000000 R (List.replicate n 0) sv' av' ev' cv' vals' sigma (List.replicate n 0):=⟨hR,hRl,by simp,h.n1,h.n2,fun s r hr=>hRr r (List.mem_of_getElem? hr)⟩
  have hO4:=hO.bf.toSl.grow (hk4.grow hk.wf)
  simp only [↓Sh.dn,sx,reduceCtorEq,Nat.reduceEqDiff,g0,g24,f25,A1a,Nat.lt_irrefl,decide_false]
  refine ⟨_,_,hd4,?_⟩
  have hw4:=hk4.wf
  have k04:=hk.trans hk4
  have c4:=A2b (k04.grow hw) hc1
  have hmkI:=mk_69 (H:=H4) (l:=n) (c:=n) (Nat.le_refl _) (by omega)
  have k5:=Kept.new hw4 1 (List.replicate n (.int .i64 0))
  have f5':=Buf.fill hw4 (.int .i64 0) (c:=n) (by omega)
  rw [if_neg (by omega)] at f5'
  have c5:=A2b (k5.grow hw4) c4
  have hmkB:=B74 (H:=(H4.new 1 (List.replicate n (.int .i64 0))).2) (l:=n) (c:=n) (Nat.le_refl _) (by omega)
  have k6:=Kept.new k5.wf 1 (List.replicate n (.bool false))
  have f6':=Buf.fill k5.wf (.bool false) (c:=n) (by omega)
  rw [if_neg (by omega)] at f6'
  have hx5:H4.next < (H4.new 1 (List.replicate n (.int .i64 0))).2.next:=Nat.lt_succ_self _
  have hlenO:∀ H',A4a Tryz.prog .len [69] [z] H'=some (.int .i64 (ord.length:Int),H'):=fun H'=>by
   rw [hO4.len Tryz.underlying69,List.length_map]
  have wl0:IntKind.wrap .i64 ((ord.length:Int) - 1)=(ord.length:Int) - 1:=wrap64 (by omega) (by omega)
  simp only [sx,c4,c5,hlenA,hmkI,hmkB,f5,hlenO,wl0]
  have hC6:Buf ((H4.new 1 (List.replicate n (.int .i64 0))).2.new 1 (List.replicate n (.bool false))).2 1 (.slice (some ⟨H4.next,0,some 0⟩) n n) ((List.replicate n 0).map natC) (some H4.next):=by
   rw [List.map_replicate]; exact f5'.kept k5.wf k6
  have hM6:MB ((H4.new 1 (List.replicate n (.int .i64 0))).2.new 1 (List.replicate n (.bool false))).2 H4.next n (.slice (some ⟨(H4.new 1 (List.replicate n (.int .i64 0))).2.next,0,some 0⟩) n n) (some (H4.new 1 (List.replicate n (.int .i64 0))).2.next) (List.replicate n false) []:=
   ⟨Marks.empty n,by rw [List.map_replicate]; exact f6',fun y hy=>by rw [← Option.some.inj hy]; omega⟩
  have k46:=k5.trans k6
  have hne:∀ y,some H4.next=some y→some (H4.new 1 (List.replicate n (.int .i64 0))).2.next≠some y:=fun y hy h2=>by
   have:=Option.some.inj hy; have:=Option.some.inj h2; omega
  have hocg:∀ y,some H4.next=some y→H4.next≤y:=fun y hy=>by rw [← Option.some.inj hy]; exact Nat.le_refl _
  clear hmkI hmkB hmk k5 k6 f5' f6' hx5 c5
  generalize ((H4.new 1 (List.replicate n (.int .i64 0))).2.new 1 (List.replicate n (.bool false))).2=H6 at hC6 hM6 k46 ⊢
  generalize (Value.slice (some ⟨(H4.new 1 (List.replicate n (.int .i64 0))).2.next,0,some 0⟩) n n)=sz at hM6 ⊢
  generalize (some (H4.new 1 (List.replicate n (.int .i64 0))).2.next:Option Nat)=os2 at hM6 hne
  generalize (Value.slice (some ⟨H4.next,0,some 0⟩) n n)=cz at hC6 ⊢
  generalize (some H4.next:Option Nat)=oc at hC6 hne hocg
  have hb:∀ a b,b∈adjE R a↔a∈adjE E b:=fun a b=>by rw [B4c,B4c]; exact hRg _ a b
  have hmem:∀ x,x < n→x∈ord:=fun x hx=>hall x hx
  have hreach:∀ {x r},r < n→Rch (adjE E) x r→x∈ord:=fun {x r} hr hx=>by
   have h1:x=r∨∃ y,y∈adjE E x:=hx.of (Q:=fun b=>x=b∨∃ y,y∈adjE E x) (fun y hy=>.inl hy.symm) fun a b ha hab=>by
    rcases ha with h2 | h2
    ·exact .inr ⟨b,by rw [h2]; exact hab⟩
    ·exact .inr h2
   rcases h1 with h2 | ⟨y,h2⟩
   ·rw [h2]; exact hmem r hr
   ·obtain ⟨r',h3,_⟩:=B4c.1 h2
    exact hmem x (by rw [← h.le]; exact (List.getElem?_eq_some_iff.1 h3).1)
  refine A1b (m:=ord.length) (fun m F H'=>F.get 1=some (.func (.func 67) #[] #[])∧F.get 5=some z∧F.get 8=some (.pointer (some ⟨g',0,some 0⟩))∧F.get 9=some cz∧F.get 10=some sz∧F.get 11=some (.int .i64 ((m:Int) - 1))∧m≤ord.length∧Kept H4 H'∧∃ seen2 M2 C,MB H' H4.next n sz os2 seen2 M2∧Buf H' 1 cz (C.map natC) oc∧C.length=n∧RingI (adjE E) ord (fun x=>C[x]?) M2 m)
   ⟨by simp only [sx,Nat.reduceEqDiff,g1],by simp only [sx,Nat.reduceEqDiff,f5],by simp only [sx,Nat.reduceEqDiff],by simp only [sx,Nat.reduceEqDiff],by simp only [sx,Nat.reduceEqDiff],by simp only [sx],Nat.le_refl _,k46,_,[],List.replicate n 0,hM6,hC6,by simp,RingI.start _ _ _⟩ ?_
  clear hC6 hM6 k46 g0 g1 g24 f25 f5 hF hM1 hx1 hc1' wl0
  clear H6 F
  rintro m F H6 ⟨f1,f5,f8,f9,f10,f11,hm,hk6,seen2,M2,C,hM2,hC,hCl,hI⟩ k
  cases m with
  | zero=>
   have h00:decide ((0:Int)≤((0:Nat):Int) - 1)=false:=rfl
   simp only [↓Sh.dn,sx,Nat.reduceEqDiff,f11,f9,h00,hres]
   exact ⟨k04.trans hk6,C,oc,hC,fun y hy=>Nat.le_trans k04.next (hocg y hy),hCl,fun x y hx hy=>hI.fin (hmem x hx) (hmem y hy)⟩
  | succ i=>
  have e11:((i+1:Nat):Int) - 1=(i:Int):=by omega
  rw [e11] at f11
  have h00:decide ((0:Int)≤(i:Int))=true:=decide_eq_true (Int.natCast_nonneg i)
  have wi:IntKind.wrap .i64 ((i:Int) - 1)=(i:Int) - 1:=wrap64 (by omega) (by omega)
  obtain ⟨po,io,co⟩:=A9x Tryz.underlying69 A3c hO4 (i:=i) hm
  have hro:ord[i]?=some ord[i]:=List.getElem?_eq_getElem _
  have hrn:ord[i] < n:=hlt _ (List.getElem_mem hm)
  generalize ord[i]=q at co hro hrn
  have co6:=A2b (hk6.grow hw4) co
  obtain ⟨r7,H7,hd7,c7,seen7,M7,F7,oo7,hM7,hO7,hof7,hD7,hi7⟩:=B7q (oo:=none) (z0:=.slice none 0 0) (ord0:=[]) hPG hw4 (by decide) hk6 hM2 ⟨.void none,fun y hy=>by cases hy⟩ (by decide) hrn
  have hk7:Kept H4 H7:=hk6.then (Nat.le_refl _) (c7.weak fun y hy=>hy.elim (hM2.fr y) fun h2=>by cases h2)
  have hC7:Buf H7 1 cz (C.map natC) oc:=hC.chg hk6.wf c7 fun y hy h2=>h2.elim (hne y hy) fun h3=>by cases h3
  rw [List.nil_append] at hO7
  have hoc6:=hC.lt hk6.wf
  have hofc:∀ y,oo7=some y→oc≠some y:=fun y hy h2=>by
   rcases hof7 y hy with h3 | h3
   ·cases h3
   ·have:=hoc6 y h2; omega
  have hlenF:∀ H',A4a Tryz.prog .len [69] [r7] H'=some (.int .i64 (F7.length:Int),H'):=fun H'=>by
   rw [hO7.bf.toSl.len Tryz.underlying69,List.length_map]
  have hF7:∀ t∈F7,t < n:=fun t ht=>hM7.ms.lt ((hi7 t).2 (.inr ht))
  have hF7l:F7.length≤n:=by
   rcases hD7 with ⟨_,h2⟩ | h2
   ·rw [h2]; exact Nat.zero_le _
   ·exact A3n (by simpa using h2.inv.nod) hF7
  simp only [↓Sh.dn,sx,Nat.reduceEqDiff,f1,f5,f8,f10,f11,h00,io,co6]
  refine ⟨_,_,by first | exact hd7 | simpa using hd7,?_⟩
  simp only [sx,hlenF]
  refine A9c F7.length 65 (List.range' 65 12++[13]) (fun p F'' H''=>Chg (fun y=>oc=some y) H7 H''∧∃ C',Buf H'' 1 cz (C'.map natC) oc∧C'.length=n∧∀ x,C'[x]?=if x∈F7.take p then some q else C[x]?) (by simp only [sx])
   ⟨Chg.refl hk7.wf,C,hC7,hCl,fun x=>by simp⟩ ?_ ?_
  ·rintro p F'' H'' hp hF'' f65 ⟨hc8,C',hC8,hCl8,hCi⟩ k2
   have g5:=hF'' 5 rfl
   have g9:=hF'' 9 rfl
   have g11:=hF'' 11 rfl
   have g63:=hF'' 63 rfl
   have g64:=hF'' 64 rfl
   simp only [sx,Nat.reduceEqDiff,f5,f9,f11] at g5 g9 g11 g63 g64
   have hk8:Kept H4 H'':=hk7.then (Nat.le_refl _) (hc8.weak hocg)
   have co8:=A2b (hk8.grow hw4) co
   have hO8:Buf H'' 1 r7 (F7.map natC) oo7:=hO7.bf.chg hk7.wf hc8 hofc
   obtain ⟨pf,i8,c8⟩:=A9x Tryz.underlying69 A3c hO8.toSl hp
   have htn:F7[p] < n:=hF7 _ (List.getElem_mem hp)
   have htake:F7.take (p+1)=F7.take p++[F7[p]]:=by rw [List.take_add_one,List.getElem?_eq_getElem hp]; rfl
   generalize F7[p]=t at c8 htn htake
   obtain ⟨pc,H9,w1,w2,w3,w4,w5⟩:=hC8.set (P:=Tryz.prog) hk8.wf (i:=t) (x:=natC q) (by rw [List.length_map,hCl8]; exact htn) rfl
   have w1':=w1 Tryz.underlying69 A3c (j:=.i64)
   have st:A6e Tryz.prog 3 H'' (.int .i64 (q:Int)) (.pointer (some pc))=some H9:=by rw [A1c A3c rfl]; exact w2
   simp only [↓Sh.dn,sx,Nat.reduceEqDiff,g5,g9,g11,g63,g64,f65,A1a,hp,decide_true,i8,c8,io,co8,w1',st,A3a hp (Nat.le_trans hF7l (Nat.le_trans hn2 (by decide)))]
   refine k2 _ _ (by repeat (first | refine Same.put ?_ rfl | exact Same.rfl' _)) (by simp only [sx]) ⟨hc8.trans w4,C'.set t q,by rw [List.map_set]; exact w3,by simp [hCl8],fun x=>?_⟩
   rw [List.getElem?_set,hCi,htake]
   by_cases hx:t=x
   ·subst hx
    rw [if_pos rfl,if_pos (by rw [hCl8]; exact htn),if_pos (by simp)]
   ·rw [if_neg hx]
    have:x∈F7.take p++[t]↔x∈F7.take p:=by
     rw [List.mem_append,List.mem_singleton]
     exact ⟨fun h2=>h2.resolve_right fun h3=>hx h3.symm,.inl⟩
    simp only [this]
  ·rintro F'' H'' hF'' f65 ⟨hc8,C',hC8,hCl8,hCi⟩
   have g1:=hF'' 1 rfl
   have g5:=hF'' 5 rfl
   have g8:=hF'' 8 rfl
   have g9:=hF'' 9 rfl
   have g10:=hF'' 10 rfl
   have g11:=hF'' 11 rfl
   have g64:=hF'' 64 rfl
   simp only [sx,Nat.reduceEqDiff,f1,f5,f8,f9,f10,f11] at g1 g5 g8 g9 g10 g11 g64
   rw [List.take_length] at hCi
   have hk8:Kept H4 H'':=hk7.then (Nat.le_refl _) (hc8.weak hocg)
   have hM8:=hM7.chg hk7.wf hc8 hne
   simp only [↓Sh.dn,sx,Nat.reduceBEq,Nat.reduceEqDiff,f65,g11,g64,A1a,Nat.lt_irrefl,decide_false,wi]
   exact k i _ _ (Nat.lt_succ_self _) ⟨by simp only [sx,Nat.reduceEqDiff,g1],by simp only [sx,Nat.reduceEqDiff,g5],by simp only [sx,Nat.reduceEqDiff,g8],by simp only [sx,Nat.reduceEqDiff,g9],by simp only [sx,Nat.reduceEqDiff,g10],by simp only [sx],Nat.le_of_lt hm,hk8,seen7,M7,C',hM8,hC8,hCl8,hI.step hb hok hro (fun x hx=>hreach hrn hx) hD7 hi7 hCi⟩
end Go.Proofs.YtcgbiedfbacgpaaGreat
/- (*graph.Graph).Finite: no arc that reads a symbol lies in a ring. -/
namespace Go.Proofs.YtcgbiedfbacgpaaGreat
open Go Go.Proofs Go.Proofs.Sh
def C9s (H H':AH) (E:List (List (Nat×Int×Int×Int))) (r:Value):Prop:=
 Kept H H'∧∃ b:Bool,r=.bool b∧(b=true↔∀ s t,A2c E (fun k=>0≤k) s t→¬Both (adjE E) s t)
theorem B97 {H:AH} {g n:Nat} {E:List (List (Nat×Int×Int×Int))} {ends:List Int} {sv av ev cv:Value} {vals:List Value} {sigma:List ByteArray} {costs:List Int}
  (h:PG H g n 60000 E ends sv av ev cv vals sigma costs) (hsg:sigma.length≤1048576) (hw:Wf H):
  Sh.Call Tryz.prog (knows 7) 32 [.pointer (some ⟨g,0,some 0⟩)] H (fun r H'=>C9s H H' E r):=by
 refine A2a rfl Tryz.func32 rfl (Nat.le_of_ble_eq_true rfl) ?_
 have hres:Tryz.f32.results.toList=[.tmp 2]:=rfl
 have hn1:=h.n1
 have hn2:=h.n2
 have hlenA:∀ H',A4a Tryz.prog .len [68] [av] H'=some (.int .i64 (n:Int),H'):=fun H'=>by
  rw [h.gr.jag.sl.len Tryz.underlying68,List.length_map,h.gr.jag.len]; unfold A9i; rw [List.length_map,h.le]
 obtain ⟨r1,H1,hd1,hk1,C,oc,hC,hoc,hCl,hCi⟩:=C9m h hsg hw
 have hc1:=A2b (hk1.grow hw) (h.gr.arr.cell 1)
 simp only [↓Sh.dn,sx,reduceCtorEq]
 refine ⟨_,_,by first | exact hd1 | simpa using hd1,?_⟩
 simp only [sx,hc1,hlenA]
 refine A9c n 15 (List.range' 15 28++[2,4,5,7]) (fun i F H'=>Kept H1 H'∧∀ s,s < i→∀ t,A2c E (fun k=>0≤k) s t→¬Both (adjE E) s t) (by simp only [sx]) ⟨Kept.refl hk1.wf,fun s hs=>absurd hs (Nat.not_lt_zero s)⟩ ?_ ?_
 ·rintro i F H' hi hF f15 ⟨hk,hall⟩ k
  have f3:=hF 3 rfl
  have f13:=hF 13 rfl
  have f14:=hF 14 rfl
  simp only [sx,Nat.reduceEqDiff] at f3 f13 f14
  obtain ⟨r,hr⟩:∃ r,E[i]?=some r:=⟨E[i]'(by rw [h.le]; exact hi),List.getElem?_eq_getElem _⟩
  obtain ⟨hrl,hrt⟩:=h.to i r hr
  obtain ⟨pr,wr,hiar,hcr,hsr,hlr⟩:=PG.row h hr
  have q2:=A2b ((hk1.trans hk).grow hw) hcr
  simp only [↓Sh.dn,sx,Nat.reduceEqDiff,f13,f14,f15,A1a,hi,decide_true,hiar,q2,hlr]
  refine A9c r.length 22 (List.range' 22 20++[2,7]) (fun q F'' H''=>Kept H1 H''∧∀ e∈r.take q,0≤e.2.1→¬Both (adjE E) i e.1) (by simp only [sx]) ⟨hk,fun e he=>by simp at he⟩ ?_ ?_
  ·rintro q F'' H'' hq hF'' f22 ⟨hk2,hed⟩ k2
   have g3:=hF'' 3 rfl
   have g4:=hF'' 4 rfl
   have g20:=hF'' 20 rfl
   have g21:=hF'' 21 rfl
   simp only [sx,Nat.reduceEqDiff,f3] at g3 g4 g20 g21
   obtain ⟨pe,hiae,hce⟩:=PG.edge (hsr.grow ((hk1.trans hk2).grow hw)) hq
   have hrq:r[q]∈r:=List.getElem_mem hq
   have htk:r.take (q+1)=r.take q++[r[q]]:=by rw [List.take_add_one,List.getElem?_eq_getElem hq]; rfl
   generalize r[q]=e at hce hrq htk
   have kn:=Kept.new hk2.wf 4 (A2f e)
   have hk3:=hk2.trans kn
   have hC3:=hC.toSl.grow (hk3.grow hk1.wf)
   have hen:=hrt e hrq
   obtain ⟨p5,i5,c5⟩:=A9x Tryz.underlying69 A3c hC3 (i:=e.1) (by rw [hCl]; exact hen)
   obtain ⟨p6,i6,c6⟩:=A9x Tryz.underlying69 A3c hC3 (i:=i) (by rw [hCl]; exact hi)
   have hcc:C[e.1]'(by rw [hCl]; exact hen)=C[i]'(by rw [hCl]; exact hi)↔Both (adjE E) i e.1:=by
    rw [← hCi i e.1 hi hen,List.getElem?_eq_getElem (by rw [hCl]; exact hi),List.getElem?_eq_getElem (by rw [hCl]; exact hen),Option.some.injEq]
    exact ⟨Eq.symm,Eq.symm⟩
   generalize C[e.1]'(by rw [hCl]; exact hen)=ce at c5 hcc
   generalize C[i]'(by rw [hCl]; exact hi)=ci at c6 hcc
   have hrl':r.length≤4611686018427387904:=Nat.le_trans hrl (by decide)
   simp only [↓Sh.dn,sx,Nat.reduceEqDiff,g20,g21,f22,hiae,hce,A1a,hq,decide_true,B5a,A6y,B2a,ge1]
   by_cases hpos:0≤e.2.1
   ·by_cases hcb:ce=ci
    ·have hde:decide ((ce:Int)=(ci:Int))=true:=decide_eq_true (by rw [hcb])
     simp only [↓Sh.dn,sx,Nat.reduceEqDiff,hpos,decide_true,g3,g4,ge0,i5,c5,i6,c6,hde,hres]
     refine ⟨hk1.trans hk3,false,rfl,⟨fun h2=>(by cases h2),fun h2=>?_⟩⟩
     exact absurd (hcc.1 hcb) (h2 i e.1 ⟨r,hr,e,hrq,rfl,hpos⟩)
    ·have hde:decide ((ce:Int)=(ci:Int))=false:=decide_eq_false (by omega)
     simp only [↓Sh.dn,sx,Nat.reduceEqDiff,hpos,decide_true,g3,g4,ge0,i5,c5,i6,c6,hde,f22,A3a hq hrl']
     refine k2 _ _ (by repeat (first | refine Same.put ?_ rfl | exact Same.rfl' _)) (by simp only [sx]) ⟨hk3,fun e' he' hp'=>?_⟩
     rw [htk] at he'
     rcases List.mem_append.1 he' with h2 | h2
     ·exact hed e' h2 hp'
     ·rw [List.mem_singleton.1 h2]; exact fun h3=>hcb (hcc.2 h3)
   ·simp only [↓Sh.dn,sx,Nat.reduceEqDiff,hpos,decide_false,f22,A3a hq hrl']
    refine k2 _ _ (by repeat (first | refine Same.put ?_ rfl | exact Same.rfl' _)) (by simp only [sx]) ⟨hk3,fun e' he' hp'=>?_⟩
    rw [htk] at he'
    rcases List.mem_append.1 he' with h2 | h2
    ·exact hed e' h2 hp'
    ·rw [List.mem_singleton.1 h2] at hp'; exact absurd hp' hpos
  ·rintro F'' H'' hF'' f22 ⟨hk2,hed⟩
   have g15:=hF'' 15 rfl
   have g21:=hF'' 21 rfl
   simp only [sx,Nat.reduceEqDiff,f15] at g15 g21
   rw [List.take_length] at hed
   simp only [↓Sh.dn,sx,Nat.reduceBEq,Nat.reduceEqDiff,f22,g15,g21,A1a,Nat.lt_irrefl,decide_false,A3a hi (Nat.le_trans hn2 (by decide))]
   refine k _ _ ?_ (by simp only [sx]) ⟨hk2,fun s hs t hst=>?_⟩
   ·repeat refine Same.put ?_ rfl
    exact Same.trans (by repeat (first | refine Same.put ?_ rfl | exact Same.rfl' _)) (hF''.sub rfl)
   ·by_cases h2:s=i
    ·subst h2
     obtain ⟨r',h4,e,h5,h6,h7⟩:=hst
     rw [hr] at h4
     rw [← h6]
     exact hed e (by rw [Option.some.inj h4]; exact h5) h7
    ·exact hall s (by omega) t hst
 ·rintro F H' hF f15 ⟨hk,hall⟩
  have f14:=hF 14 rfl
  simp only [sx,Nat.reduceEqDiff] at f14
  simp only [↓Sh.dn,sx,f14,f15,A1a,Nat.lt_irrefl,decide_false,hres]
  refine ⟨hk1.trans hk,true,rfl,⟨fun _ s t hst=>?_,fun _=>rfl⟩⟩
  obtain ⟨r',h4,_⟩:=id hst
  exact hall s (by rw [← h.le]; exact (List.getElem?_eq_some_iff.1 h4).1) t hst
end Go.Proofs.YtcgbiedfbacgpaaGreat
