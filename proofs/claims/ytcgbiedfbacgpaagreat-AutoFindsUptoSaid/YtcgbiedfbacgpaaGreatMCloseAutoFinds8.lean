/- A part of the proof: GraphSteps, GraphArc, GraphEnd, GraphB, CloneStr, GraphNew, GraphBack, GraphFrom, GraphMore, SpreadAlive, SpreadBeyond, GraphAlive, IndexFuncNat, GraphRun. -/
import Derived.Test.YtcgbiedfbacgpaaGreatMCloseAutoFinds6
import Derived.Test.YtcgbiedfbacgpaaGreatMCloseAutoFinds7
import Derived.Test.YtcgbiedfbacgpaaGreatMCloseAutoFinds2
import Derived.Test.YtcgbiedfbacgpaaGreatMCloseAutoFinds4
set_option linter.unusedVariables false
set_option linter.unusedSimpArgs false
/- (*graph.Graph).Steps: what a set becomes by each symbol. -/
set_option maxHeartbeats 4000000
set_option maxRecDepth 20000
set_option linter.unusedSimpArgs false
set_option linter.unusedVariables false
namespace Go.Proofs.YtcgbiedfbacgpaaGreat
open Go Go.Proofs Go.Proofs.Sh
def SetAt (H:AH) (v:Value) (n:Nat) (Q:Nat→Prop):Prop:=∃ out:List Nat,Sl H v 1 (out.map natC)∧out.Nodup∧(∀ t∈out,t < n)∧∀ t,t∈out↔Q t
theorem SetAt.kept {H H':AH} {v:Value} {n:Nat} {Q:Nat→Prop} (h:SetAt H v n Q) (hw:Wf H) (hk:Kept H H'):SetAt H' v n Q:=by
 obtain ⟨out,h1,h2⟩:=h
 exact ⟨out,h1.grow (hk.grow hw),h2⟩
def A9z (E:List (List (Nat×Int×Int×Int))) (S:Nat→Prop) (k:Nat):Nat→Prop:=Clo (A2c E fun k=>k < 0) fun t=>∃ s,S s∧A2c E (fun x=>x=(k:Int)) s t
theorem C3m {H:AH} {g n:Nat} {E:List (List (Nat×Int×Int×Int))} {ends:List Int} {sv av ev cv u:Value} {vals:List Value} {sigma:List ByteArray} {costs:List Int} {L:List Nat} (h:PG H g n 60000 E ends sv av ev cv vals sigma costs) (hsy:∀ (s:Nat) r,E[s]?=some r→∀ e∈r,e.2.1 < (sigma.length:Int)) (hsl:sigma.length≤1000) (hL:Sl H u 1 (L.map natC)) (hlt:∀ t∈L,t < n) (hll:L.length≤3000) (hw:Wf H):
  Sh.Call Tryz.prog (knows 7) 74 [.pointer (some ⟨g,0,some 0⟩),u] H (fun r H'=>Kept H H'∧∃ vs:List Value,vs.length=sigma.length∧∀ H'':AH,(∀ y,H.next≤y→y < H'.next→H''.objs.get y=H'.objs.get y)→Sl H'' r 1 (vs.map fun x=>[x])∧∀ (k:Nat) v,vs[k]?=some v→SetAt H'' v n (A9z E (fun s=>s∈L) k)):=by
 refine A2a rfl Tryz.func74 rfl (Nat.le_of_ble_eq_true rfl) ?_
 have hres:Tryz.f74.results.toList=[.tmp 4]:=rfl
 have hn2:=h.n2
 have hc0:=h.gr.arr.cell 0
 have hc1:=h.gr.arr.cell 1
 have hlen:=fun H'=>hL.len Tryz.underlying114 H'
 simp only [List.length_map] at hlen
 have hlenS:∀ H',A4a Tryz.prog .len [22] [sv] H'=some (.int .i64 (sigma.length:Int),H'):=fun H'=>by
  rw [h.gr.sg.len Tryz.underlying22,List.length_map]
 have hmk:=mk_65 (H:=H) (l:=sigma.length) (c:=sigma.length) (Nat.le_refl _) (by omega)
 have k1:=Kept.new hw 1 (List.replicate sigma.length (.slice none 0 0))
 have J1:=Jag.make hw 1 (n:=sigma.length) (by omega)
 simp only [↓Sh.dn,sx,reduceCtorEq,Nat.reduceEqDiff,hc0,hlenS,hmk,hlen]
 obtain ⟨ot,hot⟩:∃ ot,(if sigma.length=0 then none else some H.next)=ot:=⟨_,rfl⟩
 rw [hot] at J1
 have hlot:∀ y,ot=some y→y=H.next:=by
  intro y hy
  rw [← hot] at hy
  split at hy
  ·cases hy
  ·exact (Option.some.inj hy).symm
 have hin1:∀ y,JIn ot (List.replicate sigma.length none) y→H.next≤y:=by
  rintro y (hy | ⟨i,hi⟩)
  ·rw [hlot y hy]; exact Nat.le_refl _
  ·rw [List.getElem?_replicate] at hi; split at hi <;> cases hi
 have hrows0:(List.replicate sigma.length ([]:List (List Value)))=(List.replicate sigma.length ([]:List Nat)).map fun l=>l.map natC:=by simp
 rw [hrows0] at J1
 generalize (Value.slice (some ⟨H.next,0,some 0⟩) sigma.length sigma.length)=lv at J1 ⊢
 generalize (H.new 1 (List.replicate sigma.length (.slice none 0 0))).2=H1 at k1 J1 ⊢
 refine A9c L.length 20 (List.range' 20 34++[7,9]) (fun i F H'=>Kept H H'∧∃ (vals:List Value) (Ls:List (List Nat)) (obs:List (Option Nat)),Jag H' lv ot 1 vals (Ls.map fun l=>l.map natC) obs∧(∀ y,JIn ot obs y→H.next≤y)∧Ls.length=sigma.length∧∀ (k:Nat) l,Ls[k]?=some l→l.length≤i * 60000∧(∀ t∈l,t < n)∧∀ t,t∈l↔∃ s∈L.take i,A2c E (fun x=>x=(k:Int)) s t) (by simp only [sx])
  ⟨k1,_,_,_,J1,hin1,by simp,fun k l hkl=>by
   have hk0:=hkl
   rw [List.getElem?_replicate] at hkl
   split at hkl
   ·rw [← Option.some.inj hkl]; simp
   ·cases hkl⟩ ?_ ?_
 ·rintro i F H' hi hF f20 ⟨hk,vals',Ls,obs,hJ,hin,hLl,hLi⟩ k
  have f0:=hF 0 rfl
  have f5:=hF 5 rfl
  have f18:=hF 18 rfl
  have f19:=hF 19 rfl
  simp only [sx,reduceCtorEq,Nat.reduceEqDiff] at f0 f5 f18 f19
  obtain ⟨p,hia,hc⟩:=A9x Tryz.underlying114 A3c (hL.grow (hk.grow hw)) hi
  have hsn:L[i] < n:=hlt _ (List.getElem_mem hi)
  have htake:L.take (i+1)=L.take i++[L[i]]:=by rw [List.take_add_one,List.getElem?_eq_getElem hi]; rfl
  generalize L[i]=s at hc htake hsn
  obtain ⟨r,hr⟩:∃ r,E[s]?=some r:=⟨E[s]'(by rw [h.le]; exact hsn),List.getElem?_eq_getElem _⟩
  obtain ⟨hrl,hrt⟩:=h.to s r hr
  have hrs:=hsy s r hr
  obtain ⟨pr,wr,hiar,hcr,hsr,hlr⟩:=PG.row h hr
  have q1:=A2b (hk.grow hw) hc1
  have q2:=A2b (hk.grow hw) hcr
  simp only [↓Sh.dn,sx,reduceCtorEq,Nat.reduceEqDiff,f0,f18,f19,f20,A1a,hi,decide_true,hia,hc,q1,hiar,q2,hlr]
  refine A9c r.length 32 (List.range' 32 21++[9]) (fun q F'' H''=>Kept H H''∧∃ (vals:List Value) (Ls:List (List Nat)) (obs:List (Option Nat)),Jag H'' lv ot 1 vals (Ls.map fun l=>l.map natC) obs∧(∀ y,JIn ot obs y→H.next≤y)∧Ls.length=sigma.length∧∀ (k:Nat) l,Ls[k]?=some l→l.length≤i * 60000+q∧(∀ t∈l,t < n)∧∀ t,t∈l↔(∃ s∈L.take i,A2c E (fun x=>x=(k:Int)) s t)∨∃ e∈r.take q,e.1=t∧e.2.1=(k:Int)) (by simp only [sx]) ⟨hk,vals',Ls,obs,hJ,hin,hLl,fun k l hkl=>by
   obtain ⟨a1,a2,a3⟩:=hLi k l hkl
   exact ⟨Nat.le_trans a1 (Nat.le_add_right _ _),a2,fun t=>by rw [a3]; simp⟩⟩ ?_ ?_
  ·rintro q F'' H'' hq hF'' f32 ⟨hk'',vals2,Ls,obs,hJ,hin,hLl,hLi⟩ k2
   have g5:=hF'' 5 rfl
   have g30:=hF'' 30 rfl
   have g31:=hF'' 31 rfl
   simp only [sx,Nat.reduceEqDiff,f5] at g5 g30 g31
   obtain ⟨pe,hiae,hce⟩:=PG.edge (hsr.grow (hk''.grow hw)) hq
   have hrq:r[q]∈r:=List.getElem_mem hq
   have htk:r.take (q+1)=r.take q++[r[q]]:=by rw [List.take_add_one,List.getElem?_eq_getElem hq]; rfl
   generalize r[q]=e at hce hrq htk
   have kn:=Kept.new hk''.wf 4 (A2f e)
   have hk3:=hk''.trans kn
   have hJ3:=hJ.kept hk''.wf kn
   have hrl':r.length≤4611686018427387904:=Nat.le_trans hrl (by decide)
   have ob0:=(Sh.Obj.new (H:=H'') 4 (A2f e)).arr
   have hjn:∀ (k:Nat) t,(∃ e'∈r.take (q+1),e'.1=t∧e'.2.1=(k:Int))↔(∃ e'∈r.take q,e'.1=t∧e'.2.1=(k:Int))∨e.1=t∧e.2.1=(k:Int):=fun k t=>by
    rw [htk]
    simp only [List.mem_append,List.mem_singleton]
    constructor
    ·rintro ⟨e',h1 | h1,h2⟩
     ·exact .inl ⟨e',h1,h2⟩
     ·subst h1; exact .inr h2
    ·rintro (⟨e',h1,h2⟩ | h2)
     ·exact ⟨e',.inl h1,h2⟩
     ·exact ⟨e,.inr rfl,h2⟩
   simp only [↓Sh.dn,sx,Nat.reduceEqDiff,f32,g30,g31,hiae,hce,A1a,hq,decide_true,B5a,A6y,B2a,ge1]
   by_cases hpos:0≤e.2.1
   ·obtain ⟨x,hx⟩:∃ x:Nat,e.2.1=(x:Int):=⟨e.2.1.toNat,by omega⟩
    have hxs:x < sigma.length:=by have:=hrs e hrq; omega
    obtain ⟨l,hl⟩:∃ l,Ls[x]?=some l:=⟨Ls[x]'(by rw [hLl]; exact hxs),List.getElem?_eq_getElem _⟩
    obtain ⟨b1,b2,b3⟩:=hLi x l hl
    obtain ⟨a,cap,w',H5,H6,o',p5,e1,e2,e3,e4,e5,e6,e7,e8,e9⟩:=hJ3.pushAt Tryz.underlying65 A3y hk3.wf (i:=x) (r:=l.map natC) (by rw [List.getElem?_map,hl]; rfl) (x:=[.int .i64 (e.1:Int)]) rfl
    have hbs:=A8o (H:=(H''.new 4 (A2f e)).2) (x:=.int .i64 (e.1:Int)) rfl rfl
    rw [List.length_map] at e1 e3
    have hll2:l.length≤1073741823:=by omega
    have ha:=A48 (H:=(H''.new 4 (A2f e)).2) (base:=a) (len:=l.length) (cap:=cap) (x:=[.int .i64 (e.1:Int)]) rfl hll2
    rw [e1] at ha
    have st:A6e Tryz.prog 69 H5 w' (.pointer (some p5))=some H6:=by rw [A1c A3y e8,e4]
    have hne:¬JIn ot obs H''.next:=fun hy=>Nat.lt_irrefl _ (hJ.lt hk''.wf _ hy)
    have c1':H5.cell ⟨H''.next,1,some 0⟩=some (.int .i64 e.2.1):=(ob0.keep (e7.old _ (Nat.lt_succ_self _) hne)).cell 1
    simp only [↓Sh.dn,sx,hpos,decide_true]
    refine A9w (fl:=[(0,[]),(1,[]),(2,[]),(3,[]),(4,[]),(5,[]),(6,[]),(7,[]),(8,[]),(9,[]),(10,[]),(11,[2]),(12,[]),(13,[])]) (by kernel_rfl) (by kernel_rfl) (by kernel_rfl) ?_
    simp only [↓Sh.dn,sx,Nat.reduceEqDiff,wpr,again,A4e,A7u,forall_eq',g5,ge1,ge0,hx,e2,e3,A6a,hbs,ha,c1',st,f32,A3a hq hrl']
    refine k2 _ _ (by repeat (first | refine Same.put ?_ rfl | exact Same.rfl' _)) (by simp only [sx]) ⟨hk3.then (Nat.le_refl _) (e6.weak hin),_,Ls.set x (l++[e.1]),_,by rw [List.map_set,List.map_append]; exact e5,fun y hy=>?_,by rw [List.length_set]; exact hLl,fun k l' hkl=>?_⟩
    ·rcases e9 y hy with h1 | h1
     ·exact hin y h1
     ·have:=hk''.next
      have:(H''.new 4 (A2f e)).2.next=H''.next+1:=rfl
      omega
    ·rw [List.getElem?_set] at hkl
     by_cases hxk:x=k
     ·subst hxk
      rw [if_pos rfl,if_pos (by rw [hLl]; exact hxs)] at hkl
      rw [← Option.some.inj hkl]
      refine ⟨by rw [List.length_append]; simp; omega,fun t ht=>?_,fun t=>?_⟩
      ·rcases List.mem_append.1 ht with h2 | h2
       ·exact b2 t h2
       ·rw [List.mem_singleton.1 h2]; exact hrt e hrq
      ·rw [hjn,List.mem_append,List.mem_singleton,b3]
       constructor
       ·rintro ((h1 | h1) | h1)
        ·exact .inl h1
        ·exact .inr (.inl h1)
        ·exact .inr (.inr ⟨h1.symm,hx⟩)
       ·rintro (h1 | h1 | ⟨h1,_⟩)
        ·exact .inl (.inl h1)
        ·exact .inl (.inr h1)
        ·exact .inr h1.symm
     ·rw [if_neg hxk] at hkl
      obtain ⟨d1,d2,d3⟩:=hLi k l' hkl
      refine ⟨by omega,d2,fun t=>?_⟩
      rw [hjn,d3]
      have:¬(e.1=t∧e.2.1=(k:Int)):=fun h=>hxk (by have:=h.2; omega)
      simp [this]
   ·simp only [↓Sh.dn,sx,Nat.reduceEqDiff,hpos,decide_false,f32,A3a hq hrl']
    refine k2 _ _ (by repeat (first | refine Same.put ?_ rfl | exact Same.rfl' _)) (by simp only [sx]) ⟨hk3,vals2,Ls,obs,hJ3,hin,hLl,fun k l hkl=>?_⟩
    obtain ⟨d1,d2,d3⟩:=hLi k l hkl
    refine ⟨by omega,d2,fun t=>?_⟩
    rw [hjn,d3]
    have:¬(e.1=t∧e.2.1=(k:Int)):=fun h=>hpos (by have:=h.2; omega)
    simp [this]
  ·rintro F'' H'' hF'' f32 ⟨hk'',vals2,Ls,obs,hJ,hin,hLl,hLi⟩
   have g20:=hF'' 20 rfl
   have g31:=hF'' 31 rfl
   simp only [sx,Nat.reduceEqDiff,f20] at g20 g31
   rw [List.take_length] at hLi
   simp only [↓Sh.dn,sx,Nat.reduceBEq,Nat.reduceEqDiff,f32,g20,g31,A1a,Nat.lt_irrefl,decide_false,A3a hi (by omega)]
   refine k _ _ ?_ (by simp only [sx]) ⟨hk'',vals2,Ls,obs,hJ,hin,hLl,fun k l hkl=>?_⟩
   ·repeat refine Same.put ?_ rfl
    exact Same.trans (by repeat (first | refine Same.put ?_ rfl | exact Same.rfl' _)) (hF''.sub rfl)
   ·obtain ⟨d1,d2,d3⟩:=hLi k l hkl
    refine ⟨by omega,d2,fun t=>?_⟩
    rw [d3,htake]
    simp only [List.mem_append,List.mem_singleton]
    constructor
    ·rintro (⟨s',h1,h2⟩ | ⟨e,h1,h2,h3⟩)
     ·exact ⟨s',.inl h1,h2⟩
     ·exact ⟨s,.inr rfl,r,hr,e,h1,h2,h3⟩
    ·rintro ⟨s',h1 | h1,h2⟩
     ·exact .inl ⟨s',h1,h2⟩
     ·subst h1
      obtain ⟨r',h3,e,h4,h5,h6⟩:=h2
      rw [hr] at h3
      rw [← Option.some.inj h3] at h4
      exact .inr ⟨e,h4,h5,h6⟩
 ·rintro F H2 hF f20 ⟨hk,vals',Ls,obs,hJ,hin,hLl,hLi⟩
  have f0:=hF 0 rfl
  have f5:=hF 5 rfl
  have f19:=hF 19 rfl
  simp only [sx,reduceCtorEq,Nat.reduceEqDiff] at f0 f5 f19
  rw [List.take_length] at hLi
  have hlenJ:∀ H',A4a Tryz.prog .len [65] [lv] H'=some (.int .i64 (sigma.length:Int),H'):=fun H'=>by
   rw [hJ.top.toSl.len Tryz.underlying65,List.length_map,hJ.len1,List.length_map,hLl]
  have hmk2:=mk_117 (H:=H2) (l:=sigma.length) (c:=sigma.length) (Nat.le_refl _) (by omega)
  have k3:=Kept.new hk.wf 1 (List.replicate sigma.length (.slice none 0 0))
  have B3:=Buf.fill hk.wf (.slice none 0 0) (c:=sigma.length) (by omega)
  simp only [↓Sh.dn,sx,Nat.reduceEqDiff,f5,f19,f20,A1a,Nat.lt_irrefl,decide_false,hlenJ,hmk2]
  obtain ⟨oo,hoo⟩:∃ oo,(if sigma.length=0 then none else some H2.next)=oo:=⟨_,rfl⟩
  rw [hoo] at B3
  have hloo:∀ y,oo=some y→y=H2.next:=by
   intro y hy
   rw [← hoo] at hy
   split at hy
   ·cases hy
   ·exact (Option.some.inj hy).symm
  have hx3:H2.next < (H2.new 1 (List.replicate sigma.length (.slice none 0 0))).2.next:=Nat.lt_succ_self _
  have B3':Buf (H2.new 1 (List.replicate sigma.length (.slice none 0 0))).2 1 (.slice (some ⟨H2.next,0,some 0⟩) sigma.length sigma.length) ((List.replicate sigma.length (Value.slice none 0 0)).map fun x=>[x]) oo:=by simpa using B3
  generalize (Value.slice (some ⟨H2.next,0,some 0⟩) sigma.length sigma.length)=ov at B3' ⊢
  generalize (H2.new 1 (List.replicate sigma.length (.slice none 0 0))).2=H3 at k3 B3' hx3 ⊢
  refine A9c sigma.length 59 (List.range' 59 19++[11]) (fun i F H'=>Kept H2 H'∧H2.next < H'.next∧∃ vs:List Value,Buf H' 1 ov (vs.map fun x=>[x]) oo∧vs.length=sigma.length∧(∀ (k:Nat) v,vs[k]?=some v→i≤k→v=.slice none 0 0)∧∀ (k:Nat) v,vs[k]?=some v→k < i→∃ (out:List Nat) (o:Option Nat),Buf H' 1 v (out.map natC) o∧(∀ y,o=some y→H.next≤y∧oo≠some y)∧out.Nodup∧(∀ t∈out,t < n)∧∀ t,t∈out↔A9z E (fun s=>s∈L) k t) (by simp only [sx])
   ⟨k3,hx3,_,B3',by simp,(fun k v hv _=>by
    rw [List.getElem?_replicate] at hv
    split at hv
    ·exact (Option.some.inj hv).symm
    ·cases hv),fun k v _ hk0=>absurd hk0 (Nat.not_lt_zero k)⟩ ?_ ?_
  ·rintro i F' H' hi hF' f59 ⟨hk',hx',vs,hB,hvl,hnil,hset⟩ k
   have g0:=hF' 0 rfl
   have g5:=hF' 5 rfl
   have g10:=hF' 10 rfl
   have g58:=hF' 58 rfl
   simp only [sx,reduceCtorEq,Nat.reduceEqDiff,f0,f5] at g0 g5 g10 g58
   obtain ⟨l,hl⟩:∃ l,Ls[i]?=some l:=⟨Ls[i]'(by rw [hLl]; exact hi),List.getElem?_eq_getElem _⟩
   obtain ⟨b1,b2,b3⟩:=hLi i l hl
   have hJ':=hJ.kept hk.wf hk'
   obtain ⟨gj,oj,kj,wj,j1,j2,j3⟩:=hJ'.read.at Tryz.underlying65 A3y (i:=i) (r:=l.map natC) (by rw [List.getElem?_map,hl]; rfl)
   have hlw:=fun H'=>j3.len Tryz.underlying69 H'
   simp only [List.length_map] at hlw
   obtain ⟨v,hv⟩:∃ v,vs[i]?=some v:=⟨vs[i]'(by rw [hvl]; exact hi),List.getElem?_eq_getElem _⟩
   have hv0:=hnil i v hv (Nat.le_refl i)
   have hQ:(fun s=>s∈l)=fun t=>∃ s,s∈L∧A2c E (fun x=>x=(i:Int)) s t:=by
    funext t
    exact propext (b3 t)
   simp only [↓Sh.dn,sx,Nat.reduceEqDiff,f59,g5,g58,A1a,hi,decide_true,j1,j2,hlw]
   by_cases hle:l=[]
   ·have hz:decide ((0:Int) < ((l.length:Nat):Int))=false:=by rw [hle]; rfl
    simp only [↓Sh.dn,sx,Nat.reduceEqDiff,hz,f59,A3a hi (by omega)]
    refine k _ _ (by repeat (first | refine Same.put ?_ rfl | exact Same.rfl' _)) (by simp only [sx]) ⟨hk',hx',vs,hB,hvl,fun k v hv hik=>hnil k v hv (by omega),fun k w hv' hik=>?_⟩
    by_cases hki:k=i
    ·subst hki
     rw [hv] at hv'
     rw [← Option.some.inj hv',hv0]
     refine ⟨[],none,.void none,fun y hy=>(by cases hy),List.nodup_nil,fun t ht=>(by cases ht),fun t=>?_⟩
     unfold A9z
     rw [← hQ,hle]
     constructor
     ·intro ht; cases ht
     ·intro ht; exact absurd (ht.of (Q:=fun _=>False) (fun s hs=>by cases hs) fun _ _ h _=>h) id
    ·exact hset k w hv' (by omega)
   ·have hz : decide ((0 : Int) < ((l.length : Nat) : Int)) = true := by
      have := List.length_pos_iff.2 hle
      simp; omega
    obtain ⟨r6, H6, hd6, hk6, out, o6, hB6, hf6, hnd6, hlt6, hi6⟩ := B6k (h.kept hw (hk.trans hk')) j3 b2 (by omega) hk'.wf
    have hB6' := hB.kept hk'.wf hk6
    obtain ⟨p, e1, e2, e3⟩ := hB6'.spot Tryz.underlying117 B0c hk6.wf (i := i) (u := v) (by rw [List.getElem?_map, hv]; rfl)
    obtain ⟨H7, w1, w2, w3, w4⟩ := e3 r6
    have st : A6e Tryz.prog 114 H6 r6 (.pointer (some p)) = some H7 := by rw [A1c B0c hB6.isCell]; exact w1
    have hsep : ∀ y, o6 = some y → H.next ≤ y ∧ oo ≠ some y := fun y hy => by
      have h1 := hf6 y hy; have h2 := hk'.next; have h3 := hk.next
      exact ⟨by omega, fun hy2 => by have := hloo y hy2; omega⟩
    simp only [↓Sh.dn, sx, reduceCtorEq, Nat.reduceEqDiff, hz, g0, g5, g10, j1, j2]
    refine ⟨_, _, hd6, ?_⟩
    simp only [sx, e1, st, f59, A3a hi (by omega)]
    refine k _ _ (by repeat (first | refine Same.put ?_ rfl | exact Same.rfl' _)) (by simp only [sx]) ⟨(hk'.trans hk6).then (Nat.le_refl _) (w3.weak fun y hy => by rw [hloo y hy]; exact Nat.le_refl _), by have := hk6.next; have := w3.next; omega, vs.set i r6, by rw [List.map_set]; exact w2, by rw [List.length_set]; exact hvl, fun k w hv' hik => ?_, fun k w hv' hik => ?_⟩
    · rw [List.getElem?_set, if_neg (by omega)] at hv'
      exact hnil k w hv' (by omega)
    · rw [List.getElem?_set] at hv'
      by_cases hki : i = k
      · subst hki
        rw [if_pos rfl, if_pos (by rw [hvl]; exact hi)] at hv'
        rw [← Option.some.inj hv']
        refine ⟨out, o6, hB6.chg hk6.wf w3 fun y hy hy2 => (hsep y hy).2 hy2, hsep, hnd6, hlt6, fun t => ?_⟩
        rw [hi6, hQ]
        rfl
      · rw [if_neg hki] at hv'
        obtain ⟨out', o', m1, m2, m3⟩ := hset k w hv' (by omega)
        exact ⟨out', o', (m1.kept hk'.wf hk6).chg hk6.wf w3 fun y hy hy2 => (m2 y hy).2 hy2, m2, m3⟩
  ·rintro F' H' hF' f59 ⟨hk',hx',vs,hB,hvl,hnil,hset⟩
   have g10:=hF' 10 rfl
   have g58:=hF' 58 rfl
   simp only [sx,Nat.reduceEqDiff] at g10 g58
   simp only [↓Sh.dn,sx,Nat.reduceEqDiff,f59,g10,g58,A1a,Nat.lt_irrefl,decide_false,hres]
   refine ⟨hk.trans hk',vs,hvl,fun H'' hy=>⟨(hB.keep fun y h1=>hy y (by rw [hloo y h1]; exact hk.next) (hB.lt hk'.wf y h1)).toSl,fun k v hv=>?_⟩⟩
   obtain ⟨out,o,m1,m0,m2,m3,m4⟩:=hset k v hv (by rw [← hvl]; exact (List.getElem?_eq_some_iff.1 hv).1)
   exact ⟨out,(m1.keep fun y h1=>hy y (m0 y h1).1 (m1.lt hk'.wf y h1)).toSl,m2,m3,m4⟩
end Go.Proofs.YtcgbiedfbacgpaaGreat
/- (*graph.Graph).Arc: an arc is noted. -/
namespace Go.Proofs.YtcgbiedfbacgpaaGreat
open Go Go.Proofs Go.Proofs.Sh
theorem C7j {H:AH} {g:Nat} {sv av ev cv:Value} {ot:Option Nat} {vals:List Value} {rows:List (List (List Value))} {obs:List (Option Nat)} {s:Nat} {r:List (List Value)} {x0 x1 x2 x3:Int}
  (hg:Arr H g 0 4 [sv,av,ev,cv]) (hj:Jag H av ot 4 vals rows obs) (hgj:¬JIn ot obs g) (hr:rows[s]?=some r) (hl:r.length≤1073741823) (hw:Wf H):
  Sh.Call Tryz.prog (knows 7) 42 [.pointer (some ⟨g,0,some 0⟩),.int .i64 (s:Int),.int .i64 x0,.int .i64 x1,.int .i64 x2,.int .i64 x3] H (fun _ H'=>Chg (JIn ot obs) H H'∧∃ vals' obs',Jag H' av ot 4 vals' (rows.set s (r++[[.int .i64 x0,.int .i64 x1,.int .i64 x2,.int .i64 x3]])) obs'∧∀ y,JIn ot obs' y→JIn ot obs y∨H.next≤y):=by
 refine A2a rfl Tryz.func42 rfl (Nat.le_of_ble_eq_true rfl) ?_
 have hres:Tryz.f42.results.toList=[]:=rfl
 have hn:=hg.cell 1
 obtain ⟨a,cap,w',H2,H3,o',p,e1,e2,e3,e4,e5,e6,e7,e8,e9⟩:=hj.pushAt Tryz.underlying68 A39 hw hr (x:=[.int .i64 x0,.int .i64 x1,.int .i64 x2,.int .i64 x3]) rfl
 have hb:=bld_95 (v0:=.int .i64 x0) (v1:=.int .i64 x1) (v2:=.int .i64 x2) (v3:=.int .i64 x3) rfl rfl rfl rfl
 have hbs:=B70 (H:=H) (x:=.agg #[.int .i64 x0,.int .i64 x1,.int .i64 x2,.int .i64 x3]) rfl rfl
 have ha:=C1r (H:=H) (base:=a) (len:=r.length) (cap:=cap) (x:=[.int .i64 x0,.int .i64 x1,.int .i64 x2,.int .i64 x3]) rfl (by omega)
 rw [e1] at ha
 have hn2:=(hg.keep (e7.old g (hg.lt hw) hgj)).cell 1
 have st:A6e Tryz.prog 92 H2 w' (.pointer (some p))=some H3:=by rw [A1c A39 e8,e4]
 have hav:=hj.top.veq
 have va:∀ xs:Array Value,A6a (.agg xs)=xs.toList:=fun _=>rfl
 simp only [va] at hbs
 refine A9w (fl:=[(0,[]),(1,[]),(2,[]),(3,[]),(4,[]),(5,[]),(6,[]),(7,[]),(8,[]),(9,[]),(10,[]),(11,[]),(12,[]),(13,[]),(14,[]),(15,[]),(16,[]),(17,[]),(18,[3]),(19,[]),(20,[])]) (by kernel_rfl) (by kernel_rfl) (by kernel_rfl) ?_
 simp only [↓Sh.dn,sx,reduceCtorEq,Nat.reduceEqDiff,wpr,again,A4e,forall_eq',hn,e2,e3,hb,hbs,ha,hn2,st,hres,hav]
 exact ⟨e6,_,_,e5,e9⟩
end Go.Proofs.YtcgbiedfbacgpaaGreat
/- (*graph.Graph).End: an end is noted. -/
namespace Go.Proofs.YtcgbiedfbacgpaaGreat
open Go Go.Proofs Go.Proofs.Sh
def A9y (n c x:Int):Int:=if n=0∨x < c then x else c
theorem graphEnd {H:AH} {g:Nat} {sv av ev cv:Value} {ends costs:List Int} {oe oc:Option Nat} {s:Nat} {x:Int}
  (hg:Arr H g 0 4 [sv,av,ev,cv]) (he:Buf H 1 ev (ends.map fun n=>[.int .i64 n]) oe) (hc:Buf H 1 cv (costs.map fun n=>[.int .i64 n]) oc)
  (hge:oe≠some g) (hgc:oc≠some g) (hec:∀ y,oe=some y→oc≠some y) (hs:s < ends.length) (hs':s < costs.length) (hw:Wf H)
  (h0:0≤ends[s]) (h1:ends[s]≤1048576):
  Sh.Call Tryz.prog (knows 7) 43 [.pointer (some ⟨g,0,some 0⟩),.int .i64 (s:Int),.int .i64 x] H (fun r H'=>Chg (fun y=>oe=some y∨oc=some y) H H'∧H'.next=H.next∧Buf H' 1 ev ((ends.set s (ends[s]+1)).map fun n=>[.int .i64 n]) oe∧Buf H' 1 cv ((costs.set s (A9y ends[s] costs[s] x)).map fun n=>[.int .i64 n]) oc):=by
 refine A2a rfl Tryz.func43 rfl (Nat.le_of_ble_eq_true rfl) ?_
 have hres:Tryz.f43.results.toList=[]:=rfl
 have hn:=hg.cell 2
 have hm:=hg.cell 3
 obtain ⟨q,o,k,hia,hcs,hcc⟩:=he.toSl.at Tryz.underlying69 A3c (i:=s) (x:=[.int .i64 ends[s]]) (by simp [hs]) .i64
 have hy:=hcc 0 _ rfl
 obtain ⟨q',o',k',hia',hcs',hcc'⟩:=hc.toSl.at Tryz.underlying69 A3c (i:=s) (x:=[.int .i64 costs[s]]) (by simp [hs']) .i64
 have hy':=hcc' 0 _ rfl
 simp only [Nat.add_zero] at hy hy'
 have wu:IntKind.wrap .i64 (ends[s]+1)=ends[s]+1:=by rw [wrap64 (by omega) (by omega)]
 have tl : ∀ H1, Chg (fun y => oc = some y) H H1 → H1.next = H.next → ∃ H2, H1.cell ⟨g, 2, some 0⟩ = some ev ∧ H1.cell ⟨q, o, some k⟩ = some (.int .i64 ends[s]) ∧
     H1.write ⟨q, o, some k⟩ [.int .i64 (ends[s] + 1)] = some H2 ∧ Buf H2 1 ev ((ends.set s (ends[s] + 1)).map fun n => [.int .i64 n]) oe ∧ Chg (fun y => oe = some y ∨ oc = some y) H H2 ∧ Chg (fun y => oe = some y) H1 H2 ∧ H2.next = H.next := by
   intro H1 hch hnx
   have he1 := he.chg hw hch fun y h1 h2 => hec y h1 h2
   obtain ⟨q1, o1, k1, hia1, hcs, hcc⟩ := he1.toSl.at Tryz.underlying69 A3c (i := s) (x := [.int .i64 ends[s]]) (by simp [hs]) .i64
   have hy := hcc 0 _ rfl
   simp only [Nat.add_zero] at hy
   obtain ⟨pe, H2, ia1, e1, b1, c1, n1⟩ := Buf.set (P := Tryz.prog) he1 hch.wf (i := s) (x := [.int .i64 (ends[s] + 1)]) (by simpa using hs) rfl
   have ia := ia1 Tryz.underlying69 A3c (j := .i64)
   rw [hia1] at ia
   injection ia with ia; injection ia with ia; injection ia with ia; subst ia
   rw [hia] at hia1
   injection hia1 with ib; injection ib with ib; injection ib with ib; rw [← ib] at hy e1
   have hg1 := hg.keep (hch.old g (hg.lt hw) hgc)
   exact ⟨H2, hg1.cell 2, hy, e1, by simpa only [List.map_set] using b1, (hch.weak fun _ h => Or.inr h).trans (c1.weak fun _ h => Or.inl h), c1, by rw [n1, hnx]⟩
 have st:∀ (H:AH) (a:Addr) (n:Int),A6e Tryz.prog 3 H (.int .i64 n) (.pointer (some a))=H.write a [.int .i64 n]:=fun H a n=>A1c A3c rfl
 have lastC:∀ H1 H2,Buf H1 1 cv ((costs.set s x).map fun n=>[.int .i64 n]) oc→Wf H1→Chg (fun y=>oe=some y) H1 H2→(ends[s]=0∨x < costs[s])→Buf H2 1 cv ((costs.set s (A9y ends[s] costs[s] x)).map fun n=>[.int .i64 n]) oc:=by
  intro H1 H2 hb hw1 hch h
  unfold A9y
  rw [if_pos h]
  exact hb.chg hw1 hch fun y h1 h2=>hec y h2 h1
 obtain ⟨pc,C1,ia2,f1,d1,g1,m1⟩:=Buf.set (P:=Tryz.prog) hc hw (i:=s) (x:=[.int .i64 x]) (by simpa using hs') rfl
 have ia:=ia2 Tryz.underlying69 A3c (j:=.i64)
 rw [hia'] at ia
 injection ia with ia; injection ia with ia; injection ia with ia; subst ia
 have d1':Buf C1 1 cv ((costs.set s x).map fun n=>[.int .i64 n]) oc:=by simpa only [List.map_set] using d1
 by_cases hz:ends[s]=0
 ·have d:decide (ends[s]=0)=true:=by simp [hz]
  obtain ⟨H2,j2,j3,j4,j5,j6,j7,j8⟩:=tl C1 g1 m1
  simp only [↓Sh.dn,sx,reduceCtorEq,Nat.reduceEqDiff,hn,hm,hia,hy,hia',d,st,f1,j2,j3,j4,wu,hres]
  exact ⟨j6,j8,j5,lastC _ _ d1' g1.wf j7 (Or.inl hz)⟩
 ·have d:decide (ends[s]=0)=false:=by simp [hz]
  by_cases hx:x < costs[s]
  ·have d':decide (x < costs[s])=true:=by simp [hx]
   obtain ⟨H2,j2,j3,j4,j5,j6,j7,j8⟩:=tl C1 g1 m1
   simp only [↓Sh.dn,sx,reduceCtorEq,Nat.reduceEqDiff,hn,hm,hia,hy,hia',hy',d,d',st,f1,j2,j3,j4,wu,hres]
   exact ⟨j6,j8,j5,lastC _ _ d1' g1.wf j7 (Or.inr hx)⟩
  ·have d':decide (x < costs[s])=false:=by simp [hx]
   obtain ⟨H2,j2,j3,j4,j5,j6,j7,j8⟩:=tl H (Chg.refl hw) rfl
   simp only [↓Sh.dn,sx,reduceCtorEq,Nat.reduceEqDiff,hn,hm,hia,hy,hia',hy',d,d',st,j4,wu,hres]
   refine ⟨j6,j8,j5,?_⟩
   have e:costs.set s (A9y ends[s] costs[s] x)=costs:=by
    unfold A9y
    rw [if_neg (by simp [hz,hx])]
    exact List.set_getElem_self hs'
   rw [e]; exact hc.chg hw j7 fun y h1 h2=>hec y h2 h1
end Go.Proofs.YtcgbiedfbacgpaaGreat
/- (*graph.Graph).Arc and End, of a graph that is being made. -/
namespace Go.Proofs.YtcgbiedfbacgpaaGreat
open Go Go.Proofs Go.Proofs.Sh
theorem GrB.arced {H H':AH} {base g:Nat} {sv av ev cv:Value} {os ot oe oc:Option Nat} {vals vals':List Value} {obs obs':List (Option Nat)} {sigma:List ByteArray} {rows rows':List (List (List Value))} {ends costs:List Int}
  (h:GrB H base g sv av ev cv os ot oe oc vals obs sigma rows ends costs) (hw:Wf H) (hc:Chg (JIn ot obs) H H') (hj:Jag H' av ot 4 vals' rows' obs') (hin:∀ y,JIn ot obs' y→JIn ot obs y∨H.next≤y):
  Chg (fun y=>base≤y) H H'∧Gr H' base g sigma rows' ends costs:=by
 have hg:=h.arr.lt hw
 refine ⟨hc.weak h.fj,sv,av,ev,cv,os,ot,oe,oc,vals',obs',?_⟩
 exact { h with
  arr:=h.arr.keep (hc.old g hg h.gj)
  sg:=h.sg.chg hw hc h.sj
  jag:=hj
  en:=h.en.chg hw hc h.je
  co:=h.co.chg hw hc h.jc
  fj:=fun y hy=>by
   rcases hin y hy with h1 | h1
   ·exact h.fj y h1
   ·have:=h.fg; omega
  gj:=fun hy=>by
   rcases hin g hy with h1 | h1
   ·exact h.gj h1
   ·omega
  sj:=fun y hy hy2=>by
   rcases hin y hy2 with h1 | h1
   ·exact h.sj y hy h1
   ·have:=h.sg.lt hw y hy; omega
  je:=fun y hy hy2=>by
   rcases hin y hy2 with h1 | h1
   ·exact h.je y hy h1
   ·have:=h.en.lt hw y hy; omega
  jc:=fun y hy hy2=>by
   rcases hin y hy2 with h1 | h1
   ·exact h.jc y hy h1
   ·have:=h.co.lt hw y hy; omega }
theorem grArc {H:AH} {base g:Nat} {sigma:List ByteArray} {rows:List (List (List Value))} {ends costs:List Int} {s:Nat} {r:List (List Value)} {x0 x1 x2 x3:Int}
  (h:Gr H base g sigma rows ends costs) (hr:rows[s]?=some r) (hl:r.length≤1073741823) (hw:Wf H):
  Sh.Call Tryz.prog (knows 7) 42 [.pointer (some ⟨g,0,some 0⟩),.int .i64 (s:Int),.int .i64 x0,.int .i64 x1,.int .i64 x2,.int .i64 x3] H (fun _ H'=>Chg (fun y=>base≤y) H H'∧Gr H' base g sigma (rows.set s (r++[[.int .i64 x0,.int .i64 x1,.int .i64 x2,.int .i64 x3]])) ends costs):=by
 obtain ⟨sv,av,ev,cv,os,ot,oe,oc,vals,obs,h⟩:=h
 refine (C7j h.arr h.jag h.gj hr hl hw).mono ?_
 rintro _ H' ⟨hc,vals',obs',hj,hin⟩
 exact GrB.arced h hw hc hj hin
theorem grEnd {H:AH} {base g:Nat} {sigma:List ByteArray} {rows:List (List (List Value))} {ends costs:List Int} {s:Nat} {x:Int}
  (h:Gr H base g sigma rows ends costs) (hs:s < ends.length) (hs':s < costs.length) (hw:Wf H) (h0:0≤ends[s]) (h1:ends[s]≤1048576):
  Sh.Call Tryz.prog (knows 7) 43 [.pointer (some ⟨g,0,some 0⟩),.int .i64 (s:Int),.int .i64 x] H (fun _ H'=>Chg (fun y=>base≤y) H H'∧Gr H' base g sigma rows (ends.set s (ends[s]+1)) (costs.set s (A9y ends[s] costs[s] x))):=by
 obtain ⟨sv,av,ev,cv,os,ot,oe,oc,vals,obs,h⟩:=h
 refine (graphEnd h.arr h.en h.co h.ge h.gc h.ec hs hs' hw h0 h1).mono ?_
 rintro _ H' ⟨hc,hn,he,hcc⟩
 refine ⟨hc.weak fun y hy=>?_,sv,av,ev,cv,os,ot,oe,oc,vals,obs,{ h with arr:=h.arr.keep (hc.old g (h.arr.lt hw) ?_),sg:=h.sg.chg hw hc ?_,jag:=h.jag.chg hw hc ?_,en:=he,co:=hcc }⟩
 ·rcases hy with hy | hy
  ·exact h.fe y hy
  ·exact h.fc y hy
 ·rintro (hy | hy)
  ·exact h.ge hy
  ·exact h.gc hy
 ·rintro y hy (hy2 | hy2)
  ·exact h.se y hy hy2
  ·exact h.sc y hy hy2
 ·rintro y hy (hy2 | hy2)
  ·exact h.je y hy2 hy
  ·exact h.jc y hy2 hy
end Go.Proofs.YtcgbiedfbacgpaaGreat
/- slices.Clone. -/
namespace Go.Proofs.YtcgbiedfbacgpaaGreat
open Go Go.Proofs Go.Proofs.Sh
theorem B28 {H:AH} {v:Value} {l:List (List Value)} (hs:Sl H v 1 l) (hl:l.length≤1073741823) (hw:Wf H):
  Sh.Call Tryz.prog (knows 7) 80 [v] H (fun r H'=>Kept H H'∧∃ b,Buf H' 1 r l b∧∀ g,b=some g→H.next≤g):=by
 refine A2a rfl Tryz.func80 rfl (Nat.le_of_ble_eq_true rfl) ?_
 have hres:Tryz.f80.results.toList=[.tmp 2]:=rfl
 obtain ⟨a,cap,rfl,h2,h3,h4⟩:=id hs
 cases a with
 | none=>
  obtain ⟨rfl,rfl⟩:=h3 rfl
  simp only [↓Sh.dn,sx,reduceCtorEq,List.length_nil,Option.isNone_none,hres]
  exact ⟨Kept.refl hw,none,.void none,fun g h=>by cases h⟩
 | some a=>
  have hs1:=hs.grow (HGrow.new hw 1 [])
  have hk1:Kept H (H.new 1 []).2:=Kept.new hw 1 []
  obtain ⟨v',H',b',e1,e2,e3,e4⟩:=(Buf.void (H:=(H.new 1 []).2) (s:=1) (some ⟨H.next,0,some 0⟩)).append hk1.wf h2
  have happ:=C2z (base:=some ⟨H.next,0,some 0⟩) (len:=0) (cap:=0) (hs1.srcKind Tryz.underlying22) hs1.newCells (by omega)
  have hk2:Kept (H.new 1 []).2 H':=e3.kept fun g hg h=>by cases h
  simp only [↓Sh.dn,sx,reduceCtorEq,Nat.reduceEqDiff,Option.isNone_some,happ,e1,hres]
  refine ⟨hk1.trans hk2,b',by simpa using e2,fun g hg=>?_⟩
  rcases e4 with rfl | ⟨rfl,_⟩
  ·cases hg
  ·cases hg; exact Nat.le_succ _
theorem cloneStr {H:AH} {v:Value} {l:List (List Value)} (hs:Sl H v 1 l) (hl:l.length≤1048576) (hw:Wf H):
  Sh.Call Tryz.prog (knows 7) 80 [v] H (fun r H'=>Kept H H'∧∃ b,Buf H' 1 r l b∧∀ g,b=some g→H.next≤g):=B28 hs (Nat.le_trans hl (by decide)) hw
end Go.Proofs.YtcgbiedfbacgpaaGreat
/- graph.New. -/
namespace Go.Proofs.YtcgbiedfbacgpaaGreat
open Go Go.Proofs Go.Proofs.Sh
theorem objNew {H:AH} {s:Nat} {vals:List Value} (h:veqs vals vals=true):∀ x,(H.new s vals).2.objs.get H.next=some x→B5e x x=true:=by
 intro x hx
 have:=Obj.new (H:=H) s vals
 unfold Obj at this
 rw [this] at hx
 injection hx with hx
 subst hx
 simp [B5e,rowEq,h]
theorem B11 {H:AH} {n:Nat} {z:Value} (hz:veq z z=true):∀ x,(H.new 1 (List.replicate n z)).2.objs.get H.next=some x→B5e x x=true:=
 objNew (B4g fun x hx=>by rw [(List.mem_replicate.1 hx).2]; exact hz)
theorem B9q {H:AH} {v:Value} {l:List ByteArray} {n:Nat} (hs:Sl H v 1 (l.map A5b)) (hl:l.length≤1048576) (hn:n≤1048576) (hw:Wf H):
  Sh.Call Tryz.prog (knows 7) 39 [v,.int .i64 (n:Int)] H (fun r H'=>Kept H H'∧∃ g,r=.pointer (some ⟨g,0,some 0⟩)∧Gr H' H.next g l (List.replicate n []) (List.replicate n 0) (List.replicate n 0)):=by
 refine A2a rfl Tryz.func39 rfl (Nat.le_of_ble_eq_true rfl) ?_
 have hres:Tryz.f39.results.toList=[.tmp 4]:=rfl
 have m1:=mk_68 (H:=H) (l:=n) (c:=n) (Nat.le_refl _) (by omega)
 obtain ⟨K1,hK1⟩:∃ K,(H.new 1 (List.replicate n (.slice none 0 0))).2=K:=⟨_,rfl⟩
 have k1:=Kept.new hw 1 (List.replicate n (.slice none 0 0))
 have jg:=Jag.make hw 4 (n:=n) (by omega)
 rw [hK1] at m1 k1 jg
 have m2:=mk_69 (H:=K1) (l:=n) (c:=n) (Nat.le_refl _) (by omega)
 have k2:=Kept.new k1.wf 1 (List.replicate n (.int .i64 0))
 have f2:=Buf.fill k1.wf (.int .i64 0) (c:=n) (by omega)
 obtain ⟨K2,hK2⟩:∃ K,(K1.new 1 (List.replicate n (.int .i64 0))).2=K:=⟨_,rfl⟩
 rw [hK2] at m2 k2 f2
 have m3:=mk_69 (H:=K2) (l:=n) (c:=n) (Nat.le_refl _) (by omega)
 have k3:=Kept.new k2.wf 1 (List.replicate n (.int .i64 0))
 have f3:=Buf.fill k2.wf (.int .i64 0) (c:=n) (by omega)
 obtain ⟨K3,hK3⟩:∃ K,(K2.new 1 (List.replicate n (.int .i64 0))).2=K:=⟨_,rfl⟩
 rw [hK3] at m3 k3 f3
 have x1:H.next < K1.next:=by rw [← hK1]; exact Nat.lt_succ_self _
 have x2:K1.next < K2.next:=by rw [← hK2]; exact Nat.lt_succ_self _
 have x3:K2.next < K3.next:=by rw [← hK3]; exact Nat.lt_succ_self _
 have k123:=(k1.trans k2).trans k3
 obtain ⟨r,H1,hd,hk,b,hb,hf⟩:=cloneStr (hs.grow (k123.grow hw)) (by simpa using hl) k123.wf
 have o1:=B11 (H:=H) (n:=n) (z:=.slice none 0 0) rfl
 have o2:=B11 (H:=K1) (n:=n) (z:=.int .i64 0) A7u
 have o3:=B11 (H:=K2) (n:=n) (z:=.int .i64 0) A7u
 rw [hK1] at o1; rw [hK2] at o2; rw [hK3] at o3
 simp only [↓Sh.wp_seq]
 simp only [↓Sh.dn,sx]
 refine B0t (fl:=[(0,true),(2,true),(3,false),(4,true),(5,false),(6,true),(7,false),(1,false),(8,true),(9,false),(10,true)]) (by kernel_rfl) (by kernel_rfl) hw ?_
 simp only [↓Sh.dn,sx,reduceCtorEq,Nat.reduceEqDiff,wpg,C8r,isEff,A4e,isRead,forall_eq',m1,m2,m3]
 refine ⟨o1,o2,o3,_,_,hd,hk.wf,hk.grow k123.wf,?_⟩
 have nw:∀ (H:AH) (a b c d:Value),isCell a=true→isCell b=true→isCell c=true→isCell d=true→anew Tryz.prog 71 H (.agg #[a,b,c,d])=some (.pointer (some ⟨H.next,0,some 0⟩),(H.new 4 [a,b,c,d]).2):=
  fun H a b c d ha hb hc hd=>A6r C7r rfl (by simp [ha,hb,hc,hd])
 have bl:∀ a b c d:Value,isCell a=true→isCell b=true→isCell c=true→isCell d=true→A9r Tryz.prog 71 [(0,a),(1,b),(2,c),(3,d)]=some (.agg #[a,b,c,d]):=by
  intro a b c d ha hb hc hd
  have va:∀ xs:Array Value,A6a (.agg xs)=xs.toList:=fun _=>rfl
  refine A3o (pl:=[(0,1),(1,1),(2,1),(3,1)]) Tryz.underlying71 B39 (by kernel_rfl) ?_
  simp [A82,A7b ha,A7b hb,A7b hc,A7b hd,va,ha,hb,hc,hd,setCells,A5c]
 have cr:=hb.isCell
 have q:=nw H1 r (.slice (some ⟨H.next,0,some 0⟩) n n) (.slice (some ⟨K1.next,0,some 0⟩) n n) (.slice (some ⟨K2.next,0,some 0⟩) n n) cr rfl rfl rfl
 have oq:=Obj.new (H:=H1) 4 [r,.slice (some ⟨H.next,0,some 0⟩) n n,.slice (some ⟨K1.next,0,some 0⟩) n n,.slice (some ⟨K2.next,0,some 0⟩) n n]
 have ee:veqs [r,.slice (some ⟨H.next,0,some 0⟩) n n,.slice (some ⟨K1.next,0,some 0⟩) n n,.slice (some ⟨K2.next,0,some 0⟩) n n] [r,.slice (some ⟨H.next,0,some 0⟩) n n,.slice (some ⟨K1.next,0,some 0⟩) n n,.slice (some ⟨K2.next,0,some 0⟩) n n]=true:=by
  refine B4g fun x hx=>?_
  simp only [List.mem_cons,List.not_mem_nil,or_false] at hx
  rcases hx with rfl | rfl | rfl | rfl
  ·exact hb.toSl.veq
  ·exact A6s
  ·exact A6s
  ·exact A6s
 have o4:=objNew (H:=H1) (s:=4) ee
 have k4:=Kept.new hk.wf 4 [r,.slice (some ⟨H.next,0,some 0⟩) n n,.slice (some ⟨K1.next,0,some 0⟩) n n,.slice (some ⟨K2.next,0,some 0⟩) n n]
 have bq:=bl r (.slice (some ⟨H.next,0,some 0⟩) n n) (.slice (some ⟨K1.next,0,some 0⟩) n n) (.slice (some ⟨K2.next,0,some 0⟩) n n) cr rfl rfl rfl
 simp only [sx,bq,q,hres]
 have hbs:∀ g,b=some g→K3.next≤g:=hf
 have if1:∀ {m y:Nat},(if n=0 then none else some m)=some y→y=m:=by
  intro m y h
  by_cases hn0:n=0
  ·rw [if_pos hn0] at h; cases h
  ·rw [if_neg hn0] at h; exact (Option.some.inj h).symm
 have jin:∀ y,JIn (if n=0 then none else some H.next) (List.replicate n none) y→y=H.next:=by
  rintro y (h | ⟨i,h⟩)
  ·exact if1 h
  ·rw [List.getElem?_replicate] at h
   split at h <;> cases h
 have hn:=hk.next
 have c1:=(((jg.kept k1.wf k2).kept k2.wf k3).kept k3.wf hk).kept hk.wf k4
 have c2:=((f2.kept k2.wf k3).kept k3.wf hk).kept hk.wf k4
 have c3:=(f3.kept k3.wf hk).kept hk.wf k4
 have rp:∀ m:Int,(List.replicate n m).map intC=List.replicate n [.int .i64 m]:=fun m=>by simp [intC]
 have hlt:=fun y (h:b=some y)=>hb.lt hk.wf y h
 refine ⟨o4,k123.trans (hk.trans k4),_,rfl,_,_,_,_,b,_,_,_,_,_,⟨oq.arr,hb.kept hk.wf k4,c1,by rw [rp]; exact c2,by rw [rp]; exact c3,?_,?_,?_,?_,?_,?_,?_,?_,?_,?_,?_,?_,?_,?_,?_⟩⟩
 ·omega
 ·intro y h; have:=hbs y h; omega
 ·intro y h; rw [jin y h]; exact Nat.le_refl _
 ·intro y h; rw [if1 h]; omega
 ·intro y h; rw [if1 h]; omega
 ·intro h; have:=hlt _ h; omega
 ·intro h; have:=jin _ h; omega
 ·intro h; have:=if1 h; omega
 ·intro h; have:=if1 h; omega
 ·intro y h h2; have:=hbs y h; have:=jin y h2; omega
 ·intro y h h2; have:=hbs y h; have:=if1 h2; omega
 ·intro y h h2; have:=hbs y h; have:=if1 h2; omega
 ·intro y h h2; have:=if1 h; have:=jin y h2; omega
 ·intro y h h2; have:=if1 h; have:=jin y h2; omega
 ·intro y h h2; have:=if1 h; have:=if1 h2; omega
end Go.Proofs.YtcgbiedfbacgpaaGreat
/- (*graph.Graph).Back: the graph with its arcs the other way round. -/
namespace Go.Proofs.YtcgbiedfbacgpaaGreat
open Go Go.Proofs Go.Proofs.Sh
theorem B0d {H:AH} {g n:Nat} {E:List (List (Nat×Int×Int×Int))} {ends:List Int} {sv av ev cv:Value} {vals:List Value} {sigma:List ByteArray} {costs:List Int} (h:PG H g n 60000 E ends sv av ev cv vals sigma costs) (hsg:sigma.length≤1048576) (hw:Wf H):
  Sh.Call Tryz.prog (knows 7) 65 [.pointer (some ⟨g,0,some 0⟩)] H (fun r H'=>Kept H H'∧∃ g',r=.pointer (some ⟨g',0,some 0⟩)∧∃ R base,H.next≤base∧Gr H' base g' sigma (A9i R) (List.replicate n 0) (List.replicate n 0)∧R.length=n∧(∀ r∈R,r.length≤180000000∧∀ e∈r,e.1 < n)∧∀ p t s,A2c R p t s↔A2c E p s t):=by
 refine A2a rfl Tryz.func65 rfl (Nat.le_of_ble_eq_true rfl) ?_
 have hres:Tryz.f65.results.toList=[.tmp 2]:=rfl
 have hn2:=h.n2
 have hc0:=h.gr.arr.cell 0
 have hc1:=h.gr.arr.cell 1
 have hlenA:∀ H',A4a Tryz.prog .len [68] [av] H'=some (.int .i64 (n:Int),H'):=fun H'=>by
  rw [h.gr.jag.sl.len Tryz.underlying68,List.length_map,h.gr.jag.len]; unfold A9i; rw [List.length_map,h.le]
 obtain ⟨r1,H1,hd1,hk1,g1,rfl,hG1⟩:=B9q (n:=n) h.gr.sg hsg (by omega) hw
 simp only [↓Sh.dn,sx]
 refine A9w (fl:=[(0,[]),(1,[]),(2,[]),(3,[]),(4,[]),(5,[]),(6,[]),(7,[]),(8,[]),(9,[]),(10,[])]) (by kernel_rfl) (by kernel_rfl) (by kernel_rfl) ?_
 simp only [↓Sh.dn,sx,reduceCtorEq,Nat.reduceEqDiff,wpr,again,hc0,hc1,hlenA]
 refine ⟨_,_,hd1,?_⟩
 have hc1':=A2b (hk1.grow hw) hc1
 simp only [sx,hc1',hlenA]
 have hg0:A9i (List.replicate n ([]:List (Nat×Int×Int×Int)))=List.replicate n []:=by simp [A9i]
 rw [← hg0] at hG1
 refine A9c n 23 (List.range' 23 24++[4,5,7]) (fun i F H'=>Kept H H'∧∃ R,Gr H' H.next g1 sigma (A9i R) (List.replicate n 0) (List.replicate n 0)∧R.length=n∧(∀ r∈R,r.length≤i * 60000∧∀ e∈r,e.1 < n)∧∀ p t s,A2c R p t s↔s < i∧A2c E p s t) (by simp only [sx]) ⟨hk1,_,hG1,by simp,fun r hr=>by rw [List.eq_of_mem_replicate hr]; simp,fun p t s=>by
  constructor
  ·rintro ⟨r,h1,e,h2,_⟩
   rw [List.getElem?_replicate] at h1
   split at h1
   ·rw [← Option.some.inj h1] at h2; cases h2
   ·cases h1
  ·rintro ⟨h1,_⟩; exact absurd h1 (Nat.not_lt_zero _)⟩ ?_ ?_
 ·rintro i F H' hi hF f23 ⟨hk,R,hG,hRl,hRr,hiff⟩ k
  have f3:=hF 3 rfl
  have f21:=hF 21 rfl
  have f22:=hF 22 rfl
  simp only [sx,Nat.reduceEqDiff] at f3 f21 f22
  obtain ⟨r,hr⟩:∃ r,E[i]?=some r:=⟨E[i]'(by rw [h.le]; exact hi),List.getElem?_eq_getElem _⟩
  obtain ⟨hrl,hrt⟩:=h.to i r hr
  obtain ⟨pr,wr,hiar,hcr,hsr,hlr⟩:=PG.row h hr
  have q2:=A2b (hk.grow hw) hcr
  simp only [↓Sh.dn,sx,Nat.reduceEqDiff,f21,f22,f23,A1a,hi,decide_true,hiar,q2,hlr]
  refine A9c r.length 30 (List.range' 30 16++[7]) (fun q F'' H''=>Kept H H''∧∃ R,Gr H'' H.next g1 sigma (A9i R) (List.replicate n 0) (List.replicate n 0)∧R.length=n∧(∀ r∈R,r.length≤i * 60000+q∧∀ e∈r,e.1 < n)∧∀ p t s,A2c R p t s↔s < i∧A2c E p s t∨s=i∧∃ e∈r.take q,e.1=t∧p e.2.1) (by simp only [sx]) ⟨hk,R,hG,hRl,fun r hr=>⟨Nat.le_trans (hRr r hr).1 (Nat.le_add_right _ _),(hRr r hr).2⟩,fun p t s=>by rw [hiff]; simp⟩ ?_ ?_
  ·rintro q F'' H'' hq hF'' f30 ⟨hk'',R,hG,hRl,hRr,hiff⟩ k2
   have g3:=hF'' 3 rfl
   have g4:=hF'' 4 rfl
   have g28:=hF'' 28 rfl
   have g29:=hF'' 29 rfl
   simp only [sx,Nat.reduceEqDiff,f3] at g3 g4 g28 g29
   obtain ⟨pe,hiae,hce⟩:=PG.edge (hsr.grow (hk''.grow hw)) hq
   have hrq:r[q]∈r:=List.getElem_mem hq
   have htk:r.take (q+1)=r.take q++[r[q]]:=by rw [List.take_add_one,List.getElem?_eq_getElem hq]; rfl
   generalize r[q]=e at hce hrq htk
   have kn:=Kept.new hk''.wf 4 (A2f e)
   have hk3:=hk''.trans kn
   have hG3:=hG.kept hk''.wf kn
   obtain ⟨ro,hro2⟩:∃ ro,R[e.1]?=some ro:=⟨R[e.1]'(by rw [hRl]; exact hrt e hrq),List.getElem?_eq_getElem _⟩
   have hrow:(A9i R)[e.1]?=some (ro.map A2f):=by unfold A9i; rw [List.getElem?_map,hro2]; rfl
   obtain ⟨hrol,hrot⟩:=hRr ro (List.mem_of_getElem? hro2)
   obtain ⟨rr,H5,hd5,hc5,hG5⟩:=grArc (x0:=(i:Int)) (x1:=e.2.1) (x2:=e.2.2.1) (x3:=e.2.2.2) hG3 hrow (by rw [List.length_map]; omega) hk3.wf
   simp only [↓Sh.dn,sx,Nat.reduceEqDiff,f30,g3,g4,g28,g29,hiae,hce,A1a,hq,decide_true,B5a,A6y,B2a,ge0,ge1,ge2,ge3]
   refine ⟨_,_,hd5,?_⟩
   simp only [A3a hq (Nat.le_trans hrl (by decide))]
   have hrs:A9i (R.set e.1 (ro++[(i,e.2)]))=(A9i R).set e.1 (ro.map A2f++[[.int .i64 (i:Int),.int .i64 e.2.1,.int .i64 e.2.2.1,.int .i64 e.2.2.2]]):=by unfold A9i; rw [List.map_set]; simp [A2f]
   refine k2 _ _ (by repeat (first | refine Same.put ?_ rfl | exact Same.rfl' _)) (by simp only [sx]) ⟨hk3.then (Nat.le_refl _) hc5,R.set e.1 (ro++[(i,e.2)]),by rw [hrs]; exact hG5,by rw [List.length_set]; exact hRl,fun r' hr'=>?_,fun p t s=>?_⟩
   ·rcases List.mem_or_eq_of_mem_set hr' with h1 | h1
    ·have:=hRr r' h1; exact ⟨by omega,this.2⟩
    ·rw [h1]
     refine ⟨by rw [List.length_append]; simp; omega,fun e' he'=>?_⟩
     rcases List.mem_append.1 he' with h2 | h2
     ·exact hrot e' h2
     ·rw [List.mem_singleton.1 h2]; exact hi
   ·rw [C5m hro2,hiff,htk]
    simp only [List.mem_append,List.mem_singleton]
    constructor
    ·rintro ((h1 | ⟨h1,e',h2,h3⟩) | ⟨h1,h2,h3⟩)
     ·exact .inl h1
     ·exact .inr ⟨h1,e',.inl h2,h3⟩
     ·exact .inr ⟨h3,e,.inr rfl,h1.symm,h2⟩
    ·rintro (h1 | ⟨h1,e',h2 | h2,h3,h4⟩)
     ·exact .inl (.inl h1)
     ·exact .inl (.inr ⟨h1,e',h2,h3,h4⟩)
     ·subst h2; exact .inr ⟨h3.symm,h4,h1⟩
  ·rintro F'' H'' hF'' f30 ⟨hk'',R,hG,hRl,hRr,hiff⟩
   have g23:=hF'' 23 rfl
   have g29:=hF'' 29 rfl
   simp only [sx,Nat.reduceEqDiff,f23] at g23 g29
   rw [List.take_length] at hiff
   simp only [↓Sh.dn,sx,Nat.reduceBEq,Nat.reduceEqDiff,f30,g23,g29,A1a,Nat.lt_irrefl,decide_false,A3a hi (Nat.le_trans hn2 (by decide))]
   refine k _ _ ?_ (by simp only [sx]) ⟨hk'',R,hG,hRl,fun r' hr'=>?_,fun p t s=>?_⟩
   ·repeat refine Same.put ?_ rfl
    exact Same.trans (by repeat (first | refine Same.put ?_ rfl | exact Same.rfl' _)) (hF''.sub rfl)
   ·have:=hRr r' hr'; exact ⟨by omega,this.2⟩
   ·rw [hiff]
    constructor
    ·rintro (⟨h1,h2⟩ | ⟨h1,e,h2,h3⟩)
     ·exact ⟨by omega,h2⟩
     ·exact ⟨by omega,r,by rw [h1]; exact hr,e,h2,h3⟩
    ·rintro ⟨h1,h2⟩
     by_cases hs:s=i
     ·subst hs
      obtain ⟨r',h3,e,h4,h5⟩:=h2
      rw [hr] at h3
      exact .inr ⟨rfl,e,by rw [Option.some.inj h3]; exact h4,h5⟩
     ·exact .inl ⟨by omega,h2⟩
 ·rintro F H' hF f23 ⟨hk,R,hG,hRl,hRr,hiff⟩
  have f3:=hF 3 rfl
  have f22:=hF 22 rfl
  simp only [sx,Nat.reduceEqDiff] at f3 f22
  simp only [↓Sh.dn,sx,Nat.reduceEqDiff,f3,f22,f23,A1a,Nat.lt_irrefl,decide_false,hres]
  refine ⟨hk,_,rfl,R,H.next,Nat.le_refl _,hG,hRl,fun r hr=>⟨by have:=(hRr r hr).1; omega,(hRr r hr).2⟩,fun p t s=>?_⟩
  rw [hiff]
  constructor
  ·exact fun h=>h.2
  ·rintro ⟨r,h1,h2⟩
   exact ⟨by rw [← h.le]; exact (List.getElem?_eq_some_iff.1 h1).1,r,h1,h2⟩
end Go.Proofs.YtcgbiedfbacgpaaGreat
/- (*graph.Graph).From, Lasting. -/
namespace Go.Proofs.YtcgbiedfbacgpaaGreat
open Go Go.Proofs Go.Proofs.Sh
def fitP (E:List (List (Nat×Int×Int×Int))) (p:Nat×Int×Int×Int→Bool) (s t:Nat):Prop:=∃ r,E[s]?=some r∧∃ e∈r,e.1=t∧p e=true
theorem A68 {H:AH} {g n rb:Nat} {E:List (List (Nat×Int×Int×Int))} {ends:List Int} {sv av ev cv u:Value} {vals:List Value} {sigma:List ByteArray} {costs:List Int} {L:List Nat} {fid:Nat} {caps:List Value} (p:Nat×Int×Int×Int→Bool)
  (h:PG H g n rb E ends sv av ev cv vals sigma costs) (hrb:rb≤4611686018427387904) (hL:Sl H u 1 (L.map natC)) (hlt:∀ t∈L,t < n) (hll:L.length≤3000) (hw:Wf H)
  (hp:∀ H',Kept H H'→∀ e,Sh.Call Tryz.prog (knows 7) fid (.agg (A2f e).toArray :: caps) H' (fun r H''=>Kept H' H''∧r=.bool (p e))):
  Sh.Call Tryz.prog (knows 7) 66 [.pointer (some ⟨g,0,some 0⟩),u,.func (.func fid) #[] caps.toArray] H (fun r H'=>Kept H H'∧∃ B:List Bool,∃ o,Buf H' 1 r (B.map A3l) o∧(∀ y,o=some y→H.next≤y)∧B.length=n∧∀ t:Nat,B[t]?=some true↔Clo (fitP E p) (fun s=>s∈L) t):=by
 refine A2a rfl Tryz.func66 rfl (Nat.le_of_ble_eq_true rfl) ?_
 have hres:Tryz.f66.results.toList=[.tmp 6]:=rfl
 have hn1:=h.n1
 have hn2:=h.n2
 have hc1:=h.gr.arr.cell 1
 have hlenA:∀ H',A4a Tryz.prog .len [68] [av] H'=some (.int .i64 (n:Int),H'):=fun H'=>by
  rw [h.gr.jag.sl.len Tryz.underlying68,List.length_map,h.gr.jag.len]; unfold A9i; rw [List.length_map,h.le]
 have hlenL:∀ H',A4a Tryz.prog .len [69] [u] H'=some (.int .i64 (L.length:Int),H'):=fun H'=>by
  rw [hL.len Tryz.underlying69,List.length_map]
 have hmk:=B74 (H:=H) (l:=n) (c:=n) (Nat.le_refl _) (by omega)
 have k1:=Kept.new hw 1 (List.replicate n (.bool false))
 have f1:=Buf.fill hw (.bool false) (c:=n) (by omega)
 obtain ⟨os,hos⟩:∃ os,(if n=0 then none else some H.next)=os:=⟨_,rfl⟩
 rw [hos] at f1
 have los:∀ y,os=some y→y=H.next:=by
  intro y hy
  rw [← hos,if_neg (by omega)] at hy
  exact (Option.some.inj hy).symm
 have hM1:MB (H.new 1 (List.replicate n (.bool false))).2 H.next n (.slice (some ⟨H.next,0,some 0⟩) n n) os (List.replicate n false) []:=
  ⟨Marks.empty n,by rw [List.map_replicate]; exact f1,fun y hy=>by rw [los y hy]; exact Nat.le_refl _⟩
 have hx1:H.next < (H.new 1 (List.replicate n (.bool false))).2.next:=Nat.lt_succ_self _
 simp only [↓Sh.dn,sx,reduceCtorEq,Nat.reduceEqDiff,hc1,hlenA,hmk]
 generalize (Value.slice (some ⟨H.next,0,some 0⟩) n n)=mv at hM1 ⊢
 generalize (H.new 1 (List.replicate n (.bool false))).2=H1 at k1 hM1 hx1 ⊢
 obtain ⟨r1,H2,hd2,hk2,tb0,htb0,hft0⟩:=C6i (l:=L.map natC) (hL.grow (k1.grow hw)) (by rw [List.length_map]; omega) k1.wf
 refine ⟨_,_,hd2,?_⟩
 have hM2:=hM1.kept k1.wf hk2
 have hl2:LB H2 H.next os r1 L tb0:=⟨htb0,fun y hy=>by
  have:=hft0 y hy
  exact ⟨by omega,fun e=>by have:=los y e; omega⟩⟩
 simp only [sx,hlenL]
 refine A9c L.length 24 (List.range' 24 8++[10]) (fun i F H'=>Kept H H'∧∃ seen out,MB H' H.next n mv os seen out∧LB H' H.next os r1 L tb0∧∀ x,x∈out↔x∈L.take i) (by simp only [sx]) ⟨k1.trans hk2,_,_,hM2,hl2,fun x=>by simp⟩ ?_ ?_
 ·rintro i F H' hi hF f24 ⟨hk,seen,out,hM,hl,hiff⟩ k
  have f7:=hF 7 rfl
  have f22:=hF 22 rfl
  have f23:=hF 23 rfl
  simp only [sx,Nat.reduceEqDiff] at f7 f22 f23
  obtain ⟨pa,hia,hc⟩:=A9x Tryz.underlying69 A3c (hL.grow (hk.grow hw)) hi
  have htn:L[i] < n:=hlt _ (List.getElem_mem hi)
  have htake:L.take (i+1)=L.take i++[L[i]]:=by rw [List.take_add_one,List.getElem?_eq_getElem hi]; rfl
  generalize L[i]=t at hc htn htake
  obtain ⟨p2,H3,seen',out',e1,e2,e3,e4,e5⟩:=hM.put Tryz.underlying58 A8h hk.wf htn
  have st:A6e Tryz.prog 4 H' (.bool true) (.pointer (some p2))=some H3:=by rw [A1c A8h rfl]; exact e2
  simp only [↓Sh.dn,sx,Nat.reduceEqDiff,f7,f22,f23,f24,A1a,hi,decide_true,hia,hc,e1,st,A3a hi (Nat.le_trans hll (by decide))]
  refine k _ _ (by repeat (first | refine Same.put ?_ rfl | exact Same.rfl' _)) (by simp only [sx]) ⟨hk.then (Nat.le_refl _) (e4.weak fun y hy=>hM.fr y hy),seen',out',e3,hl.chg hk.wf e4 fun y hy=>hy,fun x=>?_⟩
  rw [e5,hiff,htake,List.mem_append,List.mem_singleton]
 ·rintro F H' hF f24 ⟨hk,seen,out,hM,hl,hiff⟩
  have f0:=hF 0 rfl
  have f2:=hF 2 rfl
  have f7:=hF 7 rfl
  have f8:=hF 8 rfl
  have f23:=hF 23 rfl
  simp only [sx,reduceCtorEq,Nat.reduceEqDiff] at f0 f2 f7 f8 f23
  rw [List.take_length] at hiff
  simp only [↓Sh.dn,sx,f23,f24,A1a,Nat.lt_irrefl,decide_false]
  have hout0:=hM.ms.le
  refine A1b (m:=(n - out.length) * 2+L.length) (fun m F H'=>F.get 0=some (.pointer (some ⟨g,0,some 0⟩))∧F.get 2=some (.func (.func fid) #[] caps.toArray)∧F.get 7=some mv∧Kept H H'∧∃ zt,F.get 8=some zt∧∃ seen out todo tb,m=(n - out.length) * 2+todo.length∧MB H' H.next n mv os seen out∧LB H' H.next os zt todo tb∧(∀ t∈todo,t∈out)∧todo.length≤L.length+out.length∧(∀ t∈L,t∈out)∧(∀ t∈out,Clo (fitP E p) (fun s=>s∈L) t)∧∀ s∈out,s∈todo∨∀ t,fitP E p s t→t∈out)
   ⟨by simp only [sx,reduceCtorEq,f0],by simp only [sx,Nat.reduceEqDiff,f2],by simp only [sx,Nat.reduceEqDiff,f7],hk,r1,by simp only [sx,Nat.reduceEqDiff,f8],seen,out,L,tb0,rfl,hM,hl,fun t ht=>(hiff t).2 ht,by omega,fun t ht=>(hiff t).2 ht,fun t ht=>.base ((hiff t).1 ht),fun s hs=>.inl ((hiff s).1 hs)⟩ ?_
  clear hk hM hl hiff f0 f2 f7 f8 f23 f24 hF hout0
  clear seen out
  clear F H'
  rintro m F H' ⟨f0,f2,f7,hk,zt,f8,seen,out,todo,tb,rfl,hM,hlt',hsub,htl,hLo,hco,hcl⟩ k
  have hout:=hM.ms.le
  have hlen:=hlt'.bf.toSl.len Tryz.underlying69 H'
  rw [List.length_map] at hlen
  rcases List.eq_nil_or_concat todo with h0 | ⟨td,s,h0⟩
  ·subst h0
   have h00:decide ((0:Int) < ((([]:List Nat).length:Nat):Int))=false:=rfl
   simp only [↓Sh.dn,sx,Nat.reduceEqDiff,f7,f8,hlen,h00,hres]
   refine ⟨hk,seen,os,hM.bf,hM.fr,hM.ms.len,fun t=>?_⟩
   rw [hM.ms.iff]
   exact Clo.iff hLo hco (fun s hs t ht=>((hcl s hs).resolve_left (by simp)) t ht) t
  ·rw [List.concat_eq_append] at h0
   subst h0
   have hpos:decide ((0:Int) < (((td++[s]).length:Nat):Int))=true:=by simp
   have wl:IntKind.wrap .i64 ((((td++[s]).length:Nat):Int) - 1)=(td.length:Int):=by
    rw [List.length_append,List.length_singleton] at htl ⊢
    rw [wrap64 (by omega) (by omega)]; omega
   obtain ⟨p1,hia1,hc1'⟩:=A9x Tryz.underlying69 A3c hlt'.bf.toSl (i:=td.length) (by simp)
   have hgs:(td++[s])[td.length]'(by simp)=s:=by simp
   rw [hgs] at hc1'
   have hbp:Buf H' 1 zt (td.map natC++[natC s]) tb:=by have:=hlt'.bf; rwa [List.map_append] at this
   obtain ⟨zt2,hsl,hb2⟩:=hbp.pop
   have hsl2:=hsl (P:=Tryz.prog) (H':=H') Tryz.underlying69 A3c
   rw [List.length_map] at hsl2
   have hlt2:LB H' H.next os zt2 td tb:=⟨hb2,hlt'.fr⟩
   have hso:s∈out:=hsub s (by simp)
   have hsn:s < n:=hM.ms.lt hso
   have hts:=hco s hso
   obtain ⟨r,hr⟩:∃ r,E[s]?=some r:=⟨E[s]'(by rw [h.le]; exact hsn),List.getElem?_eq_getElem _⟩
   obtain ⟨hrl,hrt⟩:=h.to s r hr
   obtain ⟨pr,wr,hiar,hcr,hsr,hlr⟩:=PG.row h hr
   have hpg:∀ {H'},Kept H H'→H'.cell ⟨g,1,some 0⟩=some av∧H'.cell pr=some wr∧Sl H' wr 4 (r.map A2f):=fun hk=>⟨A2b (hk.grow hw) hc1,A2b (hk.grow hw) hcr,hsr.grow (hk.grow hw)⟩
   obtain ⟨q1,q2,q3⟩:=hpg hk
   rw [List.length_append,List.length_singleton] at htl
   simp only [↓Sh.dn,sx,reduceCtorEq,Nat.reduceEqDiff,f0,f8,hlen,hpos,wl,hia1,hc1',hsl2,q1,hiar,q2,hlr]
   refine A9c r.length 54 (List.range' 54 25++[8,13]) (fun q F'' H''=>Kept H H''∧∃ zt',F''.get 8=some zt'∧∃ seen' out' td' tb',MB H'' H.next n mv os seen' out'∧LB H'' H.next os zt' td' tb'∧(∀ t∈td',t∈out')∧td'.length+out.length≤td.length+out'.length∧out.length≤out'.length∧(∀ t∈out,t∈out')∧(∀ t∈td,t∈td')∧(∀ t∈out',Clo (fitP E p) (fun s=>s∈L) t)∧(∀ x∈out',x∈out∨x∈td')∧∀ e∈r.take q,p e=true→e.1∈out') (by simp only [sx])
    ⟨hk,zt2,by simp only [sx,Nat.reduceEqDiff],seen,out,td,tb,hM,hlt2,fun t ht=>hsub t (List.mem_append_left _ ht),Nat.le_refl _,Nat.le_refl _,fun t ht=>ht,fun t ht=>ht,hco,fun x hx=>.inl hx,fun e he=>by simp at he⟩ ?_ ?_
   ·rintro q F'' H'' hq hF'' f54 ⟨hk'',zt',f8',seen',out',td',tb',hM',hl',hsub',hle',hle2,hoo,htt,hco',hnew,hed⟩ k2
    have g2:=hF'' 2 rfl
    have g7:=hF'' 7 rfl
    have g52:=hF'' 52 rfl
    have g53:=hF'' 53 rfl
    simp only [sx,Nat.reduceEqDiff,f2,f7] at g2 g7 g52 g53
    obtain ⟨q1,q2,q3⟩:=hpg hk''
    obtain ⟨pe,hiae,hce⟩:=PG.edge q3 hq
    have hrq:r[q]∈r:=List.getElem_mem hq
    have htake:r.take (q+1)=r.take q++[r[q]]:=by rw [List.take_add_one,List.getElem?_eq_getElem hq]; rfl
    generalize r[q]=e at hce hrq htake
    have kn:=Kept.new hk''.wf 4 (A2f e)
    have hk3:=hk''.trans kn
    obtain ⟨rp,H4,hd4,hk4,rfl⟩:=hp _ hk3 e
    have hk34:=hk3.trans hk4
    have hM4:=(hM'.kept hk''.wf kn).kept hk3.wf hk4
    have hl4:=(hl'.kept hk''.wf kn).kept hk3.wf hk4
    have ob:=(Sh.Obj.new (H:=H'') 4 (A2f e)).arr.keep (hk4.old _ (Nat.lt_succ_self _))
    have c0:H4.cell ⟨H''.next,0,some 0⟩=some (.int .i64 (e.1:Int)):=ob.cell 0
    have hgall:(H''.new 4 (A2f e)).2.cells ⟨H''.next,0,some 0⟩ 4=some (A2f e):=geAll
    have hout':=hM4.ms.le
    simp only [↓Sh.dn,sx,Nat.reduceEqDiff,f54,g2,g52,g53,hiae,hce,A1a,hq,decide_true,B5a,A6y,B2a,hgall]
    have hd4':Does Tryz.prog (knows 7) fid ([]++[.agg (A2f e).toArray]++caps) (H''.new 4 (A2f e)).2 (.bool (p e)) H4:=hd4
    refine ⟨_,_,by first | exact hd4 | exact hd4' | simpa using hd4,?_⟩
    have hnext : ∀ {seen2 : List Bool} {out2 td2 : List Nat} {tb2 : Option Nat} {z2 : Value} {F2 : Fr} {H2 : AH}, Same (List.range' 54 25 ++ [8, 13]) F'' F2 → F2.get 8 = some z2 → F2.get 54 = some (.int .i64 ((q + 1 : Nat) : Int)) → Kept H H2 → MB H2 H.next n mv os seen2 out2 → LB H2 H.next os z2 td2 tb2 → (out2 = out' ∧ td2 = td' ∨ out2 = out' ++ [e.1] ∧ td2 = td' ++ [e.1] ∧ p e = true) → (p e = true → e.1 ∈ out2) →
        wp Tryz.prog (knows 7) _ _ F2 H2 := fun {seen2 out2 td2 tb2 z2 F2 H2} a1 a2 a3 a4 a5 a6 a7 a8 => k2 F2 H2 a1 a3 ⟨a4, z2, a2, seen2, out2, td2, tb2, a5, a6, fun t ht => by
          rcases a7 with ⟨h1, h2⟩ | ⟨h1, h2, _⟩
          · rw [h1]; rw [h2] at ht; exact hsub' t ht
          · rw [h1]; rw [h2] at ht
            rcases List.mem_append.1 ht with h3 | h3
            · exact List.mem_append_left _ (hsub' t h3)
            · exact List.mem_append_right _ h3, by
          rcases a7 with ⟨h1, h2⟩ | ⟨h1, h2, _⟩
          · rw [h1, h2]; exact hle'
          · rw [h1, h2]; simp only [List.length_append, List.length_singleton]; omega, by
          rcases a7 with ⟨h1, h2⟩ | ⟨h1, h2, _⟩
          · rw [h1]; exact hle2
          · rw [h1]; simp only [List.length_append, List.length_singleton]; omega, fun t ht => by
          rcases a7 with ⟨h1, h2⟩ | ⟨h1, h2, _⟩
          · rw [h1]; exact hoo t ht
          · rw [h1]; exact List.mem_append_left _ (hoo t ht), fun t ht => by
          rcases a7 with ⟨h1, h2⟩ | ⟨h1, h2, _⟩
          · rw [h2]; exact htt t ht
          · rw [h2]; exact List.mem_append_left _ (htt t ht), fun t ht => by
          rcases a7 with ⟨h1, h2⟩ | ⟨h1, h2, h3⟩
          · rw [h1] at ht; exact hco' t ht
          · rw [h1] at ht
            rcases List.mem_append.1 ht with h4 | h4
            · exact hco' t h4
            · rw [List.mem_singleton.1 h4]; exact .step hts ⟨r, hr, e, hrq, rfl, h3⟩, fun x hx => by
          rcases a7 with ⟨h1, h2⟩ | ⟨h1, h2, h3⟩
          · rw [h1] at hx; rw [h2]; exact hnew x hx
          · rw [h1] at hx; rw [h2]
            rcases List.mem_append.1 hx with h4 | h4
            · exact (hnew x h4).imp id fun h5 => List.mem_append_left _ h5
            · exact .inr (List.mem_append_right _ h4), fun x hx hxp => by
          rw [htake] at hx
          rcases List.mem_append.1 hx with h2 | h2
          · have h5 := hed x h2 hxp
            rcases a7 with ⟨h1, _⟩ | ⟨h1, _, _⟩
            · rw [h1]; exact h5
            · rw [h1]; exact List.mem_append_left _ h5
          · rw [List.mem_singleton.1 h2] at hxp ⊢; exact a8 hxp⟩
    have hrl':r.length≤4611686018427387904:=Nat.le_trans hrl hrb
    cases hpe:p e with
    | false=>
     simp only [↓Sh.dn,sx,Nat.reduceEqDiff,f54,A3a hq hrl']
     exact hnext (by repeat (first | refine Same.put ?_ rfl | exact Same.rfl' _)) (by simp only [sx,Nat.reduceEqDiff,f8']) (by simp only [sx]) hk34 hM4 hl4 (.inl ⟨rfl,rfl⟩) fun h=>by rw [hpe] at h; cases h
    | true=>
     by_cases hin:e.1∈out'
     ·obtain ⟨p5,hia5,hc5⟩:=hM4.see Tryz.underlying58 A8h (hrt e hrq)
      simp only [↓Sh.dn,sx,Nat.reduceEqDiff,c0,g7,hia5,hc5,hin,decide_true,f54,A3a hq hrl']
      exact hnext (by repeat (first | refine Same.put ?_ rfl | exact Same.rfl' _)) (by simp only [sx,Nat.reduceEqDiff,f8']) (by simp only [sx]) hk34 hM4 hl4 (.inl ⟨rfl,rfl⟩) fun _=>hin
     ·obtain ⟨p3,H5,a,cap,w',H6,ob',e1,e2,e3,rfl,e5,e6,e7,e8,e9,e10,e11⟩:=B6c hk34 hM4 hl4 (hrt e hrq) hin (by omega)
      have c0':H5.cell ⟨H''.next,0,some 0⟩=some (.int .i64 (e.1:Int)):=(ob.keep (e11.old _ (Nat.lt_of_lt_of_le (Nat.lt_succ_self _) hk4.next) fun hy=>Nat.lt_irrefl _ (hM'.lt hk''.wf _ hy))).cell 0
      simp only [↓Sh.dn,sx,Nat.reduceEqDiff,c0,c0',g7,e1,e2,e3,f8',e6,e7,f54,A3a hq hrl']
      exact hnext (by repeat (first | refine Same.put ?_ rfl | exact Same.rfl' _)) (by simp only [sx,Nat.reduceEqDiff]) (by simp only [sx]) e8 e9 e10 (.inr ⟨rfl,rfl,hpe⟩) fun _=>List.mem_append_right _ List.mem_cons_self
   ·rintro F'' H'' hF'' f54 ⟨hk'',zt',f8',seen',out',td',tb',hM',hl',hsub',hle',hle2,hoo,htt,hco',hnew,hed⟩
    have g0:=hF'' 0 rfl
    have g2:=hF'' 2 rfl
    have g7:=hF'' 7 rfl
    have g53:=hF'' 53 rfl
    simp only [sx,reduceCtorEq,Nat.reduceEqDiff,f0,f2,f7] at g0 g2 g7 g53
    rw [List.take_length] at hed
    have hout':=hM'.ms.le
    simp only [↓Sh.dn,sx,Nat.reduceBEq,f54,g53,A1a,Nat.lt_irrefl,decide_false]
    refine k ((n - out'.length) * 2+td'.length) _ _ (by rw [List.length_append,List.length_singleton]; omega) ⟨by simp only [sx,reduceCtorEq,g0],by simp only [sx,Nat.reduceEqDiff,g2],by simp only [sx,Nat.reduceEqDiff,g7],hk'',zt',by simp only [sx,Nat.reduceEqDiff,f8'],seen',out',td',tb',rfl,hM',hl',hsub',by omega,fun t ht=>hoo t (hLo t ht),hco',fun x hx=>?_⟩
    rcases hnew x hx with h1 | h1
    ·rcases hcl x h1 with h2 | h2
     ·rcases List.mem_append.1 h2 with h3 | h3
      ·exact .inl (htt x h3)
      ·right
       rw [List.mem_singleton.1 h3]
       rintro t ⟨r',hr2,e,he,he1,he2⟩
       rw [hr] at hr2
       rw [← Option.some.inj hr2] at he
       rw [← he1]
       exact hed e he he2
     ·exact .inr fun t ht=>hoo t (h2 t ht)
    ·exact .inl h1
theorem geNew {H:AH} {e:Nat×Int×Int×Int}:anew Tryz.prog 95 H (.agg (A2f e).toArray)=some (.pointer (some ⟨H.next,0,some 0⟩),(H.new 4 (A2f e)).2):=A6r (vs:=A2f e) A13 rfl rfl
theorem A29 {H:AH} {e:Nat×Int×Int×Int} (hw:Wf H):Sh.Call Tryz.prog (knows 7) 67 [.agg (A2f e).toArray] H (fun r H'=>Kept H H'∧r=.bool true):=by
 refine A2a rfl Tryz.func67 rfl (Nat.le_of_ble_eq_true rfl) ?_
 have hres:Tryz.f67.results.toList=[.tmp 2]:=rfl
 simp only [↓Sh.dn,sx,geNew,hres,Kept.new hw 4 (A2f e)]
theorem A65 {H:AH} {g n:Nat} {E:List (List (Nat×Int×Int×Int))} {ends:List Int} {sv av ev cv:Value} {vals:List Value} {sigma:List ByteArray} {costs:List Int} (h:PG H g n 60000 E ends sv av ev cv vals sigma costs) (hsg:sigma.length≤1048576) (hw:Wf H):
  Sh.Call Tryz.prog (knows 7) 30 [.pointer (some ⟨g,0,some 0⟩)] H (fun r H'=>Kept H H'∧∃ B:List Bool,∃ o,Buf H' 1 r (B.map A3l) o∧(∀ y,o=some y→H.next≤y)∧B.length=n∧∀ t:Nat,B[t]?=some true↔Clo (fun s t=>A2c E (fun _=>True) t s) (fun s=>0 < ends.getD s 0) t):=by
 refine A2a rfl Tryz.func30 rfl (Nat.le_of_ble_eq_true rfl) ?_
 have hres:Tryz.f30.results.toList=[.tmp 2]:=rfl
 have hn2:=h.n2
 have hc2:=h.gr.arr.cell 2
 have hlenE:∀ H',A4a Tryz.prog .len [69] [ev] H'=some (.int .i64 (n:Int),H'):=fun H'=>by
  rw [h.gr.en.len Tryz.underlying69,List.length_map,h.ln]
 simp only [↓Sh.dn,sx,reduceCtorEq,hc2,hlenE]
 refine A9c n 11 (List.range' 11 12++[3,4,5]) (fun i F H'=>Kept H H'∧∃ z,F.get 3=some z∧∃ l ob,LB H' H.next none z l ob∧l.length≤i∧∀ t,t∈l↔t < i∧0 < ends.getD t 0) (by simp only [sx]) ⟨Kept.refl hw,_,by simp only [sx,Nat.reduceEqDiff],[],none,⟨.void none,fun y hy=>by cases hy⟩,Nat.le_refl _,fun t=>by simp⟩ ?_ ?_
 ·rintro i F H' hi hF f11 ⟨hk,z,f3,l,ob,hl,hll,hiff⟩ k
  have f9:=hF 9 rfl
  have f10:=hF 10 rfl
  simp only [sx,Nat.reduceEqDiff] at f9 f10
  have hil:i < ends.length:=by rw [h.ln]; exact hi
  obtain ⟨p,hia,hc⟩:=Sl.elem (s:=1) Tryz.underlying69 A3c (h.gr.en.grow (hk.grow hw)) (i:=i) (u:=.int .i64 ends[i]) (by rw [List.getElem?_map,List.getElem?_eq_getElem hil]; rfl)
  have hg:ends.getD i 0=ends[i]:=by simp [List.getD,List.getElem?_eq_getElem hil]
  simp only [↓Sh.dn,sx,Nat.reduceEqDiff,f9,f10,f11,A1a,hi,decide_true,hia,hc]
  by_cases hpos:0 < ends[i]
  ·obtain ⟨a,cap,w',H4,ob2,rfl,e1,e2,e3,e4,e5⟩:=B8d i hk (fun y hy=>by cases hy) hl (by omega)
   simp only [↓Sh.dn,sx,Nat.reduceEqDiff,hpos,decide_true,f3,f11,e1,e2,A3a hi (Nat.le_trans hn2 (by decide))]
   refine k _ _ (by repeat (first | refine Same.put ?_ rfl | exact Same.rfl' _)) (by simp only [sx]) ⟨e3,w',by simp only [sx,Nat.reduceEqDiff],l++[i],ob2,e4,by simp; omega,fun t=>?_⟩
   rw [List.mem_append,List.mem_singleton,hiff]
   constructor
   ·rintro (⟨h1,h2⟩ | h1)
    ·exact ⟨by omega,h2⟩
    ·subst h1; exact ⟨by omega,by rw [hg]; exact hpos⟩
   ·rintro ⟨h1,h2⟩
    by_cases ht:t=i
    ·exact .inr ht
    ·exact .inl ⟨by omega,h2⟩
  ·simp only [↓Sh.dn,sx,Nat.reduceEqDiff,hpos,decide_false,f11,A3a hi (Nat.le_trans hn2 (by decide))]
   refine k _ _ (by repeat (first | refine Same.put ?_ rfl | exact Same.rfl' _)) (by simp only [sx]) ⟨hk,z,by simp only [sx,Nat.reduceEqDiff,f3],l,ob,hl,by omega,fun t=>?_⟩
   rw [hiff]
   constructor
   ·rintro ⟨h1,h2⟩; exact ⟨by omega,h2⟩
   ·rintro ⟨h1,h2⟩
    by_cases ht:t=i
    ·subst ht; rw [hg] at h2; exact absurd h2 hpos
    ·exact ⟨by omega,h2⟩
 ·rintro F H' hF f11 ⟨hk,z,f3,l,ob,hl,hll,hiff⟩
  have f0:=hF 0 rfl
  have f10:=hF 10 rfl
  simp only [sx,reduceCtorEq,Nat.reduceEqDiff] at f0 f10
  obtain ⟨r4,H4,hd4,hk4,g',rfl,R,base,hbase,hG,hRl,hRr,hRg⟩:=B0d (h.kept hw hk) hsg hk.wf
  obtain ⟨sv',av',ev',cv',vals',hR⟩:=hG.read
  have hPG:PG H4 g' n 180000000 R (List.replicate n 0) sv' av' ev' cv' vals' sigma (List.replicate n 0):=⟨hR,hRl,by simp,h.n1,h.n2,fun s r hr=>hRr r (List.mem_of_getElem? hr)⟩
  obtain ⟨r5,H5,hd5,hk5,B,oB,hB,hBo,hBl,hBi⟩:=A68 (caps:=[]) (fid:=67) (fun _=>true) hPG (by decide) (hl.bf.toSl.grow (hk4.grow hk.wf)) (fun t ht=>((hiff t).1 ht).1) (by omega) hk4.wf (fun H' hk e=>A29 hk.wf)
  simp only [↓Sh.dn,sx,reduceCtorEq,Nat.reduceEqDiff,f0,f3,f10,f11,A1a,Nat.lt_irrefl,decide_false]
  refine ⟨_,_,hd4,?_⟩
  refine ⟨_,_,hd5,?_⟩
  simp only [sx,hres]
  refine ⟨(hk.trans hk4).trans hk5,B,oB,hB,fun y hy=>Nat.le_trans (hk.trans hk4).next (hBo y hy),hBl,fun t=>?_⟩
  rw [hBi]
  have e1:fitP R (fun _=>true)=fun s t=>A2c E (fun _=>True) t s:=by
   funext s t
   apply propext
   rw [← hRg]
   unfold fitP A2c
   simp
  have e2:(fun s=>s∈l)=fun s=>0 < ends.getD s 0:=by
   funext s
   apply propext
   rw [hiff]
   constructor
   ·exact fun h=>h.2
   ·intro hs
    refine ⟨?_,hs⟩
    by_cases hn:s < n
    ·exact hn
    ·have:ends.getD s 0=0:=by rw [List.getD_eq_getElem?_getD,List.getElem?_eq_none (by rw [h.ln]; omega)]; rfl
     rw [this] at hs; omega
  rw [e1,e2]
theorem A59 {H:AH} {g n:Nat} {E:List (List (Nat×Int×Int×Int))} {ends:List Int} {sv av ev cv:Value} {vals:List Value} {sigma:List ByteArray} {costs:List Int} (h:PG H g n 60000 E ends sv av ev cv vals sigma costs) (hsg:sigma.length≤1048576) (hw:Wf H):
  Sh.Call Tryz.prog (knows 7) 30 [.pointer (some ⟨g,0,some 0⟩)] H (fun r H'=>Kept H H'∧∃ B:List Bool,Sl H' r 1 (B.map A3l)∧B.length=n∧∀ t:Nat,B[t]?=some true↔Clo (fun s t=>A2c E (fun _=>True) t s) (fun s=>0 < ends.getD s 0) t):=by
 refine (A65 h hsg hw).mono ?_
 rintro r H' ⟨h1,B,o,h2,h3,h4,h5⟩
 exact ⟨h1,B,h2.toSl,h4,h5⟩
end Go.Proofs.YtcgbiedfbacgpaaGreat
/- (*graph.Graph).more: from where a symbol leads to what is marked. -/
namespace Go.Proofs.YtcgbiedfbacgpaaGreat
open Go Go.Proofs Go.Proofs.Sh
theorem C8z {H:AH} {g n:Nat} {R:List (List (Nat×Int×Int×Int))} {ends:List Int} {sv av ev cv u:Value} {vals:List Value} {sigma:List ByteArray} {costs:List Int} {X:List Bool} {fid:Nat} {caps:List Value} {E:Nat→Nat→Prop}
  (h:PG H g n 180000000 R ends sv av ev cv vals sigma costs) (hX:Sl H u 1 (X.map A3l)) (hXl:X.length=n) (hw:Wf H)
  (hp:∀ H',Kept H H'→∀ (u':Value) (L:List Nat),Sl H' u' 1 (L.map natC)→(∀ t∈L,t < n)→L.length≤3000→Sh.Call Tryz.prog (knows 7) fid (u' :: caps) H' (fun r H''=>B9b H' H'' r n (Clo E fun s=>s∈L))):
  Sh.Call Tryz.prog (knows 7) 92 [.pointer (some ⟨g,0,some 0⟩),u,.func (.func fid) #[] caps.toArray] H (fun r H'=>B9b H H' r n (Clo E fun t=>∃ s,X[s]?=some true∧A2c R (fun k=>0≤k) s t)):=by
 refine A2a rfl Tryz.func92 rfl (Nat.le_of_ble_eq_true rfl) ?_
 have hres:Tryz.f92.results.toList=[.tmp 6]:=rfl
 have hn1:=h.n1
 have hn2:=h.n2
 have hc1:=h.gr.arr.cell 1
 have hlen:=fun H'=>hX.len Tryz.underlying58 H'
 simp only [List.length_map,hXl] at hlen
 have hmk:=B74 (H:=H) (l:=n) (c:=n) (Nat.le_refl _) (by omega)
 have k1:=Kept.new hw 1 (List.replicate n (.bool false))
 have f1:=Buf.fill hw (.bool false) (c:=n) (by omega)
 rw [if_neg (by omega)] at f1
 have hM1:MB (H.new 1 (List.replicate n (.bool false))).2 H.next n (.slice (some ⟨H.next,0,some 0⟩) n n) (some H.next) (List.replicate n false) []:=
  ⟨Marks.empty n,by rw [List.map_replicate]; exact f1,fun y hy=>by rw [← Option.some.inj hy]; exact Nat.le_refl _⟩
 simp only [↓Sh.dn,sx,Nat.reduceEqDiff,hlen,hmk]
 generalize (Value.slice (some ⟨H.next,0,some 0⟩) n n)=mv at hM1 ⊢
 generalize (H.new 1 (List.replicate n (.bool false))).2=H1 at k1 hM1 ⊢
 obtain ⟨os,hos⟩:∃ os,some H.next=os:=⟨_,rfl⟩
 rw [hos] at hM1
 refine A9c n 18 (List.range' 18 41++[7,9,10,12]) (fun i F H'=>Kept H H'∧∃ z,F.get 7=some z∧∃ seen out ob,MB H' H.next n mv os seen out∧LB H' H.next os z out ob∧∀ t,t∈out↔∃ s,s < i∧X[s]?=some true∧A2c R (fun k=>0≤k) s t) (by simp only [sx]) ⟨k1,_,by simp only [sx,Nat.reduceEqDiff],_,_,none,hM1,⟨.void none,fun y hy=>by cases hy⟩,fun t=>by simp⟩ ?_ ?_
 ·rintro i F H' hi hF f18 ⟨hk,z,f7,seen,out,ob,hM,hl,hiff⟩ k
  have f0:=hF 0 rfl
  have f8:=hF 8 rfl
  have f16:=hF 16 rfl
  have f17:=hF 17 rfl
  simp only [sx,reduceCtorEq,Nat.reduceEqDiff] at f0 f8 f16 f17
  obtain ⟨b,hbx⟩:∃ b,X[i]?=some b:=⟨X[i]'(by rw [hXl]; exact hi),List.getElem?_eq_getElem _⟩
  obtain ⟨qb,e4,e5⟩:=Sl.elem (s:=1) Tryz.underlying58 A8h (hX.grow (hk.grow hw)) (i:=i) (u:=.bool b) (by rw [List.getElem?_map,hbx]; rfl)
  obtain ⟨r,hr⟩:∃ r,R[i]?=some r:=⟨R[i]'(by rw [h.le]; exact hi),List.getElem?_eq_getElem _⟩
  obtain ⟨hrl,hrt⟩:=h.to i r hr
  obtain ⟨pr,wr,hiar,hcr,hsr,hlr⟩:=PG.row h hr
  have q1:=A2b (hk.grow hw) hc1
  have q2:=A2b (hk.grow hw) hcr
  simp only [↓Sh.dn,sx,Nat.reduceEqDiff,f16,f17,f18,A1a,hi,decide_true,e4,e5]
  cases b with
  | false=>
   simp only [↓Sh.dn,sx,Nat.reduceBEq,Nat.reduceEqDiff,f18,A3a hi (Nat.le_trans hn2 (by decide))]
   refine k _ _ (by repeat (first | refine Same.put ?_ rfl | exact Same.rfl' _)) (by simp only [sx]) ⟨hk,z,by simp only [sx,Nat.reduceEqDiff,f7],seen,out,ob,hM,hl,fun t=>?_⟩
   rw [hiff]
   constructor
   ·rintro ⟨s,h1,h2⟩; exact ⟨s,by omega,h2⟩
   ·rintro ⟨s,h1,h2,h3⟩
    by_cases hs:s=i
    ·subst hs; rw [hbx] at h2; cases h2
    ·exact ⟨s,by omega,h2,h3⟩
  | true=>
  simp only [↓Sh.dn,sx,reduceCtorEq,Nat.reduceEqDiff,f0,q1,hiar,q2,hlr]
  refine A9c r.length 33 (List.range' 33 25++[7,12]) (fun q F'' H''=>Kept H H''∧∃ z,F''.get 7=some z∧∃ seen' out' ob,MB H'' H.next n mv os seen' out'∧LB H'' H.next os z out' ob∧∀ t,t∈out'↔t∈out∨∃ e∈r.take q,e.1=t∧0≤e.2.1) (by simp only [sx]) ⟨hk,z,by simp only [sx,Nat.reduceEqDiff,f7],seen,out,ob,hM,hl,fun t=>by simp⟩ ?_ ?_
  ·rintro q F'' H'' hq hF'' f33 ⟨hk'',z',f7',seen',out',ob',hM',hl',hiff'⟩ k2
   have g8:=hF'' 8 rfl
   have g31:=hF'' 31 rfl
   have g32:=hF'' 32 rfl
   simp only [sx,Nat.reduceEqDiff,f8] at g8 g31 g32
   obtain ⟨pe,hiae,hce⟩:=PG.edge (hsr.grow (hk''.grow hw)) hq
   have hrq:r[q]∈r:=List.getElem_mem hq
   have htk:r.take (q+1)=r.take q++[r[q]]:=by rw [List.take_add_one,List.getElem?_eq_getElem hq]; rfl
   generalize r[q]=e at hce hrq htk
   have kn:=Kept.new hk''.wf 4 (A2f e)
   have hk3:=hk''.trans kn
   have hM3:=hM'.kept hk''.wf kn
   have hl3:=hl'.kept hk''.wf kn
   have hout':=hM3.ms.le
   have hjn:∀ t,(∃ e'∈r.take (q+1),e'.1=t∧0≤e'.2.1)↔(∃ e'∈r.take q,e'.1=t∧0≤e'.2.1)∨e.1=t∧0≤e.2.1:=fun t=>by
    rw [htk]
    simp only [List.mem_append,List.mem_singleton]
    constructor
    ·rintro ⟨e',h1 | h1,h2⟩
     ·exact .inl ⟨e',h1,h2⟩
     ·subst h1; exact .inr h2
    ·rintro (⟨e',h1,h2⟩ | h2)
     ·exact ⟨e',.inl h1,h2⟩
     ·exact ⟨e,.inr rfl,h2⟩
   have hrl':r.length≤4611686018427387904:=Nat.le_trans hrl (by decide)
   have ob0:=(Sh.Obj.new (H:=H'') 4 (A2f e)).arr
   simp only [↓Sh.dn,sx,Nat.reduceEqDiff,f33,g31,g32,hiae,hce,A1a,hq,decide_true,B5a,A6y,B2a,ge1]
   by_cases hpos:0≤e.2.1
   ·by_cases hin:e.1∈out'
    ·obtain ⟨p5,hia5,hc5⟩:=hM3.see Tryz.underlying58 A8h (hrt e hrq)
     simp only [↓Sh.dn,sx,Nat.reduceEqDiff,hpos,decide_true,g8,ge0,hia5,hc5,hin,f33,A3a hq hrl']
     refine k2 _ _ (by repeat (first | refine Same.put ?_ rfl | exact Same.rfl' _)) (by simp only [sx]) ⟨hk3,z',by simp only [sx,Nat.reduceEqDiff,f7'],seen',out',ob',hM3,hl3,fun t=>?_⟩
     rw [hjn,hiff']
     constructor
     ·rintro (h1 | h1)
      ·exact .inl h1
      ·exact .inr (.inl h1)
     ·rintro (h1 | h1 | ⟨h1,_⟩)
      ·exact .inl h1
      ·exact .inr h1
      ·rw [← h1]; exact (hiff' _).1 hin
    ·obtain ⟨p3,H5,a,cap,w',H6,ob2,e1,e2,e3,rfl,e5,e6,e7,e8,e9,e10,e11⟩:=B6c hk3 hM3 hl3 (hrt e hrq) hin (by omega)
     have c0':H5.cell ⟨H''.next,0,some 0⟩=some (.int .i64 (e.1:Int)):=(ob0.keep (e11.old _ (Nat.lt_succ_self _) fun hy=>Nat.lt_irrefl _ (hM'.lt hk''.wf _ hy))).cell 0
     simp only [↓Sh.dn,sx,Nat.reduceEqDiff,hpos,decide_true,g8,ge0,c0',e1,e2,e3,f7',e6,e7,f33,A3a hq hrl']
     refine k2 _ _ (by repeat (first | refine Same.put ?_ rfl | exact Same.rfl' _)) (by simp only [sx]) ⟨e8,w',by simp only [sx,Nat.reduceEqDiff],_,_,ob2,e9,e10,fun t=>?_⟩
     rw [hjn,List.mem_append,List.mem_singleton,hiff']
     constructor
     ·rintro ((h1 | h1) | h1)
      ·exact .inl h1
      ·exact .inr (.inl h1)
      ·exact .inr (.inr ⟨h1.symm,hpos⟩)
     ·rintro (h1 | h1 | ⟨h1,_⟩)
      ·exact .inl (.inl h1)
      ·exact .inl (.inr h1)
      ·exact .inr h1.symm
   ·simp only [↓Sh.dn,sx,Nat.reduceEqDiff,hpos,decide_false,f33,A3a hq hrl']
    refine k2 _ _ (by repeat (first | refine Same.put ?_ rfl | exact Same.rfl' _)) (by simp only [sx]) ⟨hk3,z',by simp only [sx,Nat.reduceEqDiff,f7'],seen',out',ob',hM3,hl3,fun t=>?_⟩
    rw [hjn,hiff']
    simp [hpos]
  ·rintro F'' H'' hF'' f33 ⟨hk'',z',f7',seen',out',ob',hM',hl',hiff'⟩
   have g18:=hF'' 18 rfl
   have g32:=hF'' 32 rfl
   simp only [sx,Nat.reduceEqDiff,f18] at g18 g32
   rw [List.take_length] at hiff'
   simp only [↓Sh.dn,sx,Nat.reduceBEq,Nat.reduceEqDiff,f33,g18,g32,A1a,Nat.lt_irrefl,decide_false,A3a hi (Nat.le_trans hn2 (by decide))]
   refine k _ _ ?_ (by simp only [sx]) ⟨hk'',z',by simp only [sx,Nat.reduceEqDiff,f7'],seen',out',ob',hM',hl',fun t=>?_⟩
   ·repeat refine Same.put ?_ rfl
    exact Same.trans (by repeat (first | refine Same.put ?_ rfl | exact Same.rfl' _)) (hF''.sub rfl)
   ·rw [hiff',hiff]
    constructor
    ·rintro (⟨s,h1,h2⟩ | ⟨e,h1,h2⟩)
     ·exact ⟨s,by omega,h2⟩
     ·exact ⟨i,by omega,hbx,r,hr,e,h1,h2⟩
    ·rintro ⟨s,h1,h2,h3⟩
     by_cases hs:s=i
     ·subst hs
      obtain ⟨r',h4,e,h5,h6⟩:=h3
      rw [hr] at h4
      exact .inr ⟨e,by rw [Option.some.inj h4]; exact h5,h6⟩
     ·exact .inl ⟨s,by omega,h2,h3⟩
 ·rintro F H' hF f18 ⟨hk,z,f7,seen,out,ob,hM,hl,hiff⟩
  have f2:=hF 2 rfl
  have f17:=hF 17 rfl
  simp only [sx,Nat.reduceEqDiff] at f2 f17
  have hout:=hM.ms.le
  obtain ⟨r,H3,hd3,hk3,B,o,hB,hBo,hBl,hBi⟩:=hp H' hk z out hl.bf.toSl (fun t ht=>hM.ms.lt ht) (by omega)
  simp only [↓Sh.dn,sx,Nat.reduceEqDiff,f2,f7,f17,f18,A1a,Nat.lt_irrefl,decide_false]
  refine ⟨_,_,by first | exact hd3 | simpa using hd3,?_⟩
  simp only [sx,hres]
  refine ⟨hk.trans hk3,B,o,hB,fun y hy=>Nat.le_trans hk.next (hBo y hy),hBl,fun t=>?_⟩
  rw [hBi]
  have:(fun s=>s∈out)=fun t=>∃ s,X[s]?=some true∧A2c R (fun k=>0≤k) s t:=by
   funext t
   apply propext
   rw [hiff]
   constructor
   ·rintro ⟨s,_,h1⟩; exact ⟨s,h1⟩
   ·rintro ⟨s,h1,h2⟩; exact ⟨s,by rw [← hXl]; exact (List.getElem?_eq_some_iff.1 h1).1,h1,h2⟩
  rw [this]
end Go.Proofs.YtcgbiedfbacgpaaGreat
/- What is reached without a symbol: the closure of Alive. -/
namespace Go.Proofs.YtcgbiedfbacgpaaGreat
open Go Go.Proofs Go.Proofs.Sh
theorem negAlive {H:AH} {e:Nat×Int×Int×Int} (hw:Wf H):Sh.Call Tryz.prog (knows 7) 99 [.agg (A2f e).toArray] H (fun r H'=>Kept H H'∧r=.bool (decide (e.2.1 < 0))):=by
 refine A2a rfl Tryz.func99 rfl (Nat.le_of_ble_eq_true rfl) ?_
 have hres:Tryz.f99.results.toList=[.tmp 2]:=rfl
 simp only [↓Sh.dn,sx,Nat.reduceEqDiff,geNew,ge1,hres,Kept.new hw 4 (A2f e)]
theorem B35 {H:AH} {g n bx:Nat} {R:List (List (Nat×Int×Int×Int))} {ends:List Int} {sv av ev cv:Value} {vals:List Value} {sigma:List ByteArray} {costs:List Int}
  (h:PG H g n 180000000 R ends sv av ev cv vals sigma costs) (hc:H.cell ⟨bx,0,some 0⟩=some (.pointer (some ⟨g,0,some 0⟩))) (hw:Wf H):
  ∀ H',Kept H H'→∀ (u':Value) (L:List Nat),Sl H' u' 1 (L.map natC)→(∀ t∈L,t < n)→L.length≤3000→Sh.Call Tryz.prog (knows 7) 98 (u' :: [.pointer (some ⟨bx,0,some 0⟩)]) H' (fun r H''=>B9b H' H'' r n (Clo (fitP R fun e=>decide (e.2.1 < 0)) fun s=>s∈L)):=by
 intro H' hk u' L hL hlt hll
 refine A2a rfl Tryz.func98 rfl (Nat.le_of_ble_eq_true rfl) ?_
 have hres:Tryz.f98.results.toList=[.tmp 3]:=rfl
 have hc':=A2b (hk.grow hw) hc
 obtain ⟨r2,H2,hd2,ho⟩:=A68 (caps:=[]) (fid:=99) (fun e=>decide (e.2.1 < 0)) (h.kept hw hk) (by decide) hL hlt hll hk.wf (fun H' hk e=>negAlive hk.wf)
 simp only [↓Sh.dn,sx,reduceCtorEq,Nat.reduceEqDiff,hc']
 refine ⟨_,_,hd2,?_⟩
 simp only [sx,hres]
 exact ho
end Go.Proofs.YtcgbiedfbacgpaaGreat
/- What is reached without a symbol: the closure of Beyond. -/
namespace Go.Proofs.YtcgbiedfbacgpaaGreat
open Go Go.Proofs Go.Proofs.Sh
end Go.Proofs.YtcgbiedfbacgpaaGreat
/- (*graph.Graph).alive, Beyond. -/
namespace Go.Proofs.YtcgbiedfbacgpaaGreat
open Go Go.Proofs Go.Proofs.Sh
def exP (E:List (List (Nat×Int×Int×Int))) (ends:List Int):Nat→Nat→Prop:=A8g (A2c E fun k=>k < 0) (A2c E fun k=>0≤k) (fun s=>0 < ends.getD s 0)
theorem C0w {R E:List (List (Nat×Int×Int×Int))} (hg:∀ p t s,A2c R p t s↔A2c E p s t):fitP R (fun e=>decide (e.2.1 < 0))=fun s t=>A2c E (fun k=>k < 0) t s:=by
 funext s t
 apply propext
 rw [← hg]
 unfold fitP A2c
 simp
theorem exP_succ {R E:List (List (Nat×Int×Int×Int))} {ends:List Int} (hg:∀ p t s,A2c R p t s↔A2c E p s t) {m:Nat} {X:List Bool} (hX:∀ t:Nat,X[t]?=some true↔exP E ends m t):
  Clo (fitP R fun e=>decide (e.2.1 < 0)) (fun t=>∃ s,X[s]?=some true∧A2c R (fun k=>0≤k) s t)=exP E ends (m+1):=by
 rw [C0w hg]
 show _=Clo _ _
 congr 1
 funext t
 apply propext
 constructor
 ·rintro ⟨s,h1,h2⟩; exact ⟨s,(hg _ _ _).1 h2,(hX s).1 h1⟩
 ·rintro ⟨s,h1,h2⟩; exact ⟨s,(hX s).2 h2,(hg _ _ _).2 h1⟩
def AliveL (H:AH) (base n:Nat) (z:Value) (ob:Option Nat) (Q:Nat→Nat→Prop) (k:Nat):Prop:=
 (∀ y,ob=some y→base≤y)∧∃ vals:List Value,Buf H 1 z (vals.map fun x=>[x]) ob∧vals.length=k∧∀ (j:Nat) v,vals[j]?=some v→∃ (B:List Bool) (o:Option Nat),Buf H 1 v (B.map A3l) o∧(∀ y,o=some y→base≤y∧ob≠some y)∧B.length=n∧∀ t:Nat,B[t]?=some true↔Q j t
theorem AliveL.kept {H H':AH} {base n:Nat} {z:Value} {ob:Option Nat} {Q:Nat→Nat→Prop} {k:Nat} (h:AliveL H base n z ob Q k) (hw:Wf H) (hk:Kept H H'):AliveL H' base n z ob Q k:=by
 obtain ⟨h0,vals,h1,h2,h3⟩:=h
 refine ⟨h0,vals,h1.kept hw hk,h2,fun j v hv=>?_⟩
 obtain ⟨B,o,h4,h5⟩:=h3 j v hv
 exact ⟨B,o,h4.kept hw hk,h5⟩
theorem AliveL.keepR {H H':AH} {base n:Nat} {z:Value} {ob:Option Nat} {Q:Nat→Nat→Prop} {k:Nat} (h:AliveL H base n z ob Q k) (hw:Wf H) (hk:∀ y,base≤y→y < H.next→H'.objs.get y=H.objs.get y):AliveL H' base n z ob Q k:=by
 obtain ⟨h0,vals,h1,h2,h3⟩:=h
 refine ⟨h0,vals,h1.keep fun y hy=>hk y (h0 y hy) (h1.lt hw y hy),h2,fun j v hv=>?_⟩
 obtain ⟨B,o,h4,h5,h6⟩:=h3 j v hv
 exact ⟨B,o,h4.keep fun y hy=>hk y (h5 y hy).1 (h4.lt hw y hy),h5,h6⟩
theorem AliveL.low {H:AH} {base base' n:Nat} {z:Value} {ob:Option Nat} {Q:Nat→Nat→Prop} {k:Nat} (h:AliveL H base n z ob Q k) (hb:base'≤base):AliveL H base' n z ob Q k:=by
 obtain ⟨h0,vals,h1,h2,h3⟩:=h
 refine ⟨fun y hy=>Nat.le_trans hb (h0 y hy),vals,h1,h2,fun j v hv=>?_⟩
 obtain ⟨B,o,h4,h5,h6⟩:=h3 j v hv
 exact ⟨B,o,h4,fun y hy=>⟨Nat.le_trans hb (h5 y hy).1,(h5 y hy).2⟩,h6⟩
theorem AliveL.push {H:AH} {base n:Nat} {z v:Value} {ob o:Option Nat} {Q:Nat→Nat→Prop} {k:Nat} {B:List Bool} (h:AliveL H base n z ob Q k) (hw:Wf H) (hb:base≤H.next) (hB:Buf H 1 v (B.map A3l) o) (ho:∀ y,o=some y→base≤y∧ob≠some y) (hBl:B.length=n) (hQ:∀ t:Nat,B[t]?=some true↔Q k t) (hk:k≤1073741823):
  ∃ a cap w' H4 ob',z=.slice a k cap∧A5a Tryz.prog 103 1 [(0,v)] H=some (.slice (some ⟨H.next,0,some 0⟩) 1 1,(H.new 1 [v]).2)∧A4a Tryz.prog .append [103,103] [.slice a k cap,.slice (some ⟨H.next,0,some 0⟩) 1 1] (H.new 1 [v]).2=some (w',H4)∧AliveL H4 base n w' ob' Q (k+1)∧Chg (fun y=>ob=some y) H H4:=by
 obtain ⟨h0,vals,h1,h2,h3⟩:=h
 obtain ⟨a,cap,w',H4,ob',e1,e2,e3,e4,e5⟩:=h1.push hw (x:=[v]) rfl
 have hv:=hB.isCell
 have hbs:=A27 (H:=H) (x:=v) (by rw [A7b hv]; rfl) (by rw [A7b hv]; simp [hv])
 rw [A7b hv] at hbs
 rw [List.length_map,h2] at e1 e2
 have ha:=C2i (H:=H) (base:=a) (len:=k) (cap:=cap) (x:=[v]) rfl hk
 rw [e2] at ha
 have hfar:∀ y,o=some y→ob'≠some y:=fun y hy hy2=>by
  rcases e5 y hy2 with h4 | h4
  ·exact (ho y hy).2 h4
  ·have:=hB.lt hw y hy; omega
 refine ⟨a,cap,w',H4,ob',e1,hbs,ha,⟨fun y hy=>?_,vals++[v],by rw [List.map_append]; exact e3,by simp [h2],fun j w hj=>?_⟩,e4⟩
 ·rcases e5 y hy with h4 | h4
  ·exact h0 y h4
  ·omega
 ·rcases Nat.lt_or_ge j vals.length with hj1 | hj1
  ·rw [List.getElem?_append_left hj1] at hj
   obtain ⟨B',o',k1,k2,k3⟩:=h3 j w hj
   refine ⟨B',o',k1.chg hw e4 fun y hy hy2=>(k2 y hy).2 hy2,fun y hy=>⟨(k2 y hy).1,fun hy2=>?_⟩,k3⟩
   rcases e5 y hy2 with h4 | h4
   ·exact (k2 y hy).2 h4
   ·have:=k1.lt hw y hy; omega
  ·rw [List.getElem?_append_right hj1] at hj
   have hj0:j - vals.length=0:=by
    have:=(List.getElem?_eq_some_iff.1 hj).1
    simp at this; omega
   have hjk:j=k:=by omega
   rw [hj0] at hj
   have:v=w:=by simpa using hj
   subst this hjk
   exact ⟨B,o,hB.chg hw e4 fun y hy hy2=>(ho y hy).2 hy2,fun y hy=>⟨(ho y hy).1,hfar y hy⟩,hBl,hQ⟩
theorem AliveL.at {H:AH} {base n:Nat} {z:Value} {ob:Option Nat} {Q:Nat→Nat→Prop} {k j:Nat} (h:AliveL H base n z ob Q k) (hj:j < k):
  ∃ p v,A9a Tryz.prog 103 z (.int .i64 (j:Int))=some (.pointer (some p))∧H.cell p=some v∧∃ B:List Bool,Sl H v 1 (B.map A3l)∧B.length=n∧∀ t:Nat,B[t]?=some true↔Q j t:=by
 obtain ⟨h0,vals,h1,h2,h3⟩:=h
 have hv:vals[j]?=some (vals[j]'(by rw [h2]; exact hj)):=List.getElem?_eq_getElem _
 obtain ⟨B,o,k1,k2,k3⟩:=h3 j _ hv
 obtain ⟨p,i1,i2⟩:=Sl.elem (s:=1) Tryz.underlying103 B4e h1.toSl (i:=j) (u:=vals[j]'(by rw [h2]; exact hj)) (by rw [List.getElem?_map,hv]; rfl)
 exact ⟨p,_,i1,i2,B,k1.toSl,k3⟩
theorem AliveL.len {H:AH} {base n:Nat} {z:Value} {ob:Option Nat} {Q:Nat→Nat→Prop} {k:Nat} (h:AliveL H base n z ob Q k) (H':AH):A4a Tryz.prog .len [103] [z] H'=some (.int .i64 (k:Int),H'):=by
 obtain ⟨h0,vals,h1,h2,h3⟩:=h
 rw [h1.toSl.len Tryz.underlying103,List.length_map,h2]
theorem boxBack {H:AH} {g:Nat}:anew Tryz.prog 52 H (.pointer none)=some (.pointer (some ⟨H.next,0,some 0⟩),(H.new 1 [.pointer none]).2)∧A6e Tryz.prog 52 (H.new 1 [.pointer none]).2 (.pointer (some ⟨g,0,some 0⟩)) (.pointer (some ⟨H.next,0,some 0⟩))=some (H.new 1 [.pointer (some ⟨g,0,some 0⟩)]).2:=
 ⟨A1s B16 rfl,by rw [A1c B16 rfl]; exact A5o rfl⟩
theorem C8k {H:AH} {g n most:Nat} {E:List (List (Nat×Int×Int×Int))} {ends:List Int} {sv av ev cv:Value} {vals:List Value} {sigma:List ByteArray} {costs:List Int} (h:PG H g n 60000 E ends sv av ev cv vals sigma costs) (hsg:sigma.length≤1048576) (hm:most≤1000) (hw:Wf H):
  Sh.Call Tryz.prog (knows 7) 69 [.pointer (some ⟨g,0,some 0⟩),.int .i64 (most:Int)] H (fun r H'=>Kept H H'∧∃ ob,AliveL H' H.next n r ob (exP E ends) (most+1)):=by
 refine A2a rfl Tryz.func69 rfl (Nat.le_of_ble_eq_true rfl) ?_
 have hres:Tryz.f69.results.toList=[.tmp 4]:=rfl
 have hn2:=h.n2
 have hc2:=h.gr.arr.cell 2
 have hlenE:∀ H',A4a Tryz.prog .len [69] [ev] H'=some (.int .i64 (n:Int),H'):=fun H'=>by
  rw [h.gr.en.len Tryz.underlying69,List.length_map,h.ln]
 obtain ⟨r1,H1,hd1,hk1,g1,rfl,R,base,hbase,hG,hRl,hRr,hRg⟩:=B0d h hsg hw
 obtain ⟨sv',av',ev',cv',vals',hR⟩:=hG.read
 have hPG:PG H1 g1 n 180000000 R (List.replicate n 0) sv' av' ev' cv' vals' sigma (List.replicate n 0):=⟨hR,hRl,by simp,h.n1,h.n2,fun s r hr=>hRr r (List.mem_of_getElem? hr)⟩
 obtain ⟨nw,st⟩:=boxBack (H:=H1) (g:=g1)
 have kn:=Kept.new hk1.wf 1 [.pointer (some ⟨g1,0,some 0⟩)]
 have obx:=(Sh.Obj.new (H:=H1) 1 [.pointer (some ⟨g1,0,some 0⟩)]).arr
 have hbx:(H1.new 1 [.pointer (some ⟨g1,0,some 0⟩)]).2.cell ⟨H1.next,0,some 0⟩=some (.pointer (some ⟨g1,0,some 0⟩)):=obx.cell 0
 have hP2:=hPG.kept hk1.wf kn
 have hk2:=hk1.trans kn
 have hc2':=A2b (hk2.grow hw) hc2
 have hn0:=hk1.next
 simp only [↓Sh.dn,sx,reduceCtorEq,Nat.reduceEqDiff]
 refine ⟨_,_,hd1,?_⟩
 simp only [sx,nw,st,hc2',hlenE]
 generalize hbxe:H1.next=bx at hbx hn0 ⊢
 generalize (H1.new 1 [.pointer (some ⟨g1,0,some 0⟩)]).2=H2 at hP2 hk2 hbx ⊢
 have hsp:=B35 hP2 hbx hk2.wf
 refine A9c n 19 (List.range' 19 12++[7,8,9]) (fun i F H'=>Kept H2 H'∧∃ z,F.get 7=some z∧∃ l ob,LB H' H2.next none z l ob∧l.length≤i∧∀ t,t∈l↔t < i∧0 < ends.getD t 0) (by simp only [sx]) ⟨Kept.refl hk2.wf,_,by simp only [sx,Nat.reduceEqDiff],[],none,⟨.void none,fun y hy=>by cases hy⟩,Nat.le_refl _,fun t=>by simp⟩ ?_ ?_
 ·rintro i F H' hi hF f19 ⟨hk,z,f7,l,ob,hl,hll,hiff⟩ k
  have f17:=hF 17 rfl
  have f18:=hF 18 rfl
  simp only [sx,Nat.reduceEqDiff] at f17 f18
  have hil:i < ends.length:=by rw [h.ln]; exact hi
  obtain ⟨p,hia,hc⟩:=Sl.elem (s:=1) Tryz.underlying69 A3c (h.gr.en.grow ((hk2.trans hk).grow hw)) (i:=i) (u:=.int .i64 ends[i]) (by rw [List.getElem?_map,List.getElem?_eq_getElem hil]; rfl)
  have hg:ends.getD i 0=ends[i]:=by simp [List.getD,List.getElem?_eq_getElem hil]
  simp only [↓Sh.dn,sx,Nat.reduceEqDiff,f17,f18,f19,A1a,hi,decide_true,hia,hc]
  by_cases hpos:0 < ends[i]
  ·obtain ⟨a,cap,w',H4,ob2,rfl,e1,e2,e3,e4,e5⟩:=B8d i hk (fun y hy=>by cases hy) hl (by omega)
   simp only [↓Sh.dn,sx,Nat.reduceEqDiff,hpos,decide_true,f7,f19,e1,e2,A3a hi (Nat.le_trans hn2 (by decide))]
   refine k _ _ (by repeat (first | refine Same.put ?_ rfl | exact Same.rfl' _)) (by simp only [sx]) ⟨e3,w',by simp only [sx,Nat.reduceEqDiff],l++[i],ob2,e4,by simp; omega,fun t=>?_⟩
   rw [List.mem_append,List.mem_singleton,hiff]
   constructor
   ·rintro (⟨h1,h2⟩ | h1)
    ·exact ⟨by omega,h2⟩
    ·subst h1; exact ⟨by omega,by rw [hg]; exact hpos⟩
   ·rintro ⟨h1,h2⟩
    by_cases ht:t=i
    ·exact .inr ht
    ·exact .inl ⟨by omega,h2⟩
  ·simp only [↓Sh.dn,sx,Nat.reduceEqDiff,hpos,decide_false,f19,A3a hi (Nat.le_trans hn2 (by decide))]
   refine k _ _ (by repeat (first | refine Same.put ?_ rfl | exact Same.rfl' _)) (by simp only [sx]) ⟨hk,z,by simp only [sx,Nat.reduceEqDiff,f7],l,ob,hl,by omega,fun t=>?_⟩
   rw [hiff]
   constructor
   ·rintro ⟨h1,h2⟩; exact ⟨by omega,h2⟩
   ·rintro ⟨h1,h2⟩
    by_cases ht:t=i
    ·subst ht; rw [hg] at h2; exact absurd h2 hpos
    ·exact ⟨by omega,h2⟩
 ·rintro F H3 hF f19 ⟨hk3,z,f7,l,ob,hl,hll,hiff⟩
  have f1:=hF 1 rfl
  have f5:=hF 5 rfl
  have f6:=hF 6 rfl
  have f18:=hF 18 rfl
  simp only [sx,Nat.reduceEqDiff] at f1 f5 f6 f18
  obtain ⟨r4,H4,hd4,hk4,B,o,hB,hBo,hBl,hBi⟩:=hsp H3 hk3 z l hl.bf.toSl (fun t ht=>((hiff t).1 ht).1) (by omega)
  have hx3:=hk3.next
  have hx2:=hk2.next
  have hv4:=hB.isCell
  have hQ0:∀ t:Nat,B[t]?=some true↔exP E ends 0 t:=fun t=>by
   rw [hBi,C0w hRg]
   have:(fun s=>s∈l)=fun s=>0 < ends.getD s 0:=by
    funext s
    apply propext
    rw [hiff]
    constructor
    ·exact fun h=>h.2
    ·intro hs
     refine ⟨?_,hs⟩
     by_cases hn:s < n
     ·exact hn
     ·have:ends.getD s 0=0:=by rw [List.getD_eq_getElem?_getD,List.getElem?_eq_none (by rw [h.ln]; omega)]; rfl
      rw [this] at hs; omega
   rw [this]
   rfl
  have kn4:=Kept.new hk4.wf 1 [r4]
  have hbs:=A27 (H:=H4) (x:=r4) (by rw [A7b hv4]; rfl) (by rw [A7b hv4]; simp [hv4])
  rw [A7b hv4] at hbs
  have hA1:AliveL (H4.new 1 [r4]).2 H2.next n (.slice (some ⟨H4.next,0,some 0⟩) 1 1) (some H4.next) (exP E ends) 1:=by
   have hbuf:Buf (H4.new 1 [r4]).2 1 (.slice (some ⟨H4.next,0,some 0⟩) 1 1) [[r4]] (some H4.next):=Buf.fresh (H:=H4) (s:=1) (xs:=[[r4]]) hk4.wf (by intro x hx; rw [List.mem_singleton.1 hx]; rfl) (by simp) 1 rfl
   have hx4:=hk4.next
   refine ⟨fun y hy=>by have:=Option.some.inj hy; omega,[r4],hbuf,rfl,fun j v hj=>?_⟩
   have hj0:j=0:=by
    have:=(List.getElem?_eq_some_iff.1 hj).1
    simp at this; exact this
   subst hj0
   have:r4=v:=by simpa using hj
   subst this
   exact ⟨B,o,hB.kept hk4.wf kn4,fun y hy=>⟨by have:=hBo y hy; omega,fun hy2=>by have:=hB.lt hk4.wf y hy; have:=Option.some.inj hy2; omega⟩,hBl,hQ0⟩
  have hk14:=hk3.trans (hk4.trans kn4)
  simp only [↓Sh.dn,sx,Nat.reduceEqDiff,f6,f7,f18,f19,A1a,Nat.lt_irrefl,decide_false]
  refine ⟨_,_,hd4,?_⟩
  simp only [sx,hbs,f1]
  generalize (Value.slice (some ⟨H4.next,0,some 0⟩) 1 1)=z1 at hA1 ⊢
  generalize (H4.new 1 [r4]).2=H5 at hA1 hk14 ⊢
  refine A9c most 36 (List.range' 36 15++[10]) (fun i F H'=>Kept H2 H'∧∃ z,F.get 10=some z∧∃ ob,AliveL H' H2.next n z ob (exP E ends) (i+1)) (by simp only [sx]) ⟨hk14,_,by simp only [sx,Nat.reduceEqDiff],_,hA1⟩ ?_ ?_
  ·rintro i F' H' hi hF' f36 ⟨hk,z',f10,ob',hA⟩ k
   have g5:=hF' 5 rfl
   have g6:=hF' 6 rfl
   have g35:=hF' 35 rfl
   simp only [sx,Nat.reduceEqDiff,f5,f6] at g5 g6 g35
   have hlA:=hA.len
   obtain ⟨p,v,i1,i2,X,hX,hXl,hXi⟩:=hA.at (j:=i) (Nat.lt_succ_self i)
   have wl:IntKind.wrap .i64 (((i+1:Nat):Int) - 1)=(i:Int):=by rw [wrap64 (by omega) (by omega)]; omega
   have cb:=A2b (hk.grow hk2.wf) hbx
   obtain ⟨r6,H6,hd6,hk6,B6,o6,hB6,hB6o,hB6l,hB6i⟩:=C8z (caps:=[.pointer (some ⟨bx,0,some 0⟩)]) (fid:=98) (hP2.kept hk2.wf hk) hX hXl hk.wf (fun H'' hk''=>hsp H'' (hk.trans hk''))
   have hA6:=hA.kept hk.wf hk6
   have hx6:=hk.next
   have hx7:=hk6.next
   obtain ⟨a,cap,w',H7,ob7,rfl,e1,e2,hA7,hc7⟩:=hA6.push hk6.wf (by omega) hB6 (fun y hy=>⟨by have:=hB6o y hy; omega,fun hy2=>by
    obtain ⟨h0,vals0,h1,h2,h3⟩:=hA
    have:=h1.lt hk.wf y hy2
    have:=hB6o y hy
    omega⟩) hB6l (fun t=>by rw [hB6i,exP_succ hRg hXi]) (by omega)
   simp only [↓Sh.dn,sx,f36,g35,A1a,hi,decide_true]
   refine (A7a (by kernel_rfl)).2 ?_
   simp only [↓Sh.dn,sx,Nat.reduceEqDiff,f10,g5,g6,hlA,wl,i1,i2,cb]
   refine ⟨_,_,by first | exact hd6 | simpa using hd6,?_⟩
   have wi:IntKind.wrap .i64 ((i:Int)+1)=((i+1:Nat):Int):=A3a hi (by omega)
   simp only [sx,f36,e1,e2,wi]
   have h0:=hA6.1
   exact k _ _ (by repeat (first | refine Same.put ?_ rfl | exact Same.rfl' _)) (by simp only [sx]) ⟨(hk.trans hk6).then (Nat.le_refl _) (hc7.weak h0),w',by simp only [sx,Nat.reduceEqDiff],ob7,hA7⟩
  ·rintro F' H' hF' f36 ⟨hk,z',f10,ob',hA⟩
   have g35:=hF' 35 rfl
   simp only [sx,Nat.reduceEqDiff] at g35
   simp only [↓Sh.dn,sx,Nat.reduceEqDiff,f10,g35,f36,A1a,Nat.lt_irrefl,decide_false,hres]
   exact ⟨hk2.trans hk,ob',hA.low hk2.next⟩
end Go.Proofs.YtcgbiedfbacgpaaGreat
/- slices.IndexFunc and ContainsFunc: whether some element is so. -/
namespace Go.Proofs.YtcgbiedfbacgpaaGreat
open Go Go.Proofs Go.Proofs.Sh
theorem B0z {H:AH} {v:Value} {l:List Nat} {fid:Nat} {caps:List Value} (p:Nat→Bool) (hs:Sl H v 1 (l.map natC)) (hl:l.length≤1048576) (hw:Wf H)
  (hp:∀ H',Kept H H'→∀ x∈l,Sh.Call Tryz.prog (knows 7) fid ((fun n=>Value.int .i64 (n:Int)) x :: caps) H' (fun r H''=>Kept H' H''∧r=.bool (p x))):
  Sh.Call Tryz.prog (knows 7) 100 [v,.func (.func fid) #[] caps.toArray] H (fun r H'=>Kept H H'∧∃ k:Int,r=.int .i64 k∧decide (0≤k)=l.any p):=by
 refine A2a rfl Tryz.func100 rfl (Nat.le_of_ble_eq_true rfl) ?_
 have hres:Tryz.f100.results.toList=[.tmp 4]:=rfl
 have hlen:=hs.len Tryz.underlying114 H
 simp only [↓Sh.dn,sx,reduceCtorEq,hlen,List.length_map]
 refine A9c l.length 8 [5,8,9,10,11,12,13,14,15,16,18] (fun i F H'=>Kept H H'∧(l.take i).any p=false) (by simp only [sx]) ⟨Kept.refl hw,rfl⟩ ?_ ?_
 ·rintro i F H' hlt hF f8 ⟨hk,hall⟩ k
  have hs1:=hs.grow (hk.grow hw)
  obtain ⟨g,o,kk,hia,hc,hcc⟩:=hs1.at Tryz.underlying114 A3c (i:=i) (x:=natC l[i]) (by simp [hlt]) .i64
  have hld:=hcc 0 _ rfl; simp only [Nat.add_zero] at hld
  have f0:=hF 0 rfl
  have f1:=hF 1 rfl
  have f7:=hF 7 rfl
  simp only [sx,reduceCtorEq,Nat.reduceEqDiff] at f0 f1 f7
  obtain ⟨r,H2,hd,hk2,rfl⟩:=hp H' hk l[i] (List.getElem_mem hlt)
  simp only [↓Sh.dn,sx,reduceCtorEq,Nat.reduceEqDiff,f0,f1,f7,f8,A1a,hlt,decide_true,hia,hld,reduceCtorEq]
  refine ⟨_,_,hd,?_⟩
  cases hpv:p l[i] with
  | true=>
   simp only [↓Sh.dn,sx,Nat.reduceEqDiff,hres]
   refine ⟨hk.trans hk2,_,rfl,?_⟩
   rw [List.any_eq_true.2 ⟨_,List.getElem_mem hlt,hpv⟩]
   simp
  | false=>
   simp only [↓Sh.dn,sx,Nat.reduceEqDiff,hres,f8,wrap_succ hlt hl]
   refine k _ _ (by repeat (first | refine Same.put ?_ rfl | exact Same.rfl' _)) (by simp only [sx]) ⟨hk.trans hk2,?_⟩
   rw [List.take_add_one,List.getElem?_eq_getElem hlt]
   simp only [Option.toList,List.any_append,hall,List.any_cons,List.any_nil,hpv,Bool.or_false]
 ·rintro F H' hF f8 ⟨hk,hall⟩
  have f7:=hF 7 rfl
  simp only [sx,Nat.reduceEqDiff] at f7
  rw [List.take_length] at hall
  simp only [↓Sh.dn,sx,f7,f8,A1a,Nat.lt_irrefl,decide_false,hres]
  exact ⟨hk,_,rfl,by rw [hall]; rfl⟩
theorem B0g {H:AH} {v:Value} {l:List Nat} {fid:Nat} {caps:List Value} (p:Nat→Bool) (hs:Sl H v 1 (l.map natC)) (hl:l.length≤1048576) (hw:Wf H)
  (hp:∀ H',Kept H H'→∀ x∈l,Sh.Call Tryz.prog (knows 7) fid ((fun n=>Value.int .i64 (n:Int)) x :: caps) H' (fun r H''=>Kept H' H''∧r=.bool (p x))):
  Sh.Call Tryz.prog (knows 7) 71 [v,.func (.func fid) #[] caps.toArray] H (fun r H'=>Kept H H'∧r=.bool (l.any p)):=by
 refine A2a rfl Tryz.func71 rfl (Nat.le_of_ble_eq_true rfl) ?_
 have hres:Tryz.f71.results.toList=[.tmp 4]:=rfl
 obtain ⟨r,H2,hd,hk,k,rfl,hk0⟩:=B0z p hs hl hw hp
 simp only [↓Sh.dn,sx,reduceCtorEq,Nat.reduceEqDiff]
 refine ⟨_,_,hd,?_⟩
 simp only [sx,hres,hk0]
 exact hk
end Go.Proofs.YtcgbiedfbacgpaaGreat
/- (*graph.Graph).Begin, Step, Run, HasEnd. -/
namespace Go.Proofs.YtcgbiedfbacgpaaGreat
open Go Go.Proofs Go.Proofs.Sh
theorem C7m {H:AH} {g n:Nat} {E:List (List (Nat×Int×Int×Int))} {ends:List Int} {sv av ev cv:Value} {vals:List Value} {sigma:List ByteArray} {costs:List Int} (h:PG H g n 60000 E ends sv av ev cv vals sigma costs) (hw:Wf H):
  Sh.Call Tryz.prog (knows 7) 75 [.pointer (some ⟨g,0,some 0⟩)] H (fun r H'=>SetOut H H' r n (Clo (A2c E fun k=>k < 0) fun s=>s=0)):=by
 refine A2a rfl Tryz.func75 rfl (Nat.le_of_ble_eq_true rfl) ?_
 have hres:Tryz.f75.results.toList=[.tmp 2]:=rfl
 have hbs:=A8o (H:=H) (x:=.int .i64 0) rfl rfl
 have k2:=Kept.new hw 1 [.int .i64 0]
 have hS:Sl (H.new 1 [.int .i64 0]).2 (.slice (some ⟨H.next,0,some 0⟩) 1 1) 1 (([0]:List Nat).map natC):=
  (Buf.fresh (H:=H) (s:=1) (xs:=[natC 0]) hw (by intro x hx; rw [List.mem_singleton.1 hx]; rfl) (by simp) 1 rfl).toSl
 obtain ⟨r,H3,hd3,ho⟩:=B6k (h.kept hw k2) hS (fun t ht=>by rw [List.mem_singleton.1 ht]; exact h.n1) (by decide) k2.wf
 simp only [↓Sh.dn,sx,reduceCtorEq,Nat.reduceEqDiff,hbs,A6a]
 refine ⟨_,_,hd3,?_⟩
 simp only [sx,hres]
 exact (ho.pre k2).iff fun t=>by simp only [List.mem_singleton]
end Go.Proofs.YtcgbiedfbacgpaaGreat
