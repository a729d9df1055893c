/- A part of the proof: Marks, RefClose, RefRun, RefRev, RefSpread, RefAlive, SymsSmall, IndexFuncStr, SymsValidate, WordVal, RefAcc. -/
import Derived.Test.YtcgbiedfbacgpaaGreatMClose2AutoOf2
import Derived.Test.YtcgbiedfbacgpaaGreatMClose2AutoOf4
import Derived.Test.YtcgbiedfbacgpaaGreatMClose2AutoOf3
set_option linter.unusedVariables false
set_option linter.unusedSimpArgs false
/- A state is marked and put into a list. -/
set_option maxHeartbeats 4000000
set_option maxRecDepth 20000
set_option linter.unusedSimpArgs false
set_option linter.unusedVariables false
namespace Go.Proofs.YtcgbiedfbacgpaaGreat
open Go Go.Proofs Go.Proofs.Sh
theorem B74 {H1 H':AH} {z:Value} {os ob:Option Nat} {l:List Nat} (t:Nat) (hk:Kept H1 H') (ho:∀ y,os=some y→y < H'.next) (hl:LB H' H1.next os z l ob) (hn:l.length≤1073741823):
  ∃ a cap w' H4 ob', z = .slice a l.length cap ∧ A4a Tryz.prog 69 1 [(0, .int .i64 (t : Int))] H' = some (.slice (some ⟨H'.next, 0, some 0⟩) 1 1, (H'.new 1 [.int .i64 (t : Int)]).2) ∧
      A2a Tryz.prog .append [69, 69] [.slice a l.length cap, .slice (some ⟨H'.next, 0, some 0⟩) 1 1] (H'.new 1 [.int .i64 (t : Int)]).2 = some (w', H4) ∧
      Kept H1 H4 ∧ LB H4 H1.next os w' (l ++ [t]) ob' ∧ Chg (fun y => ob = some y) H' H4 := by
 obtain ⟨a,cap,w',H4,ob',rfl,k1,k2,k3,k4⟩:=hl.push hk.next ho hk.wf t
 have ha:=C3y (H:=H') (base:=a) (len:=l.length) (cap:=cap) (x:=natC t) rfl hn
 rw [k1] at ha
 exact ⟨a,cap,w',H4,ob',rfl,A2v (H:=H') (x:=.int .i64 (t:Int)) rfl rfl,ha,hk.then (Nat.le_refl _) (k3.weak fun y hy=>(hl.fr y hy).1),k2,k3⟩
theorem C6e {base:Nat} {H':AH} {z:Value} {os ob:Option Nat} {l:List Nat} (t:Nat) (hb:base≤H'.next) (hw:Wf H') (ho:∀ y,os=some y→y < H'.next) (hl:LB H' base os z l ob) (hn:l.length≤1073741823):
  ∃ a cap w' H4 ob', z = .slice a l.length cap ∧ A4a Tryz.prog 69 1 [(0, .int .i64 (t : Int))] H' = some (.slice (some ⟨H'.next, 0, some 0⟩) 1 1, (H'.new 1 [.int .i64 (t : Int)]).2) ∧
      A2a Tryz.prog .append [69, 69] [.slice a l.length cap, .slice (some ⟨H'.next, 0, some 0⟩) 1 1] (H'.new 1 [.int .i64 (t : Int)]).2 = some (w', H4) ∧
      LB H4 base os w' (l ++ [t]) ob' ∧ Chg (fun y => ob = some y) H' H4 := by
 obtain ⟨a,cap,w',H4,ob',rfl,k1,k2,k3,k4⟩:=hl.push hb ho hw t
 have ha:=C3y (H:=H') (base:=a) (len:=l.length) (cap:=cap) (x:=natC t) rfl hn
 rw [k1] at ha
 exact ⟨a,cap,w',H4,ob',rfl,A2v (H:=H') (x:=.int .i64 (t:Int)) rfl rfl,ha,k2,k3⟩
theorem C2r {H1 H':AH} {n:Nat} {sv:Value} {os:Option Nat} {seen:List Bool} {out:List Nat} {t:Nat} (hk:Kept H1 H') (hM:MB H' H1.next n sv os seen out) (ht:t < n) (hnt:t∉out):
  ∃ p H3,A7b Tryz.prog 58 sv (.int .i64 (t:Int))=some (.pointer (some p))∧H'.cell p=some (.bool false)∧A3e Tryz.prog 4 H' (.bool true) (.pointer (some p))=some H3∧Kept H1 H3∧MB H3 H1.next n sv os (seen.set t true) (out++[t])∧Chg (fun y=>os=some y) H' H3:=by
 obtain ⟨p,H3,e1,e2,e3,e4,e5,e6⟩:=hM.set Tryz.underlying58 A1u hk.wf ht hnt
 exact ⟨p,H3,e1,e2,by rw [A4d A1u rfl]; exact e3,hk.then (Nat.le_refl _) (e5.weak hM.fr),e4,e5⟩
theorem C3e {H1 H' : AH} {n : Nat} {sv z : Value} {os ob : Option Nat} {seen : List Bool} {out l : List Nat} {t : Nat} (hk : Kept H1 H') (hM : MB H' H1.next n sv os seen out) (hl : LB H' H1.next os z l ob) (ht : t < n) (hnt : t ∉ out) (hn : l.length ≤ 1073741823) :
      ∃ p H3 a cap w' H4 ob', A7b Tryz.prog 58 sv (.int .i64 (t : Int)) = some (.pointer (some p)) ∧ H'.cell p = some (.bool false) ∧ A3e Tryz.prog 4 H' (.bool true) (.pointer (some p)) = some H3 ∧ z = .slice a l.length cap ∧ Kept H1 H3 ∧
        A4a Tryz.prog 69 1 [(0, .int .i64 (t : Int))] H3 = some (.slice (some ⟨H3.next, 0, some 0⟩) 1 1, (H3.new 1 [.int .i64 (t : Int)]).2) ∧
        A2a Tryz.prog .append [69, 69] [.slice a l.length cap, .slice (some ⟨H3.next, 0, some 0⟩) 1 1] (H3.new 1 [.int .i64 (t : Int)]).2 = some (w', H4) ∧
        Kept H1 H4 ∧ MB H4 H1.next n sv os (seen.set t true) (out ++ [t]) ∧ LB H4 H1.next os w' (l ++ [t]) ob' ∧ Chg (fun y => os = some y) H' H3 := by
  obtain ⟨p, H3, e1, e2, e3, e4, e5, e6⟩ := C2r hk hM ht hnt
  have hl3 := hl.chg hk.wf e6 fun y h => h
  obtain ⟨a, cap, w', H4, ob', k0, k1, k2, k3, k4, k5⟩ := B74 t e4 (e5.lt e4.wf) hl3 hn
  exact ⟨p, H3, a, cap, w', H4, ob', e1, e2, e3, k0, e4, k1, k2, k3, e5.chg e4.wf k5 (fun y hy h => (hl3.fr y hy).2 h), k4, e6⟩
end Go.Proofs.YtcgbiedfbacgpaaGreat
/- The reference's Close: a set of states with all that empty edges lead to. -/
namespace Go.Proofs.YtcgbiedfbacgpaaGreat
open Go Go.Proofs Go.Proofs.Sh
theorem C3g {H:AH} {v u ev bv:Value} {vals:List Value} {n:Nat} {E:List (List (ByteArray×Nat))} {ends:List Bool} {L:List Nat} (h:RG H v n E ends ev bv vals) (hL:Sl H u 1 (L.map natC)) (hlt:∀ t∈L,t < n) (hll:L.length≤1073741823) (hw:Wf H):
  Sh.Call Tryz.prog (knows 7) 93 [v,u] H (fun r H'=>SetOut H H' r n (Clo (A1e E A2b) fun s=>s∈L)):=by
 refine A3a rfl Tryz.func93 rfl (Nat.le_of_ble_eq_true rfl) ?_
 have hres:Tryz.f93.results.toList=[.tmp 4]:=rfl
 have hrb:=RBox.of h hw
 have hk1:Kept H (H.new 3 [.int .i64 0,ev,bv]).2:=Kept.new hw 3 _
 have hE:=h.ed.sl.isCell
 have hB:=h.en.isCell
 rw [h.eq]
 simp only [↓Sh.dn,sx,Nat.reduceBEq,reduceCtorEq,Nat.reduceEqDiff,B0u hE hB]
 have e0:H.next≤(H.new 3 [.int .i64 0,ev,bv]).2.next:=Nat.le_succ _
 generalize (H.new 3 [.int .i64 0,ev,bv]).2=H1 at hrb hk1 e0 ⊢
 generalize H.next=gb at hrb e0 ⊢
 have hn1:=h.n1
 have hn2:=h.n2
 have hlenE:∀ H',A2a Tryz.prog .len [57] [ev] H'=some (.int .i64 (n:Int),H'):=fun H'=>by
  rw [h.ed.sl.len Tryz.underlying57,List.length_map,h.ed.len]; unfold A8h; rw [List.length_map,h.le]
 have hmk:=mk_58 (H:=H1) (l:=n) (c:=n) (Nat.le_refl _) (by omega)
 have k2:=Kept.new hk1.wf 1 (List.replicate n (.bool false))
 have f2:=Buf.fill hk1.wf (.bool false) (c:=n) (by omega)
 simp only [↓Sh.dn,sx,Nat.reduceBEq,reduceCtorEq,Nat.reduceEqDiff,hrb.c1,hlenE,hmk]
 obtain ⟨os,hos⟩:∃ os,(if n=0 then none else some H1.next)=os:=⟨_,rfl⟩
 rw [hos] at f2
 have hM0:MB (H1.new 1 (List.replicate n (.bool false))).2 H1.next n (.slice (some ⟨H1.next,0,some 0⟩) n n) os (List.replicate n false) []:=by
  refine ⟨Marks.empty n,by rw [List.map_replicate]; exact f2,fun y hy=>?_⟩
  rw [← hos,if_neg (by omega)] at hy
  rw [← Option.some.inj hy]; exact Nat.le_refl _
 generalize (Value.slice (some ⟨H1.next,0,some 0⟩) n n)=sv at hM0 ⊢
 generalize (H1.new 1 (List.replicate n (.bool false))).2=H2 at k2 hM0 ⊢
 refine A9e L.length 7 (List.range' 15 27++[6,7]) (fun i F H'=>Kept H1 H'∧∃ z,F.get 6=some z∧∃ seen out ob,MB H' H1.next n sv os seen out∧LB H' H1.next os z out ob∧(∀ t∈out,t∈L)∧∀ (j t:Nat),j < i→L[j]?=some t→t∈out) (by simp only [↓Sh.dn,sx,Nat.reduceBEq,reduceCtorEq,Nat.reduceEqDiff]) ⟨k2,_,by simp only [↓Sh.dn,sx,Nat.reduceBEq,reduceCtorEq,Nat.reduceEqDiff],_,_,none,hM0,⟨.void none,fun y hy=>by cases hy⟩,fun t ht=>(by cases ht),fun j t hj=>by omega⟩ ?_ ?_
 ·rintro i F H' hi hF f7 ⟨hk,z,f6,seen,out,ob,hM,hl,hsub,hdone⟩ k
  have f1:=hF 1 rfl
  have f5:=hF 5 rfl
  simp only [↓Sh.dn,sx,Nat.reduceBEq,reduceCtorEq,Nat.reduceEqDiff] at f1 f5
  have hL':=hL.grow ((hk1.trans hk).grow hw)
  have hlen:=hL'.len Tryz.underlying69 H'
  rw [List.length_map] at hlen
  obtain ⟨p,hia,hc⟩:=B5j Tryz.underlying69 A2f hL' hi
  have htn:L[i] < n:=hlt _ (List.getElem_mem hi)
  have hget:L[i]?=some L[i]:=List.getElem?_eq_getElem hi
  have hmem:L[i]∈L:=List.getElem_mem hi
  generalize L[i]=t at hc htn hget hmem
  obtain ⟨p2,hia2,hc2⟩:=hM.see Tryz.underlying58 A1u htn
  simp only [↓Sh.dn,sx,Nat.reduceBEq,reduceCtorEq,Nat.reduceEqDiff,f1,f5,f6,f7,A1a,hi,decide_true,hlen,hia,hc,hia2,hc2]
  by_cases hin:t∈out
  ·simp only [↓Sh.dn,sx,Nat.reduceBEq,reduceCtorEq,Nat.reduceEqDiff,hin,decide_true,f7,A9a hi (Nat.le_trans hll (by decide))]
   refine k _ _ (by repeat (first | refine Same.put ?_ rfl | exact Same.rfl' _)) (by simp only [↓Sh.dn,sx,Nat.reduceBEq,reduceCtorEq,Nat.reduceEqDiff]) ⟨hk,z,by simp only [↓Sh.dn,sx,Nat.reduceBEq,reduceCtorEq,Nat.reduceEqDiff,f6],seen,out,ob,hM,hl,hsub,fun j t' hj ht'=>?_⟩
   by_cases hji:j=i
   ·subst hji; rw [hget] at ht'; rw [← Option.some.inj ht']; exact hin
   ·exact hdone j t' (by omega) ht'
  ·obtain ⟨p3,H3,a,cap,w',H4,ob',e1,e2,e3,rfl,e5,e6,e7,e8,e9,e10,e11⟩:=C3e hk hM hl htn hin (by have:=hM.ms.le; omega)
   obtain ⟨p4,hia4,hc4⟩:=B5j Tryz.underlying69 A2f (hL.grow ((hk1.trans e5).grow hw)) hi
   rw [hia] at hia4
   injection hia4 with hq; injection hq with hq; injection hq with hq
   rw [← hq] at hc4
   have:L[i]=t:=Option.some.inj ((List.getElem?_eq_getElem hi).symm.trans hget)
   rw [this] at hc4
   simp only [↓Sh.dn,sx,Nat.reduceBEq,reduceCtorEq,Nat.reduceEqDiff,hin,decide_false,f1,f5,f6,f7,hia,hc,e1,e3,hc4,e6,e7,A9a hi (Nat.le_trans hll (by decide))]
   refine k _ _ (by repeat (first | refine Same.put ?_ rfl | exact Same.rfl' _)) (by simp only [↓Sh.dn,sx,Nat.reduceBEq,reduceCtorEq,Nat.reduceEqDiff]) ⟨e8,_,by simp only [↓Sh.dn,sx,Nat.reduceBEq,reduceCtorEq,Nat.reduceEqDiff],_,_,ob',e9,e10,fun x hx=>?_,fun j t' hj ht'=>?_⟩
   ·rcases List.mem_append.1 hx with h | h
    ·exact hsub x h
    ·rw [List.mem_singleton.1 h]; exact hmem
   ·by_cases hji:j=i
    ·subst hji; rw [hget] at ht'; rw [← Option.some.inj ht']; exact List.mem_append_right _ List.mem_cons_self
    ·exact List.mem_append_left _ (hdone j t' (by omega) ht')
 ·rintro F H' hF f7 ⟨hk,z,f6,seen,out,ob,hM,hl,hsub,hdone⟩
  have f2:=hF 2 rfl
  have f5:=hF 5 rfl
  have f1:=hF 1 rfl
  simp only [↓Sh.dn,sx,Nat.reduceBEq,reduceCtorEq,Nat.reduceEqDiff] at f1 f2 f5
  have hL':=hL.grow ((hk1.trans hk).grow hw)
  have hlen:=hL'.len Tryz.underlying69 H'
  rw [List.length_map] at hlen
  have hLout:∀ t∈L,t∈out:=fun t ht=>by
   obtain ⟨j,hj⟩:=List.mem_iff_getElem?.1 ht
   exact hdone j t (List.getElem?_eq_some_iff.1 hj).1 hj
  simp only [↓Sh.dn,sx,Nat.reduceBEq,reduceCtorEq,Nat.reduceEqDiff,f1,f2,f5,f6,f7,A1a,Nat.lt_irrefl,decide_false,hlen]
  refine A4b (m:=n+1) (fun m F H'=>∃ i,m+i=n+1∧F.get 8=some (.int .i64 (i:Int))∧F.get 2=some (.pointer (some ⟨gb,0,some 0⟩))∧F.get 5=some sv∧Kept H1 H'∧∃ z,F.get 6=some z∧∃ seen out ob,MB H' H1.next n sv os seen out∧LB H' H1.next os z out ob∧i≤out.length∧(∀ t∈L,t∈out)∧(∀ t∈out,Clo (A1e E A2b) (fun s=>s∈L) t)∧∀ s∈out.take i,∀ t,A1e E A2b s t→t∈out) ⟨0,by omega,by simp only [↓Sh.dn,sx,Nat.reduceBEq,reduceCtorEq,Nat.reduceEqDiff]; rfl,by simp only [↓Sh.dn,sx,Nat.reduceBEq,reduceCtorEq,Nat.reduceEqDiff,f2],by simp only [↓Sh.dn,sx,Nat.reduceBEq,reduceCtorEq,Nat.reduceEqDiff,f5],hk,z,by simp only [↓Sh.dn,sx,Nat.reduceBEq,reduceCtorEq,Nat.reduceEqDiff,f6],seen,out,ob,hM,hl,Nat.zero_le _,hLout,fun t ht=>.base (hsub t ht),fun s hs=>by simp at hs⟩ ?_
  clear hk hM hl hsub hdone hLout f1 f2 f5 f6 f7 hL' hlen hF
  clear z seen out ob
  clear F H'
  rintro m F H' ⟨i,hmi,f8,f2,f5,hk,z,f6,seen,out,ob,hM,hl,hio,hLout,hclo,hcl⟩ k
  have hlen:=hl.bf.toSl.len Tryz.underlying69 H'
  rw [List.length_map] at hlen
  have hout:=hM.ms.le
  by_cases hi:i < out.length
  ·simp only [↓Sh.dn,sx,Nat.reduceBEq,reduceCtorEq,Nat.reduceEqDiff,f6,f8,A1a,hi,decide_true,hlen]
   have hsn:out[i] < n:=hM.ms.lt (List.getElem_mem hi)
   have hget:out[i]?=some out[i]:=List.getElem?_eq_getElem hi
   have hcs:Clo (A1e E A2b) (fun s=>s∈L) out[i]:=hclo _ (List.getElem_mem hi)
   generalize out[i]=s at hsn hget hcs
   obtain ⟨r,hr⟩:∃ r,E[s]?=some r:=⟨E[s]'(by rw [h.le]; exact hsn),List.getElem?_eq_getElem _⟩
   have hr':(A8h E)[s]?=some (r.map A3i):=by unfold A8h; rw [List.getElem?_map,hr]; rfl
   obtain ⟨hrl,hrt⟩:=h.to s r hr
   obtain ⟨ga,oa,ka,wr,hia,hca,hsr⟩:=(h.ed.grow (hk1.grow hw)).at Tryz.underlying57 A0q hr'
   have hro:∀ {H'},Kept H1 H'→H'.cell ⟨ga,oa,some ka⟩=some wr∧Sl H' wr 2 (r.map A3i)∧A2a Tryz.prog .len [97] [wr] H'=some (.int .i64 (r.length:Int),H'):=fun hk=>by
    have h2:=hsr.grow (hk.grow hk1.wf)
    refine ⟨A7f (hk.grow hk1.wf) hca,h2,?_⟩
    rw [h2.len Tryz.underlying97,List.length_map]
   refine A9e r.length 9 (List.range' 48 44++[6,9,10]) (fun q F'' H''=>Kept H1 H''∧∃ z',F''.get 6=some z'∧∃ seen' out' ob',MB H'' H1.next n sv os seen' out'∧LB H'' H1.next os z' out' ob'∧out'[i]?=some s∧out'.take i=out.take i∧(∀ x∈out,x∈out')∧(∀ t∈out',Clo (A1e E A2b) (fun s=>s∈L) t)∧∀ e∈r.take q,e.1=A2b→e.2∈out') (by simp only [↓Sh.dn,sx,Nat.reduceBEq,reduceCtorEq,Nat.reduceEqDiff]) ⟨hk,z,by simp only [↓Sh.dn,sx,Nat.reduceBEq,reduceCtorEq,Nat.reduceEqDiff,f6],seen,out,ob,hM,hl,hget,rfl,fun x hx=>hx,hclo,fun e he=>by simp at he⟩ ?_ ?_
   ·rintro q F'' H'' hq hF'' f9 ⟨hk'',z',f6',seen',out',ob',hM',hl',hget',htk,hsub,hclo',hed⟩ k2
    have g2:=hF'' 2 rfl
    have g5:=hF'' 5 rfl
    have g8:=hF'' 8 rfl
    simp only [↓Sh.dn,sx,Nat.reduceBEq,reduceCtorEq,Nat.reduceEqDiff,f2,f5,f8] at g2 g5 g8
    obtain ⟨hc1,hs1,hl1⟩:=hro hk''
    have hb1:=hrb.kept hk1.wf hk''
    have hil:i < out'.length:=(List.getElem?_eq_some_iff.1 hget').1
    have hgs:out'[i]=s:=Option.some.inj ((List.getElem?_eq_getElem hil).symm.trans hget')
    obtain ⟨p1,hia1,hcc1⟩:=B5j Tryz.underlying69 A2f hl'.bf.toSl hil
    rw [hgs] at hcc1
    obtain ⟨g',o',k',hia2,hcs2,_⟩:=hs1.at Tryz.underlying97 A6s (i:=q) (x:=A3i r[q]) (by simp [hq]) .i64
    have hrq:r[q]∈r:=List.getElem_mem hq
    have htake:r.take (q+1)=r.take q++[r[q]]:=by rw [List.take_add_one,List.getElem?_eq_getElem hq]; rfl
    generalize r[q]=e at hcs2 hrq htake
    have kn:=Kept.new hk''.wf 2 (A3i e)
    have hk3:=hk''.trans kn
    have hM3:=hM'.kept hk''.wf kn
    have hl3:=hl'.kept hk''.wf kn
    simp only [↓Sh.dn,sx,Nat.reduceBEq,reduceCtorEq,Nat.reduceEqDiff,f6',f9,g2,g5,g8,hb1.c1,hia1,hcc1,hia,hc1,hl1,A1a,hq,decide_true]
    refine (A1b (by kernel_rfl)).2 ?_
    simp only [↓Sh.dn,sx,Nat.reduceBEq,reduceCtorEq,Nat.reduceEqDiff,f6',f9,g2,g5,g8,hb1.c1,hia1,hcc1,hia,hc1,hia2,hcs2,Option.map_some,C0a,B8p,C7d,re0,re1]
    have hnext : ∀ {seen2 : List Bool} {out2 : List Nat} {ob2 : Option Nat} {z2 : Value} {F2 : Fr} {H2 : AH}, Same (List.range' 48 44 ++ [6, 9, 10]) F'' F2 → F2.get 6 = some z2 → F2.get 9 = some (.int .i64 ((q + 1 : Nat) : Int)) → Kept H1 H2 → MB H2 H1.next n sv os seen2 out2 → LB H2 H1.next os z2 out2 ob2 → (out2 = out' ∨ out2 = out' ++ [e.2] ∧ e.1 = A2b) → (e.1 = A2b → e.2 ∈ out2) →
        wp Tryz.prog (knows 7) _ _ F2 H2 := fun {seen2 out2 ob2 z2 F2 H2} a1 a2 a3 a4 a5 a6 a7 a8 => k2 F2 H2 a1 a3 ⟨a4, z2, a2, seen2, out2, ob2, a5, a6, by
          rcases a7 with h | ⟨h, _⟩
          · rw [h]; exact hget'
          · rw [h, List.getElem?_append_left hil]; exact hget', by
          rcases a7 with h | ⟨h, _⟩
          · rw [h]; exact htk
          · rw [h, List.take_append_of_le_length (by omega)]; exact htk, fun x hx => by
          rcases a7 with h | ⟨h, _⟩
          · rw [h]; exact hsub x hx
          · rw [h]; exact List.mem_append_left _ (hsub x hx), fun t ht => by
          rcases a7 with h | ⟨h, he⟩
          · rw [h] at ht; exact hclo' t ht
          · rw [h] at ht
            rcases List.mem_append.1 ht with h2 | h2
            · exact hclo' t h2
            · rw [List.mem_singleton.1 h2]; exact .step hcs ⟨r, hr, by rw [← he]; exact hrq⟩, fun x hx hxe => by
          rw [htake] at hx
          rcases List.mem_append.1 hx with h2 | h2
          · have := hed x h2 hxe
            rcases a7 with h | ⟨h, _⟩
            · rw [h]; exact this
            · rw [h]; exact List.mem_append_left _ this
          · rw [List.mem_singleton.1 h2] at hxe ⊢; exact a8 hxe⟩
    by_cases he:e.1=⟨#[]⟩
    ·obtain ⟨p5,hia5,hc5⟩:=hM3.see Tryz.underlying58 A1u (hrt e hrq)
     by_cases hin:e.2∈out'
     ·simp only [↓Sh.dn,sx,Nat.reduceBEq,reduceCtorEq,Nat.reduceEqDiff,he,decide_true,re1,g5,hia5,hc5,hin,f9,A9a hq (Nat.le_trans hrl (by decide))]
      exact hnext (by repeat (first | refine Same.put ?_ rfl | exact Same.rfl' _)) (by simp only [↓Sh.dn,sx,Nat.reduceBEq,reduceCtorEq,Nat.reduceEqDiff,f6']) (by simp only [↓Sh.dn,sx,Nat.reduceBEq,reduceCtorEq,Nat.reduceEqDiff]) hk3 hM3 hl3 (.inl rfl) fun _=>hin
     ·obtain ⟨p3,H3,a,cap,w',H4,ob2,e1,e2,e3,rfl,e5,e6,e7,e8,e9,e10,e11⟩:=C3e hk3 hM3 hl3 (hrt e hrq) hin (by have:=hM3.ms.le; omega)
      have hre:H3.cell ⟨H''.next,1,some 0⟩=some (.int .i64 (e.2:Int)):=by
       have:=((Sh.Obj.new (H:=H'') 2 (A3i e)).arr.keep (e11.old H''.next (Nat.lt_succ_self _) fun hy=>Nat.lt_irrefl _ (hM'.lt hk''.wf _ hy))).cell 1
       exact this
      simp only [↓Sh.dn,sx,Nat.reduceBEq,reduceCtorEq,Nat.reduceEqDiff,he,decide_true,re1,g5,e1,e2,e3,f6',hre,e6,e7,f9,A9a hq (Nat.le_trans hrl (by decide))]
      exact hnext (by repeat (first | refine Same.put ?_ rfl | exact Same.rfl' _)) (by simp only [↓Sh.dn,sx,Nat.reduceBEq,reduceCtorEq,Nat.reduceEqDiff]) (by simp only [↓Sh.dn,sx,Nat.reduceBEq,reduceCtorEq,Nat.reduceEqDiff]) e8 e9 e10 (.inr ⟨rfl,he⟩) fun _=>List.mem_append_right _ List.mem_cons_self
    ·simp only [↓Sh.dn,sx,Nat.reduceBEq,reduceCtorEq,Nat.reduceEqDiff,he,decide_false,f9,A9a hq (Nat.le_trans hrl (by decide))]
     exact hnext (by repeat (first | refine Same.put ?_ rfl | exact Same.rfl' _)) (by simp only [↓Sh.dn,sx,Nat.reduceBEq,reduceCtorEq,Nat.reduceEqDiff,f6']) (by simp only [↓Sh.dn,sx,Nat.reduceBEq,reduceCtorEq,Nat.reduceEqDiff]) hk3 hM3 hl3 (.inl rfl) fun h=>absurd h he
   ·rintro F'' H'' hF'' f9 ⟨hk'',z',f6',seen',out',ob',hM',hl',hget',htk,hsub,hclo',hed⟩
    have g2:=hF'' 2 rfl
    have g5:=hF'' 5 rfl
    have g8:=hF'' 8 rfl
    simp only [↓Sh.dn,sx,Nat.reduceBEq,reduceCtorEq,Nat.reduceEqDiff,f2,f5,f8] at g2 g5 g8
    obtain ⟨hc1,hs1,hl1⟩:=hro hk''
    have hb1:=hrb.kept hk1.wf hk''
    have hil:i < out'.length:=(List.getElem?_eq_some_iff.1 hget').1
    have hgs:out'[i]=s:=Option.some.inj ((List.getElem?_eq_getElem hil).symm.trans hget')
    obtain ⟨p1,hia1,hcc1⟩:=B5j Tryz.underlying69 A2f hl'.bf.toSl hil
    rw [hgs] at hcc1
    have hout':=hM'.ms.le
    simp only [↓Sh.dn,sx,Nat.reduceBEq,reduceCtorEq,Nat.reduceEqDiff,f6',f9,g2,g5,g8,hb1.c1,hia1,hcc1,hia,hc1,hl1,A1a,Nat.lt_irrefl,decide_false,A9a hil (Nat.le_trans (Nat.le_trans hout' hn2) (by decide))]
    refine k (n+1 - (i+1)) _ _ (by omega) ⟨i+1,by omega,by simp only [↓Sh.dn,sx,Nat.reduceBEq,reduceCtorEq,Nat.reduceEqDiff],by simp only [↓Sh.dn,sx,Nat.reduceBEq,reduceCtorEq,Nat.reduceEqDiff,g2],by simp only [↓Sh.dn,sx,Nat.reduceBEq,reduceCtorEq,Nat.reduceEqDiff,g5],hk'',z',by simp only [↓Sh.dn,sx,Nat.reduceBEq,reduceCtorEq,Nat.reduceEqDiff,f6'],seen',out',ob',hM',hl',hil,fun t ht=>hsub t (hLout t ht),hclo',fun x hx t hg=>?_⟩
    rw [List.take_add_one,hget'] at hx
    rcases List.mem_append.1 hx with hx | hx
    ·rw [htk] at hx
     exact hsub t (hcl x hx t hg)
    ·simp only [Option.toList,List.mem_singleton] at hx
     subst hx
     obtain ⟨r',hr2,hg2⟩:=hg
     rw [hr] at hr2
     rw [← Option.some.inj hr2] at hg2
     exact hed _ (by rw [List.take_length]; exact hg2) rfl
  ·simp only [↓Sh.dn,sx,Nat.reduceBEq,reduceCtorEq,Nat.reduceEqDiff,f6,f8,A1a,hi,decide_false,hlen]
   obtain ⟨rr,H3,hd3,l',hperm,hsrt,hb3,hc3⟩:=sortInts (l:=out.map fun (x:Nat)=>(x:Int)) (by rw [natC_int]; exact hl.bf) (by rw [List.length_map]; omega) hk.wf
   refine ⟨_,_,hd3,?_⟩
   simp only [↓Sh.dn,sx,Nat.reduceBEq,reduceCtorEq,Nat.reduceEqDiff,f6,hres]
   have hl':l'.map (fun x=>[Value.int .i64 x])=(l'.map Int.toNat).map natC:=by
    rw [List.map_map]
    refine List.map_congr_left fun x hx=>?_
    obtain ⟨y,_,rfl⟩:=List.mem_map.1 (hperm.mem_iff.1 hx)
    rfl
   rw [hl'] at hb3
   have hp2:(l'.map Int.toNat).Perm out:=by
    have:=hperm.map Int.toNat
    rw [List.map_map] at this
    have e:out.map (Int.toNat ∘ fun (x:Nat)=>(x:Int))=out:=by
     conv=>rhs; rw [← List.map_id out]
     exact List.map_congr_left fun x _=>rfl
    rw [e] at this; exact this
   refine ⟨hk1.trans (hk.then (Nat.le_refl _) (hc3.weak fun y hy=>(hl.fr y hy).1)),l'.map Int.toNat,ob,hb3,fun y hy=>Nat.le_trans hk1.next (hl.fr y hy).1,hp2.nodup_iff.2 hM.ms.nod,fun t ht=>hM.ms.lt (hp2.mem_iff.1 ht),fun t=>?_⟩
   rw [hp2.mem_iff]
   exact Clo.iff hLout hclo (fun s hs=>hcl s (by rw [List.take_of_length_le (by omega)]; exact hs)) t
end Go.Proofs.YtcgbiedfbacgpaaGreat
/- The reference's Step, Start, Run, IsEnd. -/
namespace Go.Proofs.YtcgbiedfbacgpaaGreat
open Go Go.Proofs Go.Proofs.Sh
theorem refStart {H:AH} {v ev bv:Value} {vals:List Value} {n:Nat} {E:List (List (ByteArray×Nat))} {ends:List Bool} (h:RG H v n E ends ev bv vals) (hw:Wf H):
  Sh.Call Tryz.prog (knows 7) 62 [v] H (fun r H'=>SetOut H H' r n (Clo (A1e E A2b) fun s=>s=0)):=by
 refine A3a rfl Tryz.func62 rfl (Nat.le_of_ble_eq_true rfl) ?_
 have hres:Tryz.f62.results.toList=[.tmp 2]:=rfl
 have hrb:=RBox.of h hw
 have hk1:Kept H (H.new 3 [.int .i64 0,ev,bv]).2:=Kept.new hw 3 _
 have hE:=h.ed.sl.isCell
 have hB:=h.en.isCell
 rw [h.eq]
 simp only [↓Sh.dn,sx,Nat.reduceBEq,reduceCtorEq,Nat.reduceEqDiff,B0u hE hB]
 generalize (H.new 3 [.int .i64 0,ev,bv]).2=H1 at hrb hk1 ⊢
 generalize H.next=gb at hrb ⊢
 have hbs:=A2v (H:=H1) (x:=.int .i64 0) rfl rfl
 have k2:=Kept.new hk1.wf 1 [.int .i64 0]
 have hS:Sl (H1.new 1 [.int .i64 0]).2 (.slice (some ⟨H1.next,0,some 0⟩) 1 1) 1 (([0]:List Nat).map natC):=
  (Buf.fresh (H:=H1) (s:=1) (xs:=[natC 0]) hk1.wf (by intro x hx; rw [List.mem_singleton.1 hx]; rfl) (by simp) 1 rfl).toSl
 have hR:=hrb.rg.kept hk1.wf k2
 obtain ⟨r,H3,hd3,ho⟩:=C3g hR hS (fun t ht=>by rw [List.mem_singleton.1 ht]; exact h.n1) (by decide) k2.wf
 simp only [↓Sh.dn,sx,Nat.reduceBEq,reduceCtorEq,Nat.reduceEqDiff,hrb.c0,hrb.ca,Option.map_some,hbs,A7a]
 refine ⟨_,_,hd3,?_⟩
 simp only [↓Sh.dn,sx,Nat.reduceBEq,reduceCtorEq,Nat.reduceEqDiff,hres]
 exact (ho.pre (hk1.trans k2)).iff fun t=>by simp only [List.mem_singleton]
theorem refStep {H:AH} {v u ev bv:Value} {vals:List Value} {n:Nat} {E:List (List (ByteArray×Nat))} {ends:List Bool} {L:List Nat} {x:ByteArray} (h:RG H v n E ends ev bv vals) (hL:Sl H u 1 (L.map natC)) (hlt:∀ t∈L,t < n) (hll:L.length≤3000) (hw:Wf H):
  Sh.Call Tryz.prog (knows 7) 96 [v,u,.string x] H (fun r H'=>SetOut H H' r n (Clo (A1e E A2b) fun t=>∃ s,s∈L∧A1e E x s t)):=by
 refine A3a rfl Tryz.func96 rfl (Nat.le_of_ble_eq_true rfl) ?_
 have hres:Tryz.f96.results.toList=[.tmp 6]:=rfl
 have hrb:=RBox.of h hw
 have hk1:Kept H (H.new 3 [.int .i64 0,ev,bv]).2:=Kept.new hw 3 _
 have hE:=h.ed.sl.isCell
 have hB:=h.en.isCell
 rw [h.eq]
 simp only [↓Sh.dn,sx,Nat.reduceBEq,reduceCtorEq,Nat.reduceEqDiff,B0u hE hB]
 generalize (H.new 3 [.int .i64 0,ev,bv]).2=H1 at hrb hk1 ⊢
 generalize H.next=gb at hrb ⊢
 have hn2:=h.n2
 refine A9e L.length 8 (List.range' 7 43) (fun i F H'=>Kept H1 H'∧∃ z,F.get 7=some z∧∃ out ob,LB H' H1.next none z out ob∧out.length≤i * 60000∧(∀ t∈out,t < n)∧∀ t,t∈out↔∃ s∈L.take i,A1e E x s t) (by simp only [↓Sh.dn,sx,Nat.reduceBEq,reduceCtorEq,Nat.reduceEqDiff]) ⟨Kept.refl hk1.wf,_,by simp only [↓Sh.dn,sx,Nat.reduceBEq,reduceCtorEq,Nat.reduceEqDiff],[],none,⟨.void none,fun y hy=>by cases hy⟩,by simp,fun t ht=>(by cases ht),fun t=>by simp⟩ ?_ ?_
 ·rintro i F H' hi hF f8 ⟨hk,z,f7,out,ob,hl,hol,hon,hiff⟩ k
  have f1:=hF 1 rfl
  have f2:=hF 2 rfl
  have f3:=hF 3 rfl
  simp only [↓Sh.dn,sx,Nat.reduceBEq,reduceCtorEq,Nat.reduceEqDiff] at f1 f2 f3
  have hL':=fun {H'} (hk:Kept H1 H')=>hL.grow ((hk1.trans hk).grow hw)
  have hlen:=(hL' hk).len Tryz.underlying69 H'
  rw [List.length_map] at hlen
  obtain ⟨p,hia,hc⟩:=B5j Tryz.underlying69 A2f (hL' (Kept.refl hk1.wf)) hi
  have hc':=fun {H'} (hk:Kept H1 H')=>A7f (hk.grow hk1.wf) hc
  have htn:L[i] < n:=hlt _ (List.getElem_mem hi)
  have htake:L.take (i+1)=L.take i++[L[i]]:=by rw [List.take_add_one,List.getElem?_eq_getElem hi]; rfl
  clear hc
  generalize L[i]=s at hc' htn htake
  obtain ⟨r,hr⟩:∃ r,E[s]?=some r:=⟨E[s]'(by rw [h.le]; exact htn),List.getElem?_eq_getElem _⟩
  have hr':(A8h E)[s]?=some (r.map A3i):=by unfold A8h; rw [List.getElem?_map,hr]; rfl
  obtain ⟨hrl,hrt⟩:=h.to s r hr
  obtain ⟨ga,oa,ka,wr,hia2,hca,hsr⟩:=(h.ed.grow (hk1.grow hw)).at Tryz.underlying57 A0q hr'
  have hro:∀ {H'},Kept H1 H'→H'.cell ⟨ga,oa,some ka⟩=some wr∧Sl H' wr 2 (r.map A3i)∧A2a Tryz.prog .len [97] [wr] H'=some (.int .i64 (r.length:Int),H'):=fun hk=>by
   have h2:=hsr.grow (hk.grow hk1.wf)
   refine ⟨A7f (hk.grow hk1.wf) hca,h2,?_⟩
   rw [h2.len Tryz.underlying97,List.length_map]
  simp only [↓Sh.dn,sx,Nat.reduceBEq,reduceCtorEq,Nat.reduceEqDiff,f1,f8,A1a,hi,decide_true,hlen]
  refine A9e r.length 9 (List.range' 17 33++[7,9,10]) (fun q F'' H''=>Kept H1 H''∧∃ z',F''.get 7=some z'∧∃ out' ob',LB H'' H1.next none z' out' ob'∧out'.length≤i * 60000+q∧(∀ t∈out',t < n)∧∀ t,t∈out'↔(∃ s∈L.take i,A1e E x s t)∨∃ e∈r.take q,e.1=x∧e.2=t) (by simp only [↓Sh.dn,sx,Nat.reduceBEq,reduceCtorEq,Nat.reduceEqDiff]) ⟨hk,z,by simp only [↓Sh.dn,sx,Nat.reduceBEq,reduceCtorEq,Nat.reduceEqDiff,f7],out,ob,hl,Nat.le_trans hol (Nat.le_add_right _ _),hon,fun t=>by rw [hiff t]; simp⟩ ?_ ?_
  ·rintro q F'' H'' hq hF'' f9 ⟨hk'',z',f7',out',ob',hl',hol',hon',hiff'⟩ k2
   have g1:=hF'' 1 rfl
   have g2:=hF'' 2 rfl
   have g3:=hF'' 3 rfl
   have g8:=hF'' 8 rfl
   simp only [↓Sh.dn,sx,Nat.reduceBEq,reduceCtorEq,Nat.reduceEqDiff,f1,f2,f3,f8] at g1 g2 g3 g8
   obtain ⟨hc1,hs1,hl1⟩:=hro hk''
   have hcc:=hc' hk''
   have hb1:=hrb.kept hk1.wf hk''
   obtain ⟨g',o',k',hia3,hcs2,_⟩:=hs1.at Tryz.underlying97 A6s (i:=q) (x:=A3i r[q]) (by simp [hq]) .i64
   have hrq:r[q]∈r:=List.getElem_mem hq
   have htk:r.take (q+1)=r.take q++[r[q]]:=by rw [List.take_add_one,List.getElem?_eq_getElem hq]; rfl
   generalize r[q]=e at hcs2 hrq htk
   have kn:=Kept.new hk''.wf 2 (A3i e)
   have hk3:=hk''.trans kn
   have hl3:=hl'.kept hk''.wf kn
   simp only [↓Sh.dn,sx,Nat.reduceBEq,reduceCtorEq,Nat.reduceEqDiff,f9,g1,g2,g3,g8,hb1.c1,hia,hcc,hia2,hc1,hl1,A1a,hq,decide_true]
   refine (A1b (by kernel_rfl)).2 ?_
   simp only [↓Sh.dn,sx,Nat.reduceBEq,reduceCtorEq,Nat.reduceEqDiff,f9,g1,g2,g3,g8,hb1.c1,hia,hcc,hia2,hc1,hia3,hcs2,Option.map_some,C0a,B8p,C7d,re0,re1]
   have hj:∀ t,(∃ e'∈r.take (q+1),e'.1=x∧e'.2=t)↔(∃ e'∈r.take q,e'.1=x∧e'.2=t)∨e.1=x∧e.2=t:=fun t=>by
    rw [htk]
    simp only [List.mem_append,List.mem_singleton]
    constructor
    ·rintro ⟨e',h1 | h1,h2⟩
     ·exact .inl ⟨e',h1,h2⟩
     ·subst h1; exact .inr h2
    ·rintro (⟨e',h1,h2⟩ | h2)
     ·exact ⟨e',.inl h1,h2⟩
     ·exact ⟨e,.inr rfl,h2⟩
   by_cases he:e.1=x
   ·obtain ⟨a,cap,w',H4,ob2,rfl,e1,e2,e3,e4,e5⟩:=B74 e.2 hk3 (fun y hy=>by cases hy) hl3 (by omega)
    have hre:=re1 (H:=H'') (e:=e)
    simp only [↓Sh.dn,sx,Nat.reduceBEq,reduceCtorEq,Nat.reduceEqDiff,he,decide_true,f7',f9,re1,e1,e2,A9a hq (Nat.le_trans hrl (by decide))]
    refine k2 _ _ (by repeat (first | refine Same.put ?_ rfl | exact Same.rfl' _)) (by simp only [↓Sh.dn,sx,Nat.reduceBEq,reduceCtorEq,Nat.reduceEqDiff]) ⟨e3,w',by simp only [↓Sh.dn,sx,Nat.reduceBEq,reduceCtorEq,Nat.reduceEqDiff],out'++[e.2],ob2,e4,by rw [List.length_append]; simp; omega,fun t ht=>?_,fun t=>?_⟩
    ·rcases List.mem_append.1 ht with h2 | h2
     ·exact hon' t h2
     ·rw [List.mem_singleton.1 h2]; exact hrt e hrq
    ·rw [hj,List.mem_append,List.mem_singleton,hiff' t]
     constructor
     ·rintro ((h1 | h1) | h1)
      ·exact .inl h1
      ·exact .inr (.inl h1)
      ·exact .inr (.inr ⟨he,h1.symm⟩)
     ·rintro (h1 | h1 | ⟨_,h1⟩)
      ·exact .inl (.inl h1)
      ·exact .inl (.inr h1)
      ·exact .inr h1.symm
   ·simp only [↓Sh.dn,sx,Nat.reduceBEq,reduceCtorEq,Nat.reduceEqDiff,he,decide_false,f9,A9a hq (Nat.le_trans hrl (by decide))]
    refine k2 _ _ (by repeat (first | refine Same.put ?_ rfl | exact Same.rfl' _)) (by simp only [↓Sh.dn,sx,Nat.reduceBEq,reduceCtorEq,Nat.reduceEqDiff]) ⟨hk3,z',by simp only [↓Sh.dn,sx,Nat.reduceBEq,reduceCtorEq,Nat.reduceEqDiff,f7'],out',ob',hl3,by omega,hon',fun t=>?_⟩
    rw [hj,hiff' t]
    simp [he]
  ·rintro F'' H'' hF'' f9 ⟨hk'',z',f7',out',ob',hl',hol',hon',hiff'⟩
   have g1:=hF'' 1 rfl
   have g2:=hF'' 2 rfl
   have g3:=hF'' 3 rfl
   have g8:=hF'' 8 rfl
   simp only [↓Sh.dn,sx,Nat.reduceBEq,reduceCtorEq,Nat.reduceEqDiff,f1,f2,f3,f8] at g1 g2 g3 g8
   obtain ⟨hc1,hs1,hl1⟩:=hro hk''
   have hcc:=hc' hk''
   have hb1:=hrb.kept hk1.wf hk''
   simp only [↓Sh.dn,sx,Nat.reduceBEq,reduceCtorEq,Nat.reduceEqDiff,f9,g1,g2,g3,g8,hb1.c1,hia,hcc,hia2,hc1,hl1,A1a,Nat.lt_irrefl,decide_false,A9a hi (Nat.le_trans hll (by decide))]
   refine k _ _ ?_ (by simp only [↓Sh.dn,sx,Nat.reduceBEq,reduceCtorEq,Nat.reduceEqDiff]) ⟨hk'',z',by simp only [↓Sh.dn,sx,Nat.reduceBEq,reduceCtorEq,Nat.reduceEqDiff,f7'],out',ob',hl',by omega,hon',fun t=>?_⟩
   ·repeat refine Same.put ?_ rfl
    exact Same.trans (by repeat (first | refine Same.put ?_ rfl | exact Same.rfl' _)) (hF''.sub rfl)
   ·rw [hiff' t,htake,List.take_length]
    simp only [List.mem_append,List.mem_singleton]
    constructor
    ·rintro (⟨s',h1,h2⟩ | ⟨e,h1,h2,h3⟩)
     ·exact ⟨s',.inl h1,h2⟩
     ·exact ⟨s,.inr rfl,r,hr,by rw [← h2,← h3]; exact h1⟩
    ·rintro ⟨s',h1 | h1,h2⟩
     ·exact .inl ⟨s',h1,h2⟩
     ·subst h1
      obtain ⟨r',h3,h4⟩:=h2
      rw [hr] at h3
      rw [← Option.some.inj h3] at h4
      exact .inr ⟨_,h4,rfl,rfl⟩
 ·rintro F H' hF f8 ⟨hk,z,f7,out,ob,hl,hol,hon,hiff⟩
  have f1:=hF 1 rfl
  have f3:=hF 3 rfl
  simp only [↓Sh.dn,sx,Nat.reduceBEq,reduceCtorEq,Nat.reduceEqDiff] at f1 f3
  have hL':=hL.grow ((hk1.trans hk).grow hw)
  have hlen:=hL'.len Tryz.underlying69 H'
  rw [List.length_map] at hlen
  rw [List.take_length] at hiff
  have hb1:=hrb.kept hk1.wf hk
  obtain ⟨r,H3,hd3,ho⟩:=C3g hb1.rg hl.bf.toSl hon (by omega) hk.wf
  simp only [↓Sh.dn,sx,Nat.reduceBEq,reduceCtorEq,Nat.reduceEqDiff,f1,f3,f7,f8,A1a,Nat.lt_irrefl,decide_false,hlen,hb1.ca,Option.map_some]
  refine ⟨_,_,hd3,?_⟩
  simp only [↓Sh.dn,sx,Nat.reduceBEq,reduceCtorEq,Nat.reduceEqDiff,hres]
  refine (ho.pre (hk1.trans hk)).iff fun t=>?_
  have:(fun s=>s∈out)=fun t=>∃ s,s∈L∧A1e E x s t:=by
   funext t
   exact propext (hiff t)
  rw [this]
end Go.Proofs.YtcgbiedfbacgpaaGreat
/- The reference's reversed: the edges turned round. -/
namespace Go.Proofs.YtcgbiedfbacgpaaGreat
open Go Go.Proofs Go.Proofs.Sh
theorem A61 {H:AH} {v ev bv:Value} {vals:List Value} {n:Nat} {E:List (List (ByteArray×Nat))} {ends:List Bool} (h:RG H v n E ends ev bv vals) (hw:Wf H):
  Sh.Call Tryz.prog (knows 7) 60 [v] H (fun r H'=>Kept H H'∧∃ R ot vals obs,Jag H' r ot 2 vals (A8h R) obs∧(∀ y,JIn ot obs y→H.next≤y)∧R.length=n∧(∀ r∈R,r.length≤180000000∧∀ e∈r,e.2 < n)∧∀ x t s,A1e R x t s↔A1e E x s t):=by
 refine A3a rfl Tryz.func60 rfl (Nat.le_of_ble_eq_true rfl) ?_
 have hres:Tryz.f60.results.toList=[.tmp 2]:=rfl
 have hrb:=RBox.of h hw
 have hk1:Kept H (H.new 3 [.int .i64 0,ev,bv]).2:=Kept.new hw 3 _
 have hE:=h.ed.sl.isCell
 have hB:=h.en.isCell
 rw [h.eq]
 simp only [↓Sh.dn,sx,Nat.reduceBEq,reduceCtorEq,Nat.reduceEqDiff,B0u hE hB]
 have e0:∀ y,(H.new 3 [.int .i64 0,ev,bv]).2.next≤y→H.next≤y:=fun y hy=>Nat.le_trans (Nat.le_succ _) hy
 obtain ⟨gb,hgb⟩:∃ gb,H.next=gb:=⟨_,rfl⟩
 rw [hgb] at hrb
 generalize (H.new 3 [.int .i64 0,ev,bv]).2=H1 at hrb hk1 e0 ⊢
 have hn1:=h.n1
 have hn2:=h.n2
 have hlenE:∀ H',A2a Tryz.prog .len [57] [ev] H'=some (.int .i64 (n:Int),H'):=fun H'=>by
  rw [h.ed.sl.len Tryz.underlying57,List.length_map,h.ed.len]; unfold A8h; rw [List.length_map,h.le]
 have hmk:=mk_57 (H:=H1) (l:=n) (c:=n) (Nat.le_refl _) (by omega)
 have k2:=Kept.new hk1.wf 1 (List.replicate n (.slice none 0 0))
 have jg:=Jag.make hk1.wf 2 (n:=n) (by omega)
 simp only [↓Sh.dn,sx,Nat.reduceBEq,reduceCtorEq,Nat.reduceEqDiff,hgb,hrb.c1,hlenE,hmk]
 obtain ⟨ot,hot⟩:∃ ot,(if n=0 then none else some H1.next)=ot:=⟨_,rfl⟩
 rw [hot] at jg
 have lot:∀ y,JIn ot (List.replicate n none) y→H1.next≤y:=by
  rintro y (hy | ⟨i,hy⟩)
  ·rw [← hot,if_neg (by omega)] at hy
   rw [← Option.some.inj hy]; exact Nat.le_refl _
  ·rw [List.getElem?_replicate] at hy
   split at hy <;> cases hy
 generalize (Value.slice (some ⟨H1.next,0,some 0⟩) n n)=rv at jg ⊢
 generalize (H1.new 1 (List.replicate n (.slice none 0 0))).2=H2 at k2 jg ⊢
 have hrc0:A8h (List.replicate n ([]:List (ByteArray×Nat)))=List.replicate n []:=by simp [A8h]
 rw [← hrc0] at jg
 refine A9e n 4 (List.range' 4 47) (fun i F H'=>Kept H1 H'∧∃ R vals obs,Jag H' rv ot 2 vals (A8h R) obs∧(∀ y,JIn ot obs y→H1.next≤y)∧R.length=n∧(∀ r∈R,r.length≤i * 60000∧∀ e∈r,e.2 < n)∧∀ x t s,A1e R x t s↔s < i∧A1e E x s t) (by simp only [↓Sh.dn,sx,Nat.reduceBEq,reduceCtorEq,Nat.reduceEqDiff]) ⟨k2,_,_,_,jg,lot,by simp,fun r hr=>by rw [List.eq_of_mem_replicate hr]; simp,fun x t s=>by
  constructor
  ·rintro ⟨r,h1,h2⟩
   rw [List.getElem?_replicate] at h1
   split at h1
   ·rw [← Option.some.inj h1] at h2; cases h2
   ·cases h1
  ·rintro ⟨h1,_⟩; exact absurd h1 (Nat.not_lt_zero _)⟩ ?_ ?_
 ·rintro i F H' hi hF f4 ⟨hk,R,vs,obs,hJ,hin,hRl,hRr,hiff⟩ k
  have f1:=hF 1 rfl
  have f3:=hF 3 rfl
  simp only [↓Sh.dn,sx,Nat.reduceBEq,reduceCtorEq,Nat.reduceEqDiff,hgb] at f1 f3
  obtain ⟨r,hr⟩:∃ r,E[i]?=some r:=⟨E[i]'(by rw [h.le]; exact hi),List.getElem?_eq_getElem _⟩
  have hr':(A8h E)[i]?=some (r.map A3i):=by unfold A8h; rw [List.getElem?_map,hr]; rfl
  obtain ⟨hrl,hrt⟩:=h.to i r hr
  obtain ⟨ga,oa,ka,wr,hia2,hca,hsr⟩:=(h.ed.grow (hk1.grow hw)).at Tryz.underlying57 A0q hr'
  have hro:∀ {H'},Kept H1 H'→H'.cell ⟨ga,oa,some ka⟩=some wr∧Sl H' wr 2 (r.map A3i)∧A2a Tryz.prog .len [97] [wr] H'=some (.int .i64 (r.length:Int),H'):=fun hk=>by
   have h2:=hsr.grow (hk.grow hk1.wf)
   refine ⟨A7f (hk.grow hk1.wf) hca,h2,?_⟩
   rw [h2.len Tryz.underlying97,List.length_map]
  have hb1:=hrb.kept hk1.wf hk
  simp only [↓Sh.dn,sx,Nat.reduceBEq,reduceCtorEq,Nat.reduceEqDiff,f1,f4,hb1.c1,A1a,hi,decide_true,hlenE]
  refine A9e r.length 5 (List.range' 18 33++[5,6]) (fun q F'' H''=>Kept H1 H''∧∃ R vals obs,Jag H'' rv ot 2 vals (A8h R) obs∧(∀ y,JIn ot obs y→H1.next≤y)∧R.length=n∧(∀ r∈R,r.length≤i * 60000+q∧∀ e∈r,e.2 < n)∧∀ x t s,A1e R x t s↔s < i∧A1e E x s t∨s=i∧(x,t)∈r.take q) (by simp only [↓Sh.dn,sx,Nat.reduceBEq,reduceCtorEq,Nat.reduceEqDiff]) ⟨hk,R,vs,obs,hJ,hin,hRl,fun r hr=>⟨Nat.le_trans (hRr r hr).1 (Nat.le_add_right _ _),(hRr r hr).2⟩,fun x t s=>by rw [hiff]; simp⟩ ?_ ?_
  ·rintro q F'' H'' hq hF'' f5 ⟨hk'',R,vs,obs,hJ,hin,hRl,hRr,hiff⟩ k2
   have g1:=hF'' 1 rfl
   have g3:=hF'' 3 rfl
   have g4:=hF'' 4 rfl
   simp only [↓Sh.dn,sx,Nat.reduceBEq,reduceCtorEq,Nat.reduceEqDiff,f1,f3,f4] at g1 g3 g4
   obtain ⟨hc1,hs1,hl1⟩:=hro hk''
   have hb1:=hrb.kept hk1.wf hk''
   obtain ⟨g',o',k',hia3,hcs2,_⟩:=hs1.at Tryz.underlying97 A6s (i:=q) (x:=A3i r[q]) (by simp [hq]) .i64
   have hrq:r[q]∈r:=List.getElem_mem hq
   have htk:r.take (q+1)=r.take q++[r[q]]:=by rw [List.take_add_one,List.getElem?_eq_getElem hq]; rfl
   generalize r[q]=e at hcs2 hrq htk
   have kn:=Kept.new hk''.wf 2 (A3i e)
   have hk3:=hk''.trans kn
   have hJ3:=hJ.kept hk''.wf kn
   have hnj:¬JIn ot obs H''.next:=fun h=>by have:=hJ.lt hk''.wf _ h; omega
   obtain ⟨ro,hro2⟩:∃ ro,R[e.2]?=some ro:=⟨R[e.2]'(by rw [hRl]; exact hrt e hrq),List.getElem?_eq_getElem _⟩
   have hrow:(A8h R)[e.2]?=some (ro.map A3i):=by unfold A8h; rw [List.getElem?_map,hro2]; rfl
   obtain ⟨hrol,hrot⟩:=hRr ro (List.mem_of_getElem? hro2)
   obtain ⟨ba,cap,w',H5,H6,oo,p,e1,e2,e3,e4,e5,e6,e7,e8,e9⟩:=hJ3.pushAt Tryz.underlying57 A0q hk3.wf hrow (x:=A3i (e.1,i)) rfl
   rw [List.length_map] at e1 e3
   have bl:A7j Tryz.prog 99 [(0,.string e.1),(1,.int .i64 (i:Int))]=some (.agg (A3i (e.1,i)).toArray):=bld_99 (v0:=.string e.1) (v1:=.int .i64 (i:Int)) rfl rfl
   have hbs:=B3v (H:=(H''.new 2 (A3i e)).2) (x:=.agg (A3i (e.1,i)).toArray) rfl rfl
   have ha:=C2m (H:=(H''.new 2 (A3i e)).2) (base:=ba) (len:=ro.length) (cap:=cap) (x:=A3i (e.1,i)) rfl (by omega)
   rw [e1] at ha
   have c5:=((Sh.Obj.new (H:=H'') 2 (A3i e)).arr.keep (e7.old H''.next (Nat.lt_succ_self _) hnj)).cell 1
   have c5':(A3i e)[1]?=some (.int .i64 (e.2:Int)):=rfl
   rw [c5'] at c5
   have st:A3e Tryz.prog 97 H5 w' (.pointer (some p))=some H6:=by rw [A4d A0q e8,e4]
   have va:∀ xs:Array Value,A7a (.agg xs)=xs.toList:=fun _=>rfl
   have hav:=hJ3.top.veq
   simp only [va] at hbs
   simp only [↓Sh.dn,sx,Nat.reduceBEq,reduceCtorEq,Nat.reduceEqDiff,f5,g1,g3,g4,hb1.c1,hia2,hc1,hl1,hia3,hcs2,A1a,hq,decide_true,Option.map_some,C0a,B8p,C7d,re0,re1]
   refine A46 (fl:=[(0,[]),(1,[]),(2,[]),(3,[]),(4,[]),(5,[]),(6,[]),(7,[]),(8,[]),(9,[]),(10,[]),(11,[]),(12,[]),(13,[2]),(14,[]),(15,[])]) (by kernel_rfl) (by kernel_rfl) (by kernel_rfl) ?_
   simp only [↓Sh.dn,sx,Nat.reduceBEq,reduceCtorEq,Nat.reduceEqDiff,wpr,again,A6d,A2l,A1i,A9j,A4i,A6g,A8f,forall_eq,forall_eq',f5,g1,g3,g4,re0,re1,e2,e3,bl,hbs,ha,c5,st,hav,A9a hq (Nat.le_trans hrl (by decide))]
   have hrs:A8h (R.set e.2 (ro++[(e.1,i)]))=(A8h R).set e.2 (ro.map A3i++[A3i (e.1,i)]):=by unfold A8h; rw [List.map_set]; simp
   refine k2 _ _ (by repeat (first | refine Same.put ?_ rfl | exact Same.rfl' _)) (by simp only [↓Sh.dn,sx,Nat.reduceBEq,reduceCtorEq,Nat.reduceEqDiff]) ⟨hk3.then (Nat.le_refl _) (e6.weak fun y hy=>hin y hy),R.set e.2 (ro++[(e.1,i)]),_,_,by rw [hrs]; exact e5,fun y hy=>?_,by rw [List.length_set]; exact hRl,fun r' hr'=>?_,fun x t s=>?_⟩
   ·rcases e9 y hy with h1 | h1
    ·exact hin y h1
    ·exact Nat.le_trans hk3.next h1
   ·rcases List.mem_or_eq_of_mem_set hr' with h1 | h1
    ·have:=hRr r' h1; exact ⟨by omega,this.2⟩
    ·rw [h1]
     refine ⟨by rw [List.length_append]; simp; omega,fun e' he'=>?_⟩
     rcases List.mem_append.1 he' with h2 | h2
     ·exact hrot e' h2
     ·rw [List.mem_singleton.1 h2]; exact hi
   ·rw [C9i hro2,hiff,htk,List.mem_append,List.mem_singleton]
    constructor
    ·rintro ((h1 | ⟨h1,h2⟩) | ⟨h1,h2,h3⟩)
     ·exact .inl h1
     ·exact .inr ⟨h1,.inl h2⟩
     ·exact .inr ⟨h3,.inr (by rw [h1,h2])⟩
    ·rintro (h1 | ⟨h1,h2 | h2⟩)
     ·exact .inl (.inl h1)
     ·exact .inl (.inr ⟨h1,h2⟩)
     ·exact .inr ⟨by rw [← h2],by rw [← h2],h1⟩
  ·rintro F'' H'' hF'' f5 ⟨hk'',R,vs,obs,hJ,hin,hRl,hRr,hiff⟩
   have g1:=hF'' 1 rfl
   have g3:=hF'' 3 rfl
   have g4:=hF'' 4 rfl
   simp only [↓Sh.dn,sx,Nat.reduceBEq,reduceCtorEq,Nat.reduceEqDiff,f1,f3,f4] at g1 g3 g4
   obtain ⟨hc1,hs1,hl1⟩:=hro hk''
   have hb1:=hrb.kept hk1.wf hk''
   rw [List.take_length] at hiff
   simp only [↓Sh.dn,sx,Nat.reduceBEq,reduceCtorEq,Nat.reduceEqDiff,f5,g1,g3,g4,hb1.c1,hia2,hc1,hl1,A1a,Nat.lt_irrefl,decide_false,A9a hi (Nat.le_trans hn2 (by decide))]
   refine k _ _ ?_ (by simp only [↓Sh.dn,sx,Nat.reduceBEq,reduceCtorEq,Nat.reduceEqDiff]) ⟨hk'',R,vs,obs,hJ,hin,hRl,fun r' hr'=>?_,fun x t s=>?_⟩
   ·repeat refine Same.put ?_ rfl
    exact Same.trans (by repeat (first | refine Same.put ?_ rfl | exact Same.rfl' _)) (hF''.sub rfl)
   ·have:=hRr r' hr'; exact ⟨by omega,this.2⟩
   ·rw [hiff]
    constructor
    ·rintro (⟨h1,h2⟩ | ⟨h1,h2⟩)
     ·exact ⟨by omega,h2⟩
     ·exact ⟨by omega,r,by rw [h1]; exact hr,h2⟩
    ·rintro ⟨h1,h2⟩
     by_cases hs:s=i
     ·subst hs
      obtain ⟨r',h3,h4⟩:=h2
      rw [hr] at h3
      exact .inr ⟨rfl,by rw [Option.some.inj h3]; exact h4⟩
     ·exact .inl ⟨by omega,h2⟩
 ·rintro F H' hF f4 ⟨hk,R,vs,obs,hJ,hin,hRl,hRr,hiff⟩
  have f1:=hF 1 rfl
  have f3:=hF 3 rfl
  simp only [↓Sh.dn,sx,Nat.reduceBEq,reduceCtorEq,Nat.reduceEqDiff,hgb] at f1 f3
  have hb1:=hrb.kept hk1.wf hk
  simp only [↓Sh.dn,sx,Nat.reduceBEq,reduceCtorEq,Nat.reduceEqDiff,f1,f3,f4,hb1.c1,A1a,Nat.lt_irrefl,decide_false,hlenE,hres]
  refine ⟨hk1.trans hk,R,ot,vs,obs,hJ,fun y hy=>by rw [← hgb]; exact e0 y (hin y hy),hRl,fun r hr=>⟨by have:=(hRr r hr).1; omega,(hRr r hr).2⟩,fun x t s=>?_⟩
  rw [hiff]
  constructor
  ·exact fun h=>h.2
  ·rintro ⟨r,h1,h2⟩
   exact ⟨by rw [← h.le]; exact (List.getElem?_eq_some_iff.1 h1).1,r,h1,h2⟩
end Go.Proofs.YtcgbiedfbacgpaaGreat
/- The reference's spread: what is reached from marked states is marked. -/
namespace Go.Proofs.YtcgbiedfbacgpaaGreat
open Go Go.Proofs Go.Proofs.Sh
def A0t (R:List (List (ByteArray×Nat))) (em:Bool) (s t:Nat):Prop:=∃ x,A1e R x s t∧(em=true→x=A2b)
theorem B4z {n:Nat} {seen:List Bool} (hl:seen.length=n):Marks n seen ((List.range n).filter fun t=>decide (seen[t]?=some true)):=by
 refine ⟨hl,List.Pairwise.filter _ List.nodup_range,fun t=>?_⟩
 rw [List.mem_filter,List.mem_range,decide_eq_true_eq]
 constructor
 ·intro h; exact ⟨by rw [← hl]; exact (List.getElem?_eq_some_iff.1 h).1,h⟩
 ·exact fun h=>h.2
theorem B6d {H1 H:AH} {rv mv:Value} {ot os:Option Nat} {vals:List Value} {obs:List (Option Nat)} {n:Nat} {R:List (List (ByteArray×Nat))} {seen:List Bool} {em:Bool}
  (hk:Kept H1 H) (hJ:Jag H rv ot 2 vals (A8h R) obs) (hRl:R.length=n) (hRr:∀ r∈R,r.length≤180000000∧∀ e∈r,e.2 < n) (hb:Buf H 1 mv (seen.map A5p) os) (hfr:∀ y,os=some y→H1.next≤y) (hsep:∀ y,os=some y→¬JIn ot obs y) (hsl:seen.length=n) (hn:n≤3000):
  Sh.Call Tryz.prog (knows 7) 61 [rv,mv,.bool em] H (fun _ H'=>Chg (fun y=>os=some y) H H'∧∃ seen':List Bool,Buf H' 1 mv (seen'.map A5p) os∧seen'.length=n∧∀ t:Nat,seen'[t]?=some true↔Clo (A0t R em) (fun s=>seen[s]?=some true) t):=by
 refine A3a rfl Tryz.func61 rfl (Nat.le_of_ble_eq_true rfl) ?_
 have hres:Tryz.f61.results.toList=[]:=rfl
 have hw:=hk.wf
 have hM0:MB H H1.next n mv os seen ((List.range n).filter fun t=>decide (seen[t]?=some true)):=⟨B4z hsl,hb,hfr⟩
 have hlenM:∀ H',A2a Tryz.prog .len [58] [mv] H'=some (.int .i64 (n:Int),H'):=fun H'=>by
  rw [hb.toSl.len Tryz.underlying58,List.length_map,hsl]
 have hlos:=hM0.lt hw
 simp only [↓Sh.dn,sx,Nat.reduceBEq,reduceCtorEq,Nat.reduceEqDiff]
 refine A9e n 7 (List.range' 6 19) (fun i F H'=>Kept H H'∧∃ z,F.get 6=some z∧∃ ob,LB H' H.next os z ((List.range i).filter fun t=>decide (seen[t]?=some true)) ob) (by simp only [↓Sh.dn,sx,Nat.reduceBEq,reduceCtorEq,Nat.reduceEqDiff]) ⟨Kept.refl hw,_,by simp only [↓Sh.dn,sx,Nat.reduceBEq,reduceCtorEq,Nat.reduceEqDiff],none,⟨.void none,fun y hy=>by cases hy⟩⟩ ?_ ?_
 ·rintro i F H' hi hF f7 ⟨hk',z,f6,ob,hl⟩ k
  have f1:=hF 1 rfl
  simp only [↓Sh.dn,sx,Nat.reduceBEq,reduceCtorEq,Nat.reduceEqDiff] at f1
  obtain ⟨b,hb1⟩:∃ b,seen[i]?=some b:=⟨seen[i]'(by omega),List.getElem?_eq_getElem _⟩
  obtain ⟨p,hia,hc⟩:=Sl.elem (s:=1) Tryz.underlying58 A1u (hb.toSl.grow (hk'.grow hw)) (i:=i) (u:=.bool b) (by rw [List.getElem?_map,hb1]; rfl)
  have hrange:(List.range (i+1)).filter (fun t=>decide (seen[t]?=some true))=(List.range i).filter (fun t=>decide (seen[t]?=some true))++(if b=true then [i] else []):=by
   rw [List.range_succ,List.filter_append]
   congr 1
   cases b <;> simp [hb1]
  have hll:((List.range i).filter fun t=>decide (seen[t]?=some true)).length≤1073741823:=Nat.le_trans (List.length_filter_le _ _) (by rw [List.length_range]; omega)
  simp only [↓Sh.dn,sx,Nat.reduceBEq,reduceCtorEq,Nat.reduceEqDiff,f1,f7,A1a,hi,decide_true,hlenM,hia,hc]
  cases b with
  | true=>
   obtain ⟨a,cap,w',H4,ob2,rfl,e1,e2,e3,e4⟩:=C6e i hk'.next hk'.wf (fun y hy=>Nat.lt_of_lt_of_le (hlos y hy) hk'.next) hl hll
   simp only [↓Sh.dn,sx,Nat.reduceBEq,reduceCtorEq,Nat.reduceEqDiff,f6,f7,e1,e2,A9a hi (Nat.le_trans hn (by decide))]
   refine k _ _ (by repeat (first | refine Same.put ?_ rfl | exact Same.rfl' _)) (by simp only [↓Sh.dn,sx,Nat.reduceBEq,reduceCtorEq,Nat.reduceEqDiff]) ⟨hk'.then (Nat.le_refl _) (e4.weak fun y hy=>(hl.fr y hy).1),w',by simp only [↓Sh.dn,sx,Nat.reduceBEq,reduceCtorEq,Nat.reduceEqDiff],ob2,by rw [hrange]; exact e3⟩
  | false=>
   simp only [↓Sh.dn,sx,Nat.reduceBEq,reduceCtorEq,Nat.reduceEqDiff,f7,A9a hi (Nat.le_trans hn (by decide))]
   refine k _ _ (by repeat (first | refine Same.put ?_ rfl | exact Same.rfl' _)) (by simp only [↓Sh.dn,sx,Nat.reduceBEq,reduceCtorEq,Nat.reduceEqDiff]) ⟨hk',z,by simp only [↓Sh.dn,sx,Nat.reduceBEq,reduceCtorEq,Nat.reduceEqDiff,f6],ob,by rw [hrange]; simpa using hl⟩
 ·rintro F H' hF f7 ⟨hk',z,f6,ob,hl⟩
  have f0:=hF 0 rfl
  have f1:=hF 1 rfl
  have f2:=hF 2 rfl
  simp only [↓Sh.dn,sx,Nat.reduceBEq,reduceCtorEq,Nat.reduceEqDiff] at f0 f1 f2
  simp only [↓Sh.dn,sx,Nat.reduceBEq,reduceCtorEq,Nat.reduceEqDiff,f1,f7,A1a,Nat.lt_irrefl,decide_false,hlenM]
  refine A4b (m:=n+1) (fun m F H'=>∃ i,m+i=n+1∧F.get 8=some (.int .i64 (i:Int))∧F.get 0=some rv∧F.get 1=some mv∧F.get 2=some (.bool em)∧Chg (fun y=>os=some y) H H'∧∃ z,F.get 6=some z∧∃ seen' out ob,MB H' H1.next n mv os seen' out∧LB H' H.next os z out ob∧i≤out.length∧(∀ t,seen[t]?=some true→t∈out)∧(∀ t∈out,Clo (A0t R em) (fun s=>seen[s]?=some true) t)∧∀ s∈out.take i,∀ t,A0t R em s t→t∈out) ⟨0,by omega,by simp only [↓Sh.dn,sx,Nat.reduceBEq,reduceCtorEq,Nat.reduceEqDiff]; rfl,by simp only [↓Sh.dn,sx,Nat.reduceBEq,reduceCtorEq,Nat.reduceEqDiff,f0],by simp only [↓Sh.dn,sx,Nat.reduceBEq,reduceCtorEq,Nat.reduceEqDiff,f1],by simp only [↓Sh.dn,sx,Nat.reduceBEq,reduceCtorEq,Nat.reduceEqDiff,f2],hk'.chg,z,by simp only [↓Sh.dn,sx,Nat.reduceBEq,reduceCtorEq,Nat.reduceEqDiff,f6],seen,_,ob,hM0.kept hw hk',hl,Nat.zero_le _,fun t ht=>(hM0.ms.iff t).1 ht,fun t ht=>.base ((hM0.ms.iff t).2 ht),fun s hs=>by simp at hs⟩ ?_
  clear hk' hl f0 f1 f2 f6 f7 hF
  clear z ob
  clear F H'
  rintro m F H' ⟨i,hmi,f8,f0,f1,f2,hk',z,f6,seen',out,ob,hM,hl,hio,hLout,hclo,hcl⟩ k
  have hkk:∀ {H'},Chg (fun y=>os=some y) H H'→Kept H1 H':=fun hc=>hk.then (Nat.le_refl _) (hc.weak hfr)
  have hJ':∀ {H'},Chg (fun y=>os=some y) H H'→Jag H' rv ot 2 vals (A8h R) obs:=fun hc=>hJ.chg hw hc fun y hy h=>hsep y h hy
  have hlen:=hl.bf.toSl.len Tryz.underlying69 H'
  rw [List.length_map] at hlen
  have hout:=hM.ms.le
  by_cases hi:i < out.length
  ·simp only [↓Sh.dn,sx,Nat.reduceBEq,reduceCtorEq,Nat.reduceEqDiff,f6,f8,A1a,hi,decide_true,hlen]
   have hsn:out[i] < n:=hM.ms.lt (List.getElem_mem hi)
   have hget:out[i]?=some out[i]:=List.getElem?_eq_getElem hi
   have hcs:Clo (A0t R em) (fun s=>seen[s]?=some true) out[i]:=hclo _ (List.getElem_mem hi)
   generalize out[i]=s at hsn hget hcs
   obtain ⟨r,hr⟩:∃ r,R[s]?=some r:=⟨R[s]'(by rw [hRl]; exact hsn),List.getElem?_eq_getElem _⟩
   have hr':(A8h R)[s]?=some (r.map A3i):=by unfold A8h; rw [List.getElem?_map,hr]; rfl
   obtain ⟨hrl,hrt⟩:=hRr r (List.mem_of_getElem? hr)
   refine A9e r.length 9 (List.range' 31 46++[6,9,10]) (fun q F'' H''=>Chg (fun y=>os=some y) H H''∧∃ z',F''.get 6=some z'∧∃ seen' out' ob',MB H'' H1.next n mv os seen' out'∧LB H'' H.next os z' out' ob'∧out'[i]?=some s∧out'.take i=out.take i∧(∀ x∈out,x∈out')∧(∀ t∈out',Clo (A0t R em) (fun s=>seen[s]?=some true) t)∧∀ e∈r.take q,(em=true→e.1=A2b)→e.2∈out') (by simp only [↓Sh.dn,sx,Nat.reduceBEq,reduceCtorEq,Nat.reduceEqDiff]) ⟨hk',z,by simp only [↓Sh.dn,sx,Nat.reduceBEq,reduceCtorEq,Nat.reduceEqDiff,f6],seen',out,ob,hM,hl,hget,rfl,fun x hx=>hx,hclo,fun e he=>by simp at he⟩ ?_ ?_
   ·rintro q F'' H'' hq hF'' f9 ⟨hk'',z',f6',seen',out',ob',hM',hl',hget',htk,hsub,hclo',hed⟩ k2
    have g0:=hF'' 0 rfl
    have g1:=hF'' 1 rfl
    have g2:=hF'' 2 rfl
    have g8:=hF'' 8 rfl
    simp only [↓Sh.dn,sx,Nat.reduceBEq,reduceCtorEq,Nat.reduceEqDiff,f0,f1,f2,f8] at g0 g1 g2 g8
    obtain ⟨ga,oa,ka,wr,hia,hc1,hs1⟩:=(hJ' hk'').read.at Tryz.underlying57 A0q hr'
    have hl1:=hs1.len Tryz.underlying97 H''
    rw [List.length_map] at hl1
    have hil:i < out'.length:=(List.getElem?_eq_some_iff.1 hget').1
    have hgs:out'[i]=s:=Option.some.inj ((List.getElem?_eq_getElem hil).symm.trans hget')
    obtain ⟨p1,hia1,hcc1⟩:=B5j Tryz.underlying69 A2f hl'.bf.toSl hil
    rw [hgs] at hcc1
    obtain ⟨g',o',k',hia2,hcs2,_⟩:=hs1.at Tryz.underlying97 A6s (i:=q) (x:=A3i r[q]) (by simp [hq]) .i64
    have hrq:r[q]∈r:=List.getElem_mem hq
    have htake:r.take (q+1)=r.take q++[r[q]]:=by rw [List.take_add_one,List.getElem?_eq_getElem hq]; rfl
    generalize r[q]=e at hcs2 hrq htake
    have kn:=Kept.new hk''.wf 2 (A3i e)
    have hk3:=hk''.trans (kn.chg (X:=fun y=>os=some y))
    have hM3:=hM'.kept hk''.wf kn
    have hl3:=hl'.kept hk''.wf kn
    simp only [↓Sh.dn,sx,Nat.reduceBEq,reduceCtorEq,Nat.reduceEqDiff,f6',f9,g0,g1,g2,g8,hia1,hcc1,hia,hc1,hl1,hia2,hcs2,A1a,hq,decide_true,Option.map_some,C0a,B8p,C7d,re0,re1]
    have hnext : ∀ {seen2 : List Bool} {out2 : List Nat} {ob2 : Option Nat} {z2 : Value} {F2 : Fr} {H2 : AH}, Same (List.range' 31 46 ++ [6, 9, 10]) F'' F2 → F2.get 6 = some z2 → F2.get 9 = some (.int .i64 ((q + 1 : Nat) : Int)) → Chg (fun y => os = some y) H H2 → MB H2 H1.next n mv os seen2 out2 → LB H2 H.next os z2 out2 ob2 → (out2 = out' ∨ out2 = out' ++ [e.2] ∧ (em = true → e.1 = A2b)) → ((em = true → e.1 = A2b) → e.2 ∈ out2) →
        wp Tryz.prog (knows 7) _ _ F2 H2 := fun {seen2 out2 ob2 z2 F2 H2} a1 a2 a3 a4 a5 a6 a7 a8 => k2 F2 H2 a1 a3 ⟨a4, z2, a2, seen2, out2, ob2, a5, a6, by
          rcases a7 with h | ⟨h, _⟩
          · rw [h]; exact hget'
          · rw [h, List.getElem?_append_left hil]; exact hget', by
          rcases a7 with h | ⟨h, _⟩
          · rw [h]; exact htk
          · rw [h, List.take_append_of_le_length (by omega)]; exact htk, fun x hx => by
          rcases a7 with h | ⟨h, _⟩
          · rw [h]; exact hsub x hx
          · rw [h]; exact List.mem_append_left _ (hsub x hx), fun t ht => by
          rcases a7 with h | ⟨h, he⟩
          · rw [h] at ht; exact hclo' t ht
          · rw [h] at ht
            rcases List.mem_append.1 ht with h2 | h2
            · exact hclo' t h2
            · rw [List.mem_singleton.1 h2]; exact .step hcs ⟨e.1, ⟨r, hr, hrq⟩, he⟩, fun x hx hxe => by
          rw [htake] at hx
          rcases List.mem_append.1 hx with h2 | h2
          · have := hed x h2 hxe
            rcases a7 with h | ⟨h, _⟩
            · rw [h]; exact this
            · rw [h]; exact List.mem_append_left _ this
          · rw [List.mem_singleton.1 h2] at hxe ⊢; exact a8 hxe⟩
    have hrl':r.length≤4611686018427387904:=Nat.le_trans hrl (by decide)
    by_cases hin:e.2∈out'
    ·obtain ⟨p5,hia5,hc5⟩:=hM3.see Tryz.underlying58 A1u (hrt e hrq)
     simp only [↓Sh.dn,sx,Nat.reduceBEq,reduceCtorEq,Nat.reduceEqDiff,re1,g1,hia5,hc5,hin,decide_true,f9,A9a hq hrl']
     exact hnext (by repeat (first | refine Same.put ?_ rfl | exact Same.rfl' _)) (by simp only [↓Sh.dn,sx,Nat.reduceBEq,reduceCtorEq,Nat.reduceEqDiff,f6']) (by simp only [↓Sh.dn,sx,Nat.reduceBEq,reduceCtorEq,Nat.reduceEqDiff]) hk3 hM3 hl3 (.inl rfl) fun _=>hin
    ·have hkk3:=hkk hk3
     obtain ⟨p3,H3,e1,e2,e3,e4,e5,e6⟩:=C2r hkk3 hM3 (hrt e hrq) hin
     have hout':=hM3.ms.le
     obtain ⟨a,cap,w',H4,ob2,rfl,e7,e8,e9,e10⟩:=C6e e.2 (Nat.le_trans hk3.next e6.next) e4.wf (e5.lt e4.wf) (hl3.chg hk3.wf e6 fun y h=>h) (by omega)
     have hk4:Chg (fun y=>os=some y) H H4:=(hk3.trans e6).then e10 fun y hy hlt=>by have:=(hl3.fr y hy).1; omega
     have hM4:=e5.chg e4.wf e10 (fun y hy h=>(hl3.fr y hy).2 h)
     have hre:H3.cell ⟨H''.next,1,some 0⟩=some (.int .i64 (e.2:Int)):=by
      have:=((Sh.Obj.new (H:=H'') 2 (A3i e)).arr.keep (e6.old H''.next (Nat.lt_succ_self _) fun hy=>Nat.lt_irrefl _ (hM'.lt hk''.wf _ hy))).cell 1
      exact this
     cases em with
     | false=>
      simp only [↓Sh.dn,sx,Nat.reduceBEq,reduceCtorEq,Nat.reduceEqDiff,re1,re0,g1,g2,e1,e2,e3,f6',hre,e7,e8,f9,A9a hq hrl']
      exact hnext (by repeat (first | refine Same.put ?_ rfl | exact Same.rfl' _)) (by simp only [↓Sh.dn,sx,Nat.reduceBEq,reduceCtorEq,Nat.reduceEqDiff]) (by simp only [↓Sh.dn,sx,Nat.reduceBEq,reduceCtorEq,Nat.reduceEqDiff]) hk4 hM4 e9 (.inr ⟨rfl,fun h=>by cases h⟩) fun _=>List.mem_append_right _ List.mem_cons_self
     | true=>
      by_cases he:e.1=⟨#[]⟩
      ·simp only [↓Sh.dn,sx,Nat.reduceBEq,reduceCtorEq,Nat.reduceEqDiff,re1,re0,g1,g2,he,decide_true,e1,e2,e3,f6',hre,e7,e8,f9,A9a hq hrl']
       exact hnext (by repeat (first | refine Same.put ?_ rfl | exact Same.rfl' _)) (by simp only [↓Sh.dn,sx,Nat.reduceBEq,reduceCtorEq,Nat.reduceEqDiff]) (by simp only [↓Sh.dn,sx,Nat.reduceBEq,reduceCtorEq,Nat.reduceEqDiff]) hk4 hM4 e9 (.inr ⟨rfl,fun _=>he⟩) fun _=>List.mem_append_right _ List.mem_cons_self
      ·simp only [↓Sh.dn,sx,Nat.reduceBEq,reduceCtorEq,Nat.reduceEqDiff,re1,re0,g1,g2,he,decide_false,e1,e2,f9,A9a hq hrl']
       exact hnext (by repeat (first | refine Same.put ?_ rfl | exact Same.rfl' _)) (by simp only [↓Sh.dn,sx,Nat.reduceBEq,reduceCtorEq,Nat.reduceEqDiff,f6']) (by simp only [↓Sh.dn,sx,Nat.reduceBEq,reduceCtorEq,Nat.reduceEqDiff]) hk3 hM3 hl3 (.inl rfl) fun h=>absurd (h rfl) he
   ·rintro F'' H'' hF'' f9 ⟨hk'',z',f6',seen',out',ob',hM',hl',hget',htk,hsub,hclo',hed⟩
    have g0:=hF'' 0 rfl
    have g1:=hF'' 1 rfl
    have g2:=hF'' 2 rfl
    have g8:=hF'' 8 rfl
    simp only [↓Sh.dn,sx,Nat.reduceBEq,reduceCtorEq,Nat.reduceEqDiff,f0,f1,f2,f8] at g0 g1 g2 g8
    obtain ⟨ga,oa,ka,wr,hia,hc1,hs1⟩:=(hJ' hk'').read.at Tryz.underlying57 A0q hr'
    have hl1:=hs1.len Tryz.underlying97 H''
    rw [List.length_map] at hl1
    have hil:i < out'.length:=(List.getElem?_eq_some_iff.1 hget').1
    have hgs:out'[i]=s:=Option.some.inj ((List.getElem?_eq_getElem hil).symm.trans hget')
    obtain ⟨p1,hia1,hcc1⟩:=B5j Tryz.underlying69 A2f hl'.bf.toSl hil
    rw [hgs] at hcc1
    have hout':=hM'.ms.le
    simp only [↓Sh.dn,sx,Nat.reduceBEq,reduceCtorEq,Nat.reduceEqDiff,f6',f9,g0,g1,g2,g8,hia1,hcc1,hia,hc1,hl1,A1a,Nat.lt_irrefl,decide_false,A9a hil (Nat.le_trans (Nat.le_trans hout' hn) (by decide))]
    refine k (n+1 - (i+1)) _ _ (by omega) ⟨i+1,by omega,by simp only [↓Sh.dn,sx,Nat.reduceBEq,reduceCtorEq,Nat.reduceEqDiff],by simp only [↓Sh.dn,sx,Nat.reduceBEq,reduceCtorEq,Nat.reduceEqDiff,g0],by simp only [↓Sh.dn,sx,Nat.reduceBEq,reduceCtorEq,Nat.reduceEqDiff,g1],by simp only [↓Sh.dn,sx,Nat.reduceBEq,reduceCtorEq,Nat.reduceEqDiff,g2],hk'',z',by simp only [↓Sh.dn,sx,Nat.reduceBEq,reduceCtorEq,Nat.reduceEqDiff,f6'],seen',out',ob',hM',hl',hil,fun t ht=>hsub t (hLout t ht),hclo',fun x hx t hg=>?_⟩
    rw [List.take_add_one,hget'] at hx
    rcases List.mem_append.1 hx with hx | hx
    ·rw [htk] at hx
     exact hsub t (hcl x hx t hg)
    ·simp only [Option.toList,List.mem_singleton] at hx
     subst hx
     obtain ⟨y,⟨r',hr2,hg2⟩,hye⟩:=hg
     rw [hr] at hr2
     rw [← Option.some.inj hr2] at hg2
     exact hed _ (by rw [List.take_length]; exact hg2) hye
  ·simp only [↓Sh.dn,sx,Nat.reduceBEq,reduceCtorEq,Nat.reduceEqDiff,f6,f8,A1a,hi,decide_false,hlen,hres]
   refine ⟨hk',seen',hM.bf,hM.ms.len,fun t=>?_⟩
   rw [hM.ms.iff]
   exact Clo.iff hLout hclo (fun s hs=>hcl s (by rw [List.take_of_length_le (by omega)]; exact hs)) t
end Go.Proofs.YtcgbiedfbacgpaaGreat
/- The reference's Alive, kept. -/
namespace Go.Proofs.YtcgbiedfbacgpaaGreat
open Go Go.Proofs Go.Proofs.Sh
theorem refAlive {H:AH} {v ev bv:Value} {vals:List Value} {n:Nat} {E:List (List (ByteArray×Nat))} {ends:List Bool} (h:RG H v n E ends ev bv vals) (hw:Wf H):
  Sh.Call Tryz.prog (knows 7) 31 [v] H (fun r H'=>Kept H H'∧∃ B:List Bool,Sl H' r 1 (B.map A5p)∧B.length=n∧∀ t:Nat,B[t]?=some true↔Clo (fun s t=>∃ x,A1e E x t s) (fun s=>ends[s]?=some true) t):=by
 refine A3a rfl Tryz.func31 rfl (Nat.le_of_ble_eq_true rfl) ?_
 have hres:Tryz.f31.results.toList=[.tmp 2]:=rfl
 have hrb:=RBox.of h hw
 have hk1:Kept H (H.new 3 [.int .i64 0,ev,bv]).2:=Kept.new hw 3 _
 have hE:=h.ed.sl.isCell
 have hB:=h.en.isCell
 rw [h.eq]
 simp only [↓Sh.dn,sx,Nat.reduceBEq,reduceCtorEq,Nat.reduceEqDiff,B0u hE hB]
 generalize (H.new 3 [.int .i64 0,ev,bv]).2=H1 at hrb hk1 ⊢
 generalize H.next=gb at hrb ⊢
 have hs1:=hrb.rg.en
 obtain ⟨v',H2,b',e1,e2,e3,e4⟩:=(Buf.void (H:=H1) (s:=1) none).append hk1.wf (xs:=ends.map A5p) (by intro x hx; obtain ⟨b,_,rfl⟩:=List.mem_map.1 hx; rfl)
 have happ:=app_58 (base:=none) (len:=0) (cap:=0) (hs1.srcKind Tryz.underlying58) hs1.newCells (by rw [List.length_map,h.ln]; have:=h.n2; omega)
 rw [e1] at happ
 have hk2:Kept H1 H2:=e3.kept fun g hg h=>by cases h
 rw [List.nil_append] at e2
 have hos:∀ y,b'=some y→H1.next≤y∧y < H2.next:=by
  intro y hy
  rcases e4 with h4 | ⟨h4,h5⟩
  ·rw [h4] at hy; cases hy
  ·rw [h4] at hy; rw [← Option.some.inj hy]; exact ⟨Nat.le_refl _,h5⟩
 have hrb2:=hrb.kept hk1.wf hk2
 obtain ⟨rv,H3,hd3,hk3,R,ot,vs,obs,hJ,hin,hRl,hRr,hRg⟩:=A61 hrb2.rg hk2.wf
 have hk13:=hk2.trans hk3
 have hb3:=e2.kept hk2.wf hk3
 obtain ⟨rr,H4,hd4,hc4,seen,hb4,hsl,hiff⟩:=B6d (em:=false) hk13 hJ hRl hRr hb3 (fun y hy=>(hos y hy).1) (fun y hy hj=>by have:=hin y hj; have:=(hos y hy).2; omega) h.ln h.n2
 simp only [↓Sh.dn,sx,Nat.reduceBEq,reduceCtorEq,Nat.reduceEqDiff,hrb.c2,happ]
 simp only [↓Sh.dn,sx,Nat.reduceBEq,reduceCtorEq,Nat.reduceEqDiff,hrb2.ca,Option.map_some]
 refine ⟨_,_,hd3,?_⟩
 refine ⟨_,_,hd4,?_⟩
 simp only [↓Sh.dn,sx,Nat.reduceBEq,reduceCtorEq,Nat.reduceEqDiff,hres]
 refine ⟨hk1.trans (hk13.then (Nat.le_refl _) (hc4.weak fun y hy=>(hos y hy).1)),seen,hb4.toSl,hsl,fun t=>?_⟩
 rw [hiff]
 have:A0t R false=fun s t=>∃ x,A1e E x t s:=by
  funext s t
  apply propext
  unfold A0t
  simp [hRg]
 rw [this]
theorem refKeptB {H:AH} {u bv:Value} {n:Nat} {B:List Bool} {L:List Nat} (hL:Sl H u 1 (L.map natC)) (hB:Sl H bv 1 (B.map A5p)) (hBl:B.length=n) (hlt:∀ t∈L,t < n) (hll:L.length≤1048576) (hw:Wf H):
  Sh.Call Tryz.prog (knows 7) 94 [u,bv] H (fun r H'=>Kept H H'∧∃ b,Buf H' 1 r ((L.filter fun t=>decide (B[t]?=some true)).map natC) b∧∀ y,b=some y→H.next≤y):=by
 refine A3a rfl Tryz.func94 rfl (Nat.le_of_ble_eq_true rfl) ?_
 have hres:Tryz.f94.results.toList=[.tmp 4]:=rfl
 simp only [↓Sh.dn,sx,Nat.reduceBEq,reduceCtorEq,Nat.reduceEqDiff]
 have hlen:=fun H'=>hL.len Tryz.underlying69 H'
 simp only [List.length_map] at hlen
 refine A9e L.length 6 (List.range' 5 22) (fun i F H'=>Kept H H'∧∃ z,F.get 5=some z∧∃ ob,LB H' H.next none z ((L.take i).filter fun t=>decide (B[t]?=some true)) ob) (by simp only [↓Sh.dn,sx,Nat.reduceBEq,reduceCtorEq,Nat.reduceEqDiff]) ⟨Kept.refl hw,_,by simp only [↓Sh.dn,sx,Nat.reduceBEq,reduceCtorEq,Nat.reduceEqDiff],none,⟨.void none,fun y hy=>by cases hy⟩⟩ ?_ ?_
 ·rintro i F H' hi hF f6 ⟨hk,z,f5,ob,hl⟩ k
  have f0:=hF 0 rfl
  have f1:=hF 1 rfl
  simp only [↓Sh.dn,sx,Nat.reduceBEq,reduceCtorEq,Nat.reduceEqDiff] at f0 f1
  have hL':=hL.grow (hk.grow hw)
  obtain ⟨p,hia,hc⟩:=B5j Tryz.underlying69 A2f hL' hi
  have htn:L[i] < n:=hlt _ (List.getElem_mem hi)
  have htake:L.take (i+1)=L.take i++[L[i]]:=by rw [List.take_add_one,List.getElem?_eq_getElem hi]; rfl
  generalize L[i]=t at hc htn htake
  obtain ⟨b,hb⟩:∃ b,B[t]?=some b:=⟨B[t]'(by rw [hBl]; exact htn),List.getElem?_eq_getElem _⟩
  obtain ⟨p2,hia2,hc2⟩:=Sl.elem (s:=1) Tryz.underlying58 A1u (hB.grow (hk.grow hw)) (i:=t) (u:=.bool b) (by rw [List.getElem?_map,hb]; rfl)
  have hfl:(L.take (i+1)).filter (fun t=>decide (B[t]?=some true))=(L.take i).filter (fun t=>decide (B[t]?=some true))++(if b=true then [t] else []):=by
   rw [htake,List.filter_append]
   congr 1
   cases b <;> simp [hb]
  have hle:((L.take i).filter fun t=>decide (B[t]?=some true)).length≤1073741823:=Nat.le_trans (List.length_filter_le _ _) (by rw [List.length_take]; omega)
  simp only [↓Sh.dn,sx,Nat.reduceBEq,reduceCtorEq,Nat.reduceEqDiff,f0,f1,f6,A1a,hi,decide_true,hlen,hia,hc,hia2,hc2]
  cases b with
  | true=>
   obtain ⟨a,cap,w',H4,ob2,rfl,e1,e2,e3,e4,e5⟩:=B74 t hk (fun y hy=>by cases hy) hl hle
   simp only [↓Sh.dn,sx,Nat.reduceBEq,reduceCtorEq,Nat.reduceEqDiff,f0,f5,f6,hia,hc,e1,e2,wrap_succ hi hll]
   exact k _ _ (by repeat (first | refine Same.put ?_ rfl | exact Same.rfl' _)) (by simp only [↓Sh.dn,sx,Nat.reduceBEq,reduceCtorEq,Nat.reduceEqDiff]) ⟨e3,w',by simp only [↓Sh.dn,sx,Nat.reduceBEq,reduceCtorEq,Nat.reduceEqDiff],ob2,by rw [hfl]; exact e4⟩
  | false=>
   simp only [↓Sh.dn,sx,Nat.reduceBEq,reduceCtorEq,Nat.reduceEqDiff,f6,wrap_succ hi hll]
   exact k _ _ (by repeat (first | refine Same.put ?_ rfl | exact Same.rfl' _)) (by simp only [↓Sh.dn,sx,Nat.reduceBEq,reduceCtorEq,Nat.reduceEqDiff]) ⟨hk,z,by simp only [↓Sh.dn,sx,Nat.reduceBEq,reduceCtorEq,Nat.reduceEqDiff,f5],ob,by rw [hfl]; simpa using hl⟩
 ·rintro F H' hF f6 ⟨hk,z,f5,ob,hl⟩
  have f0:=hF 0 rfl
  simp only [↓Sh.dn,sx,Nat.reduceBEq,reduceCtorEq,Nat.reduceEqDiff] at f0
  rw [List.take_length] at hl
  simp only [↓Sh.dn,sx,Nat.reduceBEq,reduceCtorEq,Nat.reduceEqDiff,f0,f5,f6,A1a,Nat.lt_irrefl,decide_false,hlen,hres]
  exact ⟨hk,ob,hl.bf,fun y hy=>(hl.fr y hy).1⟩
end Go.Proofs.YtcgbiedfbacgpaaGreat
/- syms.isLong and syms.isSymbol. -/
namespace Go.Proofs.YtcgbiedfbacgpaaGreat
open Go Go.Proofs Go.Proofs.Sh
theorem B6n {H:AH} {x:ByteArray}:Sh.Call Tryz.prog (knows 7) 77 [.string x] H (fun r H'=>H'=H∧r=.bool (decide (16 < x.size))):=by
 refine A3a rfl Tryz.func77 rfl (Nat.le_of_ble_eq_true rfl) ?_
 have hres:Tryz.f77.results.toList=[.tmp 2]:=rfl
 have e:decide ((16:Int) < (x.size:Int))=decide (16 < x.size):=decide_eq_decide.2 (by omega)
 simp only [↓Sh.dn,sx,Nat.reduceBEq,reduceCtorEq,Nat.reduceEqDiff,hres,e]
def chOk (s:ByteArray):Bool:=!s.data.toList.any badByte && decide (1≤s.size)
theorem B3m (s:ByteArray):A8t s=(chOk s && decide (s.size≤16)):=rfl
theorem C2i {x:ByteArray}:decide (x=⟨#[]⟩)=!decide (1≤x.size):=by
 by_cases h:x=⟨#[]⟩
 ·subst h; rfl
 ·have : 1 ≤ x.size := by
    refine Nat.one_le_iff_ne_zero.2 fun h0 => h (ByteArray.ext ?_)
    exact Array.eq_empty_of_size_eq_zero h0
  simp [h, this]
theorem A19 {H:AH} {x:ByteArray} (hl:x.size≤1048576):
  Sh.Call Tryz.prog (knows 7) 78 [.string x] H (fun r H'=>H'=H∧r=.bool (chOk x)):=by
 refine A3a rfl Tryz.func78 rfl (Nat.le_of_ble_eq_true rfl) ?_
 have hres:Tryz.f78.results.toList=[.tmp 2]:=rfl
 have hsz:x.data.toList.length=x.size:=by rw [Array.length_toList]; rfl
 simp only [↓Sh.dn,sx,Nat.reduceBEq,reduceCtorEq,Nat.reduceEqDiff]
 refine A9e x.size 6 (List.range' 6 26++[2,3]) (fun i F H'=>H'=H∧(x.data.toList.take i).any badByte=false) (by simp only [↓Sh.dn,sx,Nat.reduceBEq,reduceCtorEq,Nat.reduceEqDiff]) ⟨rfl,rfl⟩ ?_ ?_
 ·rintro i F H' hlt hF f6 ⟨rfl,hall⟩ k
  have f0:=hF 0 rfl
  have f5:=hF 5 rfl
  simp only [↓Sh.dn,sx,Nat.reduceBEq,reduceCtorEq,Nat.reduceEqDiff] at f0 f5
  obtain ⟨u,hu⟩:∃ u,x.data.toList[i]?=some u:=⟨x.data.toList[i]'(by omega),List.getElem?_eq_getElem (by omega)⟩
  have hix:=B5c (P:=Tryz.prog) (j:=.i64) Tryz.underlying9 hu
  have e33:decide ((u.toNat:Int) < 33)=decide (u.toNat < 33):=decide_eq_decide.2 (by omega)
  have e126:decide (126 < (u.toNat:Int))=decide (126 < u.toNat):=decide_eq_decide.2 (by omega)
  have e60:decide ((u.toNat:Int)=60)=decide (u.toNat=60):=decide_eq_decide.2 (by omega)
  have e62:decide ((u.toNat:Int)=62)=decide (u.toNat=62):=decide_eq_decide.2 (by omega)
  have hbad:badByte u=true→chOk x=false:=by
   intro h
   have:x.data.toList.any badByte=true:=List.any_eq_true.2 ⟨_,List.mem_of_getElem? hu,h⟩
   simp [chOk,this]
  simp only [↓Sh.dn,sx,Nat.reduceBEq,reduceCtorEq,Nat.reduceEqDiff,f0,f5,f6,hix,A1a,hlt,e33,decide_true]
  by_cases h1:u.toNat < 33
  ·simp only [↓Sh.dn,sx,Nat.reduceBEq,reduceCtorEq,Nat.reduceEqDiff,h1,decide_true,hres,hbad (by simp [badByte,h1])]
  simp only [↓Sh.dn,sx,Nat.reduceBEq,reduceCtorEq,Nat.reduceEqDiff,f0,hix,h1,e126,decide_false]
  by_cases h2:126 < u.toNat
  ·simp only [↓Sh.dn,sx,Nat.reduceBEq,reduceCtorEq,Nat.reduceEqDiff,h2,decide_true,hres,hbad (by simp [badByte,h2])]
  simp only [↓Sh.dn,sx,Nat.reduceBEq,reduceCtorEq,Nat.reduceEqDiff,f0,hix,h2,e60,decide_false]
  by_cases h3:u.toNat=60
  ·simp only [↓Sh.dn,sx,Nat.reduceBEq,reduceCtorEq,Nat.reduceEqDiff,h3,decide_true,hres,hbad (by simp [badByte,h3])]
  simp only [↓Sh.dn,sx,Nat.reduceBEq,reduceCtorEq,Nat.reduceEqDiff,f0,hix,h3,e62,decide_false]
  by_cases h4:u.toNat=62
  ·simp only [↓Sh.dn,sx,Nat.reduceBEq,reduceCtorEq,Nat.reduceEqDiff,h4,decide_true,hres,hbad (by simp [badByte,h4])]
  simp only [↓Sh.dn,sx,Nat.reduceBEq,reduceCtorEq,Nat.reduceEqDiff,f6,h4,decide_false,wrap_succ hlt hl]
  refine k _ _ (by repeat (first | refine Same.put ?_ rfl | exact Same.rfl' _)) (by simp only [↓Sh.dn,sx,Nat.reduceBEq,reduceCtorEq,Nat.reduceEqDiff]) ⟨rfl,?_⟩
  rw [List.take_add_one,hu]
  simp only [Option.toList,List.any_append,hall,Bool.false_or,List.any_cons,List.any_nil,Bool.or_false,badByte,h1,h2,h3,h4,decide_false]
 ·rintro F H' hF f6 ⟨rfl,hall⟩
  have f0:=hF 0 rfl
  have f5:=hF 5 rfl
  simp only [↓Sh.dn,sx,Nat.reduceBEq,reduceCtorEq,Nat.reduceEqDiff] at f0 f5
  rw [← hsz,List.take_length] at hall
  simp only [↓Sh.dn,sx,Nat.reduceBEq,reduceCtorEq,Nat.reduceEqDiff,f0,f5,f6,A1a,Nat.lt_irrefl,decide_false,hres,chOk,hall,C2i]
end Go.Proofs.YtcgbiedfbacgpaaGreat
/- slices.IndexFunc and ContainsFunc: whether some element is so. -/
namespace Go.Proofs.YtcgbiedfbacgpaaGreat
open Go Go.Proofs Go.Proofs.Sh
theorem B0z {H:AH} {v:Value} {l:List ByteArray} {fid:Nat} {caps:List Value} (p:ByteArray→Bool) (hs:Sl H v 1 (l.map A5a)) (hl:l.length≤1048576) (hw:Wf H)
  (hp:∀ H',Kept H H'→∀ x∈l,Sh.Call Tryz.prog (knows 7) fid ((fun s=>Value.string s) x :: caps) H' (fun r H''=>Kept H' H''∧r=.bool (p x))):
  Sh.Call Tryz.prog (knows 7) 102 [v,.func (.func fid) #[] caps.toArray] H (fun r H'=>Kept H H'∧∃ k:Int,r=.int .i64 k∧decide (0≤k)=l.any p):=by
 refine A3a rfl Tryz.func102 rfl (Nat.le_of_ble_eq_true rfl) ?_
 have hres:Tryz.f102.results.toList=[.tmp 4]:=rfl
 have hlen:=hs.len Tryz.underlying22 H
 simp only [↓Sh.dn,sx,Nat.reduceBEq,reduceCtorEq,Nat.reduceEqDiff,hlen,List.length_map]
 refine A9e l.length 8 [5,8,9,10,11,12,13,14,15,16,18] (fun i F H'=>Kept H H'∧(l.take i).any p=false) (by simp only [↓Sh.dn,sx,Nat.reduceBEq,reduceCtorEq,Nat.reduceEqDiff]) ⟨Kept.refl hw,rfl⟩ ?_ ?_
 ·rintro i F H' hlt hF f8 ⟨hk,hall⟩ k
  have hs1:=hs.grow (hk.grow hw)
  obtain ⟨g,o,kk,hia,hc,hcc⟩:=hs1.at Tryz.underlying22 A6h (i:=i) (x:=A5a l[i]) (by simp [hlt]) .i64
  have hld:=hcc 0 _ rfl; simp only [Nat.add_zero] at hld
  have f0:=hF 0 rfl
  have f1:=hF 1 rfl
  have f7:=hF 7 rfl
  simp only [↓Sh.dn,sx,Nat.reduceBEq,reduceCtorEq,Nat.reduceEqDiff] at f0 f1 f7
  obtain ⟨r,H2,hd,hk2,rfl⟩:=hp H' hk l[i] (List.getElem_mem hlt)
  simp only [↓Sh.dn,sx,Nat.reduceBEq,reduceCtorEq,Nat.reduceEqDiff,f0,f1,f7,f8,A1a,hlt,decide_true,hia,hld,Option.map_some,forall_const,reduceCtorEq,false_implies,and_true,true_and]
  refine ⟨_,_,hd,?_⟩
  cases hpv:p l[i] with
  | true=>
   simp only [↓Sh.dn,sx,Nat.reduceBEq,reduceCtorEq,Nat.reduceEqDiff,hres,forall_const,reduceCtorEq,false_implies,and_true,true_and]
   refine ⟨hk.trans hk2,_,rfl,?_⟩
   rw [List.any_eq_true.2 ⟨_,List.getElem_mem hlt,hpv⟩]
   simp
  | false=>
   simp only [↓Sh.dn,sx,Nat.reduceBEq,reduceCtorEq,Nat.reduceEqDiff,hres,f8,wrap_succ hlt hl,forall_const,reduceCtorEq,false_implies,and_true,true_and]
   refine k _ _ (by repeat (first | refine Same.put ?_ rfl | exact Same.rfl' _)) (by simp only [↓Sh.dn,sx,Nat.reduceBEq,reduceCtorEq,Nat.reduceEqDiff]) ⟨hk.trans hk2,?_⟩
   rw [List.take_add_one,List.getElem?_eq_getElem hlt]
   simp only [Option.toList,List.any_append,hall,List.any_cons,List.any_nil,hpv,Bool.or_false]
 ·rintro F H' hF f8 ⟨hk,hall⟩
  have f7:=hF 7 rfl
  simp only [↓Sh.dn,sx,Nat.reduceBEq,reduceCtorEq,Nat.reduceEqDiff] at f7
  rw [List.take_length] at hall
  simp only [↓Sh.dn,sx,Nat.reduceBEq,reduceCtorEq,Nat.reduceEqDiff,f7,f8,A1a,Nat.lt_irrefl,decide_false,hres,forall_const,reduceCtorEq,false_implies,and_true,true_and]
  exact ⟨hk,_,rfl,by rw [hall]; rfl⟩
theorem A6t {H:AH} {v:Value} {l:List ByteArray} {fid:Nat} {caps:List Value} (p:ByteArray→Bool) (hs:Sl H v 1 (l.map A5a)) (hl:l.length≤1048576) (hw:Wf H)
  (hp:∀ H',Kept H H'→∀ x∈l,Sh.Call Tryz.prog (knows 7) fid ((fun s=>Value.string s) x :: caps) H' (fun r H''=>Kept H' H''∧r=.bool (p x))):
  Sh.Call Tryz.prog (knows 7) 76 [v,.func (.func fid) #[] caps.toArray] H (fun r H'=>Kept H H'∧r=.bool (l.any p)):=by
 refine A3a rfl Tryz.func76 rfl (Nat.le_of_ble_eq_true rfl) ?_
 have hres:Tryz.f76.results.toList=[.tmp 4]:=rfl
 obtain ⟨r,H2,hd,hk,k,rfl,hk0⟩:=B0z p hs hl hw hp
 simp only [↓Sh.dn,sx,Nat.reduceBEq,reduceCtorEq,Nat.reduceEqDiff]
 refine ⟨_,_,hd,?_⟩
 simp only [↓Sh.dn,sx,Nat.reduceBEq,reduceCtorEq,Nat.reduceEqDiff,hres,hk0,and_true]
 exact hk
end Go.Proofs.YtcgbiedfbacgpaaGreat
/- What is wrong with an alphabet, by the program. -/
namespace Go.Proofs.YtcgbiedfbacgpaaGreat
open Go Go.Proofs Go.Proofs.Sh
theorem B1z {H:AH} {v:Value} {l:List ByteArray} (hs:Sl H v 1 (l.map A5a)) (hl:l.length≤1048576) (hlx:∀ x∈l,x.size≤1048576) (hw:Wf H):
  Sh.Call Tryz.prog (knows 7) 37 [v] H (fun r H'=>Kept H H'∧r=.int .i64 (A1h l)):=by
 refine A3a rfl Tryz.func37 rfl (Nat.le_of_ble_eq_true rfl) ?_
 have hres:Tryz.f37.results.toList=[.tmp 2]:=rfl
 have hlen:=hs.len Tryz.underlying22 H
 have e40:decide ((40:Int) < ((l.length:Nat):Int))=decide (40 < l.length):=decide_eq_decide.2 (by omega)
 simp only [↓Sh.dn,sx,Nat.reduceBEq,reduceCtorEq,Nat.reduceEqDiff,hlen,List.length_map,e40]
 by_cases h40:40 < l.length
 ·simp only [↓Sh.dn,sx,Nat.reduceBEq,reduceCtorEq,Nat.reduceEqDiff,h40,decide_true,hres,A1h,Bool.true_or,Kept.refl hw]
 simp only [↓Sh.dn,sx,Nat.reduceBEq,reduceCtorEq,Nat.reduceEqDiff,h40,decide_false]
 obtain ⟨r1,H1,hd1,hk1,rfl⟩:=A6t (caps:=[]) (fid:=77) (fun s=>decide (16 < s.size)) hs hl hw (fun H' hk x hx=>(B6n (H:=H') (x:=x)).mono fun r H'' h=>by rcases h with ⟨rfl,h⟩; exact ⟨Kept.refl hk.wf,h⟩)
 refine ⟨_,_,hd1,?_⟩
 cases hL:(l.any fun s=>decide (16 < s.size)) with
 | true=>simp only [↓Sh.dn,sx,Nat.reduceBEq,reduceCtorEq,Nat.reduceEqDiff,hres,hL,A1h,A0k,h40,decide_false,Bool.false_or,hk1]
 | false=>
  have hs1:=hs.grow (hk1.grow hw)
  have hlen1:=hs1.len Tryz.underlying22 H1
  simp only [↓Sh.dn,sx,Nat.reduceBEq,reduceCtorEq,Nat.reduceEqDiff,hlen1,List.length_map]
  have h16:∀ x∈l,decide (x.size≤16)=true:=by
   intro x hx
   have:=List.any_eq_false.1 hL x hx
   simp only [decide_eq_true_eq,Nat.not_lt] at this
   simpa using this
  have e1:(l.all A8t && ascB l)=false→A1h l=1:=by intro h; simp [A1h,A0k,h40,hL]; simpa using h
  have e0:(l.all A8t && ascB l)=true→A1h l=0:=by intro h; simp [A1h,A0k,h40,hL]; simpa using h
  have hsy:∀ x∈l,A8t x=chOk x:=by intro x hx; rw [B3m,h16 x hx,Bool.and_true]
  refine A9e l.length 14 (List.range' 14 22++[2,3,4]) (fun i F H'=>H'=H1∧(∀ (j:Nat) x,j < i→l[j]?=some x→chOk x=true)∧(∀ (j:Nat) x y,j+1 < i→l[j]?=some x→l[j+1]?=some y→A0b x y=true)) (by simp only [↓Sh.dn,sx,Nat.reduceBEq,reduceCtorEq,Nat.reduceEqDiff]) ⟨rfl,fun j x h=>by omega,fun j x y h=>by omega⟩ ?_ ?_
  ·rintro i F H' hlt hF f14 ⟨rfl,hall,hasc⟩ k
   have f0:=hF 0 rfl
   have f12:=hF 12 rfl
   have f13:=hF 13 rfl
   simp only [↓Sh.dn,sx,Nat.reduceBEq,reduceCtorEq,Nat.reduceEqDiff] at f0 f12 f13
   obtain ⟨g,o,kk,hia,hc,hcc⟩:=hs1.at Tryz.underlying22 A6h (i:=i) (x:=A5a l[i]) (by simp [hlt]) .i64
   have hy:=hcc 0 _ rfl
   simp only [Nat.add_zero] at hy
   have hget:l[i]?=some l[i]:=List.getElem?_eq_getElem hlt
   obtain ⟨r,H2,hd2,rfl,rfl⟩:=A19 (H:=H') (x:=l[i]) (hlx _ (List.getElem_mem hlt))
   simp only [↓Sh.dn,sx,Nat.reduceBEq,reduceCtorEq,Nat.reduceEqDiff,f0,f12,f13,f14,A1a,hlt,decide_true,hia,hy]
   refine ⟨_,_,hd2,?_⟩
   cases hch:chOk l[i] with
   | false=>
    have hbad:A1h l=1:=e1 (by
     rw [Bool.and_eq_false_iff]; left
     exact List.all_eq_false.2 ⟨_,List.getElem_mem hlt,by rw [hsy _ (List.getElem_mem hlt),hch]; simp⟩)
    simp only [↓Sh.dn,sx,Nat.reduceBEq,reduceCtorEq,Nat.reduceEqDiff,hres,hbad,hk1]
   | true=>
    have hall':∀ (j:Nat) x,j < i+1→l[j]?=some x→chOk x=true:=by
     intro j x hj hx
     by_cases he:j=i
     ·subst he; rw [hget] at hx; rw [← Option.some.inj hx]; exact hch
     ·exact hall j x (by omega) hx
    by_cases hi0:0 < i
    ·have hlt1:i - 1 < l.length:=by omega
     obtain ⟨g',o',kk',hia',hc',hcc'⟩:=hs1.at Tryz.underlying22 A6h (i:=i - 1) (x:=A5a l[i - 1]) (by simp [hlt1]) .i64
     have hy':=hcc' 0 _ rfl
     simp only [Nat.add_zero] at hy'
     have hw1:IntKind.wrap .i64 ((i:Int) - 1)=((i - 1:Nat):Int):=by rw [wrap64 (by omega) (by omega)]; omega
     have ei:decide ((0:Int) < (i:Int))=true:=by simpa using hi0
     have hget':l[i - 1]?=some l[i - 1]:=List.getElem?_eq_getElem hlt1
     simp only [↓Sh.dn,sx,Nat.reduceBEq,reduceCtorEq,Nat.reduceEqDiff,f0,ei,hw1,hia',hy']
     cases hq:A0b l[i - 1] l[i] with
     | false=>
      have hbad:A1h l=1:=e1 (by
       rw [Bool.and_eq_false_iff]; right
       cases hb:ascB l with
       | false=>rfl
       | true=>
        have:=A70.1 hb (i - 1) _ _ hget' (by rw [show i - 1+1=i by omega]; exact hget)
        rw [this] at hq; cases hq)
      simp only [↓Sh.dn,sx,Nat.reduceBEq,reduceCtorEq,Nat.reduceEqDiff,hres,hbad,hk1]
     | true=>
      simp only [↓Sh.dn,sx,Nat.reduceBEq,reduceCtorEq,Nat.reduceEqDiff,f14,wrap_succ hlt hl]
      refine k _ _ (by repeat (first | refine Same.put ?_ rfl | exact Same.rfl' _)) (by simp only [↓Sh.dn,sx,Nat.reduceBEq,reduceCtorEq,Nat.reduceEqDiff]) ⟨rfl,hall',fun j x y hj hx hy=>?_⟩
      by_cases he:j+1=i
      ·have:j=i - 1:=by omega
       subst this
       rw [he,hget] at hy
       rw [hget'] at hx
       rw [← Option.some.inj hx,← Option.some.inj hy]; exact hq
      ·exact hasc j x y (by omega) hx hy
    ·have ei:decide ((0:Int) < (i:Int))=false:=by simpa using hi0
     simp only [↓Sh.dn,sx,Nat.reduceBEq,reduceCtorEq,Nat.reduceEqDiff,f14,ei,wrap_succ hlt hl]
     exact k _ _ (by repeat (first | refine Same.put ?_ rfl | exact Same.rfl' _)) (by simp only [↓Sh.dn,sx,Nat.reduceBEq,reduceCtorEq,Nat.reduceEqDiff]) ⟨rfl,hall',fun j x y hj hx hy=>by omega⟩
  ·rintro F H' hF f14 ⟨rfl,hall,hasc⟩
   have f13:=hF 13 rfl
   simp only [↓Sh.dn,sx,Nat.reduceBEq,reduceCtorEq,Nat.reduceEqDiff] at f13
   have hgood:A1h l=0:=e0 (by
    rw [Bool.and_eq_true]
    refine ⟨List.all_eq_true.2 fun x hx=>?_,A70.2 fun j x y hx hy=>hasc j x y (List.getElem?_eq_some_iff.1 hy).1 hx hy⟩
    obtain ⟨j,hj⟩:=List.mem_iff_getElem?.1 hx
    rw [hsy x hx]
    exact hall j x (List.getElem?_eq_some_iff.1 hj).1 hj)
   simp only [↓Sh.dn,sx,Nat.reduceBEq,reduceCtorEq,Nat.reduceEqDiff,f13,f14,A1a,Nat.lt_irrefl,decide_false,hres,hgood,hk1]
end Go.Proofs.YtcgbiedfbacgpaaGreat
/- What is wrong with a word: by the reference, by the program. -/
namespace Go.Proofs.YtcgbiedfbacgpaaGreat
open Go Go.Proofs Go.Proofs.Sh
def A6f (l:List ByteArray):Int:=if (decide (60 < l.length) || A0k l)=true then 3 else if l.all A8t=true then 0 else 1
theorem C2t {H:AH} {v:Value} {l:List ByteArray} (hs:Sl H v 1 (l.map A5a)) (hl:l.length≤1048576) (hlx:∀ x∈l,x.size≤1048576) (hw:Wf H):
  Sh.Call Tryz.prog (knows 7) 46 [v] H (fun r H'=>Kept H H'∧r=.int .i64 (A6f l)):=by
 refine A3a rfl Tryz.func46 rfl (Nat.le_of_ble_eq_true rfl) ?_
 have hres:Tryz.f46.results.toList=[.tmp 2]:=rfl
 have hlen:=hs.len Tryz.underlying22 H
 have e60:decide ((60:Int) < ((l.length:Nat):Int))=decide (60 < l.length):=by by_cases h:60 < l.length <;> simp [h] <;> omega
 simp only [↓Sh.dn,sx,Nat.reduceBEq,reduceCtorEq,Nat.reduceEqDiff,hlen,List.length_map,e60]
 by_cases h60:60 < l.length
 ·simp only [↓Sh.dn,sx,Nat.reduceBEq,reduceCtorEq,Nat.reduceEqDiff,h60,decide_true,hres,A6f,Bool.true_or,Kept.refl hw]
 ·simp only [↓Sh.dn,sx,Nat.reduceBEq,reduceCtorEq,Nat.reduceEqDiff,h60,decide_false]
  obtain ⟨r1,H1,hd1,hk1,rfl⟩:=C5o hs hl hw
  refine ⟨_,_,hd1,?_⟩
  cases hL:(l.any fun s=>decide (16 < s.size)) with
  | true=>simp only [↓Sh.dn,sx,Nat.reduceBEq,reduceCtorEq,Nat.reduceEqDiff,hres,hL,A6f,A0k,h60,decide_false,Bool.false_or,hk1]
  | false=>
   simp only [↓Sh.dn,sx,Nat.reduceBEq,reduceCtorEq,Nat.reduceEqDiff]
   obtain ⟨r2,H2,hd2,rfl,rfl⟩:=B8o (hs.grow (hk1.grow hw)) hl hlx hk1.wf
   refine ⟨_,_,hd2,?_⟩
   cases hA:l.all A8t with
   | false=>simp only [↓Sh.dn,sx,Nat.reduceBEq,reduceCtorEq,Nat.reduceEqDiff,hres,hL,hA,A6f,A0k,h60,decide_false,Bool.false_or,hk1]
   | true=>simp only [↓Sh.dn,sx,Nat.reduceBEq,reduceCtorEq,Nat.reduceEqDiff,hres,hL,hA,A6f,A0k,h60,decide_false,Bool.false_or,hk1]
theorem symsWord {H:AH} {v:Value} {l:List ByteArray} (hs:Sl H v 1 (l.map A5a)) (hl:l.length≤1048576) (hlx:∀ x∈l,x.size≤1048576) (hw:Wf H):
  Sh.Call Tryz.prog (knows 7) 38 [v] H (fun r H'=>Kept H H'∧r=.int .i64 (A6f l)):=by
 refine A3a rfl Tryz.func38 rfl (Nat.le_of_ble_eq_true rfl) ?_
 have hres:Tryz.f38.results.toList=[.tmp 2]:=rfl
 have hlen:=hs.len Tryz.underlying22 H
 have e60:decide ((60:Int) < ((l.length:Nat):Int))=decide (60 < l.length):=by by_cases h:60 < l.length <;> simp [h] <;> omega
 simp only [↓Sh.dn,sx,Nat.reduceBEq,reduceCtorEq,Nat.reduceEqDiff,hlen,List.length_map,e60]
 by_cases h60:60 < l.length
 ·simp only [↓Sh.dn,sx,Nat.reduceBEq,reduceCtorEq,Nat.reduceEqDiff,h60,decide_true,hres,A6f,Bool.true_or,Kept.refl hw]
 simp only [↓Sh.dn,sx,Nat.reduceBEq,reduceCtorEq,Nat.reduceEqDiff,h60,decide_false]
 obtain ⟨r1,H1,hd1,hk1,rfl⟩:=A6t (caps:=[]) (fid:=77) (fun s=>decide (16 < s.size)) hs hl hw (fun H' hk x hx=>(B6n (H:=H') (x:=x)).mono fun r H'' h=>by rcases h with ⟨rfl,h⟩; exact ⟨Kept.refl hk.wf,h⟩)
 refine ⟨_,_,hd1,?_⟩
 cases hL:(l.any fun s=>decide (16 < s.size)) with
 | true=>simp only [↓Sh.dn,sx,Nat.reduceBEq,reduceCtorEq,Nat.reduceEqDiff,hres,hL,A6f,A0k,h60,decide_false,Bool.false_or,hk1]
 | false=>
  have hs1:=hs.grow (hk1.grow hw)
  have h16:∀ x∈l,decide (x.size≤16)=true:=by
   intro x hx
   have:=List.any_eq_false.1 hL x hx
   simp only [decide_eq_true_eq,Nat.not_lt] at this
   simpa using this
  have hsy:∀ x∈l,A8t x=chOk x:=by intro x hx; rw [B3m,h16 x hx,Bool.and_true]
  obtain ⟨r2,H2,hd2,hk2,rfl⟩:=A6t (caps:=[]) (fid:=79) (fun s=>!chOk s) hs1 hl hk1.wf (fun H' hk x hx=>by
   refine A3a rfl Tryz.func79 rfl (Nat.le_of_ble_eq_true rfl) ?_
   have hres:Tryz.f79.results.toList=[.tmp 2]:=rfl
   obtain ⟨r3,H3,hd3,rfl,rfl⟩:=A19 (H:=H') (x:=x) (hlx x hx)
   simp only [↓Sh.dn,sx,Nat.reduceBEq,reduceCtorEq,Nat.reduceEqDiff]
   refine ⟨_,_,hd3,?_⟩
   simp only [↓Sh.dn,sx,Nat.reduceBEq,reduceCtorEq,Nat.reduceEqDiff,hres,Kept.refl hk.wf])
  simp only [↓Sh.dn,sx,Nat.reduceBEq,reduceCtorEq,Nat.reduceEqDiff]
  refine ⟨_,_,hd2,?_⟩
  have hall:(l.any fun s=>!chOk s)=!l.all A8t:=by
   rw [List.all_eq_not_any_not,Bool.not_not]
   apply Bool.eq_iff_iff.2
   simp only [List.any_eq_true]
   exact ⟨fun ⟨x,h1,h2⟩=>⟨x,h1,by rw [hsy x h1]; exact h2⟩,fun ⟨x,h1,h2⟩=>⟨x,h1,by rw [← hsy x h1]; exact h2⟩⟩
  cases hA:l.all A8t with
  | false=>
   rw [hA] at hall
   simp only [↓Sh.dn,sx,Nat.reduceBEq,reduceCtorEq,Nat.reduceEqDiff,hres,hL,hA,hall,Bool.not_false,A6f,A0k,h60,decide_false,Bool.false_or,hk1.trans hk2]
  | true=>
   rw [hA] at hall
   simp only [↓Sh.dn,sx,Nat.reduceBEq,reduceCtorEq,Nat.reduceEqDiff,hres,hL,hA,hall,Bool.not_true,A6f,A0k,h60,decide_false,Bool.false_or,hk1.trans hk2]
end Go.Proofs.YtcgbiedfbacgpaaGreat
/- The reference's Accepts and Begins. -/
namespace Go.Proofs.YtcgbiedfbacgpaaGreat
open Go Go.Proofs Go.Proofs.Sh
theorem C9t {N:NetD} (h:A2t N=0):B3a N:=by
 refine netOk ?_
 unfold A2t at h
 by_cases hE:A5m N=0
 ·exact hE
 ·rw [if_pos hE] at h; exact absurd h hE
theorem A85 {N:NetD} (hok:B3a N):A1e (A3k N)=N.goes:=by
 funext x s t
 apply propext
 unfold A1e A3k NetD.goes
 constructor
 ·rintro ⟨r,h1,h2⟩
  obtain ⟨a,ha,h3,h4⟩:=(A20 h1 _).1 h2
  have:=hok.arc a ha
  injection h4 with h4 h5
  exact ⟨a,ha,h3,h4,by omega⟩
 ·rintro ⟨a,ha,h1,h2,h3⟩
  have:=hok.arc a ha
  have hs:s < N.states.toNat:=by omega
  refine ⟨_,A8o hs,?_⟩
  rw [A20 (A8o hs)]
  exact ⟨a,ha,h1,by rw [h2,h3]; rfl⟩
theorem B7o {N:NetD} (hok:B3a N) (t:Nat):(marksOf EndD.state N.states.toNat N.ends)[t]?=some true↔N.isEnd t:=by
 unfold NetD.isEnd
 constructor
 ·intro h
  have ht:=(List.getElem?_eq_some_iff.1 h).1
  rw [A3j] at ht
  rw [A9s ht] at h
  obtain ⟨e,h1,h2⟩:=List.any_eq_true.1 (Option.some.inj h)
  exact ⟨e,h1,of_decide_eq_true h2⟩
 ·rintro ⟨e,h1,h2⟩
  have:=hok.fin e h1
  rw [A9s (by omega)]
  exact congrArg some (List.any_eq_true.2 ⟨e,h1,decide_eq_true h2⟩)
def A16 (N:NetD) (w:List ByteArray):Prop:=(∀ x∈w,x≠A2b)∧∃ t,N.run w t∧N.isEnd t
def begins (N:NetD) (w:List ByteArray):Prop:=(∀ x∈w,x≠A2b)∧∃ t,N.run w t∧N.alive t
end Go.Proofs.YtcgbiedfbacgpaaGreat
